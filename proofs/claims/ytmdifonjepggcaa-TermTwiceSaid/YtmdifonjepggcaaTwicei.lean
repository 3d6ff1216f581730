import Derived.Test.YtmdifonjepggcaaTwiceh
import Derived.Laws.RangeString
/-! Strings: rows of them, ranges over them, names of one letter. -/
namespace Go.Proofs.Ytmdifonjepggcaa.Hs
open Go
/-- the name of one letter -/
def ltr (i : Nat) : ByteArray := ⟨#[UInt8.ofNat (97 + i)]⟩
def strs (l : List ByteArray) : List (List Value) := l.map fun n => [.string n]
theorem strs_len (l : List ByteArray) : (strs l).length = l.length := by simp [strs]
theorem strs_snoc (l : List ByteArray) (n : ByteArray) : strs (l ++ [n]) = strs l ++ [[.string n]] := by simp [strs]
theorem strs_app (l m : List ByteArray) : strs (l ++ m) = strs l ++ strs m := by simp [strs]
theorem strs_get (l : List ByteArray) (j : Nat) (h : j < l.length) : (strs l)[j]'(by rw [strs_len]; exact h) = [.string l[j]] := by simp [strs]
theorem strs_len1 (l : List ByteArray) : ∀ e ∈ strs l, e.length = 1 := by
  intro e he; obtain ⟨n, _, rfl⟩ := List.mem_map.1 he; rfl
theorem strs_ok (l : List ByteArray) : ∀ e ∈ strs l, okc e := by
  intro e he; obtain ⟨n, _, rfl⟩ := List.mem_map.1 he; exact okc_cons rfl okc_nil
def RS (_ : Heap) (cs : List Value) (n : ByteArray) : Prop := cs = [.string n]
theorem RSs.mono {h h' : Heap} (hh : Hle h h') {v : Value} {l : List ByteArray} (q : Hs.rdS RS 1 h v l) : Hs.rdS RS 1 h' v l := rdS.mono q hh fun _ _ _ e => e
theorem own_strs {T : TypeId} {v : Value} {l : List ByteArray} {k : Chunk} {h : Heap} (o : Own T 1 v (strs l) k) (hn : l.length ≤ 9223372036854775807) (hk : Has k h) : Hs.rdS RS 1 h v l :=
  o.rdS (strs_len l).symm hn hk fun i _ h2 => strs_get l i h2
theorem rdS.none {α : Type} {E : Heap → List Value → α → Prop} {sz : Nat} {h : Heap} {a : Option Addr} {cap : Nat} : Hs.rdS E sz h (.slice a 0 cap) [] := ⟨a, cap, rfl, by simp, .inl rfl⟩
/-- What a row of strings gives to append. -/
theorem strs_src {P : Program} {H : Heap} {v : Value} {l : List ByteArray} (h : Hs.rdS RS 1 H v l) : ∀ w L, Mem w L H → Src P 1 w v l.length (strs l).flatten := by
  obtain ⟨es, e1, e2, e3, e4⟩ := rdS.src (P := P) h
  have : es = strs l := by
    apply List.ext_getElem
    · rw [e1, strs_len]
    · intro i h1 h2
      have := e2 i h1 (by omega)
      rw [strs_get l i (by omega)]; exact this
  subst this
  intro w L m
  exact e4 w L H (Hle.refl _) m
theorem own_src {P : Program} {H : Heap} {T : TypeId} {v : Value} {l : List ByteArray} {k : Chunk} {M : List Chunk} {i : Nat} (o : Own T 1 v (strs l) k) (hi : M[i]? = some k) : ∀ F w, Mem w (M.flatten ++ F) H → Src P 1 w v l.length (strs l).flatten := by
  intro F w m
  rcases o.2 with ⟨e, e2, e3⟩ | ⟨b, cap, sp, e, e2, e3, e4⟩
  · have : l = [] := by have := strs_len l; rw [e2] at this; exact List.eq_nil_of_length_eq_zero this.symm
    subst this
    rw [e]; exact Src.nil
  · subst e
    have hb : w.heap[b]? = some (.cells ⟨(strs l).flatten ++ sp⟩ T (0, 0)) := (At.k (M := M) (H := H) i hi (by rw [e2]; simp)).heap m
    have := Src.row (P := P) (cap := cap) (n := l.length) hb (by have := sub_flat (sp := sp) o.1; rwa [strs_len] at this)
    rw [strs_len]; exact this

/-- the place of a string in a row -/
def fstS (x : ByteArray) : List ByteArray → Nat → Int
  | [], _ => -1
  | y :: l, i => if x = y then (i : Int) else fstS x l (i + 1)
theorem fstS_mem (x : ByteArray) (l : List ByteArray) : ∀ i, decide (0 ≤ fstS x l i) = l.any (fun y => decide (x = y)) := by
  induction l with
  | nil => intro i; simp [fstS]
  | cons y l ih =>
    intro i
    rw [fstS]
    by_cases h : x = y
    · rw [if_pos h, List.any_cons, decide_eq_true h]; simp
    · rw [if_neg h, ih, List.any_cons, decide_eq_false h]; rfl
/-- the place of a bool in a row -/
def fstB (x : Bool) : List Bool → Nat → Int
  | [], _ => -1
  | y :: l, i => if x = y then (i : Int) else fstB x l (i + 1)

def itC (r : Nat) (s : ByteArray) (p : Nat) : Chunk := [(r, .stringIter s p)]
section
variable {c : Cx} {H : Heap} {ρ : Nat → Value} {M : List Chunk} {K : Value → List Chunk → Prop} {d : Option Nat} {ot : TypeId} {pos : String} {af : Array Edge} {g : Option (Nat × Bool)} {x y z : Operand}
theorem Runs_rangeS {T : TypeId} {s : ByteArray} (hT : c.P.underlying T = some .string) (hx : ev c.n ρ x = .string s) (h : ∀ r, K (.pointer (some ⟨r, 0, none⟩)) (itC r s 0 :: M)) : Runs c H ⟨d, .range T x, ot, pos, af, g⟩ ρ M K := fun F w m => by
  refine ⟨.pointer (some ⟨w.heap.size, 0, none⟩), { w with heap := w.heap.push (.stringIter s 0) }, [(w.heap.size, .stringIter s 0)] :: M, .inl ?_, m.push (w' := { w with heap := w.heap.push (.stringIter s 0) }) rfl, h _⟩
  simp [execOp, Instr.range, hx, run_underlying hT, Result.andThen]
theorem Runs_nextA {i r p : Nat} {s : ByteArray} (hx : ev c.n ρ x = .pointer (some ⟨r, 0, none⟩)) (hi : M[i]? = some (itC r s p)) (hp : p < s.size) (ha : (s[p]'hp).toNat < 128)
    (h : K (.tuple ⟨[.bool true, .int .i64 p, .int .i32 ((s[p]'hp).toNat : Int)]⟩) (M.set i (itC r s (p + 1)))) : Runs c H ⟨d, .next x true, ot, pos, af, g⟩ ρ M K := fun F w m => by
  have hb : w.heap[r]? = some (.stringIter s p) := (m.perm ((flatten_at hi).append_right F)).own r _ (List.mem_cons_self ..)
  refine ⟨_, _, _, .inl ?_, m.put (o' := .stringIter s (p + 1)) hi, h⟩
  have hg : (getObj r).run c.P w = .ok (.stringIter s p) w := by simp [getObj, Sem.run, hb]
  have hs : (setObj r (.stringIter s (p + 1))).run c.P w = .ok () { w with heap := w.heap.setIfInBounds r (.stringIter s (p + 1)) } := by simp [setObj, Sem.run, hb]
  simp only [execOp, Instr.next, hx, Sem.run_bind, hg, Result.andThen, hp, if_true, decode_ascii s p hp ha, hs]
  simp [goInt]
theorem Runs_nextE {i r p : Nat} {s : ByteArray} (hx : ev c.n ρ x = .pointer (some ⟨r, 0, none⟩)) (hi : M[i]? = some (itC r s p)) (hp : ¬ p < s.size)
    (h : K (.tuple ⟨[.bool false]⟩) M) : Runs c H ⟨d, .next x true, ot, pos, af, g⟩ ρ M K := fun F w m => by
  have hb : w.heap[r]? = some (.stringIter s p) := (m.perm ((flatten_at hi).append_right F)).own r _ (List.mem_cons_self ..)
  refine ⟨_, _, _, .inl ?_, m, h⟩
  have hg : (getObj r).run c.P w = .ok (.stringIter s p) w := by simp [getObj, Sem.run, hb]
  simp [execOp, Instr.next, hx, hg, Result.andThen, hp]
end
theorem w32 {a : Int} (h : -2147483648 ≤ a ∧ a ≤ 2147483647) : IntKind.i32.wrap a = a := by
  exact IntWalk.i32_in a h
section
variable {P : Program} {e : Operand → Value} {T T' : TypeId} {x : Operand} {k : IntKind} {a : Int} {d : Option Nat} {ot : TypeId} {pos : String} {af : Array Edge} {g : Option (Nat × Bool)}
theorem Pu.convS {s : ByteArray} {t : TypeDesc} (hs : ∀ w, (underlying T).run P w = .ok t w) (hT : ∀ w, (underlying T').run P w = .ok .string w) (hx : e x = .int k a) (hv : Utf8.encode a = s) : Pu P e ⟨d, .convert T T' x, ot, pos, af, g⟩ (.string s) := fun w => by
  subst hv
  simp [execOp, convert, hs, hT, hx, Result.andThen, Conv.intToString]
end
theorem ltr_size (i : Nat) : (ltr i).size = 1 := rfl
theorem ltr_get (i : Nat) (h : i < 26) : ((ltr i)[0]'(by rw [ltr_size]; decide)).toNat = 97 + i := by
  show (UInt8.ofNat (97 + i)).toNat = 97 + i
  simp; omega
theorem ltr_enc : ∀ i : Nat, i < 26 → Utf8.encode ((97 + i : Nat) : Int) = ltr i := by decide
theorem ltr_enc' (i : Nat) (h : i < 26) : Utf8.encode (97 + (i : Int)) = ltr i := by have := ltr_enc i h; simpa using this
section
variable {c : Cx} {H : Heap} {ρ : Nat → Value} {M : List Chunk} {K : Value → List Chunk → Prop} {d : Option Nat} {ot : TypeId} {pos : String} {af : Array Edge} {g : Option (Nat × Bool)} {x : Operand}
theorem Runs_nextL {i r k : Nat} (hx : ev c.n ρ x = .pointer (some ⟨r, 0, none⟩)) (hi : M[i]? = some (itC r (ltr k) 0)) (hk : k < 26)
    (h : K (.tuple ⟨[.bool true, .int .i64 0, .int .i32 (97 + (k : Int))]⟩) (M.set i (itC r (ltr k) 1))) : Runs c H ⟨d, .next x true, ot, pos, af, g⟩ ρ M K := by
  have hg := ltr_get k hk
  refine Runs_nextA hx hi (by rw [ltr_size]; decide) (by omega) ?_
  rw [hg]
  simpa using h
end
def markL (i : Nat) (l : List Bool) : List Bool := if i < l.length then l.set i true else l
/-- What is known of a term with names: the names on the way down, one Kid after the other. -/
def NC : List (List ByteArray) → List Value → Chunk → Prop
  | [], cs, _ => cs.length = 37 ∧ okc cs
  | x :: xs, cs, c => ∃ k n r ns ks cv e k1 k2 k3, cs = pkT k n r ns ks ++ [cv] ∧ cv.oneCell' = true ∧ Own 9 1 ns (strs x) k1 ∧ Own 79 37 ks [e] k2 ∧ NC xs e k3 ∧ c = k1 ++ (k2 ++ k3)
theorem NC.len : ∀ {xs : List (List ByteArray)} {cs : List Value} {c : Chunk}, NC xs cs c → cs.length = 37
  | [], _, _, h => h.1
  | _ :: _, _, _, ⟨_, _, _, _, _, _, _, _, _, _, h, _⟩ => by rw [h]; rfl
theorem NC.ok : ∀ {xs : List (List ByteArray)} {cs : List Value} {c : Chunk}, NC xs cs c → okc cs
  | [], _, _, h => h.2
  | _ :: _, _, _, ⟨_, _, _, _, _, _, _, _, _, _, h, h1, h2, h3, _⟩ => by rw [h]; exact okc_app (pkT_ok h2.one h3.one) (okc_cons h1 okc_nil)
theorem spl_l {a b a' vs : List Value} {off : Nat} (h : spl a off vs = some a') : spl (a ++ b) off vs = some (a' ++ b) := by
  obtain ⟨h1, h2⟩ := spl_some h
  rw [spl_mk (by rw [List.length_append]; omega), h2, List.take_append_of_le_length (by omega), List.drop_append_of_le_length (by omega)]
  simp
theorem markL_len (i : Nat) (l : List Bool) : (markL i l).length = l.length := by unfold markL; split <;> simp
theorem int_r {P : Program} {f : FuncId} {a : Array Value} {M : List Chunk} {H : Heap} {x r : Int} (h : CT P f a M H (fun v N => v = .int .i64 x ∧ N = [])) (hr : x = r) : CT P f a M H (fun v N => v = .int .i64 r ∧ N = []) := hr ▸ h
noncomputable def eqL {α : Type} (l m : List α) : Bool := @decide (l = m) (Classical.propDecidable _)
theorem eqL_true {α : Type} {l m : List α} (h : l = m) : eqL l m = true := by unfold eqL; simp [h]
theorem eqL_false {α : Type} {l m : List α} (h : ¬ l = m) : eqL l m = false := by unfold eqL; simp [h]
end Go.Proofs.Ytmdifonjepggcaa.Hs
/-! The examples of the chapter, in plain Lean. -/
namespace Go.Proofs.Ytmdifonjepggcaa.Hs
open Go Go.Proofs
def eVa (n : Int) : Tm := .mk 1 n zS [] []
def eNu (n : Int) : Tm := .mk 2 n zS [] []
def eLa (t : Tm) : Tm := .mk 3 0 zS [t] []
def eAp (t u : Tm) : Tm := .mk 4 0 zS [t, u] []
def eLam : Tm := eLa (eAp (eVa 0) (eVa 1))
theorem free_lam : freeE eLam = ([0], 0) := by kernel_rfl
theorem five_lam : substP eLam 0 (eNu 5) = (eLa (eAp (eVa 0) (eNu 5)), 0) := by kernel_rfl
theorem three_lam : substP eLam 0 (eVa 3) = (eLa (eAp (eVa 0) (eVa 4)), 0) := by kernel_rfl
theorem up_lam : shiftP eLam 2 0 = (eLa (eAp (eVa 0) (eVa 3)), 0) := by kernel_rfl
theorem down_va : shiftP (eVa 0) (-1) 0 = (zT, 1) := by kernel_rfl
def eLL : Tm := eLa (eLa (eVa 1))
theorem right_ll : rightT [eLL] = 0 := by kernel_rfl
theorem free_ll : freeE eLL = ([], 0) := by kernel_rfl
theorem check_h2 : checkT 0 0 (.mk 12 0 zS [eNu 1, eVa 0] []) = 0 := by kernel_rfl
theorem check_h1 : checkT 0 0 (.mk 12 0 zS [eNu 1] []) = 2 := by kernel_rfl
/-- the cells of the first of two results -/
def tcel : Value → List Value
  | .tuple ⟨[.agg ⟨cs⟩, _]⟩ => cs
  | _ => []
theorem ble_at {P : Program} {f : FuncId} {a : Array Value} {M : List Chunk} {H : Heap} {x : Tm × Int} {d : Tm} {e : Int} (h : CT P f a M H (fun v N => ∃ cs k, v = .tuple ⟨[.agg ⟨cs⟩, .int .i64 x.2]⟩ ∧ N = [k] ∧ OT x.1 cs k)) (hx : x = (d, e)) :
    CT P f a M H (fun v N => ∃ cs k, v = .tuple ⟨[.agg ⟨cs⟩, .int .i64 e]⟩ ∧ N = [k] ∧ OT d cs k) := by subst hx; exact h
theorem bool_r {P : Program} {f : FuncId} {a : Array Value} {M : List Chunk} {H : Heap} {x r : Bool} (h : CT P f a M H (fun v N => v = .bool x ∧ N = [])) (hr : x = r) : CT P f a M H (fun v N => v = .bool r ∧ N = []) := hr ▸ h
section
variable {c : Cx} {H : Heap} {ρ : Nat → Value} {M : List Chunk} {K : Value → List Chunk → Prop} {d : Option Nat} {ot : TypeId} {pos : String} {af : Array Edge} {g : Option (Nat × Bool)} {x y : Operand}
/-- the first nothing of a slice -/
theorem Runs_slice0 {T el : TypeId} {sz n cap : Nat} {a : Option Addr} {k : IntKind} (hT : ∀ w, (underlying T).run c.P w = .ok (.slice el) w) (hsz : ∀ w, (sizeOf el).run c.P w = .ok sz w) (hx : ev c.n ρ x = .slice a n cap) (hy : ev c.n ρ y = .int k 0)
    (h : ∀ a' cap', K (.slice a' 0 cap') M) : Runs c H ⟨d, .slice T x none (some y) none, ot, pos, af, g⟩ ρ M K := fun F w m => by
  refine ⟨_, w, M, .inl ?_, m, h (if cap = 0 then a else a.map (·.add (0 * sz))) (cap - 0)⟩
  simp [execOp, Instr.sliceAt, Instr.slice, Instr.sliceBounds, Instr.sliceBound, asIntOf, hx, hy, hT, hsz, Result.andThen]
end
end Go.Proofs.Ytmdifonjepggcaa.Hs
/-! Layer 4, the plain law, third part: sizes. No program here. -/
namespace Go.Proofs.Ytmdifonjepggcaa.Hs
open Go
theorem size_mv (dy fr : Int) (t : Tm) : ∀ b, sizeT (mvT dy fr b t) = sizeT t := by
  induction t using Tm.ind with
  | h k n r kids cases ih ih' =>
    intro b
    have hK : ∀ (l : List Tm), (∀ t ∈ l, ∀ b, sizeT (mvT dy fr b t) = sizeT t) → ∀ i, sizeTs (mvTs dy fr b k i l) = sizeTs l := by
      intro l
      induction l with
      | nil => intro _ i; rfl
      | cons t l ihl => intro hl i; rw [mvTs, sizeTs, sizeTs, hl t (by simp), ihl (fun x hx => hl x (by simp [hx]))]
    have hC : ∀ (l : List (Pt × Tm)), (∀ t ∈ l, ∀ b, sizeT (mvT dy fr b t.2) = sizeT t.2) → sizeCs (mvCs dy fr b l) = sizeCs l := by
      intro l
      induction l with
      | nil => intro _; rfl
      | cons t l ihl => obtain ⟨p, t⟩ := t; intro hl; rw [mvCs, sizeCs, sizeCs, hl (p, t) (by simp), ihl (fun x hx => hl x (by simp [hx]))]
    rw [mvT, sizeT, sizeT, hK kids ih, hC cases ih']
end Go.Proofs.Ytmdifonjepggcaa.Hs
/-! Layer 4, the plain law of moving: maps composed; what is right stays right. No program here. -/
namespace Go.Proofs.Ytmdifonjepggcaa.Hs
open Go
mutual
def mq (f : Int → Int → Tm) : Int → Tm → Tm
  | b, .mk k n r kids cases => if k = 1 ∧ b ≤ n then f (n - b) b else .mk k n r (mqs f b k 0 kids) (mqc f b cases)
def mqs (f : Int → Int → Tm) : Int → Int → Nat → List Tm → List Tm
  | _, _, _, [] => []
  | b, k, i, t :: l => mq f (b + more k i) t :: mqs f b k (i + 1) l
def mqc (f : Int → Int → Tm) : Int → List (Pt × Tm) → List (Pt × Tm)
  | _, [] => []
  | b, (p, t) :: l => (p, mq f (b + (binds p : Int)) t) :: mqc f b l
end
theorem mqs_len (f : Int → Int → Tm) (b k : Int) (l : List Tm) : ∀ i, (mqs f b k i l).length = l.length := by
  induction l with
  | nil => intro i; simp [mqs]
  | cons x l ih => intro i; simp [mqs, ih]
theorem mqc_len (f : Int → Int → Tm) (b : Int) (l : List (Pt × Tm)) : (mqc f b l).length = l.length := by
  induction l with
  | nil => simp [mqc]
  | cons x l ih => obtain ⟨p, x⟩ := x; simp [mqc, ih]
theorem mapT_mq (f : Int → Int → Tm) (t : Tm) : ∀ b, mapT (σ := Unit) (fun s => s) (fun n b s => (f n b, s)) b t () = (mq f b t, ()) := by
  induction t using Tm.ind with
  | h k n r kids cases ih ih' =>
    intro b
    have hK : ∀ (l : List Tm), (∀ t ∈ l, ∀ b, mapT (σ := Unit) (fun s => s) (fun n b s => (f n b, s)) b t () = (mq f b t, ())) → ∀ i, mapTs (σ := Unit) (fun s => s) (fun n b s => (f n b, s)) b k i l () = (mqs f b k i l, ()) := by
      intro l
      induction l with
      | nil => intro _ i; simp [mapTs, mqs]
      | cons t l ihl => intro hl i; rw [mapTs, mqs, hl t (by simp)]; simp only; rw [ihl (fun x hx => hl x (by simp [hx]))]
    have hC : ∀ (l : List (Pt × Tm)), (∀ t ∈ l, ∀ b, mapT (σ := Unit) (fun s => s) (fun n b s => (f n b, s)) b t.2 () = (mq f b t.2, ())) → mapCs (σ := Unit) (fun s => s) (fun n b s => (f n b, s)) b l () = (mqc f b l, ()) := by
      intro l
      induction l with
      | nil => intro _; simp [mapCs, mqc]
      | cons t l ihl => obtain ⟨p, t⟩ := t; intro hl; rw [mapCs, mqc, hl (p, t) (by simp), mapP_id]; simp only; rw [ihl (fun x hx => hl x (by simp [hx]))]
    rw [mapT, mq]
    split
    · rfl
    · rw [hK kids ih]; simp only; rw [hC cases ih']
theorem mapQ_mq (f : Int → Int → Tm) (b : Int) (t : Tm) : mapQ (fun s => s) f b t = mq f b t := by
  unfold mapQ; rw [mapT_mq f t b]
theorem mq_comp {f g h : Int → Int → Tm} {b0 : Int} (hb0 : 0 ≤ b0) (H : ∀ n c, 0 ≤ n → 0 ≤ c → mq g (b0 + c) (f n c) = h n c) (t : Tm) : ∀ c, 0 ≤ c → mq g (b0 + c) (mq f c t) = mq h c t := by
  induction t using Tm.ind with
  | h k n r kids cases ih ih' =>
    intro c hc
    have hK : ∀ (l : List Tm), (∀ t ∈ l, ∀ c, 0 ≤ c → mq g (b0 + c) (mq f c t) = mq h c t) → ∀ i, mqs g (b0 + c) k i (mqs f c k i l) = mqs h c k i l := by
      intro l
      induction l with
      | nil => intro _ i; simp [mqs]
      | cons t l ihl =>
        intro hl i
        have hm := more_le k i
        have := hl t (by simp) (c + more k i) (by omega)
        rw [mqs, mqs, mqs, ihl (fun x hx => hl x (by simp [hx])), ← this, show b0 + c + more k i = b0 + (c + more k i) from by omega]
    have hC : ∀ (l : List (Pt × Tm)), (∀ t ∈ l, ∀ c, 0 ≤ c → mq g (b0 + c) (mq f c t.2) = mq h c t.2) → mqc g (b0 + c) (mqc f c l) = mqc h c l := by
      intro l
      induction l with
      | nil => intro _; simp [mqc]
      | cons t l ihl =>
        obtain ⟨p, t⟩ := t
        intro hl
        have := hl (p, t) (by simp) (c + (binds p : Int)) (by omega)
        rw [mqc, mqc, mqc, ihl (fun x hx => hl x (by simp [hx])), ← this, show b0 + c + (binds p : Int) = b0 + (c + (binds p : Int)) from by omega]
    rw [mq, mq]
    by_cases hk : k = 1 ∧ c ≤ n
    · rw [if_pos hk, if_pos hk, H _ _ (by omega) hc]
    · rw [if_neg hk, if_neg hk, mq, if_neg (by omega), hK kids ih, hC cases ih']
theorem mq_id (t : Tm) : tidy t → ∀ c, mq (fun n b => .mk 1 (n + b) zS [] []) c t = t := by
  induction t using Tm.ind with
  | h k n r kids cases ih ih' =>
    intro ht c
    rw [tidy] at ht
    obtain ⟨h1, h2, h3⟩ := ht
    have hK : ∀ (l : List Tm), tidys l → (∀ t ∈ l, tidy t → ∀ c, mq (fun n b => .mk 1 (n + b) zS [] []) c t = t) → ∀ i, mqs (fun n b => .mk 1 (n + b) zS [] []) c k i l = l := by
      intro l
      induction l with
      | nil => intro _ _ i; simp [mqs]
      | cons t l ihl => intro ht hl i; rw [tidys] at ht; rw [mqs, hl t (by simp) ht.1, ihl ht.2 (fun x hx => hl x (by simp [hx]))]
    have hC : ∀ (l : List (Pt × Tm)), tidyc l → (∀ t ∈ l, tidy t.2 → ∀ c, mq (fun n b => .mk 1 (n + b) zS [] []) c t.2 = t.2) → mqc (fun n b => .mk 1 (n + b) zS [] []) c l = l := by
      intro l
      induction l with
      | nil => intro _ _; simp [mqc]
      | cons t l ihl => obtain ⟨p, t⟩ := t; intro ht hl; rw [tidyc] at ht; rw [mqc, hl (p, t) (by simp) ht.1, ihl ht.2 (fun x hx => hl x (by simp [hx]))]
    rw [mq]
    by_cases hk : k = 1 ∧ c ≤ n
    · obtain ⟨rfl, rfl, rfl⟩ := h1 hk.1
      rw [if_pos hk, hk.1]; congr 1; omega
    · rw [if_neg hk, hK kids h2 ih, hC cases h3 ih']

/-! the laws of moving -/
theorem mq_var {g : Int → Int → Tm} {n b : Int} {r : Sm} (h : b ≤ n) : mq g b (.mk 1 n r [] []) = g (n - b) b := by rw [mq, if_pos ⟨rfl, h⟩]
theorem shT_mq (dy fr : Int) (t : Tm) : shT dy fr t = mq (shv dy fr) 0 t := mapQ_mq _ _ _
theorem sbT_mq (n : Int) (u t : Tm) : sbT n u t = mq (sbv n u) 0 t := mapQ_mq _ _ _
theorem sh_var {g : Int → Int → Tm} {dy fr n c : Int} (hd : 0 ≤ dy) (hn : 0 ≤ n) (b0 : Int) (hb : b0 ≤ 0 ∨ fr ≤ n ∧ b0 ≤ dy) : mq g (b0 + c) (shv dy fr n c) = g ((if fr ≤ n then n + dy else n) - b0) (b0 + c) := by
  unfold shv
  rw [mq_var (by split <;> omega)]
  congr 1
  omega
theorem shT_back {n k : Int} (hn : 0 ≤ n) {t : Tm} (ht : tidy t) : shT (-n) k (shT n k t) = t := by
  rw [shT_mq, shT_mq]
  have := mq_comp (f := shv n k) (g := shv (-n) k) (h := fun n b => .mk 1 (n + b) zS [] []) (b0 := 0) (Int.le_refl 0) (fun m c hm hc => by
    rw [sh_var hn hm 0 (.inl (Int.le_refl 0))]
    unfold shv
    congr 1
    split <;> split <;> omega) t 0 (Int.le_refl 0)
  rw [Int.add_zero] at this
  rw [this, mq_id t ht]
theorem shT_two {n m k : Int} (hn : 0 ≤ n) (t : Tm) : shT m k (shT n k t) = shT (n + m) k t := by
  rw [shT_mq, shT_mq, shT_mq]
  have := mq_comp (f := shv n k) (g := shv m k) (h := shv (n + m) k) (b0 := 0) (Int.le_refl 0) (fun x c hx hc => by
    rw [sh_var hn hx 0 (.inl (Int.le_refl 0))]
    unfold shv
    congr 1
    split <;> split <;> omega) t 0 (Int.le_refl 0)
  rwa [Int.add_zero] at this
/-- what was moved by one more than the place where it is put -/
theorem sb_shift {w : Tm} {b : Int} (hb : 0 ≤ b) (u : Tm) : mq (sbv 0 w) b (shT b 0 (shT 1 0 u)) = shT b 0 u := by
  have h2 := shT_two (n := 1) (m := b) (k := 0) (by omega) u
  rw [h2, shT_mq, shT_mq]
  have := mq_comp (f := shv (1 + b) 0) (g := sbv 0 w) (h := shv b 0) (b0 := b) hb (fun x c hx hc => by
    rw [sh_var (by omega) hx b (.inr ⟨hx, by omega⟩)]
    unfold sbv shv
    rw [if_pos hx, if_neg (by omega)]
    congr 1
    rw [if_pos hx, if_pos (by omega)]
    omega) u 0 (Int.le_refl 0)
  rwa [Int.add_zero] at this
theorem sb_twice (u v t : Tm) : sbT 0 v (sbT 0 (shT 1 0 u) t) = sbT 0 u (sbT 1 (shT 1 0 v) t) := by
  rw [sbT_mq, sbT_mq, sbT_mq, sbT_mq]
  have h1 := mq_comp (f := sbv 0 (shT 1 0 u)) (g := sbv 0 v) (h := fun n b => if n = 0 then shT b 0 u else if n = 1 then shT b 0 v else .mk 1 (n - 2 + b) zS [] []) (b0 := 0) (Int.le_refl 0) (fun n c hn hc => by
    unfold sbv
    by_cases h0 : n = 0
    · rw [if_pos h0, if_pos h0, Int.zero_add]
      exact sb_shift hc u
    · rw [if_neg h0, if_neg h0, mq_var (by split <;> omega)]
      by_cases h1 : n = 1
      · rw [if_pos (by split <;> omega), if_pos h1, Int.zero_add]
      · rw [if_neg (by split <;> omega), if_neg h1]
        congr 1
        split <;> split <;> omega) t 0 (Int.le_refl 0)
  have h2 := mq_comp (f := sbv 1 (shT 1 0 v)) (g := sbv 0 u) (h := fun n b => if n = 0 then shT b 0 u else if n = 1 then shT b 0 v else .mk 1 (n - 2 + b) zS [] []) (b0 := 0) (Int.le_refl 0) (fun n c hn hc => by
    unfold sbv
    by_cases h1 : n = 1
    · rw [if_pos h1, if_neg (by omega), if_pos h1, Int.zero_add]
      exact sb_shift hc v
    · rw [if_neg h1, mq_var (by split <;> omega)]
      by_cases h0 : n = 0
      · rw [if_pos (by split <;> omega), if_pos h0, Int.zero_add]
      · rw [if_neg (by split <;> omega), if_neg h0, if_neg h1]
        congr 1
        split <;> split <;> omega) t 0 (Int.le_refl 0)
  rw [Int.add_zero] at h1 h2
  rw [h1, h2]

/-! what is right stays right -/
theorem nHead_mono {d d' m m' b b' k n : Int} {r : Sm} {l lc : Nat} (h : nHead d m b k n r l lc = 0) (hv : k = 1 → n < b' ∨ n - b' < d') (hm : m ≤ m') : nHead d' m' b' k n r l lc = 0 := by
  unfold nHead at h ⊢
  by_cases h1 : k < 1 ∨ 12 < k
  · rw [if_pos h1] at h; cases h
  rw [if_neg h1] at h ⊢
  by_cases h2 : ((hasNumB k = false ∧ ¬ n = 0) ∨ (hasRefB k = false ∧ ¬ r = zS)) ∨ (¬ k = 9 ∧ 0 < (lc : Int))
  · rw [if_pos h2] at h; cases h
  rw [if_neg h2] at h ⊢
  by_cases h3 : ((l : Int) < loK k ∨ hiK k < (l : Int)) ∨ 8 < (lc : Int)
  · rw [if_pos h3] at h; cases h
  rw [if_neg h3] at h ⊢
  by_cases h4 : ((k = 2 ∧ (n < 0 ∨ 1073741824 < n)) ∨ (k = 10 ∧ (n < 1 ∨ 5 < n))) ∨ ((k = 8 ∨ k = 11) ∧ (n < 0 ∨ 7 < n))
  · rw [if_pos h4] at h; cases h
  rw [if_neg h4] at h ⊢
  by_cases h5 : (k = 1 ∧ (n < 0 ∨ (b ≤ n ∧ d ≤ n - b))) ∨ (k = 7 ∧ (n < 0 ∨ m ≤ n))
  · rw [if_pos h5] at h; cases h
  rw [if_neg (by
    rintro (⟨e, h6⟩ | ⟨e, h6⟩)
    · have := hv e; omega
    · omega)]
theorem pErrRC_mqc (f : Int → Int → Tm) (b : Int) (l : List (Pt × Tm)) : pErrRC (mqc f b l) = pErrRC l := by
  induction l with
  | nil => rw [mqc]
  | cons x l ih => obtain ⟨p, x⟩ := x; rw [mqc, pErrRC, pErrRC, ih]
theorem nErr_iff {d m b k n : Int} {r : Sm} {kids : List Tm} {cases : List (Pt × Tm)} : nErr d m b (.mk k n r kids cases) = 0 ↔ nHead d m b k n r kids.length cases.length = 0 ∧ pErrRC cases = 0 ∧ nErrK d m b k 0 kids = 0 ∧ nErrC d m b cases = 0 := by
  rw [nErr]
  constructor
  · intro h
    split at h
    · split at h
      · split at h
        · exact ⟨by assumption, by assumption, by assumption, h⟩
        · rename_i h0; exact absurd h h0
      · rename_i h0; exact absurd h h0
    · rename_i h0; exact absurd h h0
  · rintro ⟨h1, h2, h3, h4⟩
    rw [if_pos h1, if_pos h2, if_pos h3, h4]
theorem nErrK_cons {d m b k : Int} {i : Nat} {t : Tm} {l : List Tm} : nErrK d m b k i (t :: l) = 0 ↔ nErr d m (b + more k i) t = 0 ∧ nErrK d m b k (i + 1) l = 0 := by
  rw [nErrK]
  constructor
  · intro h
    split at h
    · exact ⟨by assumption, h⟩
    · rename_i h0; exact absurd h h0
  · rintro ⟨h1, h2⟩; rw [if_pos h1, h2]
theorem nErrC_cons {d m b : Int} {p : Pt} {t : Tm} {l : List (Pt × Tm)} : nErrC d m b ((p, t) :: l) = 0 ↔ nErr d m (b + (binds p : Int)) t = 0 ∧ nErrC d m b l = 0 := by
  rw [nErrC]
  constructor
  · intro h
    split at h
    · exact ⟨by assumption, h⟩
    · rename_i h0; exact absurd h h0
  · rintro ⟨h1, h2⟩; rw [if_pos h1, h2]
theorem mq_err {f : Int → Int → Tm} {d d' m m' b0 : Int} (hb0 : 0 ≤ b0) (hm : m ≤ m') (H : ∀ n c, 0 ≤ n → n < d → 0 ≤ c → nErr d' m' (b0 + c) (f n c) = 0) (t : Tm) : ∀ c, 0 ≤ c → nErr d m c t = 0 → nErr d' m' (b0 + c) (mq f c t) = 0 := by
  induction t using Tm.ind with
  | h k n r kids cases ih ih' =>
    intro c hc h
    obtain ⟨h1, h2, h3, h4⟩ := nErr_iff.1 h
    have hK : ∀ (l : List Tm), (∀ t ∈ l, ∀ c, 0 ≤ c → nErr d m c t = 0 → nErr d' m' (b0 + c) (mq f c t) = 0) → ∀ i, nErrK d m c k i l = 0 → nErrK d' m' (b0 + c) k i (mqs f c k i l) = 0 := by
      intro l
      induction l with
      | nil => intro _ i _; simp [mqs, nErrK]
      | cons t l ihl =>
        intro hl i hh
        obtain ⟨a1, a2⟩ := nErrK_cons.1 hh
        have hm := more_le k i
        have := hl t (by simp) _ (by omega) a1
        rw [mqs]
        exact nErrK_cons.2 ⟨by rwa [show b0 + c + more k i = b0 + (c + more k i) from by omega], ihl (fun x hx => hl x (by simp [hx])) _ a2⟩
    have hC : ∀ (l : List (Pt × Tm)), (∀ t ∈ l, ∀ c, 0 ≤ c → nErr d m c t.2 = 0 → nErr d' m' (b0 + c) (mq f c t.2) = 0) → nErrC d m c l = 0 → nErrC d' m' (b0 + c) (mqc f c l) = 0 := by
      intro l
      induction l with
      | nil => intro _ _; simp [mqc, nErrC]
      | cons t l ihl =>
        obtain ⟨p, t⟩ := t
        intro hl hh
        obtain ⟨a1, a2⟩ := nErrC_cons.1 hh
        have := hl (p, t) (by simp) _ (by omega) a1
        rw [mqc]
        exact nErrC_cons.2 ⟨by rwa [show b0 + c + (binds p : Int) = b0 + (c + (binds p : Int)) from by omega], ihl (fun x hx => hl x (by simp [hx])) a2⟩
    rw [mq]
    by_cases hk : k = 1 ∧ c ≤ n
    · rw [if_pos hk]
      obtain ⟨e, hle⟩ := hk
      subst e
      have := (nHead_var h1).2.2.2
      exact H _ _ (by omega) (by omega) hc
    · rw [if_neg hk]
      refine nErr_iff.2 ⟨?_, by rw [pErrRC_mqc]; exact h2, hK kids ih 0 h3, hC cases ih' h4⟩
      rw [mqs_len, mqc_len]
      exact nHead_mono h1 (fun e => .inl (by omega)) hm
theorem nErr_var {d m b n : Int} (h0 : 0 ≤ n) (h1 : n - b < d) : nErr d m b (.mk 1 n zS [] []) = 0 := by
  refine nErr_iff.2 ⟨?_, rfl, rfl, rfl⟩
  unfold nHead hasNumB hasRefB loK hiK
  simp
  omega
theorem sh_err {d m dy fr : Int} (hd : 0 ≤ dy) {t : Tm} (h : nErr d m 0 t = 0) : nErr (d + dy) m 0 (shT dy fr t) = 0 := by
  rw [shT_mq]
  have := mq_err (f := shv dy fr) (d := d) (d' := d + dy) (m := m) (m' := m) (b0 := 0) (Int.le_refl 0) (Int.le_refl m) (fun n c h1 h2 h3 => by
    unfold shv
    exact nErr_var (by split <;> omega) (by split <;> omega)) t 0 (Int.le_refl 0) h
  rwa [Int.add_zero] at this
theorem nErr_mono {d d' m m' : Int} (hd : d ≤ d') (hm : m ≤ m') (t : Tm) : ∀ b, nErr d m b t = 0 → nErr d' m' b t = 0 := by
  induction t using Tm.ind with
  | h k n r kids cases ih ih' =>
    intro b h
    obtain ⟨h1, h2, h3, h4⟩ := nErr_iff.1 h
    have hK : ∀ (l : List Tm), (∀ t ∈ l, ∀ b, nErr d m b t = 0 → nErr d' m' b t = 0) → ∀ i, nErrK d m b k i l = 0 → nErrK d' m' b k i l = 0 := by
      intro l
      induction l with
      | nil => intro _ i _; simp [nErrK]
      | cons t l ihl =>
        intro hl i hh
        obtain ⟨a1, a2⟩ := nErrK_cons.1 hh
        exact nErrK_cons.2 ⟨hl t (by simp) _ a1, ihl (fun x hx => hl x (by simp [hx])) _ a2⟩
    have hC : ∀ (l : List (Pt × Tm)), (∀ t ∈ l, ∀ b, nErr d m b t.2 = 0 → nErr d' m' b t.2 = 0) → nErrC d m b l = 0 → nErrC d' m' b l = 0 := by
      intro l
      induction l with
      | nil => intro _ _; simp [nErrC]
      | cons t l ihl =>
        obtain ⟨p, t⟩ := t
        intro hl hh
        obtain ⟨a1, a2⟩ := nErrC_cons.1 hh
        exact nErrC_cons.2 ⟨hl (p, t) (by simp) _ a1, ihl (fun x hx => hl x (by simp [hx])) a2⟩
    exact nErr_iff.2 ⟨nHead_mono h1 (fun e => by subst e; have := (nHead_var h1).2.2.2; omega) hm, h2, hK kids ih 0 h3, hC cases ih' h4⟩
theorem sb_err {d m k : Int} (hk : 0 ≤ k) (hkd : k < d) {t u : Tm} (h : nErr d m 0 t = 0) (hu : nErr (d - 1) m 0 u = 0) : nErr (d - 1) m 0 (sbT k u t) = 0 := by
  rw [sbT_mq]
  have := mq_err (f := sbv k u) (d := d) (d' := d - 1) (m := m) (m' := m) (b0 := 0) (Int.le_refl 0) (Int.le_refl m) (fun n c h1 h2 h3 => by
    unfold sbv
    by_cases e : n = k
    · rw [if_pos e, shT_mq, Int.zero_add]
      have := mq_err (f := shv c 0) (d := d - 1) (d' := d - 1) (m := m) (m' := m) (b0 := c) h3 (Int.le_refl m) (fun x y q1 q2 q3 => by
        unfold shv
        rw [if_pos q1]
        exact nErr_var (by omega) (by omega)) u 0 (Int.le_refl 0) hu
      rwa [Int.add_zero] at this
    · rw [if_neg e]
      exact nErr_var (by split <;> omega) (by split <;> omega)) t 0 (Int.le_refl 0) h
  rwa [Int.add_zero] at this
theorem dep_mq {f : Int → Int → Tm} (H : ∀ n c, depT (f n c) = 1) (t : Tm) : tidy t → ∀ c, depT (mq f c t) = depT t := by
  induction t using Tm.ind with
  | h k n r kids cases ih ih' =>
    intro ht c
    rw [tidy] at ht
    obtain ⟨h1, h2, h3⟩ := ht
    have hK : ∀ (l : List Tm), tidys l → (∀ t ∈ l, tidy t → ∀ c, depT (mq f c t) = depT t) → ∀ i, depTs (mqs f c k i l) = depTs l := by
      intro l
      induction l with
      | nil => intro _ _ i; simp [mqs]
      | cons t l ihl => intro ht hl i; rw [tidys] at ht; rw [mqs, depTs, depTs, hl t (by simp) ht.1, ihl ht.2 (fun x hx => hl x (by simp [hx]))]
    have hC : ∀ (l : List (Pt × Tm)), tidyc l → (∀ t ∈ l, tidy t.2 → ∀ c, depT (mq f c t.2) = depT t.2) → depCs (mqc f c l) = depCs l := by
      intro l
      induction l with
      | nil => intro _ _; simp [mqc]
      | cons t l ihl => obtain ⟨p, t⟩ := t; intro ht hl; rw [tidyc] at ht; rw [mqc, depCs, depCs, hl (p, t) (by simp) ht.1, ihl ht.2 (fun x hx => hl x (by simp [hx]))]
    rw [mq]
    by_cases hk : k = 1 ∧ c ≤ n
    · obtain ⟨rfl, rfl, rfl⟩ := h1 hk.1
      rw [if_pos hk, H]; rfl
    · rw [if_neg hk, depT, depT, hK kids h2 ih, hC cases h3 ih']
theorem long_shift {dy fr : Int} (hf : 0 ≤ fr) {t : Tm} (ht : tidy t) : longB (shT dy fr t) = longB t := by
  have h1 : sizeT (shT dy fr t) = sizeT t := by rw [shT_eq hf ht, size_mv]
  have h2 : depT (shT dy fr t) = depT t := by rw [shT_mq]; exact dep_mq (fun n c => rfl) t ht 0
  rw [Bool.eq_iff_iff, longB_eq, longB_eq, h1, h2]
theorem checkR_iff {d m : Int} {t : Tm} : checkR d m t = 0 ↔ longB t = false ∧ nErr d m 0 t = 0 := by
  unfold checkR
  cases longB t <;> simp
theorem checkR_mono {d d' m m' : Int} (hd : d ≤ d') (hm : m ≤ m') {t : Tm} (h : checkR d m t = 0) : checkR d' m' t = 0 := by
  rw [checkR_iff] at h ⊢
  exact ⟨h.1, nErr_mono hd hm t 0 h.2⟩
theorem checkR_tidy {d m : Int} {t : Tm} (h : checkR d m t = 0) : tidy t := (right_ok d m t 0 (checkR_iff.1 h).2).1
theorem sh_check {d m dy fr : Int} (hd : 0 ≤ dy) (hf : 0 ≤ fr) {t : Tm} (h : checkR d m t = 0) : checkR (d + dy) m (shT dy fr t) = 0 := by
  have ht := checkR_tidy h
  rw [checkR_iff] at h ⊢
  exact ⟨by rw [long_shift hf ht]; exact h.1, sh_err hd h.2⟩
theorem sb_check {d m k : Int} (hk : 0 ≤ k) (hkd : k < d) {t u : Tm} (h : checkR d m t = 0) (hu : checkR (d - 1) m u = 0) (hl : longB (sbT k u t) = false) : checkR (d - 1) m (sbT k u t) = 0 := by
  rw [checkR_iff] at h hu ⊢
  exact ⟨hl, sb_err hk hkd h.2 hu.2⟩

/-! what is free -/
mutual
def allV (Q : Int → Prop) : Int → Tm → Prop
  | b, .mk k n _ kids cases => (k = 1 ∧ b ≤ n → Q (n - b)) ∧ allVs Q b k 0 kids ∧ allVc Q b cases
def allVs (Q : Int → Prop) : Int → Int → Nat → List Tm → Prop
  | _, _, _, [] => True
  | b, k, i, t :: l => allV Q (b + more k i) t ∧ allVs Q b k (i + 1) l
def allVc (Q : Int → Prop) : Int → List (Pt × Tm) → Prop
  | _, [] => True
  | b, (p, t) :: l => allV Q (b + (binds p : Int)) t ∧ allVc Q b l
end
theorem met_all {Q : Int → Prop} (t : Tm) : ∀ b s, allV Q b t → (∀ x ∈ s, Q x) → ∀ x ∈ (mapT (fun s => s) metV b t s).2, Q x := by
  induction t using Tm.ind with
  | h k n r kids cases ih ih' =>
    intro b s h hs
    rw [allV] at h
    have hK : ∀ (l : List Tm), (∀ t ∈ l, ∀ b s, allV Q b t → (∀ x ∈ s, Q x) → ∀ x ∈ (mapT (fun s => s) metV b t s).2, Q x) → ∀ i s, allVs Q b k i l → (∀ x ∈ s, Q x) → ∀ x ∈ (mapTs (fun s => s) metV b k i l s).2, Q x := by
      intro l
      induction l with
      | nil => intro _ i s _ hs; rw [mapTs]; exact hs
      | cons t l ihl => intro hl i s hh hs; rw [allVs] at hh; rw [mapTs]; exact ihl (fun x hx => hl x (by simp [hx])) _ _ hh.2 (hl t (by simp) _ _ hh.1 hs)
    have hC : ∀ (l : List (Pt × Tm)), (∀ t ∈ l, ∀ b s, allV Q b t.2 → (∀ x ∈ s, Q x) → ∀ x ∈ (mapT (fun s => s) metV b t.2 s).2, Q x) → ∀ s, allVc Q b l → (∀ x ∈ s, Q x) → ∀ x ∈ (mapCs (fun s => s) metV b l s).2, Q x := by
      intro l
      induction l with
      | nil => intro _ s _ hs; rw [mapCs]; exact hs
      | cons t l ihl => obtain ⟨p, t⟩ := t; intro hl s hh hs; rw [allVc] at hh; rw [mapCs]; exact ihl (fun x hx => hl x (by simp [hx])) _ hh.2 (hl (p, t) (by simp) _ _ hh.1 hs)
    rw [mapT]
    split
    · rename_i hk
      simp only [metV, addK]
      split
      · exact hs
      · intro x hx
        simp only [List.mem_append, List.mem_cons, List.not_mem_nil, or_false] at hx
        first
          | (rcases hx with hx | rfl; exact hs x hx; exact h.1 hk)
          | (rcases hx with rfl | hx; exact h.1 hk; exact hs x hx)
    · exact hC cases ih' _ h.2.2 (hK kids ih 0 s h.2.1 hs)
theorem freeP_all {Q : Int → Prop} {t : Tm} (h : allV Q 0 t) : ∀ x ∈ freeP t, Q x := by
  intro x hx
  unfold freeP upTo at hx
  obtain ⟨i, hi, rfl⟩ := List.mem_map.1 hx
  obtain ⟨h1, h2⟩ := List.mem_filter.1 hi
  rw [metF_get _ _ (by simpa using h1)] at h2
  exact met_all t 0 [] h (by simp) _ (of_decide_eq_true h2)
theorem err_all {d m : Int} (t : Tm) : ∀ b, 0 ≤ b → nErr d m b t = 0 → allV (fun x => 0 ≤ x ∧ x < d) b t := by
  induction t using Tm.ind with
  | h k n r kids cases ih ih' =>
    intro b hb h
    obtain ⟨h1, h2, h3, h4⟩ := nErr_iff.1 h
    have hK : ∀ (l : List Tm), (∀ t ∈ l, ∀ b, 0 ≤ b → nErr d m b t = 0 → allV (fun x => 0 ≤ x ∧ x < d) b t) → ∀ i, nErrK d m b k i l = 0 → allVs (fun x => 0 ≤ x ∧ x < d) b k i l := by
      intro l
      induction l with
      | nil => intro _ i _; rw [allVs]; trivial
      | cons t l ihl =>
        intro hl i hh
        obtain ⟨a1, a2⟩ := nErrK_cons.1 hh
        have := more_le k i
        rw [allVs]; exact ⟨hl t (by simp) _ (by omega) a1, ihl (fun x hx => hl x (by simp [hx])) _ a2⟩
    have hC : ∀ (l : List (Pt × Tm)), (∀ t ∈ l, ∀ b, 0 ≤ b → nErr d m b t.2 = 0 → allV (fun x => 0 ≤ x ∧ x < d) b t.2) → nErrC d m b l = 0 → allVc (fun x => 0 ≤ x ∧ x < d) b l := by
      intro l
      induction l with
      | nil => intro _ _; rw [allVc]; trivial
      | cons t l ihl =>
        obtain ⟨p, t⟩ := t
        intro hl hh
        obtain ⟨a1, a2⟩ := nErrC_cons.1 hh
        rw [allVc]; exact ⟨hl (p, t) (by simp) _ (by omega) a1, ihl (fun x hx => hl x (by simp [hx])) a2⟩
    rw [allV]
    refine ⟨fun hk => ?_, hK kids ih 0 h3, hC cases ih' h4⟩
    obtain ⟨e, hle⟩ := hk
    subst e
    have := (nHead_var h1).2.2.2
    omega
theorem mq_all {f : Int → Int → Tm} {Q Q' : Int → Prop} (H : ∀ n c, 0 ≤ c → Q n → allV Q' c (f n c)) (t : Tm) : tidy t → ∀ c, 0 ≤ c → allV Q c t → allV Q' c (mq f c t) := by
  induction t using Tm.ind with
  | h k n r kids cases ih ih' =>
    intro ht c hc h
    rw [tidy] at ht
    obtain ⟨h1, h2, h3⟩ := ht
    rw [allV] at h
    have hK : ∀ (l : List Tm), tidys l → (∀ t ∈ l, tidy t → ∀ c, 0 ≤ c → allV Q c t → allV Q' c (mq f c t)) → ∀ i, allVs Q c k i l → allVs Q' c k i (mqs f c k i l) := by
      intro l
      induction l with
      | nil => intro _ _ i _; rw [mqs, allVs]; trivial
      | cons t l ihl =>
        intro ht hl i hh
        rw [tidys] at ht
        rw [allVs] at hh
        have := more_le k i
        rw [mqs, allVs]; exact ⟨hl t (by simp) ht.1 _ (by omega) hh.1, ihl ht.2 (fun x hx => hl x (by simp [hx])) _ hh.2⟩
    have hC : ∀ (l : List (Pt × Tm)), tidyc l → (∀ t ∈ l, tidy t.2 → ∀ c, 0 ≤ c → allV Q c t.2 → allV Q' c (mq f c t.2)) → allVc Q c l → allVc Q' c (mqc f c l) := by
      intro l
      induction l with
      | nil => intro _ _ _; rw [mqc, allVc]; trivial
      | cons t l ihl =>
        obtain ⟨p, t⟩ := t
        intro ht hl hh
        rw [tidyc] at ht
        rw [allVc] at hh
        rw [mqc, allVc]; exact ⟨hl (p, t) (by simp) ht.1 _ (by omega) hh.1, ihl ht.2 (fun x hx => hl x (by simp [hx])) hh.2⟩
    rw [mq]
    by_cases hk : k = 1 ∧ c ≤ n
    · rw [if_pos hk]; exact H _ _ hc (h.1 hk)
    · rw [if_neg hk, allV]; exact ⟨fun q => absurd q hk, hK kids h2 ih 0 h.2.1, hC cases h3 ih' h.2.2⟩
theorem allV_var {Q : Int → Prop} {n c : Int} {r : Sm} (h : Q (n - c)) : allV Q c (.mk 1 n r [] []) := by
  rw [allV, allVs, allVc]; exact ⟨fun _ => h, trivial, trivial⟩
/-- moved up by n from k on, it can be moved by m (from -n on), as far as 59 -/
theorem sh_movable {d m n k y : Int} (hy : -n ≤ y) (hd : d + n + y ≤ 60) {t : Tm} (h : nErr d m 0 t = 0) : (freeP (shT n k t)).all (mvOk y k) = true := by
  have ht := (right_ok d m t 0 h).1
  rw [List.all_eq_true]
  have h1 := mq_all (f := shv n k) (Q := fun x => 0 ≤ x ∧ x < d) (Q' := fun x => x < k ∨ (k ≤ x - n ∧ x - n < d)) (fun x c hc hx => by
    unfold shv
    refine allV_var ?_
    split <;> omega) t ht 0 (Int.le_refl 0) (err_all t 0 (Int.le_refl 0) h)
  rw [← shT_mq] at h1
  intro x hx
  have := freeP_all h1 x hx
  unfold mvOk
  simp only [Bool.or_eq_true, decide_eq_true_eq, Bool.not_eq_true', decide_eq_false_iff_not]
  omega
theorem sh_movable0 {d m k y : Int} (hy : 0 ≤ y) (hd : d + y ≤ 60) {t : Tm} (h : nErr d m 0 t = 0) : (freeP t).all (mvOk y k) = true := by
  have e := sh_movable (n := 0) (k := k) (by omega) (by omega) (y := y) h
  have : shT 0 k t = t := by
    have := shT_back (n := 0) (k := k) (Int.le_refl 0) (right_ok d m t 0 h).1
    have h2 := shT_two (n := 0) (m := 0) (k := k) (Int.le_refl 0) t
    simp at h2
    simp at this
    rw [← h2, this]
  rwa [this] at e
end Go.Proofs.Ytmdifonjepggcaa.Hs
/-! Terms that are drawn, in plain Lean: nodes that are right where their parts are. No program here. -/
namespace Go.Proofs.Ytmdifonjepggcaa.Hs
open Go
theorem nHead_in {d m b c k n : Int} {r : Sm} {l lc : Nat} (hc : 0 ≤ c) (h : nHead (d + c) m b k n r l lc = 0) : nHead d m (b + c) k n r l lc = 0 := by
  refine nHead_mono h (fun e => ?_) (Int.le_refl m)
  subst e
  have := (nHead_var h).2.2.2
  omega
theorem nErr_in {d m c : Int} (hc : 0 ≤ c) (t : Tm) : ∀ b, nErr (d + c) m b t = 0 → nErr d m (b + c) t = 0 := by
  induction t using Tm.ind with
  | h k n r kids cases ih ih' =>
    intro b h
    obtain ⟨h1, h2, h3, h4⟩ := nErr_iff.1 h
    have hK : ∀ (l : List Tm), (∀ t ∈ l, ∀ b, nErr (d + c) m b t = 0 → nErr d m (b + c) t = 0) → ∀ i, nErrK (d + c) m b k i l = 0 → nErrK d m (b + c) k i l = 0 := by
      intro l
      induction l with
      | nil => intro _ i _; simp [nErrK]
      | cons t l ihl =>
        intro hl i hh
        obtain ⟨a1, a2⟩ := nErrK_cons.1 hh
        have := hl t (by simp) _ a1
        exact nErrK_cons.2 ⟨by rwa [show b + c + more k i = b + more k i + c from by omega], ihl (fun x hx => hl x (by simp [hx])) _ a2⟩
    have hC : ∀ (l : List (Pt × Tm)), (∀ t ∈ l, ∀ b, nErr (d + c) m b t.2 = 0 → nErr d m (b + c) t.2 = 0) → nErrC (d + c) m b l = 0 → nErrC d m (b + c) l = 0 := by
      intro l
      induction l with
      | nil => intro _ _; simp [nErrC]
      | cons t l ihl =>
        obtain ⟨p, t⟩ := t
        intro hl hh
        obtain ⟨a1, a2⟩ := nErrC_cons.1 hh
        have := hl (p, t) (by simp) _ a1
        exact nErrC_cons.2 ⟨by rwa [show b + c + (binds p : Int) = b + (binds p : Int) + c from by omega], ihl (fun x hx => hl x (by simp [hx])) a2⟩
    exact nErr_iff.2 ⟨nHead_in hc h1, h2, hK kids ih 0 h3, hC cases ih' h4⟩
theorem nErr_in0 {d m c : Int} (hc : 0 ≤ c) {t : Tm} (h : nErr (d + c) m 0 t = 0) : nErr d m (0 + c) t = 0 := nErr_in hc t 0 h
theorem nErrK_snoc {d m b k : Int} {t : Tm} {l : List Tm} : ∀ {i : Nat}, nErrK d m b k i l = 0 → nErr d m (b + more k ((i + l.length : Nat) : Int)) t = 0 → nErrK d m b k i (l ++ [t]) = 0 := by
  induction l with
  | nil => intro i _ h; exact nErrK_cons.2 ⟨by simpa using h, by simp [nErrK]⟩
  | cons x l ih =>
    intro i h h'
    obtain ⟨a1, a2⟩ := nErrK_cons.1 h
    simp only [List.cons_append]
    exact nErrK_cons.2 ⟨a1, ih a2 (by rwa [show i + 1 + l.length = i + (x :: l).length from by simp; omega])⟩
theorem nErrC_snoc {d m b : Int} {p : Pt} {t : Tm} {l : List (Pt × Tm)} : nErrC d m b l = 0 → nErr d m (b + (binds p : Int)) t = 0 → nErrC d m b (l ++ [(p, t)]) = 0 := by
  induction l with
  | nil => intro _ h; exact nErrC_cons.2 ⟨h, by simp [nErrC]⟩
  | cons x l ih =>
    obtain ⟨q, x⟩ := x
    intro h h'
    obtain ⟨a1, a2⟩ := nErrC_cons.1 h
    simp only [List.cons_append]
    exact nErrC_cons.2 ⟨a1, ih a2 h'⟩
theorem pErrRC_snoc {p : Pt} {t : Tm} {l : List (Pt × Tm)} (h : pErrRC l = 0) (hp : pErrR p = 0) : pErrRC (l ++ [(p, t)]) = 0 := by
  induction l with
  | nil => simp [pErrRC, hp]
  | cons x l ih =>
    rw [pErrRC] at h
    split at h
    · rename_i h0; simp only [List.cons_append]; rw [pErrRC, if_pos h0]; exact ih h
    · rename_i h0; exact absurd h h0
theorem pErrRL_snoc {p : Pt} {l : List Pt} (h : pErrRL l = 0) (hp : pErrR p = 0) : pErrRL (l ++ [p]) = 0 := by
  induction l with
  | nil => simp [pErrRL, hp]
  | cons x l ih =>
    rw [pErrRL] at h
    split at h
    · rename_i h0; simp only [List.cons_append]; rw [pErrRL, if_pos h0]; exact ih h
    · rename_i h0; exact absurd h h0
theorem pErrR_any : pErrR (.mk 1 0 zS []) = 0 := by rfl
theorem pErrR_num {n : Int} (h0 : 0 ≤ n) (h1 : n ≤ 1000) : pErrR (.mk 2 n zS []) = 0 := by
  have : pHead 2 n zS 0 = 0 := by unfold pHead; simp; omega
  rw [pErrR]; simp only [List.length_nil]; rw [if_pos this]; rfl
theorem pErrR_con {n : Int} {r : Sm} {l : List Pt} (h0 : 0 ≤ n) (h1 : n ≤ 7) (hl : l.length ≤ 4) (h : pErrRL l = 0) : pErrR (.mk 3 n r l) = 0 := by
  have : pHead 3 n r l.length = 0 := by unfold pHead; simp; omega
  rw [pErrR, if_pos this, h]
section
variable {d m : Int} {t u : Tm} {r : Sm} {n : Int}
theorem nErr_self (h0 : 0 ≤ n) (h1 : n < m) : nErr d m 0 (.mk 7 n zS [] []) = 0 := nErr_iff.2 ⟨by unfold nHead hasNumB hasRefB loK hiK; simp; omega, rfl, rfl, rfl⟩
theorem nErr_def : nErr d m 0 (.mk 6 0 r [] []) = 0 := nErr_iff.2 ⟨by unfold nHead hasNumB hasRefB loK hiK; simp, rfl, rfl, rfl⟩
theorem nErr_nat (h0 : 0 ≤ n) (h1 : n ≤ 1000) : nErr d m 0 (.mk 2 n zS [] []) = 0 := nErr_iff.2 ⟨by unfold nHead hasNumB hasRefB loK hiK; simp; omega, rfl, rfl, rfl⟩
theorem nErr_lam (h : nErr (d + 1) m 0 t = 0) : nErr d m 0 (.mk 3 0 zS [t] []) = 0 :=
  nErr_iff.2 ⟨by unfold nHead hasNumB hasRefB loK hiK; simp, rfl, nErrK_cons.2 ⟨nErr_in0 (by decide) h, by simp [nErrK]⟩, rfl⟩
theorem nErr_app (h : nErr d m 0 t = 0) (h' : nErr d m 0 u = 0) : nErr d m 0 (.mk 4 0 zS [t, u] []) = 0 :=
  nErr_iff.2 ⟨by unfold nHead hasNumB hasRefB loK hiK; simp, rfl, nErrK_cons.2 ⟨h, nErrK_cons.2 ⟨h', by simp [nErrK]⟩⟩, rfl⟩
theorem nErr_let (h : nErr d m 0 t = 0) (h' : nErr (d + 1) m 0 u = 0) : nErr d m 0 (.mk 5 0 zS [t, u] []) = 0 :=
  nErr_iff.2 ⟨by unfold nHead hasNumB hasRefB loK hiK; simp, rfl, nErrK_cons.2 ⟨h, nErrK_cons.2 ⟨nErr_in0 (by decide) h', by simp [nErrK]⟩⟩, rfl⟩
theorem nErr_prim (h0 : 1 ≤ n) (h1 : n ≤ 5) (h : nErr d m 0 t = 0) (h' : nErr d m 0 u = 0) : nErr d m 0 (.mk 10 n zS [t, u] []) = 0 :=
  nErr_iff.2 ⟨by unfold nHead hasNumB hasRefB loK hiK; simp; omega, rfl, nErrK_cons.2 ⟨h, nErrK_cons.2 ⟨h', by simp [nErrK]⟩⟩, rfl⟩
theorem nErr_ask (h0 : 0 ≤ n) (h1 : n ≤ 7) (h : nErr d m 0 t = 0) : nErr d m 0 (.mk 11 n r [t] []) = 0 :=
  nErr_iff.2 ⟨by unfold nHead hasNumB hasRefB loK hiK; simp; omega, rfl, nErrK_cons.2 ⟨h, by simp [nErrK]⟩, rfl⟩
theorem nErrK_han (h : nErr d m 0 t = 0) (h' : nErr (d + 1) m 0 u = 0) : nErrK d m 0 12 0 [t, u] = 0 :=
  nErrK_cons.2 ⟨h, nErrK_cons.2 ⟨nErr_in0 (by decide) h', by simp [nErrK]⟩⟩
theorem nErrK_han_snoc {l : List Tm} (hl : 2 ≤ l.length) (h : nErrK d m 0 12 0 l = 0) (h' : nErr (d + 2) m 0 t = 0) : nErrK d m 0 12 0 (l ++ [t]) = 0 := by
  refine nErrK_snoc h ?_
  have : more 12 ((0 + l.length : Nat) : Int) = 2 := by unfold more; simp; omega
  rw [this]; exact nErr_in0 (by decide) h'
theorem nErr_han {l : List Tm} (h0 : 2 ≤ l.length) (h1 : l.length ≤ 10) (h : nErrK d m 0 12 0 l = 0) : nErr d m 0 (.mk 12 0 r l []) = 0 :=
  nErr_iff.2 ⟨by unfold nHead hasNumB hasRefB loK hiK; simp; omega, rfl, h, rfl⟩
theorem nErr_mat {l : List (Pt × Tm)} (h1 : l.length ≤ 8) (h : nErr d m 0 t = 0) (hp : pErrRC l = 0) (hc : nErrC d m 0 l = 0) : nErr d m 0 (.mk 9 0 zS [t] l) = 0 :=
  nErr_iff.2 ⟨by unfold nHead hasNumB hasRefB loK hiK; simp; omega, hp, nErrK_cons.2 ⟨h, by simp [nErrK]⟩, hc⟩
theorem nErrC_mat {l : List (Pt × Tm)} {p : Pt} (h : nErrC d m 0 l = 0) (h' : nErr (d + (binds p : Int)) m 0 t = 0) : nErrC d m 0 (l ++ [(p, t)]) = 0 := nErrC_snoc h (nErr_in0 (by omega) h')
theorem nErrK_con {l : List Tm} (h : nErrK d m 0 8 0 l = 0) (h' : nErr d m 0 t = 0) : nErrK d m 0 8 0 (l ++ [t]) = 0 := nErrK_snoc h (by simpa [more] using h')
theorem nErr_con {l : List Tm} (h0 : 0 ≤ n) (h1 : n ≤ 7) (hl : l.length ≤ 4) (h : nErrK d m 0 8 0 l = 0) : nErr d m 0 (.mk 8 n r l []) = 0 :=
  nErr_iff.2 ⟨by unfold nHead hasNumB hasRefB loK hiK; simp; omega, rfl, h, rfl⟩
end
theorem OTs1 {t : Tm} {a : List Value} {k : Chunk} (h : OT t a k) : OTs [t] [a] k := by
  rw [OTs]; exact ⟨a, [], k, [], rfl, h, OTs.nil, by simp⟩
theorem OTs2 {t u : Tm} {a b : List Value} {k k' : Chunk} (h : OT t a k) (h' : OT u b k') : OTs [t, u] [a, b] (k ++ k') := by
  rw [OTs]; exact ⟨a, [b], k, k', rfl, h, OTs1 h', rfl⟩
theorem OT_row {k n : Int} {r : Sm} {v : Value} {es : List (List Value)} {kids : List Tm} {k1 k2 : Chunk} (hk : inI k) (hn : inI n) (ho : Own 30 36 v es k1) (hs : OTs kids es k2) (hl : kids.length ≤ 1000) :
    OT (.mk k n r kids []) (pkT k n r v (.slice none 0 0)) (k1 ++ k2) :=
  OT_mk.2 ⟨_, _, es, [], k1, k2, [], [], rfl, hk, hn, ho, hs, Own.nil, OCs.nil, by simp, by omega, by simp⟩
theorem pErrRL_mem {l : List Pt} (h : pErrRL l = 0) : ∀ p ∈ l, pErrR p = 0 := by
  induction l with
  | nil => intro p hp; cases hp
  | cons q l ih =>
    rw [pErrRL] at h
    split at h
    · rename_i h0
      intro p hp
      rcases List.mem_cons.1 hp with rfl | hp
      · exact h0
      · exact ih h p hp
    · rename_i h0; exact absurd h h0
theorem pErrR_open {k n : Int} {r : Sm} {kids : List Pt} (h : pErrR (.mk k n r kids) = 0) : pErrRL kids = 0 ∧ (k = 1 ∨ k = 3 ∨ (k = 2 ∧ kids = [])) := by
  rw [pErrR] at h
  split at h
  · rename_i h0
    refine ⟨h, ?_⟩
    unfold pHead at h0
    by_cases h1 : k < 1 ∨ 3 < k
    · rw [if_pos h1] at h0; cases h0
    rw [if_neg h1] at h0
    split at h0
    · cases h0
    split at h0
    · cases h0
    rename_i h3
    by_cases e : k = 2
    · right; right
      refine ⟨e, List.eq_nil_of_length_eq_zero ?_⟩
      omega
    · omega
  · rename_i h0; exact absurd h h0
theorem drawn_ok {d m : Int} {t : Tm} (h : nErr d m 0 t = 0) (h11 : ¬ checkT d m t = 11) : checkT d m t = 0 := by
  rw [check_eq] at h11 ⊢
  rw [checkR_iff]
  refine ⟨?_, h⟩
  unfold checkR at h11
  cases hl : longB t with
  | false => rfl
  | true => rw [hl] at h11; exact absurd rfl h11
theorem drawn_nu {d m : Int} : checkT d m (eNu 1) = 0 := by
  rw [check_eq, checkR_iff]
  exact ⟨by kernel_rfl, nErr_nat (by decide) (by decide)⟩
def pz : Nat → Nat
  | 0 => 1
  | d + 1 => 1 + 2 * pz d
def dz : Nat → Nat
  | 0 => 2
  | d + 1 => 4 + 2 * dz d
theorem pz_pos {d : Nat} (h : 0 < d) : pz d = 1 + 2 * pz (d - 1) := by
  obtain ⟨e, rfl⟩ : ∃ e, d = e + 1 := ⟨d - 1, by omega⟩
  rfl
theorem dz_pos {d : Nat} (h : 0 < d) : dz d = 4 + 2 * dz (d - 1) := by
  obtain ⟨e, rfl⟩ : ∃ e, d = e + 1 := ⟨d - 1, by omega⟩
  rfl
theorem pz_ge (d : Nat) : 1 ≤ pz d := by cases d <;> simp [pz]
theorem dz_ge (d : Nat) : 2 ≤ dz d := by cases d <;> simp [dz]; omega
theorem dz_le {d : Nat} (h : d ≤ 2) : dz d ≤ 20 := by
  rcases d with _ | _ | _ | d
  · decide
  · decide
  · decide
  · omega
theorem sizeTs_snoc (l : List Tm) (t : Tm) : sizeTs (l ++ [t]) = sizeTs l + sizeT t := by
  induction l with
  | nil => simp [sizeTs]
  | cons x l ih => simp only [List.cons_append, sizeTs, ih]; omega
theorem sizeCs_snoc (l : List (Pt × Tm)) (p : Pt) (t : Tm) : sizeCs (l ++ [(p, t)]) = sizeCs l + sizeP p + sizeT t := by
  induction l with
  | nil => simp [sizeCs]
  | cons x l ih => obtain ⟨q, x⟩ := x; simp only [List.cons_append, sizeCs, ih]; omega
theorem sizePs_snoc (l : List Pt) (p : Pt) : sizePs (l ++ [p]) = sizePs l + sizeP p := by
  induction l with
  | nil => simp [sizePs]
  | cons x l ih => simp only [List.cons_append, sizePs, ih]; omega
end Go.Proofs.Ytmdifonjepggcaa.Hs
/-! Layer 4, the plain law of moving: what Shift and Subst answer about terms that are right. No program here. -/
namespace Go.Proofs.Ytmdifonjepggcaa.Hs
open Go Go.Proofs
theorem right1 {d m : Int} {t : Tm} (h : checkR d m t = 0) (hd : d ≤ 60) (hm : m ≤ 8) : rightT [t] = 0 := by
  rw [rightT_one]; exact checkR_mono hd hm h
theorem right2 {d m d' m' : Int} {t u : Tm} (h : checkR d m t = 0) (hd : d ≤ 60) (hm : m ≤ 8) (h' : checkR d' m' u = 0) (hd' : d' ≤ 60) (hm' : m' ≤ 8) : rightT [t, u] = 0 := by
  rw [rightT_two, if_pos (checkR_mono hd hm h)]; exact checkR_mono hd' hm' h'
theorem shiftP_is {t : Tm} {y k : Int} {r : Tm} (h : rightT [t] = 0) (hy : -60 ≤ y ∧ y ≤ 60) (hk : 0 ≤ k ∧ k ≤ 60) (hm : (freeP t).all (mvOk y k) = true) (hr : shT y k t = r) : shiftP t y k = (r, 0) := by
  rw [shiftP, if_pos h, if_neg (by omega), if_pos hm, hr]
section
variable {d m : Int} {t u : Tm} {n k y : Int}
theorem shiftP_up (h : checkR d m t = 0) (hm : m ≤ 8) (hn : 0 ≤ n) (hd : d + n ≤ 60) (hd0 : 0 ≤ d) (hk : 0 ≤ k ∧ k ≤ 60) : shiftP t n k = (shT n k t, 0) :=
  shiftP_is (right1 h (by omega) hm) (by omega) hk (sh_movable0 hn hd (checkR_iff.1 h).2) rfl
theorem substP_ok (ht : checkR 60 8 t = 0) (hu : checkR 60 8 u = 0) (hn : 0 ≤ n ∧ n ≤ 59) (hl : longB (sbT n u t) = false) : substP t n u = (sbT n u t, 0) := by
  rw [substP, if_pos (right2 ht (Int.le_refl _) (Int.le_refl _) hu (Int.le_refl _) (Int.le_refl _)), if_neg (by omega), hl]; rfl
theorem substP_long (ht : checkR 60 8 t = 0) (hu : checkR 60 8 u = 0) (hn : 0 ≤ n ∧ n ≤ 59) (hl : longB (sbT n u t) = true) : substP t n u = (zT, 11) := by
  rw [substP, if_pos (right2 ht (Int.le_refl _) (Int.le_refl _) hu (Int.le_refl _) (Int.le_refl _)), if_neg (by omega), hl]; rfl
theorem substP_zero : substP zT n u = (zT, 3) := by
  have h : checkR 60 8 zT = 3 := by kernel_rfl
  have h2 : rightT [zT, u] = 3 := by rw [rightT_two, h]; rfl
  rw [substP, if_neg (by rw [h2]; decide), h2]
end
/-! two terms put, in either order -/
section
variable {t u v : Tm} (ht : checkR 4 2 t = 0) (hu : checkR 2 2 u = 0) (hv : checkR 2 2 v = 0)
include ht hu
theorem tw_a (h : longB (sbT 0 (shT 1 0 u) t) = false) : substP t 0 (shT 1 0 u) = (sbT 0 (shT 1 0 u) t, 0) :=
  substP_ok (checkR_mono (by decide) (by decide) ht) (checkR_mono (d := 2 + 1) (by decide) (by decide) (sh_check (by decide) (by decide) hu)) (by decide) h
theorem tw_aL (h : longB (sbT 0 (shT 1 0 u) t) = true) : substP t 0 (shT 1 0 u) = (zT, 11) :=
  substP_long (checkR_mono (by decide) (by decide) ht) (checkR_mono (d := 2 + 1) (by decide) (by decide) (sh_check (by decide) (by decide) hu)) (by decide) h
theorem tw_c (h : longB (sbT 1 (shT 1 0 u) t) = false) : substP t 1 (shT 1 0 u) = (sbT 1 (shT 1 0 u) t, 0) :=
  substP_ok (checkR_mono (by decide) (by decide) ht) (checkR_mono (d := 2 + 1) (by decide) (by decide) (sh_check (by decide) (by decide) hu)) (by decide) h
theorem tw_cL (h : longB (sbT 1 (shT 1 0 u) t) = true) : substP t 1 (shT 1 0 u) = (zT, 11) :=
  substP_long (checkR_mono (by decide) (by decide) ht) (checkR_mono (d := 2 + 1) (by decide) (by decide) (sh_check (by decide) (by decide) hu)) (by decide) h
theorem tw_right {k : Int} (hk : 0 ≤ k ∧ k < 4) (h : longB (sbT k (shT 1 0 u) t) = false) : checkR 60 8 (sbT k (shT 1 0 u) t) = 0 :=
  checkR_mono (d := 4 - 1) (by decide) (by decide) (sb_check hk.1 hk.2 ht (sh_check (d := 2) (by decide) (by decide) hu) h)
include hv
theorem tw_b (h : longB (sbT 0 (shT 1 0 u) t) = false) (h' : longB (sbT 0 v (sbT 0 (shT 1 0 u) t)) = false) : substP (sbT 0 (shT 1 0 u) t) 0 v = (sbT 0 v (sbT 0 (shT 1 0 u) t), 0) :=
  substP_ok (tw_right ht hu (by decide) h) (checkR_mono (by decide) (by decide) hv) (by decide) h'
theorem tw_bL (h : longB (sbT 0 (shT 1 0 u) t) = false) (h' : longB (sbT 0 v (sbT 0 (shT 1 0 u) t)) = true) : substP (sbT 0 (shT 1 0 u) t) 0 v = (zT, 11) :=
  substP_long (tw_right ht hu (by decide) h) (checkR_mono (by decide) (by decide) hv) (by decide) h'
theorem tw_d (h : longB (sbT 1 (shT 1 0 v) t) = false) (h' : longB (sbT 0 v (sbT 0 (shT 1 0 u) t)) = false) : substP (sbT 1 (shT 1 0 v) t) 0 u = (sbT 0 u (sbT 1 (shT 1 0 v) t), 0) :=
  substP_ok (tw_right ht hv (by decide) h) (checkR_mono (by decide) (by decide) hu) (by decide) (by rw [← sb_twice]; exact h')
end
end Go.Proofs.Ytmdifonjepggcaa.Hs
/-! Copies of slices of numbers. -/
namespace Go.Proofs.Ytmdifonjepggcaa.Hs
open Go Go.Proofs
set_option maxRecDepth 100000
/-- A slice of bytes, as cells read. -/
def RB (_ : Heap) (cs : List Value) (n : Int) : Prop := cs = [.int .u8 n]
theorem RBs.mono {h h' : Heap} (hh : Hle h h') {v : Value} {l : List Int} (q : Hs.rdS RB 1 h v l) : Hs.rdS RB 1 h' v l := rdS.mono q hh fun _ _ _ e => e
def byts (l : List Int) : List (List Value) := l.map fun n => [.int .u8 n]
theorem byts_len (l : List Int) : (byts l).length = l.length := by simp [byts]
theorem byts_len1 (l : List Int) : ∀ e ∈ byts l, e.length = 1 := by
  intro e he; obtain ⟨x, _, rfl⟩ := List.mem_map.1 he; rfl
theorem byts_ok (l : List Int) : ∀ e ∈ byts l, okc e := by
  intro e he v hv; obtain ⟨x, _, rfl⟩ := List.mem_map.1 he; simp only [List.mem_singleton] at hv; subst hv; rfl
theorem num_src {P : Program} {H : Heap} {v : Value} {l : List Int} {E : Heap → List Value → Int → Prop} {f : Int → Value} (hE : ∀ h cs x, E h cs x → cs = [f x]) (h : Hs.rdS E 1 H v l) : ∀ w L, Mem w L H → Src P 1 w v l.length (l.map fun n => [f n]).flatten := by
  obtain ⟨es, e1, e2, e3, e4⟩ := rdS.src (P := P) h
  have : es = l.map fun n => [f n] := by
    apply List.ext_getElem
    · rw [e1, List.length_map]
    · intro i h1 h2
      have := hE _ _ _ (e2 i h1 (by omega))
      rw [this, List.getElem_map]
  subst this
  intro w L m
  exact e4 w L H (Hle.refl _) m
theorem byts_src {P : Program} {H : Heap} {v : Value} {l : List Int} (h : Hs.rdS RB 1 H v l) : ∀ w L, Mem w L H → Src P 1 w v l.length (byts l).flatten := num_src (fun _ _ _ e => e) h
theorem own_byts {T : TypeId} {v : Value} {l : List Int} {k : Chunk} {h : Heap} (o : Own T 1 v (byts l) k) (hn : l.length ≤ 9223372036854775807) (hk : Has k h) : Hs.rdS RB 1 h v l :=
  o.rdS (byts_len l).symm hn hk fun i h1 h2 => by simp [byts, RB]
/-- What is none is empty. -/
theorem rd_none {E : Heap → List Value → Int → Prop} {sz : Nat} {h : Heap} {v : Value} {l : List Int} {a : Option Addr} {n cap : Nat} (r : Hs.rdS E sz h v l) (hv : v = .slice a n cap) (ha : a.isNone = true) : l = [] := by
  obtain ⟨a', c', e, _, h0 | ⟨b, o, row, T, fr, e1, _⟩⟩ := r
  · exact List.eq_nil_of_length_eq_zero h0
  · rw [hv] at e; cases e; subst e1; cases ha
section
variable {P : Program} {e : Operand → Value} {d : Option Nat} {ot : TypeId} {pos : String} {af : Array Edge} {g : Option (Nat × Bool)} {T T' : TypeId} {x y z : Operand}
theorem run_equalIn_nil {el : TypeId} {a : Option Addr} {n c n' c' : Nat} (m : Nat) (w : World) (hT : ∀ w, (underlying T).run P w = .ok (.slice el) w) : (Op.equalIn (m + 1) T (.slice a n c) (.slice none n' c')).run P w = .ok a.isNone w := by
  cases a <;> simp [Op.equalIn, hT]
theorem Pu.eqlNil {el : TypeId} {a : Option Addr} {n c n' c' : Nat} (hT : ∀ w, (underlying T).run P w = .ok (.slice el) w) (hx : e x = .slice a n c) (hy : e y = .slice none n' c') : Pu P e ⟨d, .binOp .eql T x y T', ot, pos, af, g⟩ (.bool a.isNone) := fun w => by
  have := run_equalIn_nil (P := P) (a := a) (n := n) (c := c) (n' := n') (c' := c') 9999 w hT
  simp only [execOp, hx, hy, eqGuard, binOp, Op.equal, Op.maxDepth]
  simp [this]
end
end Go.Proofs.Ytmdifonjepggcaa.Hs
/-! Walks, printed by a program of this session's own (gen.py). -/
namespace Go.Proofs.Ytmdifonjepggcaa.Hs
open Go Go.Proofs
set_option maxRecDepth 100000
set_option linter.unusedVariables false
set_option linter.unusedSimpArgs false
attribute [local irreducible] JL J CT wlo
theorem more_ct (k j : Int) (H : Heap) : CT Try.prog 47 ⟨[.int .i64 (k), .int .i64 (j)]⟩ [] H (fun v N => v = .int .i64 (more k j) ∧ N = []) := by
 refine CT_enter Try.func47 rfl rfl ?_
 refine J_seq ?_
 refine J_region ?_
 refine JL_pure (v := .int .i64 (0)) rfl (Pu.assign rfl) ?_
 refine JL_nil ?_
 refine J_seq ?_
 refine J_block ?_
 refine J_seq ?_
 refine J_seq ?_
 refine J_region ?_
 refine JL_pure (v := .int .i64 (k)) rfl (Pu.move rfl) ?_
 refine JL_pure (v := .bool (decide (k = 3))) rfl (Pu.eql rfl rfl) ?_
 refine JL_pure (v := .bool (decide (k = 3))) rfl (Pu.assign rfl) ?_
 refine JL_nil ?_
 refine J_cond (b := decide (k = 3)) rfl (fun h1 => ?_) (fun h1 => ?_)
 ·skip
  replace h1 := dt h1
  refine J_skip ?_
  refine J_cond (b := decide (k = 3)) rfl (fun _ => ?_) (fun h2 => absurd h1 (df h2))
  refine J_seq ?_
  refine J_region ?_
  refine JL_pure (v := .int .i64 (1)) rfl (Pu.assign rfl) ?_
  refine JL_nil ?_
  refine J_ret ?_
  refine ⟨.int .i64 (1), [], Ret.one rfl (RV.tmp rfl), Sub.nil, ?_⟩
  exact ⟨by first | (simp_all [more]; done) | (congr 1; unfold more; simp_all; try omega), rfl⟩
 ·skip
  replace h1 := df h1
  refine J_cut (fun ρ M => ρ 0 = .int .i64 (k) ∧ ρ 1 = .int .i64 (j) ∧ ρ 4 = .int .i64 (0) ∧ ρ 5 = .bool ((decide (k = 5)) && (decide (j = 1))) ∧ M = []) ?_ ?_
  ·refine J_region ?_
   refine JL_pure (v := .int .i64 (k)) rfl (Pu.move rfl) ?_
   refine JL_pure (v := .bool (decide (k = 5))) rfl (Pu.eql rfl rfl) ?_
   refine JL_pure (v := .bool (decide (k = 5))) rfl (Pu.move rfl) ?_
   cases h3 : (decide (k = 5)) with
   | true =>
    replace h3 := dt h3
    refine JL_pure (v := .int .i64 (j)) rfl (Pu.move rfl) ?_
    refine JL_pure (v := .bool (decide (j = 1))) rfl (Pu.eql rfl rfl) ?_
    refine JL_pure (v := .bool (decide (j = 1))) rfl (Pu.pickT rfl rfl) ?_
    refine JL_pure (v := .bool (decide (j = 1))) rfl (Pu.assign rfl) ?_
    refine JL_nil ?_
    first | exact ⟨rfl, rfl, rfl, rfl, rfl⟩ | (exfalso; omega)
   | false =>
    replace h3 := df h3
    refine JL_skip rfl ?_
    refine JL_skip rfl ?_
    refine JL_pure (v := .bool (false)) rfl (Pu.pickF rfl rfl) ?_
    refine JL_pure (v := .bool (false)) rfl (Pu.assign rfl) ?_
    refine JL_nil ?_
    first | exact ⟨rfl, rfl, rfl, rfl, rfl⟩ | (exfalso; omega)
  ·rintro ρ4 _ ⟨e5, e6, e7, e8, rfl⟩
   obtain ⟨ρ9, rfl⟩ := reopen_ex (uc e5 (uc e6 (uc e7 (uc e8 un))))
   clear e5 e6 e7 e8
   refine J_cond (b := (decide (k = 5)) && (decide (j = 1))) rfl (fun h10 => ?_) (fun h10 => ?_)
   ·skip
    obtain ⟨h10a, h10b⟩ := andT h10
    replace h10a := dt h10a
    replace h10b := dt h10b
    refine J_skip ?_
    refine J_cond (b := (decide (k = 5)) && (decide (j = 1))) rfl (fun h11 => ?_) (fun h11 => ?_)
    ·skip
     obtain ⟨h11a, h11b⟩ := andT h11
     replace h11a := dt h11a
     replace h11b := dt h11b
     refine J_seq ?_
     refine J_region ?_
     refine JL_pure (v := .int .i64 (1)) rfl (Pu.assign rfl) ?_
     refine JL_nil ?_
     refine J_ret ?_
     refine ⟨.int .i64 (1), [], Ret.one rfl (RV.tmp rfl), Sub.nil, ?_⟩
     exact ⟨by first | (simp_all [more]; done) | (congr 1; unfold more; simp_all; try omega), rfl⟩
    ·skip
     refine J_cut (fun ρ M => ρ 4 = .int .i64 (0) ∧ ρ 20 = .bool ((decide (k = 12)) && (decide (1 < j))) ∧ M = []) ?_ ?_
     ·refine J_region ?_
      refine JL_pure (v := .int .i64 (k)) rfl (Pu.move rfl) ?_
      refine JL_pure (v := .bool (decide (k = 12))) rfl (Pu.eql rfl rfl) ?_
      refine JL_pure (v := .bool (decide (k = 12))) rfl (Pu.move rfl) ?_
      cases h12 : (decide (k = 12)) with
      | true =>
       replace h12 := dt h12
       refine JL_pure (v := .int .i64 (j)) rfl (Pu.move rfl) ?_
       refine JL_pure (v := .bool (decide (1 < j))) rfl (Pu.gtr rfl rfl) ?_
       refine JL_pure (v := .bool (decide (1 < j))) rfl (Pu.pickT rfl rfl) ?_
       refine JL_pure (v := .bool (decide (1 < j))) rfl (Pu.assign rfl) ?_
       refine JL_nil ?_
       first | exact ⟨rfl, rfl, rfl⟩ | (exfalso; omega)
      | false =>
       replace h12 := df h12
       refine JL_skip rfl ?_
       refine JL_skip rfl ?_
       refine JL_pure (v := .bool (false)) rfl (Pu.pickF rfl rfl) ?_
       refine JL_pure (v := .bool (false)) rfl (Pu.assign rfl) ?_
       refine JL_nil ?_
       first | exact ⟨rfl, rfl, rfl⟩ | (exfalso; omega)
     ·rintro ρ13 _ ⟨e14, e15, rfl⟩
      obtain ⟨ρ16, rfl⟩ := reopen_ex (uc e14 (uc e15 un))
      clear e14 e15
      refine J_cond (b := (decide (k = 12)) && (decide (1 < j))) rfl (fun h17 => ?_) (fun h17 => ?_)
      ·skip
       obtain ⟨h17a, h17b⟩ := andT h17
       replace h17a := dt h17a
       replace h17b := dt h17b
       refine J_seq ?_
       refine J_region ?_
       refine JL_pure (v := .int .i64 (2)) rfl (Pu.assign rfl) ?_
       refine JL_nil ?_
       refine J_ret ?_
       refine ⟨.int .i64 (2), [], Ret.one rfl (RV.tmp rfl), Sub.nil, ?_⟩
       exact ⟨by first | (simp_all [more]; done) | (congr 1; unfold more; simp_all; try omega), rfl⟩
      ·skip
       refine J_skip ?_
       refine J_seq ?_
       refine J_region ?_
       refine JL_pure (v := .int .i64 (0)) rfl (Pu.assign rfl) ?_
       refine JL_nil ?_
       refine J_ret ?_
       refine ⟨.int .i64 (0), [], Ret.one rfl (RV.tmp rfl), Sub.nil, ?_⟩
       exact ⟨by first | (simp_all [more]; done) | (congr 1; unfold more; simp_all; try omega), rfl⟩
   ·skip
    refine J_weak (N := fun ρ M => ρ 0 = .int .i64 (k) ∧ ρ 1 = .int .i64 (j) ∧ ρ 4 = .int .i64 (0) ∧ ρ 5 = .bool ((decide (k = 12)) && (decide (j = 1))) ∧ M = []) ?_ ?_
    ·refine J_region ?_
     refine JL_pure (v := .int .i64 (k)) rfl (Pu.move rfl) ?_
     refine JL_pure (v := .bool (decide (k = 12))) rfl (Pu.eql rfl rfl) ?_
     refine JL_pure (v := .bool (decide (k = 12))) rfl (Pu.move rfl) ?_
     cases h18 : (decide (k = 12)) with
     | true =>
      replace h18 := dt h18
      refine JL_pure (v := .int .i64 (j)) rfl (Pu.move rfl) ?_
      refine JL_pure (v := .bool (decide (j = 1))) rfl (Pu.eql rfl rfl) ?_
      refine JL_pure (v := .bool (decide (j = 1))) rfl (Pu.pickT rfl rfl) ?_
      refine JL_pure (v := .bool (decide (j = 1))) rfl (Pu.assign rfl) ?_
      refine JL_nil ?_
      first | exact ⟨rfl, rfl, rfl, rfl, rfl⟩ | (exfalso; omega)
     | false =>
      replace h18 := df h18
      refine JL_skip rfl ?_
      refine JL_skip rfl ?_
      refine JL_pure (v := .bool (false)) rfl (Pu.pickF rfl rfl) ?_
      refine JL_pure (v := .bool (false)) rfl (Pu.assign rfl) ?_
      refine JL_nil ?_
      first | exact ⟨rfl, rfl, rfl, rfl, rfl⟩ | (exfalso; omega)
    ·rintro ρ19 _ ⟨e20, e21, e22, e23, rfl⟩
     obtain ⟨ρ24, rfl⟩ := reopen_ex (uc e20 (uc e21 (uc e22 (uc e23 un))))
     clear e20 e21 e22 e23
     refine J_cond (b := (decide (k = 12)) && (decide (j = 1))) rfl (fun h25 => ?_) (fun h25 => ?_)
     ·skip
      obtain ⟨h25a, h25b⟩ := andT h25
      replace h25a := dt h25a
      replace h25b := dt h25b
      refine J_seq ?_
      refine J_region ?_
      refine JL_pure (v := .int .i64 (1)) rfl (Pu.assign rfl) ?_
      refine JL_nil ?_
      refine J_ret ?_
      refine ⟨.int .i64 (1), [], Ret.one rfl (RV.tmp rfl), Sub.nil, ?_⟩
      exact ⟨by first | (simp_all [more]; done) | (congr 1; unfold more; simp_all; try omega), rfl⟩
     ·skip
      refine J_cut (fun ρ M => ρ 4 = .int .i64 (0) ∧ ρ 20 = .bool ((decide (k = 12)) && (decide (1 < j))) ∧ M = []) ?_ ?_
      ·refine J_region ?_
       refine JL_pure (v := .int .i64 (k)) rfl (Pu.move rfl) ?_
       refine JL_pure (v := .bool (decide (k = 12))) rfl (Pu.eql rfl rfl) ?_
       refine JL_pure (v := .bool (decide (k = 12))) rfl (Pu.move rfl) ?_
       cases h26 : (decide (k = 12)) with
       | true =>
        replace h26 := dt h26
        refine JL_pure (v := .int .i64 (j)) rfl (Pu.move rfl) ?_
        refine JL_pure (v := .bool (decide (1 < j))) rfl (Pu.gtr rfl rfl) ?_
        refine JL_pure (v := .bool (decide (1 < j))) rfl (Pu.pickT rfl rfl) ?_
        refine JL_pure (v := .bool (decide (1 < j))) rfl (Pu.assign rfl) ?_
        refine JL_nil ?_
        first | exact ⟨rfl, rfl, rfl⟩ | (exfalso; omega)
       | false =>
        replace h26 := df h26
        refine JL_skip rfl ?_
        refine JL_skip rfl ?_
        refine JL_pure (v := .bool (false)) rfl (Pu.pickF rfl rfl) ?_
        refine JL_pure (v := .bool (false)) rfl (Pu.assign rfl) ?_
        refine JL_nil ?_
        first | exact ⟨rfl, rfl, rfl⟩ | (exfalso; omega)
      ·rintro ρ27 _ ⟨e28, e29, rfl⟩
       obtain ⟨ρ30, rfl⟩ := reopen_ex (uc e28 (uc e29 un))
       clear e28 e29
       refine J_cond (b := (decide (k = 12)) && (decide (1 < j))) rfl (fun h31 => ?_) (fun h31 => ?_)
       ·skip
        obtain ⟨h31a, h31b⟩ := andT h31
        replace h31a := dt h31a
        replace h31b := dt h31b
        refine J_seq ?_
        refine J_region ?_
        refine JL_pure (v := .int .i64 (2)) rfl (Pu.assign rfl) ?_
        refine JL_nil ?_
        refine J_ret ?_
        refine ⟨.int .i64 (2), [], Ret.one rfl (RV.tmp rfl), Sub.nil, ?_⟩
        exact ⟨by first | (simp_all [more]; done) | (congr 1; unfold more; simp_all; try omega), rfl⟩
       ·skip
        refine J_skip ?_
        refine J_seq ?_
        refine J_region ?_
        refine JL_pure (v := .int .i64 (0)) rfl (Pu.assign rfl) ?_
        refine JL_nil ?_
        refine J_ret ?_
        refine ⟨.int .i64 (0), [], Ret.one rfl (RV.tmp rfl), Sub.nil, ?_⟩
        exact ⟨by first | (simp_all [more]; done) | (congr 1; unfold more; simp_all; try omega), rfl⟩
theorem off_ct (n lo hi : Int) (H : Heap) : CT Try.prog 17 ⟨[.int .i64 (n), .int .i64 (lo), .int .i64 (hi)]⟩ [] H (fun v N => v = .bool (decide (n < lo ∨ hi < n)) ∧ N = []) := by
 refine CT_enter Try.func17 rfl rfl ?_
 refine J_seq ?_
 refine J_region ?_
 refine JL_pure (v := .bool (false)) rfl (Pu.assign rfl) ?_
 refine JL_nil ?_
 refine J_cut (fun ρ M => ρ 6 = .bool ((decide (n < lo)) || (decide (hi < n))) ∧ M = []) ?_ ?_
 ·refine J_region ?_
  refine JL_pure (v := .int .i64 (n)) rfl (Pu.move rfl) ?_
  refine JL_pure (v := .int .i64 (lo)) rfl (Pu.move rfl) ?_
  refine JL_pure (v := .bool (decide (n < lo))) rfl (Pu.lss rfl rfl) ?_
  refine JL_pure (v := .bool (decide (n < lo))) rfl (Pu.move rfl) ?_
  cases h1 : (decide (n < lo)) with
  | true =>
   replace h1 := dt h1
   refine JL_skip rfl ?_
   refine JL_skip rfl ?_
   refine JL_skip rfl ?_
   refine JL_pure (v := .bool (true)) rfl (Pu.pickT rfl rfl) ?_
   refine JL_pure (v := .bool (true)) rfl (Pu.assign rfl) ?_
   refine JL_nil ?_
   first | exact ⟨rfl, rfl⟩ | (exfalso; omega)
  | false =>
   replace h1 := df h1
   refine JL_pure (v := .int .i64 (n)) rfl (Pu.move rfl) ?_
   refine JL_pure (v := .int .i64 (hi)) rfl (Pu.move rfl) ?_
   refine JL_pure (v := .bool (decide (hi < n))) rfl (Pu.gtr rfl rfl) ?_
   refine JL_pure (v := .bool (decide (hi < n))) rfl (Pu.pickF rfl rfl) ?_
   refine JL_pure (v := .bool (decide (hi < n))) rfl (Pu.assign rfl) ?_
   refine JL_nil ?_
   first | exact ⟨rfl, rfl⟩ | (exfalso; omega)
 ·rintro ρ2 _ ⟨e3, rfl⟩
  obtain ⟨ρ4, rfl⟩ := reopen_ex (uc e3 un)
  clear e3
  refine J_ret ?_
  refine ⟨.bool ((decide (n < lo)) || (decide (hi < n))), [], Ret.one rfl (RV.tmp rfl), Sub.nil, ?_⟩
  exact ⟨by simp, rfl⟩
theorem binds_ct : ∀ (p : Pt) (cs : List Value) (H : Heap), RP H cs p → binds p ≤ 1000000 → CT Try.prog 49 ⟨[.agg ⟨cs⟩]⟩ [] H (fun v N => v = .int .i64 (binds p : Int) ∧ N = []) := by
 intro p
 induction p using Pt.ind with
 | h kind num ref kids ih =>
 intro cs H hp hb
 obtain ⟨ks, rfl, hk, hn, hks⟩ := RP_mk.1 hp
 rw [binds] at hb ⊢
 refine CT_enter Try.func49 rfl rfl ?_
 refine J_seq ?_
 refine J_region ?_
 refine JL_run rfl (Runs_box (l := pkP (kind) (num) (ref) (ks)) rfl rfl fun b1 => ?_)
 refine JL_pure (v := .int .i64 (0)) rfl (Pu.assign rfl) ?_
 refine JL_nil ?_
 refine J_seq ?_
 refine J_seq ?_
 refine J_region ?_
 refine JL_pure (v := .pointer (some ⟨b1, 0, none⟩)) rfl (fa66_0 rfl rfl) ?_
 refine JL_run rfl (Pu_load1 ty3 rfl (At.bx 0 rfl) (pkP_0 ..) ?_)
 refine JL_pure (v := .bool (decide (kind = 1))) rfl (Pu.eql rfl rfl) ?_
 refine JL_nil ?_
 refine J_cond (b := decide (kind = 1)) rfl (fun h2 => ?_) (fun h2 => ?_)
 ·skip
  replace h2 := dt h2
  refine J_seq ?_
  refine J_region ?_
  refine JL_pure (v := .int .i64 (1)) rfl (Pu.assign rfl) ?_
  refine JL_nil ?_
  refine J_ret ?_
  refine ⟨.int .i64 (1), [], Ret.one rfl (RV.tmp rfl), Sub.nil, ?_⟩
  exact ⟨by rw [if_pos (by assumption)]; rfl, rfl⟩
 ·skip
  replace h2 := df h2
  refine J_skip ?_
  refine J_seq ?_
  refine J_region ?_
  refine JL_pure (v := .int .i64 (0)) rfl (Pu.assign rfl) ?_
  refine JL_nil ?_
  refine J_seq ?_
  refine J_seq ?_
  refine J_region ?_
  refine JL_pure (v := .pointer (some ⟨b1, 34, none⟩)) rfl (fa66_3 rfl rfl) ?_
  refine JL_run rfl (Pu_load1 ty64 rfl (At.bx 0 rfl) (pkP_34 ..) ?_)
  obtain ⟨a3, cap3, hv3⟩ := hks.sl
  have hle3 := hks.le
  refine JL_pure (v := .int .i64 (((kids).length : Int))) rfl (Pu.lenSl Try.runUnderlying64 hv3) ?_
  refine JL_pure (v := .int .i64 (0)) rfl (Pu.move rfl) ?_
  refine JL_nil ?_
  refine J_block ?_
  refine J_loop (fun k ρ M => ∃ (j : Nat), ρ 2 = .int .i64 (0) ∧ ρ 3 = .int .i64 ((bindsL (kids.take j) : Int)) ∧ ρ 10 = ks ∧ ρ 11 = .int .i64 (((kids).length : Int)) ∧ ρ 12 = .int .i64 ((j : Int)) ∧ Sub [[(b1, .cells ⟨pkP (kind) (num) (ref) (ks)⟩ 66 (0, 0))]] M ∧ j ≤ (kids).length ∧ k = (kids).length - j) _ ⟨0, rfl, rfl, rfl, rfl, rfl, (Sk Sub.nil), Nat.zero_le _, rfl⟩ ?_
  rintro _ ρ4 _ ⟨j, e5, e6, e7, e8, e9, hm10, hj, rfl⟩
  obtain ⟨ρ11, rfl⟩ := reopen_ex (uc e5 (uc e6 (uc e7 (uc e8 (uc e9 un)))))
  clear e5 e6 e7 e8 e9
  refine J_sub hm10 ?_
  have hlen := hks.le
  refine J_seq ?_
  refine J_region ?_
  refine JL_pure (v := .bool (decide ((j : Int) < ((kids).length : Int)))) rfl (Pu.lss rfl rfl) ?_
  refine JL_nil ?_
  refine J_seq ?_
  refine J_cond (b := decide ((j : Int) < ((kids).length : Int))) rfl (fun h12 => ?_) (fun h12 => ?_)
  ·skip
   replace h12 := dt h12
   have h12n : j < (kids).length := by omega
   have hm1 := binds_mem kids _ (List.getElem_mem h12n)
   have hm2 := bindsL_take kids _ h12n
   have hm3 := bindsL_take_le kids (j + 1)
   rw [if_neg (by assumption)] at hb
   refine J_skip ?_
   refine J_seq ?_
   refine J_block ?_
   refine J_seq ?_
   refine J_region ?_
   obtain ⟨b13, o13, cap13, row13, T13, fr13, cs13, hv13, hb13, hs13, hE13⟩ := hks.get j (by first | assumption | omega | decide | simp)
   refine JL_pure (v := .pointer (some ⟨b13, o13 + j * 35, none⟩)) rfl (Pu.idx j Try.runUnderlying64 ty66 hv13 rfl rfl (by first | assumption | omega | decide | simp)) ?_
   refine JL_run rfl (Pu_load ty66 rfl (At.im hb13) hs13 ?_)
   refine JL_run rfl (Runs_alloc (l := pkP (0) (0) (zS) (.slice none 0 0)) Try.zeroValue66 rfl fun b14 => ?_)
   refine JL_run rfl (Runs_storeB 0 (vs := cs13) (l := cs13) ty66 rfl rfl rfl rfl (RP_len hE13) (RP_ok hE13) (spl_a (n := 35) rfl (RP_len hE13)) ?_)
   refine JL_nil ?_
   refine J_region ?_
   refine JL_pure (v := .int .i64 ((bindsL (kids.take j) : Int))) rfl (Pu.move rfl) ?_
   refine JL_run rfl (Pu_load ty66 rfl (At.bx 0 rfl) (sub_a (RP_len hE13)) ?_)
   refine JL_call rfl Try.call49 rfl (fun hin => ih _ (List.getElem_mem h12n) _ _ (RP.mono (Hle.hu _ _) hE13) (by omega)) rfl ?_
   rintro _ _ ⟨rfl, rfl⟩
   refine JL_pure (v := .int .i64 ((bindsL (kids.take j) : Int) + ((binds ((kids)[j]) : Int)))) rfl (Pu.add64 rfl rfl (by first | omega | (constructor <;> omega))) ?_
   refine JL_pure (v := .int .i64 ((bindsL (kids.take j) : Int) + ((binds ((kids)[j]) : Int)))) rfl (Pu.assign rfl) ?_
   refine JL_nil ?_
   refine J_region ?_
   refine JL_pure (v := .int .i64 (((j + 1 : Nat) : Int))) rfl (Pu.inc rfl rfl (by omega)) ?_
   refine JL_pure (v := .int .i64 (((j + 1 : Nat) : Int))) rfl (Pu.move rfl) ?_
   refine JL_nil ?_
   refine ⟨_, ?_, (j + 1), rfl, (ieq rfl (by omega)), rfl, rfl, rfl, (Sd (Sk Sub.nil)), ?_, rfl⟩
   ·omega
   ·omega
  ·skip
   replace h12 := df h12
   have h12n : (kids).length ≤ j := by omega
   refine J_exit _ rfl ?_
   refine J_seq ?_
   refine J_region ?_
   refine JL_pure (v := .int .i64 ((bindsL (kids.take j) : Int))) rfl (Pu.move rfl) ?_
   refine JL_pure (v := .int .i64 ((bindsL (kids.take j) : Int))) rfl (Pu.assign rfl) ?_
   refine JL_nil ?_
   refine J_ret ?_
   refine ⟨.int .i64 ((bindsL (kids.take j) : Int)), [], Ret.one rfl (RV.tmp rfl), Sub.nil, ?_⟩
   exact ⟨by rw [if_neg (by assumption), List.take_of_length_le h12n], rfl⟩
end Go.Proofs.Ytmdifonjepggcaa.Hs
/-! Walks, printed by a program of this session's own (gen.py). -/
namespace Go.Proofs.Ytmdifonjepggcaa.Hs
open Go Go.Proofs
set_option maxRecDepth 100000
set_option linter.unusedVariables false
set_option linter.unusedSimpArgs false
attribute [local irreducible] JL J CT wlo
theorem stay_ct (n b : Int) (H : Heap) (hb : inI (n + b)) : CT Try.prog 24 ⟨[.int .i64 (n), .int .i64 (b)]⟩ [] H (fun v N => ∃ cs k, v = .agg ⟨cs⟩ ∧ N = [k] ∧ OT (.mk 1 (n + b) zS [] []) cs k) := by
 have hb1 : -9223372036854775808 ≤ n + b := hb.1
 have hb2 : n + b ≤ 9223372036854775807 := hb.2
 refine CT_enter Try.func24 rfl rfl ?_
 refine J_seq ?_
 refine J_region ?_
 refine JL_run rfl (Runs_alloc (l := pkT (0) (0) (zS) (.slice none 0 0) (.slice none 0 0)) Try.zeroValue30 rfl fun b1 => ?_)
 refine JL_nil ?_
 refine J_seq ?_
 refine J_region ?_
 refine JL_pure (v := .int .i64 (n)) rfl (Pu.move rfl) ?_
 refine JL_pure (v := .int .i64 (b)) rfl (Pu.move rfl) ?_
 refine JL_pure (v := .int .i64 (n + b)) rfl (Pu.add64 rfl rfl (by first | omega | (constructor <;> omega))) ?_
 refine JL_pure (v := .agg ⟨pkT (1) (n + b) (zS) (.slice none 0 0) (.slice none 0 0)⟩) rfl (Pu.build (pv := [(0, .int .i64 (1)), (1, .int .i64 (n + b))]) (l := pkT (1) (n + b) (zS) (.slice none 0 0) (.slice none 0 0)) rfl (bld30_0_1 _ _)) ?_
 refine JL_run rfl (Runs_storeB 0 (vs := pkT (1) (n + b) (zS) (.slice none 0 0) (.slice none 0 0)) (l := pkT (1) (n + b) (zS) (.slice none 0 0) (.slice none 0 0)) ty30 rfl rfl rfl rfl rfl (pkT_ok rfl rfl) (pkT_s ..) ?_)
 refine JL_nil ?_
 refine J_ret ?_
 refine ⟨.agg ⟨pkT (1) (n + b) (zS) (.slice none 0 0) (.slice none 0 0)⟩, [[]], Ret.one rfl (RV.cell ty30 rfl (At.bx 0 rfl) (pkT_a ..)), (Sub.emp Sub.nil), ?_⟩
 exact ⟨_, _, rfl, rfl, OT_leaf (by unfold inI; omega) hb⟩
theorem same_ct (s : Sm) (H : Heap) : CT Try.prog 25 ⟨[.agg ⟨sC (s)⟩]⟩ [] H (fun v N => v = .agg ⟨sC s⟩ ∧ N = []) := by
 refine CT_enter Try.func25 rfl rfl ?_
 refine J_seq ?_
 refine J_region ?_
 refine JL_run rfl (Runs_box (l := sC (s)) rfl rfl fun b1 => ?_)
 refine JL_run rfl (Runs_alloc (l := sC (zS)) Try.zeroValue26 rfl fun b2 => ?_)
 refine JL_nil ?_
 refine J_seq ?_
 refine J_region ?_
 refine JL_run rfl (Pu_load ty26 rfl (At.bx 1 rfl) (sub_a rfl) ?_)
 refine JL_run rfl (Runs_storeB 0 (vs := sC (s)) (l := sC (s)) ty26 rfl rfl rfl rfl rfl (sC_ok _) (spl_a rfl rfl) ?_)
 refine JL_nil ?_
 refine J_ret ?_
 refine ⟨.agg ⟨sC (s)⟩, [], Ret.one rfl (RV.cell ty26 rfl (At.bx 0 rfl) (sub_a rfl)), Sub.nil, ?_⟩
 exact ⟨rfl, rfl⟩
theorem mapPattern_ct : ∀ (gr : Nat) (frs crs : List Value) (hcallr : ∀ args w, (callFunc gr args).run Try.prog w = .ok (.enter gr args) w) (rf : Sm → Sm) (fv : Value) (hfv : fv.oneCell' = true) (p : Pt) (cs : List Value) (H : Heap), RP H cs p → (∀ s h, Hle H h → CT Try.prog gr ⟨frs ++ [.agg ⟨sC s⟩] ++ crs⟩ [] h (fun v N => v = .agg ⟨sC (rf s)⟩ ∧ N = [])) → sizeP p ≤ 1000000 → CT Try.prog 48 ⟨[.agg ⟨[fv, .func (.func gr) ⟨frs⟩ ⟨crs⟩]⟩, .agg ⟨cs⟩]⟩ [] H (fun v N => ∃ cs k, v = .agg ⟨cs⟩ ∧ N = [k] ∧ OP (mapP rf p) cs k) := by
 intro gr frs crs hcallr rf fv hfv p
 induction p using Pt.ind with
 | h kind num ref kids ih =>
 intro cs H hp hgr hz
 rw [sizeP] at hz
 have hlk := len_sizePs kids
 obtain ⟨ks, rfl, hk, hn, hks⟩ := RP_mk.1 hp
 refine CT_enter Try.func48 rfl rfl ?_
 refine J_seq ?_
 refine J_region ?_
 refine JL_run rfl (Runs_box (l := [fv, .func (.func gr) ⟨frs⟩ ⟨crs⟩]) rfl rfl fun b1 => ?_)
 refine JL_run rfl (Runs_box (l := pkP (kind) (num) (ref) (ks)) rfl rfl fun b2 => ?_)
 refine JL_run rfl (Runs_alloc (l := pkP (0) (0) (zS) (.slice none 0 0)) Try.zeroValue66 rfl fun b3 => ?_)
 refine JL_nil ?_
 refine J_seq ?_
 refine J_draw mixed #[0, 1, 0, 4, 0, 16, 0, 64, 240, 511, 0, 2047] 11 11 3 rfl (by kernel_rfl) (fun i r4 N4 => match i with | 0 => (r4 0) = .pointer (some ⟨b2, 0, none⟩) | 1 => (r4 1) = .int .i64 (kind) | 2 => (r4 2) = .pointer (some ⟨b2, 1, none⟩) | 3 => (r4 3) = .int .i64 (num) | 4 => (r4 4) = .pointer (some ⟨b1, 1, none⟩) | 5 => (r4 5) = .func (.func gr) ⟨frs⟩ ⟨crs⟩ | 6 => (r4 6) = .pointer (some ⟨b2, 2, none⟩) | 7 => (r4 7) = .agg ⟨sC (ref)⟩ | 8 => (r4 8) = .agg ⟨sC (rf (ref))⟩ | 9 => (r4 9) = .agg ⟨pkP (kind) (num) (rf (ref)) (.slice none 0 0)⟩ | 10 => (r4 10) = .pointer (some ⟨(pblk (r4 10)), 0, none⟩) ∧ (N4 10) = [((pblk (r4 10)), .cells ⟨pkP (0) (0) (zS) (.slice none 0 0)⟩ 66 (0, 0))] | _ => True) ⟨?_, ?_, ?_, ?_, ?_, ?_, ?_, ?_, ?_, ?_, ?_, trivial⟩ ?_
 ·intro ρ r4 N4 B hB hBa hp hr hr0
  have q3 : ρ 3 = .pointer (some ⟨b2, 0, none⟩) := hr0 3 (by kernel_rfl)
  obtain ⟨ρ5, rfl⟩ := reopen_ex (uc q3 un)
  clear q3
  refine JL_pure (v := .pointer (some ⟨b2, 0, none⟩)) rfl (fa66_0 rfl rfl) ?_
  refine JL_nil ?_
  exact ⟨.pointer (some ⟨b2, 0, none⟩), [], rfl, (Sub.emp Sub.refl), rfl⟩
 ·intro ρ r4 N4 B hB hBa hp hr hr0
  have q8 : ρ 8 = .pointer (some ⟨b2, 0, none⟩) := (hr 0 _ _ (by decide) rfl rfl rfl).trans (hp 0 (by decide) rfl)
  obtain ⟨ρ6, rfl⟩ := reopen_ex (uc q8 un)
  clear q8
  refine JL_run rfl (Pu_load1 ty3 rfl (At.bx 12 (made_old ((hB 1 (by decide)).trans rfl))) (pkP_0 ..) ?_)
  refine JL_nil ?_
  exact ⟨.int .i64 (kind), [], rfl, (Sub.emp Sub.refl), rfl⟩
 ·intro ρ r4 N4 B hB hBa hp hr hr0
  have q3 : ρ 3 = .pointer (some ⟨b2, 0, none⟩) := hr0 3 (by kernel_rfl)
  obtain ⟨ρ7, rfl⟩ := reopen_ex (uc q3 un)
  clear q3
  refine JL_pure (v := .pointer (some ⟨b2, 1, none⟩)) rfl (fa66_1 rfl rfl) ?_
  refine JL_nil ?_
  exact ⟨.pointer (some ⟨b2, 1, none⟩), [], rfl, (Sub.emp Sub.refl), rfl⟩
 ·intro ρ r4 N4 B hB hBa hp hr hr0
  have q10 : ρ 10 = .pointer (some ⟨b2, 1, none⟩) := (hr 2 _ _ (by decide) rfl rfl rfl).trans (hp 2 (by decide) rfl)
  obtain ⟨ρ8, rfl⟩ := reopen_ex (uc q10 un)
  clear q10
  refine JL_run rfl (Pu_load1 ty3 rfl (At.bx 12 (made_old ((hB 1 (by decide)).trans rfl))) (pkP_1 ..) ?_)
  refine JL_nil ?_
  exact ⟨.int .i64 (num), [], rfl, (Sub.emp Sub.refl), rfl⟩
 ·intro ρ r4 N4 B hB hBa hp hr hr0
  have q2 : ρ 2 = .pointer (some ⟨b1, 0, none⟩) := hr0 2 (by kernel_rfl)
  obtain ⟨ρ9, rfl⟩ := reopen_ex (uc q2 un)
  clear q2
  refine JL_pure (v := .pointer (some ⟨b1, 1, none⟩)) rfl (fa60_1 rfl rfl) ?_
  refine JL_nil ?_
  exact ⟨.pointer (some ⟨b1, 1, none⟩), [], rfl, (Sub.emp Sub.refl), rfl⟩
 ·intro ρ r4 N4 B hB hBa hp hr hr0
  have q12 : ρ 12 = .pointer (some ⟨b1, 1, none⟩) := (hr 4 _ _ (by decide) rfl rfl rfl).trans (hp 4 (by decide) rfl)
  obtain ⟨ρ10, rfl⟩ := reopen_ex (uc q12 un)
  clear q12
  refine JL_run rfl (Pu_load1 ty58 rfl (At.bx 13 (made_old ((hB 2 (by decide)).trans rfl))) rfl ?_)
  refine JL_nil ?_
  exact ⟨.func (.func gr) ⟨frs⟩ ⟨crs⟩, [], rfl, (Sub.emp Sub.refl), rfl⟩
 ·intro ρ r4 N4 B hB hBa hp hr hr0
  have q3 : ρ 3 = .pointer (some ⟨b2, 0, none⟩) := hr0 3 (by kernel_rfl)
  obtain ⟨ρ11, rfl⟩ := reopen_ex (uc q3 un)
  clear q3
  refine JL_pure (v := .pointer (some ⟨b2, 2, none⟩)) rfl (fa66_2 rfl rfl) ?_
  refine JL_nil ?_
  exact ⟨.pointer (some ⟨b2, 2, none⟩), [], rfl, (Sub.emp Sub.refl), rfl⟩
 ·intro ρ r4 N4 B hB hBa hp hr hr0
  have q14 : ρ 14 = .pointer (some ⟨b2, 2, none⟩) := (hr 6 _ _ (by decide) rfl rfl rfl).trans (hp 6 (by decide) rfl)
  obtain ⟨ρ12, rfl⟩ := reopen_ex (uc q14 un)
  clear q14
  refine JL_run rfl (Pu_load ty26 rfl (At.bx 12 (made_old ((hB 1 (by decide)).trans rfl))) (pkP_2 ..) ?_)
  refine JL_nil ?_
  exact ⟨.agg ⟨sC (ref)⟩, [], rfl, (Sub.emp Sub.refl), rfl⟩
 ·intro ρ r4 N4 B hB hBa hp hr hr0
  have q13 : ρ 13 = .func (.func gr) ⟨frs⟩ ⟨crs⟩ := (hr 5 _ _ (by decide) rfl rfl rfl).trans (hp 5 (by decide) rfl)
  have q15 : ρ 15 = .agg ⟨sC (ref)⟩ := (hr 7 _ _ (by decide) rfl rfl rfl).trans (hp 7 (by decide) rfl)
  obtain ⟨ρ13, rfl⟩ := reopen_ex (uc q13 (uc q15 un))
  clear q13 q15
  refine JL_call rfl hcallr rfl (fun hin => hgr _ _ (Hle.hu _ _)) rfl ?_
  rintro _ _ ⟨rfl, rfl⟩
  refine JL_nil ?_
  exact ⟨.agg ⟨sC (rf (ref))⟩, [], rfl, (Sub.emp Sub.refl), rfl⟩
 ·intro ρ r4 N4 B hB hBa hp hr hr0
  have q9 : ρ 9 = .int .i64 (kind) := (hr 1 _ _ (by decide) rfl rfl rfl).trans (hp 1 (by decide) rfl)
  have q11 : ρ 11 = .int .i64 (num) := (hr 3 _ _ (by decide) rfl rfl rfl).trans (hp 3 (by decide) rfl)
  have q16 : ρ 16 = .agg ⟨sC (rf (ref))⟩ := (hr 8 _ _ (by decide) rfl rfl rfl).trans (hp 8 (by decide) rfl)
  obtain ⟨ρ14, rfl⟩ := reopen_ex (uc q9 (uc q11 (uc q16 un)))
  clear q9 q11 q16
  refine JL_pure (v := .agg ⟨pkP (kind) (num) (rf (ref)) (.slice none 0 0)⟩) rfl (Pu.build (pv := [(0, .int .i64 (kind)), (1, .int .i64 (num)), (2, .agg ⟨sC (rf (ref))⟩)]) (l := pkP (kind) (num) (rf (ref)) (.slice none 0 0)) rfl (bld66_0_1_2 _ _ _)) ?_
  refine JL_nil ?_
  exact ⟨.agg ⟨pkP (kind) (num) (rf (ref)) (.slice none 0 0)⟩, [], rfl, (Sub.emp Sub.refl), rfl⟩
 ·intro ρ r4 N4 B hB hBa hp hr hr0
  refine JL_run rfl (Runs_alloc (l := pkP (0) (0) (zS) (.slice none 0 0)) Try.zeroValue66 rfl fun b15 => ?_)
  refine JL_nil ?_
  exact ⟨.pointer (some ⟨b15, 0, none⟩), [(b15, .cells ⟨pkP (0) (0) (zS) (.slice none 0 0)⟩ 66 (0, 0))], rfl, Sub.refl, ⟨rfl, rfl⟩⟩
 ·intro ρ r4 N4 hp hr hr0
  have p10 : (r4 10) = .pointer (some ⟨(pblk (r4 10)), 0, none⟩) ∧ (N4 10) = [((pblk (r4 10)), .cells ⟨pkP (0) (0) (zS) (.slice none 0 0)⟩ 66 (0, 0))] := hp 10 (by decide)
  have q2 : ρ 2 = .pointer (some ⟨b1, 0, none⟩) := hr0 2 (by kernel_rfl)
  have q3 : ρ 3 = .pointer (some ⟨b2, 0, none⟩) := hr0 3 (by kernel_rfl)
  have q4 : ρ 4 = .pointer (some ⟨b3, 0, none⟩) := hr0 4 (by kernel_rfl)
  have q5 : ρ 5 = .pointer (some ⟨(pblk (r4 10)), 0, none⟩) := (hr 10 _ _ (by decide) rfl rfl).trans p10.1
  have q17 : ρ 17 = .agg ⟨pkP (kind) (num) (rf (ref)) (.slice none 0 0)⟩ := (hr 9 _ _ (by decide) rfl rfl).trans (hp 9 (by decide))
  obtain ⟨ρ16, rfl⟩ := reopen_ex (uc q2 (uc q3 (uc q4 (uc q5 (uc q17 un)))))
  clear q2 q3 q4 q5 q17
  have p4_10 := p10
  clear hp hr hr0 p10
  refine JL_sub (M' := [(N4 0), (N4 1), (N4 2), (N4 3), (N4 4), (N4 5), (N4 6), (N4 7), (N4 8), (N4 9), (N4 10), [(b3, .cells ⟨pkP (0) (0) (zS) (.slice none 0 0)⟩ 66 (0, 0))], [(b2, .cells ⟨pkP (kind) (num) (ref) (ks)⟩ 66 (0, 0))], [(b1, .cells ⟨[fv, .func (.func gr) ⟨frs⟩ ⟨crs⟩]⟩ 60 (0, 0))]]) Sub.refl ?_
  refine JL_sub (M' := [[((pblk (r4 10)), .cells ⟨pkP (0) (0) (zS) (.slice none 0 0)⟩ 66 (0, 0))], [(b3, .cells ⟨pkP (0) (0) (zS) (.slice none 0 0)⟩ 66 (0, 0))], [(b2, .cells ⟨pkP (kind) (num) (ref) (ks)⟩ 66 (0, 0))], [(b1, .cells ⟨[fv, .func (.func gr) ⟨frs⟩ ⟨crs⟩]⟩ 60 (0, 0))]]) (Sd (Sd (Sd (Sd (Sd (Sd (Sd (Sd (Sd (Sd (Se p4_10.2 (Sk (Sk (Sk Sub.nil)))))))))))))) ?_
  show JL _ _ _ [_] _ _ _
  refine JL_run rfl (Runs_storeB 0 (vs := pkP (kind) (num) (rf (ref)) (.slice none 0 0)) (l := pkP (kind) (num) (rf (ref)) (.slice none 0 0)) ty66 rfl rfl rfl rfl rfl (pkP_ok rfl) (pkP_s ..) ?_)
  refine JL_nil ?_
  refine J_seq ?_
  refine J_seq ?_
  refine J_region ?_
  refine JL_pure (v := .pointer (some ⟨b2, 34, none⟩)) rfl (fa66_3 rfl rfl) ?_
  refine JL_run rfl (Pu_load1 ty64 rfl (At.bx 2 rfl) (pkP_34 ..) ?_)
  obtain ⟨a17, cap17, hv17⟩ := hks.sl
  have hle17 := hks.le
  refine JL_pure (v := .int .i64 (((kids).length : Int))) rfl (Pu.lenSl Try.runUnderlying64 hv17) ?_
  refine JL_pure (v := .int .i64 (0)) rfl (Pu.move rfl) ?_
  refine JL_nil ?_
  refine J_block ?_
  refine J_loop (fun k ρ M => ∃ (j : Nat) (v : Value) (es : List (List Value)) (k1 k2 : Chunk), ρ 2 = .pointer (some ⟨b1, 0, none⟩) ∧ ρ 4 = .pointer (some ⟨b3, 0, none⟩) ∧ ρ 5 = .pointer (some ⟨(pblk (r4 10)), 0, none⟩) ∧ ρ 19 = ks ∧ ρ 20 = .int .i64 (((kids).length : Int)) ∧ ρ 21 = .int .i64 ((j : Int)) ∧ Sub [[((pblk (r4 10)), .cells ⟨pkP (kind) (num) (rf (ref)) (v)⟩ 66 (0, 0))], k1, k2, [(b3, .cells ⟨pkP (0) (0) (zS) (.slice none 0 0)⟩ 66 (0, 0))], [(b1, .cells ⟨[fv, .func (.func gr) ⟨frs⟩ ⟨crs⟩]⟩ 60 (0, 0))]] M ∧ j ≤ (kids).length ∧ Own 66 35 v es k1 ∧ OPs (mapPs rf (kids.take j)) es k2 ∧ k = (kids).length - j) _ ⟨0, _, [], [], [], rfl, rfl, rfl, rfl, rfl, rfl, (Sk (Sub.emp (Sub.emp (Sk (Sd (Sk Sub.nil)))))), Nat.zero_le _, Own.nil, OPs.nil, rfl⟩ ?_
  rintro _ ρ18 _ ⟨j, v, es, k1, k2, e19, e20, e21, e22, e23, e24, hm25, hj, ho, hop, rfl⟩
  obtain ⟨ρ26, rfl⟩ := reopen_ex (uc e19 (uc e20 (uc e21 (uc e22 (uc e23 (uc e24 un))))))
  clear e19 e20 e21 e22 e23 e24
  refine J_sub hm25 ?_
  have hlen := hks.le
  refine J_seq ?_
  refine J_region ?_
  refine JL_pure (v := .bool (decide ((j : Int) < ((kids).length : Int)))) rfl (Pu.lss rfl rfl) ?_
  refine JL_nil ?_
  refine J_seq ?_
  refine J_cond (b := decide ((j : Int) < ((kids).length : Int))) rfl (fun h27 => ?_) (fun h27 => ?_)
  ·skip
   replace h27 := dt h27
   have h27n : j < (kids).length := by omega
   have hel := OPs_len hop
   rw [mapPs_len, List.length_take] at hel
   have hs1 := sizePs_mem _ (List.getElem_mem h27n)
   refine J_skip ?_
   refine J_seq ?_
   refine J_block ?_
   refine J_seq ?_
   refine J_region ?_
   obtain ⟨b28, o28, cap28, row28, T28, fr28, cs28, hv28, hb28, hs28, hE28⟩ := hks.get j (by first | assumption | omega | decide | simp)
   refine JL_pure (v := .pointer (some ⟨b28, o28 + j * 35, none⟩)) rfl (Pu.idx j Try.runUnderlying64 ty66 hv28 rfl rfl (by first | assumption | omega | decide | simp)) ?_
   refine JL_run rfl (Pu_load ty66 rfl (At.im hb28) hs28 ?_)
   refine JL_run rfl (Runs_alloc (l := pkP (0) (0) (zS) (.slice none 0 0)) Try.zeroValue66 rfl fun b29 => ?_)
   refine JL_run rfl (Runs_storeB 0 (vs := cs28) (l := cs28) ty66 rfl rfl rfl rfl (RP_len hE28) (RP_ok hE28) (spl_a (n := 35) rfl (RP_len hE28)) ?_)
   refine JL_nil ?_
   refine J_draw mixed #[0, 1, 0, 0, 12, 28, 63, 127, 255] 6 6 6 rfl (by kernel_rfl) (fun i r30 N30 => match i with | 0 => (r30 0) = .pointer (some ⟨(pblk (r4 10)), 34, none⟩) | 1 => (r30 1) = v | 2 => (r30 2) = .agg ⟨[fv, .func (.func gr) ⟨frs⟩ ⟨crs⟩]⟩ | 3 => (r30 3) = .agg ⟨cs28⟩ | 4 => (r30 4) = .agg ⟨(cel (r30 4))⟩ ∧ OP (mapP rf ((kids)[j])) (cel (r30 4)) (N30 4) | 5 => (r30 5) = .slice (some ⟨(sblk (r30 5)), 0, none⟩) 1 1 ∧ (N30 5) = [(sblk (r30 5), .cells ⟨List.flatten [(cel (r30 4))]⟩ 66 (0, 0))] ∧ Own 66 35 (.slice (some ⟨(sblk (r30 5)), 0, none⟩) 1 1) [(cel (r30 4))] (N30 5) | _ => True) ⟨?_, ?_, ?_, ?_, ?_, ?_, trivial⟩ ?_
   ·intro ρ r30 N30 B hB hBa hp hr hr0
    have q5 : ρ 5 = .pointer (some ⟨(pblk (r4 10)), 0, none⟩) := hr0 5 (by kernel_rfl)
    obtain ⟨ρ31, rfl⟩ := reopen_ex (uc q5 un)
    clear q5
    refine JL_pure (v := .pointer (some ⟨(pblk (r4 10)), 34, none⟩)) rfl (fa66_3 rfl rfl) ?_
    refine JL_nil ?_
    exact ⟨.pointer (some ⟨(pblk (r4 10)), 34, none⟩), [], rfl, (Sub.emp Sub.refl), rfl⟩
   ·intro ρ r30 N30 B hB hBa hp hr hr0
    have q25 : ρ 25 = .pointer (some ⟨(pblk (r4 10)), 34, none⟩) := (hr 0 _ _ (by decide) rfl rfl rfl).trans (hp 0 (by decide) rfl)
    obtain ⟨ρ32, rfl⟩ := reopen_ex (uc q25 un)
    clear q25
    refine JL_run rfl (Pu_load1 ty64 rfl (At.bx 7 (made_old ((hB 1 (by decide)).trans rfl))) (pkP_34 ..) ?_)
    refine JL_nil ?_
    exact ⟨v, [], rfl, (Sub.emp Sub.refl), rfl⟩
   ·intro ρ r30 N30 B hB hBa hp hr hr0
    have q2 : ρ 2 = .pointer (some ⟨b1, 0, none⟩) := hr0 2 (by kernel_rfl)
    obtain ⟨ρ33, rfl⟩ := reopen_ex (uc q2 un)
    clear q2
    refine JL_run rfl (Pu_load ty60 rfl (At.bx 11 (made_old ((hB 5 (by decide)).trans rfl))) rfl ?_)
    refine JL_nil ?_
    exact ⟨.agg ⟨[fv, .func (.func gr) ⟨frs⟩ ⟨crs⟩]⟩, [], rfl, (Sub.emp Sub.refl), rfl⟩
   ·intro ρ r30 N30 B hB hBa hp hr hr0
    have q7 : ρ 7 = .pointer (some ⟨b29, 0, none⟩) := hr0 7 (by kernel_rfl)
    obtain ⟨ρ34, rfl⟩ := reopen_ex (uc q7 un)
    clear q7
    refine JL_run rfl (Pu_load ty66 rfl (At.bx 6 (made_old ((hB 0 (by decide)).trans rfl))) (sub_a (RP_len hE28)) ?_)
    refine JL_nil ?_
    exact ⟨.agg ⟨cs28⟩, [], rfl, (Sub.emp Sub.refl), rfl⟩
   ·intro ρ r30 N30 B hB hBa hp hr hr0
    have q27 : ρ 27 = .agg ⟨[fv, .func (.func gr) ⟨frs⟩ ⟨crs⟩]⟩ := (hr 2 _ _ (by decide) rfl rfl rfl).trans (hp 2 (by decide) rfl)
    have q28 : ρ 28 = .agg ⟨cs28⟩ := (hr 3 _ _ (by decide) rfl rfl rfl).trans (hp 3 (by decide) rfl)
    obtain ⟨ρ35, rfl⟩ := reopen_ex (uc q27 (uc q28 un))
    clear q27 q28
    refine JL_call rfl Try.call48 rfl (fun hin => ih _ (List.getElem_mem h27n) _ _ (RP.mono (Hle.hu _ _) hE28) (fun s h hh => hgr s h (Hle.trans (Hle.hu _ _) hh)) (by omega)) rfl ?_
    rintro _ _ ⟨cs36, k36, rfl, rfl, hO36⟩
    refine JL_nil ?_
    exact ⟨.agg ⟨cs36⟩, k36, rfl, Sub.refl, ⟨rfl, hO36⟩⟩
   ·intro ρ r30 N30 B hB hBa hp hr hr0
    have p4 : (r30 4) = .agg ⟨(cel (r30 4))⟩ ∧ OP (mapP rf ((kids)[j])) (cel (r30 4)) (N30 4) := hp 4 (by decide) rfl
    have q29 : ρ 29 = .agg ⟨(cel (r30 4))⟩ := (hr 4 _ _ (by decide) rfl rfl rfl).trans p4.1
    obtain ⟨ρ37, rfl⟩ := reopen_ex (uc q29 un)
    clear q29
    refine JL_run rfl (Runs_buildSlice (vs := [.agg ⟨(cel (r30 4))⟩]) [(cel (r30 4))] Try.runUnderlying64 el66 rfl rfl (by intro e he; simp only [List.mem_cons, List.not_mem_nil, or_false] at he; subst he; exact p4.2.len) rfl (by decide) fun b38 k38 ho38 hk38 => ?_)
    refine JL_nil ?_
    exact ⟨.slice (some ⟨b38, 0, none⟩) 1 1, k38, rfl, Sub.refl, ⟨rfl, hk38, ho38⟩⟩
   ·intro ρ r30 N30 hp hr hr0
    have p4 : (r30 4) = .agg ⟨(cel (r30 4))⟩ ∧ OP (mapP rf ((kids)[j])) (cel (r30 4)) (N30 4) := hp 4 (by decide)
    have p5 : (r30 5) = .slice (some ⟨(sblk (r30 5)), 0, none⟩) 1 1 ∧ (N30 5) = [(sblk (r30 5), .cells ⟨List.flatten [(cel (r30 4))]⟩ 66 (0, 0))] ∧ Own 66 35 (.slice (some ⟨(sblk (r30 5)), 0, none⟩) 1 1) [(cel (r30 4))] (N30 5) := hp 5 (by decide)
    have q2 : ρ 2 = .pointer (some ⟨b1, 0, none⟩) := hr0 2 (by kernel_rfl)
    have q4 : ρ 4 = .pointer (some ⟨b3, 0, none⟩) := hr0 4 (by kernel_rfl)
    have q5 : ρ 5 = .pointer (some ⟨(pblk (r4 10)), 0, none⟩) := hr0 5 (by kernel_rfl)
    have q19 : ρ 19 = ks := hr0 19 (by kernel_rfl)
    have q20 : ρ 20 = .int .i64 (((kids).length : Int)) := hr0 20 (by kernel_rfl)
    have q21 : ρ 21 = .int .i64 ((j : Int)) := hr0 21 (by kernel_rfl)
    have q26 : ρ 26 = v := (hr 1 _ _ (by decide) rfl rfl).trans (hp 1 (by decide))
    have q30 : ρ 30 = .slice (some ⟨(sblk (r30 5)), 0, none⟩) 1 1 := (hr 5 _ _ (by decide) rfl rfl).trans p5.1
    obtain ⟨ρ39, rfl⟩ := reopen_ex (uc q2 (uc q4 (uc q5 (uc q19 (uc q20 (uc q21 (uc q26 (uc q30 un))))))))
    clear q2 q4 q5 q19 q20 q21 q26 q30
    have p30_4 := p4; have p30_5 := p5
    clear hp hr hr0 p4 p5
    refine JL_sub (M' := [(N30 0), (N30 1), (N30 2), (N30 3), (N30 4), (N30 5), [(b29, .cells ⟨cs28⟩ 66 (0, 0))], [((pblk (r4 10)), .cells ⟨pkP (kind) (num) (rf (ref)) (v)⟩ 66 (0, 0))], k1, k2, [(b3, .cells ⟨pkP (0) (0) (zS) (.slice none 0 0)⟩ 66 (0, 0))], [(b1, .cells ⟨[fv, .func (.func gr) ⟨frs⟩ ⟨crs⟩]⟩ 60 (0, 0))]]) Sub.refl ?_
    refine JL_sub (M' := [(N30 4), (N30 5), [(b29, .cells ⟨cs28⟩ 66 (0, 0))], [((pblk (r4 10)), .cells ⟨pkP (kind) (num) (rf (ref)) (v)⟩ 66 (0, 0))], k1, k2, [(b3, .cells ⟨pkP (0) (0) (zS) (.slice none 0 0)⟩ 66 (0, 0))], [(b1, .cells ⟨[fv, .func (.func gr) ⟨frs⟩ ⟨crs⟩]⟩ 60 (0, 0))]]) (Sd (Sd (Sd (Sd (Sk (Sk (Sk (Sk (Sk (Sk (Sk (Sk Sub.nil)))))))))))) ?_
    show JL _ _ _ [_, _, _] _ _ _
    have hlens40 : ∀ e ∈ ([(cel (r30 4))] : List (List Value)), List.length e = 35 := by
     intro e he; simp only [List.mem_cons, List.not_mem_nil, or_false] at he
     rcases he with rfl
     ·exact p30_4.2.len
    have hoks40 : ∀ e ∈ ([(cel (r30 4))] : List (List Value)), okc e := by
     intro e he; simp only [List.mem_cons, List.not_mem_nil, or_false] at he
     rcases he with rfl
     ·exact p30_4.2.ok
    refine JL_run rfl (Runs_append (i := 4) (n := 1) (es' := [(cel (r30 4))]) Try.runUnderlying64 Try.runUnderlying64 (Or.inl rfl) el66 rfl rfl rfl ho (fun F w m => Src.row (((At.k 1 rfl (by rw [p30_5.2.1]; exact List.mem_cons_self))).heap m) (sub_a (flatten_len hlens40))) rfl hlens40 hoks40 (by decide) (by omega) fun v40 k40 ho40 => ?_)
    refine JL_pure (v := .pointer (some ⟨(pblk (r4 10)), 34, none⟩)) rfl (fa66_3 rfl rfl) ?_
    refine JL_run rfl (Runs_storeB 3 (vs := [v40]) (l := pkP (kind) (num) (rf (ref)) (v40)) ty64 rfl rfl rfl (cells_one ho40.one) rfl (okc_cons ho40.one okc_nil) (pkP_s34 ..) ?_)
    refine JL_nil ?_
    refine J_region ?_
    refine JL_pure (v := .int .i64 (((j + 1 : Nat) : Int))) rfl (Pu.inc rfl rfl (by omega)) ?_
    refine JL_pure (v := .int .i64 (((j + 1 : Nat) : Int))) rfl (Pu.move rfl) ?_
    refine JL_nil ?_
    refine ⟨_, ?_, (j + 1), (v40), (es ++ [(cel (r30 4))]), (k40), ((k2) ++ ((N30 4))), rfl, rfl, rfl, rfl, rfl, rfl, (Sub.cons 3 rfl (Sub.cons 3 rfl (Sub.join (Sub.cons 3 rfl (Sk (Sd (Sd (Sk (Sk Sub.nil))))))))), ?_, ?_, ?_, rfl⟩
    ·omega
    ·omega
    ·assumption
    ·rw [mapPs_take rf kids j h27n]; exact OPs.snoc p30_4.2 hop
  ·skip
   replace h27 := df h27
   have h27n : (kids).length ≤ j := by omega
   refine J_exit _ rfl ?_
   refine J_seq ?_
   refine J_region ?_
   refine JL_run rfl (Pu_load ty66 rfl (At.bx 0 rfl) (pkP_a ..) ?_)
   refine JL_run rfl (Runs_storeB 3 (vs := pkP (kind) (num) (rf (ref)) (v)) (l := pkP (kind) (num) (rf (ref)) (v)) ty66 rfl rfl rfl rfl rfl (pkP_ok ho.one) (pkP_s ..) ?_)
   refine JL_nil ?_
   refine J_ret ?_
   refine ⟨.agg ⟨pkP (kind) (num) (rf (ref)) (v)⟩, [k1 ++ k2], Ret.one rfl (RV.cell ty66 rfl (At.bx 3 rfl) (pkP_a ..)), (Sub.join (Sd (Sk (Sk Sub.nil)))), ?_⟩
   rw [List.take_of_length_le h27n] at hop
   exact ⟨_, _, rfl, rfl, by rw [mapP]; exact OP_mk.2 ⟨v, es, k1, k2, rfl, hk, hn, ho, hop, rfl, by rw [mapPs_len]; exact hks.le⟩⟩
end Go.Proofs.Ytmdifonjepggcaa.Hs
/-! Walks, printed by a program of this session's own (gen.py). -/
namespace Go.Proofs.Ytmdifonjepggcaa.Hs
open Go Go.Proofs
set_option maxRecDepth 100000
set_option linter.unusedVariables false
set_option linter.unusedSimpArgs false
attribute [local irreducible] JL J CT wlo
set_option maxHeartbeats 1000000 in
theorem mapTerm_ct : ∀ (gr : Nat) (frs crs : List Value) (hcallr : ∀ args w, (callFunc gr args).run Try.prog w = .ok (.enter gr args) w) (rf : Sm → Sm) (gv : Nat) (fvs cvs : List Value) (hcallv : ∀ args w, (callFunc gv args).run Try.prog w = .ok (.enter gv args) w) (σ : Type) (Sc : σ → Chunk) (Inv : σ → Prop) (vf : Int → Int → σ → Tm × σ) (hI : ∀ n b s, Inv s → Inv (vf n b s).2) (t : Tm) (b : Int) (s : σ) (cs : List Value) (H : Heap), RT H cs t → sizeT t ≤ 1000000 → vOK t → 0 ≤ b → b + 2 * sizeT t ≤ 2000000 → Inv s → (∀ s h, Hle H h → CT Try.prog gr ⟨frs ++ [.agg ⟨sC s⟩] ++ crs⟩ [] h (fun v N => v = .agg ⟨sC (rf s)⟩ ∧ N = [])) → (∀ (n b : Int) (s : σ) (h : Heap), Hle H h → Inv s → 0 ≤ n → n ≤ 2000000 → 0 ≤ b → b ≤ 2000000 → CT Try.prog gv ⟨fvs ++ [.int .i64 n, .int .i64 b] ++ cvs⟩ [Sc s] h (fun v N => ∃ cs k, v = .agg ⟨cs⟩ ∧ N = [k, Sc (vf n b s).2] ∧ OT (vf n b s).1 cs k)) → CT Try.prog 26 ⟨[.agg ⟨[.func (.func gv) ⟨fvs⟩ ⟨cvs⟩, .func (.func gr) ⟨frs⟩ ⟨crs⟩]⟩, .agg ⟨cs⟩, .int .i64 b]⟩ [Sc s] H (fun v N => ∃ cs k, v = .agg ⟨cs⟩ ∧ N = [k, Sc (mapT rf vf b t s).2] ∧ OT (mapT rf vf b t s).1 cs k) := by
 intro gr frs crs hcallr rf gv fvs cvs hcallv σ Sc Inv vf hI t
 induction t using Tm.ind with
 | h kind num ref kids cases ih ih' =>
 intro b s cs H ht hz hv hb0 hb hs hgr hgv
 rw [sizeT] at hz hb
 rw [vOK] at hv
 have hv1 : ¬ kind = 1 ∨ (0 ≤ num ∧ num ≤ 2000000) := by by_cases h : kind = 1; exact .inr (hv.1 h); exact .inl h
 have hlk := len_sizeTs kids
 have hlc := len_sizeCs cases
 obtain ⟨ks, cv, rfl, hk, hn, hks, hcv⟩ := RT_mk.1 ht
 have hn1 : -9223372036854775808 ≤ num := hn.1
 have hn2 : num ≤ 9223372036854775807 := hn.2
 refine CT_enter Try.func26 rfl rfl ?_
 refine J_seq ?_
 refine J_region ?_
 refine JL_run rfl (Runs_box (l := [.func (.func gv) ⟨fvs⟩ ⟨cvs⟩, .func (.func gr) ⟨frs⟩ ⟨crs⟩]) rfl rfl fun b1 => ?_)
 refine JL_run rfl (Runs_box (l := pkT (kind) (num) (ref) (ks) (cv)) rfl rfl fun b2 => ?_)
 refine JL_run rfl (Runs_alloc (l := pkT (0) (0) (zS) (.slice none 0 0) (.slice none 0 0)) Try.zeroValue30 rfl fun b3 => ?_)
 refine JL_nil ?_
 refine J_seq ?_
 refine J_cut (fun ρ M => ρ 2 = .int .i64 (b) ∧ ρ 3 = .pointer (some ⟨b1, 0, none⟩) ∧ ρ 4 = .pointer (some ⟨b2, 0, none⟩) ∧ ρ 6 = .pointer (some ⟨b3, 0, none⟩) ∧ ρ 20 = .bool ((decide (kind = 1)) && (decide (b ≤ num))) ∧ M = [[(b3, .cells ⟨pkT (0) (0) (zS) (.slice none 0 0) (.slice none 0 0)⟩ 30 (0, 0))], [(b2, .cells ⟨pkT (kind) (num) (ref) (ks) (cv)⟩ 30 (0, 0))], [(b1, .cells ⟨[.func (.func gv) ⟨fvs⟩ ⟨cvs⟩, .func (.func gr) ⟨frs⟩ ⟨crs⟩]⟩ 60 (0, 0))], Sc s]) ?_ ?_
 ·refine J_region ?_
  refine JL_pure (v := .pointer (some ⟨b2, 0, none⟩)) rfl (fa30_0 rfl rfl) ?_
  refine JL_run rfl (Pu_load1 ty3 rfl (At.bx 1 rfl) (pkT_0 ..) ?_)
  refine JL_pure (v := .bool (decide (kind = 1))) rfl (Pu.eql rfl rfl) ?_
  refine JL_pure (v := .bool (decide (kind = 1))) rfl (Pu.move rfl) ?_
  cases h4 : (decide (kind = 1)) with
  | true =>
   replace h4 := dt h4
   refine JL_pure (v := .pointer (some ⟨b2, 1, none⟩)) rfl (fa30_1 rfl rfl) ?_
   refine JL_run rfl (Pu_load1 ty3 rfl (At.bx 1 rfl) (pkT_1 ..) ?_)
   refine JL_pure (v := .int .i64 (b)) rfl (Pu.move rfl) ?_
   refine JL_pure (v := .bool (decide (b ≤ num))) rfl (Pu.geq rfl rfl) ?_
   refine JL_pure (v := .bool (decide (b ≤ num))) rfl (Pu.pickT rfl rfl) ?_
   refine JL_nil ?_
   first | exact ⟨rfl, rfl, rfl, rfl, rfl, rfl⟩ | (exfalso; omega)
  | false =>
   replace h4 := df h4
   refine JL_skip rfl ?_
   refine JL_skip rfl ?_
   refine JL_skip rfl ?_
   refine JL_skip rfl ?_
   refine JL_pure (v := .bool (false)) rfl (Pu.pickF rfl rfl) ?_
   refine JL_nil ?_
   first | exact ⟨rfl, rfl, rfl, rfl, rfl, rfl⟩ | (exfalso; omega)
 ·rintro ρ5 _ ⟨e6, e7, e8, e9, e10, rfl⟩
  obtain ⟨ρ11, rfl⟩ := reopen_ex (uc e6 (uc e7 (uc e8 (uc e9 (uc e10 un)))))
  clear e6 e7 e8 e9 e10
  refine J_cond (b := (decide (kind = 1)) && (decide (b ≤ num))) rfl (fun h12 => ?_) (fun h12 => ?_)
  ·skip
   obtain ⟨h12a, h12b⟩ := andT h12
   replace h12a := dt h12a
   replace h12b := dt h12b
   refine J_seq ?_
   refine J_region ?_
   refine JL_pure (v := .pointer (some ⟨b1, 0, none⟩)) rfl (fa60_0 rfl rfl) ?_
   refine JL_run rfl (Pu_load1 ty57 rfl (At.bx 2 rfl) rfl ?_)
   refine JL_pure (v := .pointer (some ⟨b2, 1, none⟩)) rfl (fa30_1 rfl rfl) ?_
   refine JL_run rfl (Pu_load1 ty3 rfl (At.bx 1 rfl) (pkT_1 ..) ?_)
   refine JL_pure (v := .int .i64 (b)) rfl (Pu.move rfl) ?_
   refine JL_pure (v := .int .i64 (num - b)) rfl (Pu.sub64 rfl rfl (by first | omega | (constructor <;> omega))) ?_
   refine JL_pure (v := .int .i64 (b)) rfl (Pu.move rfl) ?_
   refine JL_call1 3 rfl hcallv rfl rfl (fun hin => hgv _ _ _ _ (Hle.hu _ _) hs (by omega) (by omega) (by omega) (by omega)) rfl ?_
   rintro _ _ ⟨cs13, k13, rfl, rfl, hO13⟩
   refine JL_run rfl (Runs_storeB 2 (vs := cs13) (l := cs13) ty30 rfl rfl rfl rfl hO13.len hO13.ok (spl_a (n := 36) rfl hO13.len) ?_)
   refine JL_nil ?_
   refine J_ret ?_
   refine ⟨.agg ⟨cs13⟩, [k13, Sc ((vf (num - b) (b) s).2)], Ret.one rfl (RV.cell ty30 rfl (At.bx 2 rfl) (sub_a hO13.len)), (Sk (Sk Sub.nil)), ?_⟩
   have hx : kind = 1 ∧ b ≤ num := ⟨h12a, h12b⟩
   exact ⟨_, _, rfl, by rw [mapT, if_pos hx], by rw [mapT, if_pos hx]; exact hO13⟩
  ·skip
   refine J_skip ?_
   refine J_seq ?_
   refine J_draw mixed #[0, 1, 0, 4, 0, 16, 0, 64, 240, 511, 0, 2047] 11 11 4 rfl (by kernel_rfl) (fun i r14 N14 => match i with | 0 => (r14 0) = .pointer (some ⟨b2, 0, none⟩) | 1 => (r14 1) = .int .i64 (kind) | 2 => (r14 2) = .pointer (some ⟨b2, 1, none⟩) | 3 => (r14 3) = .int .i64 (num) | 4 => (r14 4) = .pointer (some ⟨b1, 1, none⟩) | 5 => (r14 5) = .func (.func gr) ⟨frs⟩ ⟨crs⟩ | 6 => (r14 6) = .pointer (some ⟨b2, 2, none⟩) | 7 => (r14 7) = .agg ⟨sC (ref)⟩ | 8 => (r14 8) = .agg ⟨sC (rf (ref))⟩ | 9 => (r14 9) = .agg ⟨pkT (kind) (num) (rf (ref)) (.slice none 0 0) (.slice none 0 0)⟩ | 10 => (r14 10) = .pointer (some ⟨(pblk (r14 10)), 0, none⟩) ∧ (N14 10) = [((pblk (r14 10)), .cells ⟨pkT (0) (0) (zS) (.slice none 0 0) (.slice none 0 0)⟩ 30 (0, 0))] | _ => True) ⟨?_, ?_, ?_, ?_, ?_, ?_, ?_, ?_, ?_, ?_, ?_, trivial⟩ ?_
   ·intro ρ r14 N14 B hB hBa hp hr hr0
    have q4 : ρ 4 = .pointer (some ⟨b2, 0, none⟩) := hr0 4 (by kernel_rfl)
    obtain ⟨ρ15, rfl⟩ := reopen_ex (uc q4 un)
    clear q4
    refine JL_pure (v := .pointer (some ⟨b2, 0, none⟩)) rfl (fa30_0 rfl rfl) ?_
    refine JL_nil ?_
    exact ⟨.pointer (some ⟨b2, 0, none⟩), [], rfl, (Sub.emp Sub.refl), rfl⟩
   ·intro ρ r14 N14 B hB hBa hp hr hr0
    have q29 : ρ 29 = .pointer (some ⟨b2, 0, none⟩) := (hr 0 _ _ (by decide) rfl rfl rfl).trans (hp 0 (by decide) rfl)
    obtain ⟨ρ16, rfl⟩ := reopen_ex (uc q29 un)
    clear q29
    refine JL_run rfl (Pu_load1 ty3 rfl (At.bx 12 (made_old ((hB 1 (by decide)).trans rfl))) (pkT_0 ..) ?_)
    refine JL_nil ?_
    exact ⟨.int .i64 (kind), [], rfl, (Sub.emp Sub.refl), rfl⟩
   ·intro ρ r14 N14 B hB hBa hp hr hr0
    have q4 : ρ 4 = .pointer (some ⟨b2, 0, none⟩) := hr0 4 (by kernel_rfl)
    obtain ⟨ρ17, rfl⟩ := reopen_ex (uc q4 un)
    clear q4
    refine JL_pure (v := .pointer (some ⟨b2, 1, none⟩)) rfl (fa30_1 rfl rfl) ?_
    refine JL_nil ?_
    exact ⟨.pointer (some ⟨b2, 1, none⟩), [], rfl, (Sub.emp Sub.refl), rfl⟩
   ·intro ρ r14 N14 B hB hBa hp hr hr0
    have q31 : ρ 31 = .pointer (some ⟨b2, 1, none⟩) := (hr 2 _ _ (by decide) rfl rfl rfl).trans (hp 2 (by decide) rfl)
    obtain ⟨ρ18, rfl⟩ := reopen_ex (uc q31 un)
    clear q31
    refine JL_run rfl (Pu_load1 ty3 rfl (At.bx 12 (made_old ((hB 1 (by decide)).trans rfl))) (pkT_1 ..) ?_)
    refine JL_nil ?_
    exact ⟨.int .i64 (num), [], rfl, (Sub.emp Sub.refl), rfl⟩
   ·intro ρ r14 N14 B hB hBa hp hr hr0
    have q3 : ρ 3 = .pointer (some ⟨b1, 0, none⟩) := hr0 3 (by kernel_rfl)
    obtain ⟨ρ19, rfl⟩ := reopen_ex (uc q3 un)
    clear q3
    refine JL_pure (v := .pointer (some ⟨b1, 1, none⟩)) rfl (fa60_1 rfl rfl) ?_
    refine JL_nil ?_
    exact ⟨.pointer (some ⟨b1, 1, none⟩), [], rfl, (Sub.emp Sub.refl), rfl⟩
   ·intro ρ r14 N14 B hB hBa hp hr hr0
    have q33 : ρ 33 = .pointer (some ⟨b1, 1, none⟩) := (hr 4 _ _ (by decide) rfl rfl rfl).trans (hp 4 (by decide) rfl)
    obtain ⟨ρ20, rfl⟩ := reopen_ex (uc q33 un)
    clear q33
    refine JL_run rfl (Pu_load1 ty58 rfl (At.bx 13 (made_old ((hB 2 (by decide)).trans rfl))) rfl ?_)
    refine JL_nil ?_
    exact ⟨.func (.func gr) ⟨frs⟩ ⟨crs⟩, [], rfl, (Sub.emp Sub.refl), rfl⟩
   ·intro ρ r14 N14 B hB hBa hp hr hr0
    have q4 : ρ 4 = .pointer (some ⟨b2, 0, none⟩) := hr0 4 (by kernel_rfl)
    obtain ⟨ρ21, rfl⟩ := reopen_ex (uc q4 un)
    clear q4
    refine JL_pure (v := .pointer (some ⟨b2, 2, none⟩)) rfl (fa30_2 rfl rfl) ?_
    refine JL_nil ?_
    exact ⟨.pointer (some ⟨b2, 2, none⟩), [], rfl, (Sub.emp Sub.refl), rfl⟩
   ·intro ρ r14 N14 B hB hBa hp hr hr0
    have q35 : ρ 35 = .pointer (some ⟨b2, 2, none⟩) := (hr 6 _ _ (by decide) rfl rfl rfl).trans (hp 6 (by decide) rfl)
    obtain ⟨ρ22, rfl⟩ := reopen_ex (uc q35 un)
    clear q35
    refine JL_run rfl (Pu_load ty26 rfl (At.bx 12 (made_old ((hB 1 (by decide)).trans rfl))) (pkT_2 ..) ?_)
    refine JL_nil ?_
    exact ⟨.agg ⟨sC (ref)⟩, [], rfl, (Sub.emp Sub.refl), rfl⟩
   ·intro ρ r14 N14 B hB hBa hp hr hr0
    have q34 : ρ 34 = .func (.func gr) ⟨frs⟩ ⟨crs⟩ := (hr 5 _ _ (by decide) rfl rfl rfl).trans (hp 5 (by decide) rfl)
    have q36 : ρ 36 = .agg ⟨sC (ref)⟩ := (hr 7 _ _ (by decide) rfl rfl rfl).trans (hp 7 (by decide) rfl)
    obtain ⟨ρ23, rfl⟩ := reopen_ex (uc q34 (uc q36 un))
    clear q34 q36
    refine JL_call rfl hcallr rfl (fun hin => hgr _ _ (Hle.hu _ _)) rfl ?_
    rintro _ _ ⟨rfl, rfl⟩
    refine JL_nil ?_
    exact ⟨.agg ⟨sC (rf (ref))⟩, [], rfl, (Sub.emp Sub.refl), rfl⟩
   ·intro ρ r14 N14 B hB hBa hp hr hr0
    have q30 : ρ 30 = .int .i64 (kind) := (hr 1 _ _ (by decide) rfl rfl rfl).trans (hp 1 (by decide) rfl)
    have q32 : ρ 32 = .int .i64 (num) := (hr 3 _ _ (by decide) rfl rfl rfl).trans (hp 3 (by decide) rfl)
    have q37 : ρ 37 = .agg ⟨sC (rf (ref))⟩ := (hr 8 _ _ (by decide) rfl rfl rfl).trans (hp 8 (by decide) rfl)
    obtain ⟨ρ24, rfl⟩ := reopen_ex (uc q30 (uc q32 (uc q37 un)))
    clear q30 q32 q37
    refine JL_pure (v := .agg ⟨pkT (kind) (num) (rf (ref)) (.slice none 0 0) (.slice none 0 0)⟩) rfl (Pu.build (pv := [(0, .int .i64 (kind)), (1, .int .i64 (num)), (2, .agg ⟨sC (rf (ref))⟩)]) (l := pkT (kind) (num) (rf (ref)) (.slice none 0 0) (.slice none 0 0)) rfl (bld30_0_1_2 _ _ _)) ?_
    refine JL_nil ?_
    exact ⟨.agg ⟨pkT (kind) (num) (rf (ref)) (.slice none 0 0) (.slice none 0 0)⟩, [], rfl, (Sub.emp Sub.refl), rfl⟩
   ·intro ρ r14 N14 B hB hBa hp hr hr0
    refine JL_run rfl (Runs_alloc (l := pkT (0) (0) (zS) (.slice none 0 0) (.slice none 0 0)) Try.zeroValue30 rfl fun b25 => ?_)
    refine JL_nil ?_
    exact ⟨.pointer (some ⟨b25, 0, none⟩), [(b25, .cells ⟨pkT (0) (0) (zS) (.slice none 0 0) (.slice none 0 0)⟩ 30 (0, 0))], rfl, Sub.refl, ⟨rfl, rfl⟩⟩
   ·intro ρ r14 N14 hp hr hr0
    have p10 : (r14 10) = .pointer (some ⟨(pblk (r14 10)), 0, none⟩) ∧ (N14 10) = [((pblk (r14 10)), .cells ⟨pkT (0) (0) (zS) (.slice none 0 0) (.slice none 0 0)⟩ 30 (0, 0))] := hp 10 (by decide)
    have q2 : ρ 2 = .int .i64 (b) := hr0 2 (by kernel_rfl)
    have q3 : ρ 3 = .pointer (some ⟨b1, 0, none⟩) := hr0 3 (by kernel_rfl)
    have q4 : ρ 4 = .pointer (some ⟨b2, 0, none⟩) := hr0 4 (by kernel_rfl)
    have q6 : ρ 6 = .pointer (some ⟨b3, 0, none⟩) := hr0 6 (by kernel_rfl)
    have q7 : ρ 7 = .pointer (some ⟨(pblk (r14 10)), 0, none⟩) := (hr 10 _ _ (by decide) rfl rfl).trans p10.1
    have q38 : ρ 38 = .agg ⟨pkT (kind) (num) (rf (ref)) (.slice none 0 0) (.slice none 0 0)⟩ := (hr 9 _ _ (by decide) rfl rfl).trans (hp 9 (by decide))
    obtain ⟨ρ26, rfl⟩ := reopen_ex (uc q2 (uc q3 (uc q4 (uc q6 (uc q7 (uc q38 un))))))
    clear q2 q3 q4 q6 q7 q38
    have p14_10 := p10
    clear hp hr hr0 p10
    refine JL_sub (M' := [(N14 0), (N14 1), (N14 2), (N14 3), (N14 4), (N14 5), (N14 6), (N14 7), (N14 8), (N14 9), (N14 10), [(b3, .cells ⟨pkT (0) (0) (zS) (.slice none 0 0) (.slice none 0 0)⟩ 30 (0, 0))], [(b2, .cells ⟨pkT (kind) (num) (ref) (ks) (cv)⟩ 30 (0, 0))], [(b1, .cells ⟨[.func (.func gv) ⟨fvs⟩ ⟨cvs⟩, .func (.func gr) ⟨frs⟩ ⟨crs⟩]⟩ 60 (0, 0))], Sc s]) Sub.refl ?_
    refine JL_sub (M' := [[((pblk (r14 10)), .cells ⟨pkT (0) (0) (zS) (.slice none 0 0) (.slice none 0 0)⟩ 30 (0, 0))], [(b3, .cells ⟨pkT (0) (0) (zS) (.slice none 0 0) (.slice none 0 0)⟩ 30 (0, 0))], [(b2, .cells ⟨pkT (kind) (num) (ref) (ks) (cv)⟩ 30 (0, 0))], [(b1, .cells ⟨[.func (.func gv) ⟨fvs⟩ ⟨cvs⟩, .func (.func gr) ⟨frs⟩ ⟨crs⟩]⟩ 60 (0, 0))], Sc s]) (Sd (Sd (Sd (Sd (Sd (Sd (Sd (Sd (Sd (Sd (Se p14_10.2 (Sk (Sk (Sk (Sk Sub.nil))))))))))))))) ?_
    show JL _ _ _ [_] _ _ _
    refine JL_run rfl (Runs_storeB 0 (vs := pkT (kind) (num) (rf (ref)) (.slice none 0 0) (.slice none 0 0)) (l := pkT (kind) (num) (rf (ref)) (.slice none 0 0) (.slice none 0 0)) ty30 rfl rfl rfl rfl rfl (pkT_ok rfl rfl) (pkT_s ..) ?_)
    refine JL_nil ?_
    refine J_seq ?_
    refine J_region ?_
    refine JL_pure (v := .pointer (some ⟨b2, 34, none⟩)) rfl (fa30_3 rfl rfl) ?_
    refine JL_run rfl (Pu_load1 ty27 rfl (At.bx 2 rfl) (pkT_34 ..) ?_)
    obtain ⟨a27, cap27, hv27⟩ := hks.sl
    have hle27 := hks.le
    refine JL_pure (v := .int .i64 (((kids).length : Int))) rfl (Pu.lenSl Try.runUnderlying27 hv27) ?_
    refine JL_run rfl (Runs_makeO ((kids).length) Try.runUnderlying27 el30 rfl rfl rfl rfl (by omega) (by omega) fun v28 k28 ho28 => ?_)
    refine JL_pure (v := .pointer (some ⟨(pblk (r14 10)), 34, none⟩)) rfl (fa30_3 rfl rfl) ?_
    refine JL_run rfl (Runs_storeB 1 (vs := [v28]) (l := pkT (kind) (num) (rf (ref)) (v28) (.slice none 0 0)) ty27 rfl rfl rfl (cells_one ho28.one) rfl (okc_cons ho28.one okc_nil) (pkT_s34 ..) ?_)
    refine JL_nil ?_
    refine J_seq ?_
    refine J_region ?_
    refine JL_pure (v := .pointer (some ⟨(pblk (r14 10)), 34, none⟩)) rfl (fa30_3 rfl rfl) ?_
    refine JL_run rfl (Pu_load1 ty27 rfl (At.bx 1 rfl) (pkT_34 ..) ?_)
    refine JL_pure (v := .pointer (some ⟨b2, 34, none⟩)) rfl (fa30_3 rfl rfl) ?_
    refine JL_run rfl (Pu_load1 ty27 rfl (At.bx 3 rfl) (pkT_34 ..) ?_)
    obtain ⟨es29, he29, hH29, hl29, hok29, hsr29⟩ := kids_src (P := Try.prog) hks
    refine JL_run rfl (Runs_copy (i := 0) (n := (kids).length) (m := (kids).length) (es' := es29) Try.runUnderlying27 el30 rfl rfl rfl ho28 (fun F w m => hsr29 w _ m) he29 (by simp) hl29 hok29 rfl fun kc29 hc29 => ?_)
    refine JL_nil ?_
    refine J_seq ?_
    refine J_seq ?_
    refine J_region ?_
    refine JL_pure (v := .pointer (some ⟨(pblk (r14 10)), 34, none⟩)) rfl (fa30_3 rfl rfl) ?_
    refine JL_run rfl (Pu_load1 ty27 rfl (At.bx 1 rfl) (pkT_34 ..) ?_)
    obtain ⟨a30, cap30, hv30⟩ := hc29.sl
    rw [he29] at hv30
    refine JL_pure (v := .int .i64 (((kids).length : Int))) rfl (Pu.lenSl Try.runUnderlying27 hv30) ?_
    refine JL_pure (v := .int .i64 (0)) rfl (Pu.move rfl) ?_
    refine JL_nil ?_
    refine J_block ?_
    have hneg : ¬ (kind = 1 ∧ b ≤ num) := by intro hh; simp [hh.1, hh.2] at h12
    refine J_loop (fun k ρ M => ∃ (j : Nat) (es : List (List Value)) (k1 k2 : Chunk) (s1 : σ), ρ 2 = .int .i64 (b) ∧ ρ 3 = .pointer (some ⟨b1, 0, none⟩) ∧ ρ 4 = .pointer (some ⟨b2, 0, none⟩) ∧ ρ 6 = .pointer (some ⟨b3, 0, none⟩) ∧ ρ 7 = .pointer (some ⟨(pblk (r14 10)), 0, none⟩) ∧ ρ 50 = v28 ∧ ρ 51 = .int .i64 (((kids).length : Int)) ∧ ρ 52 = .int .i64 ((j : Int)) ∧ Sub [[((pblk (r14 10)), .cells ⟨pkT (kind) (num) (rf (ref)) (v28) (.slice none 0 0)⟩ 30 (0, 0))], k1, k2, Sc s1, [(b3, .cells ⟨pkT (0) (0) (zS) (.slice none 0 0) (.slice none 0 0)⟩ 30 (0, 0))], [(b2, .cells ⟨pkT (kind) (num) (ref) (ks) (cv)⟩ 30 (0, 0))], [(b1, .cells ⟨[.func (.func gv) ⟨fvs⟩ ⟨cvs⟩, .func (.func gr) ⟨frs⟩ ⟨crs⟩]⟩ 60 (0, 0))]] M ∧ j ≤ (kids).length ∧ Own 30 36 v28 es k1 ∧ Half H kids (mapTs rf vf b kind 0 (kids.take j) s).1 j es k2 ∧ Inv s1 ∧ (mapTs rf vf b kind 0 (kids.take j) s).2 = s1 ∧ k = (kids).length - j) _ ⟨0, es29, kc29, [], s, rfl, rfl, rfl, rfl, rfl, rfl, rfl, rfl, (Sub.cons 1 rfl (Sk (Sub.emp (Sub.cons 3 rfl (Sk (Sk (Sk Sub.nil))))))), Nat.zero_le _, hc29, hH29, hs, rfl, rfl⟩ ?_
    rintro _ ρ31 _ ⟨j, es, k1, k2, s1, e32, e33, e34, e35, e36, e37, e38, e39, hm40, hj, ho, hH, hs1, hsq, rfl⟩
    obtain ⟨ρ41, rfl⟩ := reopen_ex (uc e32 (uc e33 (uc e34 (uc e35 (uc e36 (uc e37 (uc e38 (uc e39 un))))))))
    clear e32 e33 e34 e35 e36 e37 e38 e39
    refine J_sub hm40 ?_
    refine J_seq ?_
    refine J_region ?_
    refine JL_pure (v := .bool (decide ((j : Int) < ((kids).length : Int)))) rfl (Pu.lss rfl rfl) ?_
    refine JL_nil ?_
    refine J_seq ?_
    refine J_cond (b := decide ((j : Int) < ((kids).length : Int))) rfl (fun h42 => ?_) (fun h42 => ?_)
    ·skip
     replace h42 := dt h42
     have h42n : j < (kids).length := by omega
     have hz1 := sizeTs_mem _ (List.getElem_mem h42n)
     have hm1 := more_le kind j
     refine J_skip ?_
     refine J_seq ?_
     refine J_block ?_
     refine J_seq ?_
     refine J_region ?_
     refine JL_pure (v := .int .i64 ((j : Int))) rfl (Pu.move rfl) ?_
     obtain ⟨b43, cap43, row43, e43, hv43, hm43, hs43, hE43⟩ := hH.at ho h42n
     refine JL_pure (v := .pointer (some ⟨b43, 0 + j * 36, none⟩)) rfl (Pu.idx j Try.runUnderlying27 ty30 hv43 rfl rfl (by rw [hH.1]; exact h42n)) ?_
     refine JL_run rfl (Pu_load ty30 rfl (At.k 1 rfl hm43) hs43 ?_)
     refine JL_run rfl (Runs_alloc (l := pkT (0) (0) (zS) (.slice none 0 0) (.slice none 0 0)) Try.zeroValue30 rfl fun b44 => ?_)
     refine JL_pure (v := .int .i64 ((j : Int))) rfl (Pu.assign rfl) ?_
     refine JL_run rfl (Runs_storeB 0 (vs := e43) (l := e43) ty30 rfl rfl rfl rfl (RT_len hE43) (RT_ok hE43) (spl_a (n := 36) rfl (RT_len hE43)) ?_)
     refine JL_nil ?_
     refine J_draw mixed #[0, 1, 0, 0, 0, 0, 0, 64, 0, 448, 992, 2040, 4095, 8191] 12 11 4 rfl (by kernel_rfl) (fun i r45 N45 => match i with | 0 => (r45 0) = .pointer (some ⟨(pblk (r14 10)), 34, none⟩) | 1 => (r45 1) = v28 | 2 => (r45 2) = .int .i64 ((j : Int)) | 3 => (r45 3) = .agg ⟨[.func (.func gv) ⟨fvs⟩ ⟨cvs⟩, .func (.func gr) ⟨frs⟩ ⟨crs⟩]⟩ | 4 => (r45 4) = .agg ⟨e43⟩ | 5 => (r45 5) = .int .i64 (b) | 6 => (r45 6) = .pointer (some ⟨b2, 0, none⟩) | 7 => (r45 7) = .int .i64 (kind) | 8 => (r45 8) = .int .i64 ((j : Int)) | 9 => (r45 9) = .int .i64 (more (kind) ((j : Int))) | 10 => (r45 10) = .int .i64 (b + (more (kind) ((j : Int)))) | 11 => XT ((mapT rf vf (b + (more (kind) ((j : Int)))) ((kids)[j]) s1).1) (r45 11) (N45 11) (Sc ((mapT rf vf (b + (more (kind) ((j : Int)))) ((kids)[j]) s1).2)) | _ => True) ⟨?_, ?_, ?_, ?_, ?_, ?_, ?_, ?_, ?_, ?_, ?_, ?_, trivial⟩ ?_
     ·intro ρ r45 N45 B hB hBa hp hr hr0
      have q7 : ρ 7 = .pointer (some ⟨(pblk (r14 10)), 0, none⟩) := hr0 7 (by kernel_rfl)
      obtain ⟨ρ46, rfl⟩ := reopen_ex (uc q7 un)
      clear q7
      refine JL_pure (v := .pointer (some ⟨(pblk (r14 10)), 34, none⟩)) rfl (fa30_3 rfl rfl) ?_
      refine JL_nil ?_
      exact ⟨.pointer (some ⟨(pblk (r14 10)), 34, none⟩), [], rfl, (Sub.emp Sub.refl), rfl⟩
     ·intro ρ r45 N45 B hB hBa hp hr hr0
      have q57 : ρ 57 = .pointer (some ⟨(pblk (r14 10)), 34, none⟩) := (hr 0 _ _ (by decide) rfl rfl rfl).trans (hp 0 (by decide) rfl)
      obtain ⟨ρ47, rfl⟩ := reopen_ex (uc q57 un)
      clear q57
      refine JL_run rfl (Pu_load1 ty27 rfl (At.bx 13 (made_old ((hB 1 (by decide)).trans rfl))) (pkT_34 ..) ?_)
      refine JL_nil ?_
      exact ⟨v28, [], rfl, (Sub.emp Sub.refl), rfl⟩
     ·intro ρ r45 N45 B hB hBa hp hr hr0
      have q8 : ρ 8 = .int .i64 ((j : Int)) := hr0 8 (by kernel_rfl)
      obtain ⟨ρ48, rfl⟩ := reopen_ex (uc q8 un)
      clear q8
      refine JL_pure (v := .int .i64 ((j : Int))) rfl (Pu.move rfl) ?_
      refine JL_nil ?_
      exact ⟨.int .i64 ((j : Int)), [], rfl, (Sub.emp Sub.refl), rfl⟩
     ·intro ρ r45 N45 B hB hBa hp hr hr0
      have q3 : ρ 3 = .pointer (some ⟨b1, 0, none⟩) := hr0 3 (by kernel_rfl)
      obtain ⟨ρ49, rfl⟩ := reopen_ex (uc q3 un)
      clear q3
      refine JL_run rfl (Pu_load ty60 rfl (At.bx 19 (made_old ((hB 7 (by decide)).trans rfl))) rfl ?_)
      refine JL_nil ?_
      exact ⟨.agg ⟨[.func (.func gv) ⟨fvs⟩ ⟨cvs⟩, .func (.func gr) ⟨frs⟩ ⟨crs⟩]⟩, [], rfl, (Sub.emp Sub.refl), rfl⟩
     ·intro ρ r45 N45 B hB hBa hp hr hr0
      have q9 : ρ 9 = .pointer (some ⟨b44, 0, none⟩) := hr0 9 (by kernel_rfl)
      obtain ⟨ρ50, rfl⟩ := reopen_ex (uc q9 un)
      clear q9
      refine JL_run rfl (Pu_load ty30 rfl (At.bx 12 (made_old ((hB 0 (by decide)).trans rfl))) (sub_a (RT_len hE43)) ?_)
      refine JL_nil ?_
      exact ⟨.agg ⟨e43⟩, [], rfl, (Sub.emp Sub.refl), rfl⟩
     ·intro ρ r45 N45 B hB hBa hp hr hr0
      have q2 : ρ 2 = .int .i64 (b) := hr0 2 (by kernel_rfl)
      obtain ⟨ρ51, rfl⟩ := reopen_ex (uc q2 un)
      clear q2
      refine JL_pure (v := .int .i64 (b)) rfl (Pu.move rfl) ?_
      refine JL_nil ?_
      exact ⟨.int .i64 (b), [], rfl, (Sub.emp Sub.refl), rfl⟩
     ·intro ρ r45 N45 B hB hBa hp hr hr0
      have q4 : ρ 4 = .pointer (some ⟨b2, 0, none⟩) := hr0 4 (by kernel_rfl)
      obtain ⟨ρ52, rfl⟩ := reopen_ex (uc q4 un)
      clear q4
      refine JL_pure (v := .pointer (some ⟨b2, 0, none⟩)) rfl (fa30_0 rfl rfl) ?_
      refine JL_nil ?_
      exact ⟨.pointer (some ⟨b2, 0, none⟩), [], rfl, (Sub.emp Sub.refl), rfl⟩
     ·intro ρ r45 N45 B hB hBa hp hr hr0
      have q63 : ρ 63 = .pointer (some ⟨b2, 0, none⟩) := (hr 6 _ _ (by decide) rfl rfl rfl).trans (hp 6 (by decide) rfl)
      obtain ⟨ρ53, rfl⟩ := reopen_ex (uc q63 un)
      clear q63
      refine JL_run rfl (Pu_load1 ty3 rfl (At.bx 18 (made_old ((hB 6 (by decide)).trans rfl))) (pkT_0 ..) ?_)
      refine JL_nil ?_
      exact ⟨.int .i64 (kind), [], rfl, (Sub.emp Sub.refl), rfl⟩
     ·intro ρ r45 N45 B hB hBa hp hr hr0
      have q8 : ρ 8 = .int .i64 ((j : Int)) := hr0 8 (by kernel_rfl)
      obtain ⟨ρ54, rfl⟩ := reopen_ex (uc q8 un)
      clear q8
      refine JL_pure (v := .int .i64 ((j : Int))) rfl (Pu.move rfl) ?_
      refine JL_nil ?_
      exact ⟨.int .i64 ((j : Int)), [], rfl, (Sub.emp Sub.refl), rfl⟩
     ·intro ρ r45 N45 B hB hBa hp hr hr0
      have q64 : ρ 64 = .int .i64 (kind) := (hr 7 _ _ (by decide) rfl rfl rfl).trans (hp 7 (by decide) rfl)
      have q65 : ρ 65 = .int .i64 ((j : Int)) := (hr 8 _ _ (by decide) rfl rfl rfl).trans (hp 8 (by decide) rfl)
      obtain ⟨ρ55, rfl⟩ := reopen_ex (uc q64 (uc q65 un))
      clear q64 q65
      refine JL_call rfl Try.call47 rfl (fun hin => more_ct _ _ _) rfl ?_
      rintro _ _ ⟨rfl, rfl⟩
      refine JL_nil ?_
      exact ⟨.int .i64 (more (kind) ((j : Int))), [], rfl, (Sub.emp Sub.refl), rfl⟩
     ·intro ρ r45 N45 B hB hBa hp hr hr0
      have q62 : ρ 62 = .int .i64 (b) := (hr 5 _ _ (by decide) rfl rfl rfl).trans (hp 5 (by decide) rfl)
      have q66 : ρ 66 = .int .i64 (more (kind) ((j : Int))) := (hr 9 _ _ (by decide) rfl rfl rfl).trans (hp 9 (by decide) rfl)
      obtain ⟨ρ56, rfl⟩ := reopen_ex (uc q62 (uc q66 un))
      clear q62 q66
      refine JL_pure (v := .int .i64 (b + (more (kind) ((j : Int))))) rfl (Pu.add64 rfl rfl (by first | omega | (constructor <;> omega))) ?_
      refine JL_nil ?_
      exact ⟨.int .i64 (b + (more (kind) ((j : Int)))), [], rfl, (Sub.emp Sub.refl), rfl⟩
     ·intro ρ r45 N45 B hB hBa hp hr hr0
      have q60 : ρ 60 = .agg ⟨[.func (.func gv) ⟨fvs⟩ ⟨cvs⟩, .func (.func gr) ⟨frs⟩ ⟨crs⟩]⟩ := (hr 3 _ _ (by decide) rfl rfl rfl).trans (hp 3 (by decide) rfl)
      have q61 : ρ 61 = .agg ⟨e43⟩ := (hr 4 _ _ (by decide) rfl rfl rfl).trans (hp 4 (by decide) rfl)
      have q67 : ρ 67 = .int .i64 (b + (more (kind) ((j : Int)))) := (hr 10 _ _ (by decide) rfl rfl rfl).trans (hp 10 (by decide) rfl)
      obtain ⟨ρ57, rfl⟩ := reopen_ex (uc q60 (uc q61 (uc q67 un)))
      clear q60 q61 q67
      obtain rfl := hBa rfl
      refine JL_sub (M' := [(N45 0), (N45 1), (N45 2), (N45 3), (N45 4), (N45 5), (N45 6), (N45 7), (N45 8), (N45 9), (N45 10), [], [(b44, .cells ⟨e43⟩ 30 (0, 0))], [((pblk (r14 10)), .cells ⟨pkT (kind) (num) (rf (ref)) (v28) (.slice none 0 0)⟩ 30 (0, 0))], k1, k2, Sc s1, [(b3, .cells ⟨pkT (0) (0) (zS) (.slice none 0 0) (.slice none 0 0)⟩ 30 (0, 0))], [(b2, .cells ⟨pkT (kind) (num) (ref) (ks) (cv)⟩ 30 (0, 0))], [(b1, .cells ⟨[.func (.func gv) ⟨fvs⟩ ⟨cvs⟩, .func (.func gr) ⟨frs⟩ ⟨crs⟩]⟩ 60 (0, 0))]]) Sub.refl ?_
      refine JL_call1 16 rfl Try.call26 rfl rfl (fun hin => ih _ (List.getElem_mem h42n) _ _ _ _ (RT.mono (Hle.hu _ _) hE43) (by omega) (vOKs_mem hv.2.1 _ (List.getElem_mem h42n)) (by omega) (by omega) hs1 (fun s h hh => hgr s h (Hle.trans (Hle.hu _ _) hh)) (fun n b s h hh => hgv n b s h (Hle.trans (Hle.hu _ _) hh))) rfl ?_
      rintro _ _ ⟨cs58, k58, rfl, rfl, hO58⟩
      refine JL_nil ?_
      exact ⟨.agg ⟨cs58⟩, (k58) ++ (Sc ((mapT rf vf (b + (more (kind) ((j : Int)))) ((kids)[j]) s1).2)), rfl, (Sub_setX (p := 4) rfl), ⟨k58, rfl, rfl, hO58⟩⟩
     ·intro ρ r45 N45 hp hr hr0
      have p11 : XT ((mapT rf vf (b + (more (kind) ((j : Int)))) ((kids)[j]) s1).1) (r45 11) (N45 11) (Sc ((mapT rf vf (b + (more (kind) ((j : Int)))) ((kids)[j]) s1).2)) := hp 11 (by decide)
      have q2 : ρ 2 = .int .i64 (b) := hr0 2 (by kernel_rfl)
      have q3 : ρ 3 = .pointer (some ⟨b1, 0, none⟩) := hr0 3 (by kernel_rfl)
      have q4 : ρ 4 = .pointer (some ⟨b2, 0, none⟩) := hr0 4 (by kernel_rfl)
      have q6 : ρ 6 = .pointer (some ⟨b3, 0, none⟩) := hr0 6 (by kernel_rfl)
      have q7 : ρ 7 = .pointer (some ⟨(pblk (r14 10)), 0, none⟩) := hr0 7 (by kernel_rfl)
      have q50 : ρ 50 = v28 := hr0 50 (by kernel_rfl)
      have q51 : ρ 51 = .int .i64 (((kids).length : Int)) := hr0 51 (by kernel_rfl)
      have q52 : ρ 52 = .int .i64 ((j : Int)) := hr0 52 (by kernel_rfl)
      have q58 : ρ 58 = v28 := (hr 1 _ _ (by decide) rfl rfl).trans (hp 1 (by decide))
      have q59 : ρ 59 = .int .i64 ((j : Int)) := (hr 2 _ _ (by decide) rfl rfl).trans (hp 2 (by decide))
      have q68 : ρ 68 = .agg ⟨(cel (r45 11))⟩ := (hr 11 _ _ (by decide) rfl rfl).trans p11.v
      obtain ⟨ρ59, rfl⟩ := reopen_ex (uc q2 (uc q3 (uc q4 (uc q6 (uc q7 (uc q50 (uc q51 (uc q52 (uc q58 (uc q59 (uc q68 un)))))))))))
      clear q2 q3 q4 q6 q7 q50 q51 q52 q58 q59 q68
      have p45_11 := p11
      clear hp hr hr0 p11
      obtain ⟨kT45, hv45, hN45, hO45⟩ := id p45_11
      refine JL_sub (M' := [(N45 0), (N45 1), (N45 2), (N45 3), (N45 4), (N45 5), (N45 6), (N45 7), (N45 8), (N45 9), (N45 10), [], [(b44, .cells ⟨e43⟩ 30 (0, 0))], [((pblk (r14 10)), .cells ⟨pkT (kind) (num) (rf (ref)) (v28) (.slice none 0 0)⟩ 30 (0, 0))], k1, k2, (N45 11), [(b3, .cells ⟨pkT (0) (0) (zS) (.slice none 0 0) (.slice none 0 0)⟩ 30 (0, 0))], [(b2, .cells ⟨pkT (kind) (num) (ref) (ks) (cv)⟩ 30 (0, 0))], [(b1, .cells ⟨[.func (.func gv) ⟨fvs⟩ ⟨cvs⟩, .func (.func gr) ⟨frs⟩ ⟨crs⟩]⟩ 60 (0, 0))]]) Sub.refl ?_
      refine JL_sub (M' := [(N45 11), [(b44, .cells ⟨e43⟩ 30 (0, 0))], [((pblk (r14 10)), .cells ⟨pkT (kind) (num) (rf (ref)) (v28) (.slice none 0 0)⟩ 30 (0, 0))], k1, k2, [(b3, .cells ⟨pkT (0) (0) (zS) (.slice none 0 0) (.slice none 0 0)⟩ 30 (0, 0))], [(b2, .cells ⟨pkT (kind) (num) (ref) (ks) (cv)⟩ 30 (0, 0))], [(b1, .cells ⟨[.func (.func gv) ⟨fvs⟩ ⟨cvs⟩, .func (.func gr) ⟨frs⟩ ⟨crs⟩]⟩ 60 (0, 0))]]) (Sd (Sd (Sd (Sd (Sd (Sd (Sd (Sd (Sd (Sd (Sd (Sd (Sub.cons 4 rfl (Sk (Sk (Sk (Sk (Sk (Sk (Sk Sub.nil)))))))))))))))))))) ?_
      refine JL_sub (M' := [kT45, Sc ((mapT rf vf (b + (more (kind) ((j : Int)))) ((kids)[j]) s1).2), [(b44, .cells ⟨e43⟩ 30 (0, 0))], [((pblk (r14 10)), .cells ⟨pkT (kind) (num) (rf (ref)) (v28) (.slice none 0 0)⟩ 30 (0, 0))], k1, k2, [(b3, .cells ⟨pkT (0) (0) (zS) (.slice none 0 0) (.slice none 0 0)⟩ 30 (0, 0))], [(b2, .cells ⟨pkT (kind) (num) (ref) (ks) (cv)⟩ 30 (0, 0))], [(b1, .cells ⟨[.func (.func gv) ⟨fvs⟩ ⟨cvs⟩, .func (.func gr) ⟨frs⟩ ⟨crs⟩]⟩ 60 (0, 0))]]) (Sub.split (Sub.cons 0 (congrArg some hN45) Sub.refl)) ?_
      show JL _ _ _ [_, _] _ _ _
      obtain ⟨b60, cap60, row60, e60, hv60, hm60, hs60, hE60⟩ := hH.at ho h42n
      refine JL_pure (v := .pointer (some ⟨b60, 0 + j * 36, none⟩)) rfl (Pu.idx j Try.runUnderlying27 ty30 hv60 rfl rfl (by rw [hH.1]; exact h42n)) ?_
      refine JL_run rfl (Runs_storeOwn (i := 4) (j := j) (b := b60) ty30 rfl ho ⟨_, _, hv60⟩ rfl (by rw [hH.1]; exact h42n) rfl rfl p45_11.len p45_11.ok fun k61 ho61 => ?_)
      refine JL_nil ?_
      refine J_region ?_
      refine JL_pure (v := .int .i64 (((j + 1 : Nat) : Int))) rfl (Pu.inc rfl rfl (by omega)) ?_
      refine JL_pure (v := .int .i64 (((j + 1 : Nat) : Int))) rfl (Pu.move rfl) ?_
      refine JL_nil ?_
      refine ⟨_, ?_, (j + 1), (es.set j ((cel (r45 11)))), (k61), (k2 ++ kT45), ((mapT rf vf (b + (more (kind) ((j : Int)))) ((kids)[j]) s1).2), rfl, rfl, rfl, rfl, rfl, rfl, rfl, rfl, (Sub.cons 3 rfl (Sub.cons 3 rfl (Sub.join (Sub.cons 3 rfl (Sk (Sk (Sd (Sk (Sk (Sk Sub.nil)))))))))), ?_, ?_, ?_, ?_, ?_, rfl⟩
      ·omega
      ·omega
      ·exact ho61
      ·rw [mapTs_take0 rf vf b kind kids j s h42n, hsq]; exact hH.step h42n hO45
      ·exact mapT_inv hI _ _ _ hs1
      ·rw [mapTs_take0 rf vf b kind kids j s h42n, hsq]
    ·skip
     replace h42 := df h42
     have h42n : (kids).length ≤ j := by omega
     refine J_exit _ rfl ?_
     refine J_seq ?_
     refine J_seq ?_
     refine J_region ?_
     refine JL_pure (v := .pointer (some ⟨b2, 35, none⟩)) rfl (fa30_4 rfl rfl) ?_
     refine JL_run rfl (Pu_load1 ty28 rfl (At.bx 5 rfl) (pkT_35 ..) ?_)
     obtain ⟨a62, cap62, hv62⟩ := hcv.sl
     have hle62 := hcv.le
     refine JL_pure (v := .int .i64 (((cases).length : Int))) rfl (Pu.lenSl Try.runUnderlying28 hv62) ?_
     refine JL_pure (v := .int .i64 (0)) rfl (Pu.move rfl) ?_
     refine JL_nil ?_
     refine J_block ?_
     have hjk := h42n
     rw [List.take_of_length_le hjk] at hsq hH
     refine J_loop (fun k ρ M => ∃ (j : Nat) (w : Value) (es2 : List (List Value)) (k3 k4 : Chunk) (s2 : σ), ρ 2 = .int .i64 (b) ∧ ρ 3 = .pointer (some ⟨b1, 0, none⟩) ∧ ρ 6 = .pointer (some ⟨b3, 0, none⟩) ∧ ρ 7 = .pointer (some ⟨(pblk (r14 10)), 0, none⟩) ∧ ρ 72 = cv ∧ ρ 73 = .int .i64 (((cases).length : Int)) ∧ ρ 74 = .int .i64 ((j : Int)) ∧ Sub [[((pblk (r14 10)), .cells ⟨pkT (kind) (num) (rf (ref)) (v28) (w)⟩ 30 (0, 0))], k3, k4, Sc s2, k1, k2, [(b3, .cells ⟨pkT (0) (0) (zS) (.slice none 0 0) (.slice none 0 0)⟩ 30 (0, 0))], [(b2, .cells ⟨pkT (kind) (num) (ref) (ks) (cv)⟩ 30 (0, 0))], [(b1, .cells ⟨[.func (.func gv) ⟨fvs⟩ ⟨cvs⟩, .func (.func gr) ⟨frs⟩ ⟨crs⟩]⟩ 60 (0, 0))]] M ∧ j ≤ (cases).length ∧ Own 68 71 w es2 k3 ∧ OCs (mapCs rf vf b (cases.take j) s1).1 es2 k4 ∧ Inv s2 ∧ (mapCs rf vf b (cases.take j) s1).2 = s2 ∧ k = (cases).length - j) _ ⟨0, (.slice none 0 0), [], [], [], s1, rfl, rfl, rfl, rfl, rfl, rfl, rfl, (Sk (Sub.emp (Sub.emp (Sub.cons 2 rfl (Sk (Sk (Sk (Sk (Sk Sub.nil))))))))), Nat.zero_le _, Own.nil, OCs.nil, hs1, rfl, rfl⟩ ?_
     rintro _ ρ63 _ ⟨j, w, es2, k3, k4, s2, e64, e65, e66, e67, e68, e69, e70, hm71, hj, how, hopw, hs2, hsq2, rfl⟩
     obtain ⟨ρ72, rfl⟩ := reopen_ex (uc e64 (uc e65 (uc e66 (uc e67 (uc e68 (uc e69 (uc e70 un)))))))
     clear e64 e65 e66 e67 e68 e69 e70
     refine J_sub hm71 ?_
     refine J_seq ?_
     refine J_region ?_
     refine JL_pure (v := .bool (decide ((j : Int) < ((cases).length : Int)))) rfl (Pu.lss rfl rfl) ?_
     refine JL_nil ?_
     refine J_seq ?_
     refine J_cond (b := decide ((j : Int) < ((cases).length : Int))) rfl (fun h73 => ?_) (fun h73 => ?_)
     ·skip
      replace h73 := dt h73
      have h73n : j < (cases).length := by omega
      have helw := OCs_len hopw
      rw [mapCs_len, List.length_take] at helw
      have hz1 := sizeCs_mem _ (List.getElem_mem h73n)
      have hm1 := binds_le (cases[j]).1
      refine J_skip ?_
      refine J_seq ?_
      refine J_block ?_
      refine J_seq ?_
      refine J_region ?_
      obtain ⟨b74, o74, cap74, row74, T74, fr74, cs74, hv74, hb74, hs74, hE74⟩ := hcv.get j (by first | assumption | omega | decide | simp)
      obtain ⟨ca74, cb74, rfl, hA74, hB74⟩ := hE74
      refine JL_pure (v := .pointer (some ⟨b74, o74 + j * 71, none⟩)) rfl (Pu.idx j Try.runUnderlying28 ty68 hv74 rfl rfl (by first | assumption | omega | decide | simp)) ?_
      refine JL_run rfl (Pu_load ty68 rfl (At.im hb74) hs74 ?_)
      refine JL_run rfl (Runs_alloc (l := (pkP (0) (0) (zS) (.slice none 0 0)) ++ (pkT (0) (0) (zS) (.slice none 0 0) (.slice none 0 0))) Try.zeroValue68 rfl fun b75 => ?_)
      refine JL_run rfl (Runs_storeB 0 (vs := (ca74) ++ (cb74)) (l := (ca74) ++ (cb74)) ty68 rfl rfl rfl rfl (len_app (RP_len hA74) (RT_len hB74)) (okc_app (RP_ok hA74) (RT_ok hB74)) (spl_a (n := 71) rfl (len_app (RP_len hA74) (RT_len hB74))) ?_)
      refine JL_nil ?_
      refine J_draw mixed #[0, 1, 0, 0, 8, 28, 0, 0, 128, 0, 0, 1024, 3132, 7740, 16380, 32764, 65532, 131071, 262143, 524287] 17 14 4 rfl (by kernel_rfl) (fun i r76 N76 => match i with | 0 => (r76 0) = .pointer (some ⟨(pblk (r14 10)), 35, none⟩) | 1 => (r76 1) = w | 2 => (r76 2) = .agg ⟨[.func (.func gv) ⟨fvs⟩ ⟨cvs⟩, .func (.func gr) ⟨frs⟩ ⟨crs⟩]⟩ | 3 => (r76 3) = .pointer (some ⟨b75, 0, none⟩) | 4 => (r76 4) = .agg ⟨ca74⟩ | 5 => (r76 5) = .agg ⟨(cel (r76 5))⟩ ∧ OP (mapP rf ((cases)[j].1)) (cel (r76 5)) (N76 5) | 6 => (r76 6) = .agg ⟨[.func (.func gv) ⟨fvs⟩ ⟨cvs⟩, .func (.func gr) ⟨frs⟩ ⟨crs⟩]⟩ | 7 => (r76 7) = .pointer (some ⟨b75, 35, none⟩) | 8 => (r76 8) = .agg ⟨cb74⟩ | 9 => (r76 9) = .int .i64 (b) | 10 => (r76 10) = .pointer (some ⟨b75, 0, none⟩) | 11 => (r76 11) = .agg ⟨ca74⟩ | 12 => (r76 12) = .int .i64 ((binds ((cases)[j].1) : Int)) | 13 => (r76 13) = .int .i64 (b + ((binds ((cases)[j].1) : Int))) | 14 => XT ((mapT rf vf (b + ((binds ((cases)[j].1) : Int))) ((cases)[j].2) s2).1) (r76 14) (N76 14) (Sc ((mapT rf vf (b + ((binds ((cases)[j].1) : Int))) ((cases)[j].2) s2).2)) | 15 => (r76 15) = .agg ⟨((cel (r76 5))) ++ ((cel (r76 14)))⟩ | 16 => (r76 16) = .slice (some ⟨(sblk (r76 16)), 0, none⟩) 1 1 ∧ (N76 16) = [(sblk (r76 16), .cells ⟨List.flatten [((cel (r76 5))) ++ ((cel (r76 14)))]⟩ 68 (0, 0))] ∧ Own 68 71 (.slice (some ⟨(sblk (r76 16)), 0, none⟩) 1 1) [((cel (r76 5))) ++ ((cel (r76 14)))] (N76 16) | _ => True) ⟨?_, ?_, ?_, ?_, ?_, ?_, ?_, ?_, ?_, ?_, ?_, ?_, ?_, ?_, ?_, ?_, ?_, trivial⟩ ?_
      ·intro ρ r76 N76 B hB hBa hp hr hr0
       have q7 : ρ 7 = .pointer (some ⟨(pblk (r14 10)), 0, none⟩) := hr0 7 (by kernel_rfl)
       obtain ⟨ρ77, rfl⟩ := reopen_ex (uc q7 un)
       clear q7
       refine JL_pure (v := .pointer (some ⟨(pblk (r14 10)), 35, none⟩)) rfl (fa30_4 rfl rfl) ?_
       refine JL_nil ?_
       exact ⟨.pointer (some ⟨(pblk (r14 10)), 35, none⟩), [], rfl, (Sub.emp Sub.refl), rfl⟩
      ·intro ρ r76 N76 B hB hBa hp hr hr0
       have q78 : ρ 78 = .pointer (some ⟨(pblk (r14 10)), 35, none⟩) := (hr 0 _ _ (by decide) rfl rfl rfl).trans (hp 0 (by decide) rfl)
       obtain ⟨ρ78, rfl⟩ := reopen_ex (uc q78 un)
       clear q78
       refine JL_run rfl (Pu_load1 ty28 rfl (At.bx 18 (made_old ((hB 1 (by decide)).trans rfl))) (pkT_35 ..) ?_)
       refine JL_nil ?_
       exact ⟨w, [], rfl, (Sub.emp Sub.refl), rfl⟩
      ·intro ρ r76 N76 B hB hBa hp hr hr0
       have q3 : ρ 3 = .pointer (some ⟨b1, 0, none⟩) := hr0 3 (by kernel_rfl)
       obtain ⟨ρ79, rfl⟩ := reopen_ex (uc q3 un)
       clear q3
       refine JL_run rfl (Pu_load ty60 rfl (At.bx 26 (made_old ((hB 9 (by decide)).trans rfl))) rfl ?_)
       refine JL_nil ?_
       exact ⟨.agg ⟨[.func (.func gv) ⟨fvs⟩ ⟨cvs⟩, .func (.func gr) ⟨frs⟩ ⟨crs⟩]⟩, [], rfl, (Sub.emp Sub.refl), rfl⟩
      ·intro ρ r76 N76 B hB hBa hp hr hr0
       have q11 : ρ 11 = .pointer (some ⟨b75, 0, none⟩) := hr0 11 (by kernel_rfl)
       obtain ⟨ρ80, rfl⟩ := reopen_ex (uc q11 un)
       clear q11
       refine JL_pure (v := .pointer (some ⟨b75, 0, none⟩)) rfl (fa68_0 rfl rfl) ?_
       refine JL_nil ?_
       exact ⟨.pointer (some ⟨b75, 0, none⟩), [], rfl, (Sub.emp Sub.refl), rfl⟩
      ·intro ρ r76 N76 B hB hBa hp hr hr0
       have q81 : ρ 81 = .pointer (some ⟨b75, 0, none⟩) := (hr 3 _ _ (by decide) rfl rfl rfl).trans (hp 3 (by decide) rfl)
       obtain ⟨ρ81, rfl⟩ := reopen_ex (uc q81 un)
       clear q81
       refine JL_run rfl (Pu_load ty66 rfl (At.bx 17 (made_old ((hB 0 (by decide)).trans rfl))) (sub_l (RP_len hA74)) ?_)
       refine JL_nil ?_
       exact ⟨.agg ⟨ca74⟩, [], rfl, (Sub.emp Sub.refl), rfl⟩
      ·intro ρ r76 N76 B hB hBa hp hr hr0
       have q80 : ρ 80 = .agg ⟨[.func (.func gv) ⟨fvs⟩ ⟨cvs⟩, .func (.func gr) ⟨frs⟩ ⟨crs⟩]⟩ := (hr 2 _ _ (by decide) rfl rfl rfl).trans (hp 2 (by decide) rfl)
       have q82 : ρ 82 = .agg ⟨ca74⟩ := (hr 4 _ _ (by decide) rfl rfl rfl).trans (hp 4 (by decide) rfl)
       obtain ⟨ρ82, rfl⟩ := reopen_ex (uc q80 (uc q82 un))
       clear q80 q82
       refine JL_call rfl Try.call48 rfl (fun hin => mapPattern_ct gr frs crs hcallr rf _ rfl _ _ _ (RP.mono (Hle.hu _ _) hA74) (fun s h hh => hgr s h (Hle.trans (Hle.hu _ _) hh)) (by omega)) rfl ?_
       rintro _ _ ⟨cs83, k83, rfl, rfl, hO83⟩
       refine JL_nil ?_
       exact ⟨.agg ⟨cs83⟩, k83, rfl, Sub.refl, ⟨rfl, hO83⟩⟩
      ·intro ρ r76 N76 B hB hBa hp hr hr0
       have q3 : ρ 3 = .pointer (some ⟨b1, 0, none⟩) := hr0 3 (by kernel_rfl)
       obtain ⟨ρ84, rfl⟩ := reopen_ex (uc q3 un)
       clear q3
       refine JL_run rfl (Pu_load ty60 rfl (At.bx 26 (made_old ((hB 9 (by decide)).trans rfl))) rfl ?_)
       refine JL_nil ?_
       exact ⟨.agg ⟨[.func (.func gv) ⟨fvs⟩ ⟨cvs⟩, .func (.func gr) ⟨frs⟩ ⟨crs⟩]⟩, [], rfl, (Sub.emp Sub.refl), rfl⟩
      ·intro ρ r76 N76 B hB hBa hp hr hr0
       have q11 : ρ 11 = .pointer (some ⟨b75, 0, none⟩) := hr0 11 (by kernel_rfl)
       obtain ⟨ρ85, rfl⟩ := reopen_ex (uc q11 un)
       clear q11
       refine JL_pure (v := .pointer (some ⟨b75, 35, none⟩)) rfl (fa68_1 rfl rfl) ?_
       refine JL_nil ?_
       exact ⟨.pointer (some ⟨b75, 35, none⟩), [], rfl, (Sub.emp Sub.refl), rfl⟩
      ·intro ρ r76 N76 B hB hBa hp hr hr0
       have q85 : ρ 85 = .pointer (some ⟨b75, 35, none⟩) := (hr 7 _ _ (by decide) rfl rfl rfl).trans (hp 7 (by decide) rfl)
       obtain ⟨ρ86, rfl⟩ := reopen_ex (uc q85 un)
       clear q85
       refine JL_run rfl (Pu_load ty30 rfl (At.bx 17 (made_old ((hB 0 (by decide)).trans rfl))) (sub_r (RP_len hA74) (RT_len hB74)) ?_)
       refine JL_nil ?_
       exact ⟨.agg ⟨cb74⟩, [], rfl, (Sub.emp Sub.refl), rfl⟩
      ·intro ρ r76 N76 B hB hBa hp hr hr0
       have q2 : ρ 2 = .int .i64 (b) := hr0 2 (by kernel_rfl)
       obtain ⟨ρ87, rfl⟩ := reopen_ex (uc q2 un)
       clear q2
       refine JL_pure (v := .int .i64 (b)) rfl (Pu.move rfl) ?_
       refine JL_nil ?_
       exact ⟨.int .i64 (b), [], rfl, (Sub.emp Sub.refl), rfl⟩
      ·intro ρ r76 N76 B hB hBa hp hr hr0
       have q11 : ρ 11 = .pointer (some ⟨b75, 0, none⟩) := hr0 11 (by kernel_rfl)
       obtain ⟨ρ88, rfl⟩ := reopen_ex (uc q11 un)
       clear q11
       refine JL_pure (v := .pointer (some ⟨b75, 0, none⟩)) rfl (fa68_0 rfl rfl) ?_
       refine JL_nil ?_
       exact ⟨.pointer (some ⟨b75, 0, none⟩), [], rfl, (Sub.emp Sub.refl), rfl⟩
      ·intro ρ r76 N76 B hB hBa hp hr hr0
       have q88 : ρ 88 = .pointer (some ⟨b75, 0, none⟩) := (hr 10 _ _ (by decide) rfl rfl rfl).trans (hp 10 (by decide) rfl)
       obtain ⟨ρ89, rfl⟩ := reopen_ex (uc q88 un)
       clear q88
       refine JL_run rfl (Pu_load ty66 rfl (At.bx 17 (made_old ((hB 0 (by decide)).trans rfl))) (sub_l (RP_len hA74)) ?_)
       refine JL_nil ?_
       exact ⟨.agg ⟨ca74⟩, [], rfl, (Sub.emp Sub.refl), rfl⟩
      ·intro ρ r76 N76 B hB hBa hp hr hr0
       have q89 : ρ 89 = .agg ⟨ca74⟩ := (hr 11 _ _ (by decide) rfl rfl rfl).trans (hp 11 (by decide) rfl)
       obtain ⟨ρ90, rfl⟩ := reopen_ex (uc q89 un)
       clear q89
       refine JL_call rfl Try.call49 rfl (fun hin => binds_ct _ _ _ (RP.mono (Hle.hu _ _) hA74) (by omega)) rfl ?_
       rintro _ _ ⟨rfl, rfl⟩
       refine JL_nil ?_
       exact ⟨.int .i64 ((binds ((cases)[j].1) : Int)), [], rfl, (Sub.emp Sub.refl), rfl⟩
      ·intro ρ r76 N76 B hB hBa hp hr hr0
       have q87 : ρ 87 = .int .i64 (b) := (hr 9 _ _ (by decide) rfl rfl rfl).trans (hp 9 (by decide) rfl)
       have q90 : ρ 90 = .int .i64 ((binds ((cases)[j].1) : Int)) := (hr 12 _ _ (by decide) rfl rfl rfl).trans (hp 12 (by decide) rfl)
       obtain ⟨ρ91, rfl⟩ := reopen_ex (uc q87 (uc q90 un))
       clear q87 q90
       refine JL_pure (v := .int .i64 (b + ((binds ((cases)[j].1) : Int)))) rfl (Pu.add64 rfl rfl (by first | omega | (constructor <;> omega))) ?_
       refine JL_nil ?_
       exact ⟨.int .i64 (b + ((binds ((cases)[j].1) : Int))), [], rfl, (Sub.emp Sub.refl), rfl⟩
      ·intro ρ r76 N76 B hB hBa hp hr hr0
       have q84 : ρ 84 = .agg ⟨[.func (.func gv) ⟨fvs⟩ ⟨cvs⟩, .func (.func gr) ⟨frs⟩ ⟨crs⟩]⟩ := (hr 6 _ _ (by decide) rfl rfl rfl).trans (hp 6 (by decide) rfl)
       have q86 : ρ 86 = .agg ⟨cb74⟩ := (hr 8 _ _ (by decide) rfl rfl rfl).trans (hp 8 (by decide) rfl)
       have q91 : ρ 91 = .int .i64 (b + ((binds ((cases)[j].1) : Int))) := (hr 13 _ _ (by decide) rfl rfl rfl).trans (hp 13 (by decide) rfl)
       obtain ⟨ρ92, rfl⟩ := reopen_ex (uc q84 (uc q86 (uc q91 un)))
       clear q84 q86 q91
       obtain rfl := hBa rfl
       refine JL_sub (M' := [(N76 0), (N76 1), (N76 2), (N76 3), (N76 4), (N76 5), (N76 6), (N76 7), (N76 8), (N76 9), (N76 10), (N76 11), (N76 12), (N76 13), [], (N76 15), (N76 16), [(b75, .cells ⟨(ca74) ++ (cb74)⟩ 68 (0, 0))], [((pblk (r14 10)), .cells ⟨pkT (kind) (num) (rf (ref)) (v28) (w)⟩ 30 (0, 0))], k3, k4, Sc s2, k1, k2, [(b3, .cells ⟨pkT (0) (0) (zS) (.slice none 0 0) (.slice none 0 0)⟩ 30 (0, 0))], [(b2, .cells ⟨pkT (kind) (num) (ref) (ks) (cv)⟩ 30 (0, 0))], [(b1, .cells ⟨[.func (.func gv) ⟨fvs⟩ ⟨cvs⟩, .func (.func gr) ⟨frs⟩ ⟨crs⟩]⟩ 60 (0, 0))]]) Sub.refl ?_
       refine JL_call1 21 rfl Try.call26 rfl rfl (fun hin => ih' _ (List.getElem_mem h73n) _ _ _ _ (RT.mono (Hle.hu _ _) hB74) (by omega) (vOKc_mem hv.2.2 _ (List.getElem_mem h73n)) (by omega) (by omega) hs2 (fun s h hh => hgr s h (Hle.trans (Hle.hu _ _) hh)) (fun n b s h hh => hgv n b s h (Hle.trans (Hle.hu _ _) hh))) rfl ?_
       rintro _ _ ⟨cs93, k93, rfl, rfl, hO93⟩
       refine JL_nil ?_
       exact ⟨.agg ⟨cs93⟩, (k93) ++ (Sc ((mapT rf vf (b + ((binds ((cases)[j].1) : Int))) ((cases)[j].2) s2).2)), rfl, (Sub_setX (p := 4) rfl), ⟨k93, rfl, rfl, hO93⟩⟩
      ·intro ρ r76 N76 B hB hBa hp hr hr0
       have p5 : (r76 5) = .agg ⟨(cel (r76 5))⟩ ∧ OP (mapP rf ((cases)[j].1)) (cel (r76 5)) (N76 5) := hp 5 (by decide) rfl
       have p14 : XT ((mapT rf vf (b + ((binds ((cases)[j].1) : Int))) ((cases)[j].2) s2).1) (r76 14) (N76 14) (Sc ((mapT rf vf (b + ((binds ((cases)[j].1) : Int))) ((cases)[j].2) s2).2)) := hp 14 (by decide) rfl
       have q83 : ρ 83 = .agg ⟨(cel (r76 5))⟩ := (hr 5 _ _ (by decide) rfl rfl rfl).trans p5.1
       have q92 : ρ 92 = .agg ⟨(cel (r76 14))⟩ := (hr 14 _ _ (by decide) rfl rfl rfl).trans p14.v
       obtain ⟨ρ94, rfl⟩ := reopen_ex (uc q83 (uc q92 un))
       clear q83 q92
       refine JL_pure (v := .agg ⟨((cel (r76 5))) ++ ((cel (r76 14)))⟩) rfl (Pu.build (pv := [(0, .agg ⟨(cel (r76 5))⟩), (1, .agg ⟨(cel (r76 14))⟩)]) (l := ((cel (r76 5))) ++ ((cel (r76 14)))) rfl (bld68_0_1 p5.2.len p14.len)) ?_
       refine JL_nil ?_
       exact ⟨.agg ⟨((cel (r76 5))) ++ ((cel (r76 14)))⟩, [], rfl, (Sub.emp Sub.refl), rfl⟩
      ·intro ρ r76 N76 B hB hBa hp hr hr0
       have p5 : (r76 5) = .agg ⟨(cel (r76 5))⟩ ∧ OP (mapP rf ((cases)[j].1)) (cel (r76 5)) (N76 5) := hp 5 (by decide) rfl
       have p14 : XT ((mapT rf vf (b + ((binds ((cases)[j].1) : Int))) ((cases)[j].2) s2).1) (r76 14) (N76 14) (Sc ((mapT rf vf (b + ((binds ((cases)[j].1) : Int))) ((cases)[j].2) s2).2)) := hp 14 (by decide) rfl
       have q93 : ρ 93 = .agg ⟨((cel (r76 5))) ++ ((cel (r76 14)))⟩ := (hr 15 _ _ (by decide) rfl rfl rfl).trans (hp 15 (by decide) rfl)
       obtain ⟨ρ95, rfl⟩ := reopen_ex (uc q93 un)
       clear q93
       refine JL_run rfl (Runs_buildSlice (vs := [.agg ⟨((cel (r76 5))) ++ ((cel (r76 14)))⟩]) [((cel (r76 5))) ++ ((cel (r76 14)))] Try.runUnderlying28 el68 rfl rfl (by intro e he; simp only [List.mem_cons, List.not_mem_nil, or_false] at he; subst he; exact (len_app p5.2.len p14.len)) rfl (by decide) fun b96 k96 ho96 hk96 => ?_)
       refine JL_nil ?_
       exact ⟨.slice (some ⟨b96, 0, none⟩) 1 1, k96, rfl, Sub.refl, ⟨rfl, hk96, ho96⟩⟩
      ·intro ρ r76 N76 hp hr hr0
       have p5 : (r76 5) = .agg ⟨(cel (r76 5))⟩ ∧ OP (mapP rf ((cases)[j].1)) (cel (r76 5)) (N76 5) := hp 5 (by decide)
       have p14 : XT ((mapT rf vf (b + ((binds ((cases)[j].1) : Int))) ((cases)[j].2) s2).1) (r76 14) (N76 14) (Sc ((mapT rf vf (b + ((binds ((cases)[j].1) : Int))) ((cases)[j].2) s2).2)) := hp 14 (by decide)
       have p16 : (r76 16) = .slice (some ⟨(sblk (r76 16)), 0, none⟩) 1 1 ∧ (N76 16) = [(sblk (r76 16), .cells ⟨List.flatten [((cel (r76 5))) ++ ((cel (r76 14)))]⟩ 68 (0, 0))] ∧ Own 68 71 (.slice (some ⟨(sblk (r76 16)), 0, none⟩) 1 1) [((cel (r76 5))) ++ ((cel (r76 14)))] (N76 16) := hp 16 (by decide)
       have q2 : ρ 2 = .int .i64 (b) := hr0 2 (by kernel_rfl)
       have q3 : ρ 3 = .pointer (some ⟨b1, 0, none⟩) := hr0 3 (by kernel_rfl)
       have q6 : ρ 6 = .pointer (some ⟨b3, 0, none⟩) := hr0 6 (by kernel_rfl)
       have q7 : ρ 7 = .pointer (some ⟨(pblk (r14 10)), 0, none⟩) := hr0 7 (by kernel_rfl)
       have q72 : ρ 72 = cv := hr0 72 (by kernel_rfl)
       have q73 : ρ 73 = .int .i64 (((cases).length : Int)) := hr0 73 (by kernel_rfl)
       have q74 : ρ 74 = .int .i64 ((j : Int)) := hr0 74 (by kernel_rfl)
       have q79 : ρ 79 = w := (hr 1 _ _ (by decide) rfl rfl).trans (hp 1 (by decide))
       have q94 : ρ 94 = .slice (some ⟨(sblk (r76 16)), 0, none⟩) 1 1 := (hr 16 _ _ (by decide) rfl rfl).trans p16.1
       obtain ⟨ρ97, rfl⟩ := reopen_ex (uc q2 (uc q3 (uc q6 (uc q7 (uc q72 (uc q73 (uc q74 (uc q79 (uc q94 un)))))))))
       clear q2 q3 q6 q7 q72 q73 q74 q79 q94
       have p76_5 := p5; have p76_14 := p14; have p76_16 := p16
       clear hp hr hr0 p5 p14 p16
       obtain ⟨kT76, hv76, hN76, hO76⟩ := id p76_14
       refine JL_sub (M' := [(N76 0), (N76 1), (N76 2), (N76 3), (N76 4), (N76 5), (N76 6), (N76 7), (N76 8), (N76 9), (N76 10), (N76 11), (N76 12), (N76 13), [], (N76 15), (N76 16), [(b75, .cells ⟨(ca74) ++ (cb74)⟩ 68 (0, 0))], [((pblk (r14 10)), .cells ⟨pkT (kind) (num) (rf (ref)) (v28) (w)⟩ 30 (0, 0))], k3, k4, (N76 14), k1, k2, [(b3, .cells ⟨pkT (0) (0) (zS) (.slice none 0 0) (.slice none 0 0)⟩ 30 (0, 0))], [(b2, .cells ⟨pkT (kind) (num) (ref) (ks) (cv)⟩ 30 (0, 0))], [(b1, .cells ⟨[.func (.func gv) ⟨fvs⟩ ⟨cvs⟩, .func (.func gr) ⟨frs⟩ ⟨crs⟩]⟩ 60 (0, 0))]]) Sub.refl ?_
       refine JL_sub (M' := [(N76 14), (N76 5), (N76 16), [(b75, .cells ⟨(ca74) ++ (cb74)⟩ 68 (0, 0))], [((pblk (r14 10)), .cells ⟨pkT (kind) (num) (rf (ref)) (v28) (w)⟩ 30 (0, 0))], k3, k4, k1, k2, [(b3, .cells ⟨pkT (0) (0) (zS) (.slice none 0 0) (.slice none 0 0)⟩ 30 (0, 0))], [(b2, .cells ⟨pkT (kind) (num) (ref) (ks) (cv)⟩ 30 (0, 0))], [(b1, .cells ⟨[.func (.func gv) ⟨fvs⟩ ⟨cvs⟩, .func (.func gr) ⟨frs⟩ ⟨crs⟩]⟩ 60 (0, 0))]]) (Sd (Sd (Sd (Sd (Sd (Sub.cons 16 rfl (Sk (Sd (Sd (Sd (Sd (Sd (Sd (Sd (Sd (Sd (Sd (Sk (Sk (Sk (Sk (Sk (Sk (Sk (Sk (Sk (Sk Sub.nil))))))))))))))))))))))))))) ?_
       refine JL_sub (M' := [kT76, Sc ((mapT rf vf (b + ((binds ((cases)[j].1) : Int))) ((cases)[j].2) s2).2), (N76 5), (N76 16), [(b75, .cells ⟨(ca74) ++ (cb74)⟩ 68 (0, 0))], [((pblk (r14 10)), .cells ⟨pkT (kind) (num) (rf (ref)) (v28) (w)⟩ 30 (0, 0))], k3, k4, k1, k2, [(b3, .cells ⟨pkT (0) (0) (zS) (.slice none 0 0) (.slice none 0 0)⟩ 30 (0, 0))], [(b2, .cells ⟨pkT (kind) (num) (ref) (ks) (cv)⟩ 30 (0, 0))], [(b1, .cells ⟨[.func (.func gv) ⟨fvs⟩ ⟨cvs⟩, .func (.func gr) ⟨frs⟩ ⟨crs⟩]⟩ 60 (0, 0))]]) (Sub.split (Sub.cons 0 (congrArg some hN76) Sub.refl)) ?_
       show JL _ _ _ [_, _, _] _ _ _
       have hlens98 : ∀ e ∈ ([((cel (r76 5))) ++ ((cel (r76 14)))] : List (List Value)), List.length e = 71 := by
        intro e he; simp only [List.mem_cons, List.not_mem_nil, or_false] at he
        rcases he with rfl
        ·exact (len_app p76_5.2.len p76_14.len)
       have hoks98 : ∀ e ∈ ([((cel (r76 5))) ++ ((cel (r76 14)))] : List (List Value)), okc e := by
        intro e he; simp only [List.mem_cons, List.not_mem_nil, or_false] at he
        rcases he with rfl
        ·exact (okc_app p76_5.2.ok p76_14.ok)
       refine JL_run rfl (Runs_append (i := 6) (n := 1) (es' := [((cel (r76 5))) ++ ((cel (r76 14)))]) Try.runUnderlying28 Try.runUnderlying28 (Or.inl rfl) el68 rfl rfl rfl how (fun F w m => Src.row (((At.k 3 rfl (by rw [p76_16.2.1]; exact List.mem_cons_self))).heap m) (sub_a (flatten_len hlens98))) rfl hlens98 hoks98 (by decide) (by omega) fun v98 k98 ho98 => ?_)
       refine JL_pure (v := .pointer (some ⟨(pblk (r14 10)), 35, none⟩)) rfl (fa30_4 rfl rfl) ?_
       refine JL_run rfl (Runs_storeB 5 (vs := [v98]) (l := pkT (kind) (num) (rf (ref)) (v28) (v98)) ty28 rfl rfl rfl (cells_one ho98.one) rfl (okc_cons ho98.one okc_nil) (pkT_s35 ..) ?_)
       refine JL_nil ?_
       refine J_region ?_
       refine JL_pure (v := .int .i64 (((j + 1 : Nat) : Int))) rfl (Pu.inc rfl rfl (by omega)) ?_
       refine JL_pure (v := .int .i64 (((j + 1 : Nat) : Int))) rfl (Pu.move rfl) ?_
       refine JL_nil ?_
       refine ⟨_, ?_, (j + 1), (v98), (es2 ++ [((cel (r76 5))) ++ ((cel (r76 14)))]), (k98), ((k4) ++ (((N76 5)) ++ (kT76))), ((mapT rf vf (b + ((binds ((cases)[j].1) : Int))) ((cases)[j].2) s2).2), rfl, rfl, rfl, rfl, rfl, rfl, rfl, (Sub.cons 5 rfl (Sub.cons 5 rfl (Sub.join3 (Sub.cons 5 rfl (Sub.cons 2 rfl (Sk (Sk (Sd (Sd (Sk (Sk (Sk (Sk (Sk Sub.nil)))))))))))))), ?_, ?_, ?_, ?_, ?_, rfl⟩
       ·omega
       ·omega
       ·exact ho98
       ·rw [mapCs_take rf vf b cases j s1 h73n, hsq2]; exact OCs.snoc p76_5.2 hO76 hopw
       ·exact mapT_inv hI _ _ _ hs2
       ·rw [mapCs_take rf vf b cases j s1 h73n, hsq2]
     ·skip
      replace h73 := df h73
      have h73n : (cases).length ≤ j := by omega
      refine J_exit _ rfl ?_
      refine J_seq ?_
      refine J_region ?_
      refine JL_run rfl (Pu_load ty30 rfl (At.bx 0 rfl) (pkT_a ..) ?_)
      refine JL_run rfl (Runs_storeB 6 (vs := pkT (kind) (num) (rf (ref)) (v28) (w)) (l := pkT (kind) (num) (rf (ref)) (v28) (w)) ty30 rfl rfl rfl rfl rfl (pkT_ok ho.one how.one) (pkT_s ..) ?_)
      refine JL_nil ?_
      refine J_ret ?_
      refine ⟨.agg ⟨pkT (kind) (num) (rf (ref)) (v28) (w)⟩, [k1 ++ (k2 ++ (k3 ++ k4)), Sc s2], Ret.one rfl (RV.cell ty30 rfl (At.bx 6 rfl) (pkT_a ..)), (Sub.join4 (Sd (Sub.cons 3 rfl (Sub.cons 3 rfl (Sk (Sk (Sk Sub.nil))))))), ?_⟩
      rw [List.take_of_length_le h73n] at hopw hsq2
      exact ⟨_, _, rfl, by rw [mapT, if_neg hneg, hsq, hsq2], by rw [mapT, if_neg hneg, hsq]; exact OT_mk.2 ⟨_, w, es, es2, k1, k2, k3, k4, rfl, hk, hn, ho, hH.done hjk, how, hopw, rfl, by rw [mapTs_len]; exact hks.le, by rw [mapCs_len]; exact hcv.le⟩⟩
end Go.Proofs.Ytmdifonjepggcaa.Hs
/-! Walks, printed by a program of this session's own (gen.py). -/
namespace Go.Proofs.Ytmdifonjepggcaa.Hs
open Go Go.Proofs
set_option maxRecDepth 100000
set_option linter.unusedVariables false
set_option linter.unusedSimpArgs false
attribute [local irreducible] JL J CT wlo
theorem fields_ct (k : Int) (H : Heap) : CT Try.prog 89 ⟨[.int .i64 (k)]⟩ [] H (fun v N => v = .agg ⟨[.bool (fN k), .bool (fR k), .bool (fC k)]⟩ ∧ N = []) := by
 refine CT_enter Try.func89 rfl rfl ?_
 refine J_seq ?_
 refine J_region ?_
 refine JL_run rfl (Runs_alloc (l := [.bool (false), .bool (false), .bool (false)]) Try.zeroValue140 rfl fun b1 => ?_)
 refine JL_nil ?_
 refine J_seq ?_
 refine J_region ?_
 refine JL_run rfl (Runs_alloc (l := [.bool (false), .bool (false), .bool (false)]) Try.zeroValue140 rfl fun b2 => ?_)
 refine JL_nil ?_
 refine J_seq ?_
 refine J_seq ?_
 refine J_region ?_
 refine JL_pure (v := .int .i64 (k)) rfl (Pu.move rfl) ?_
 refine JL_nil ?_
 refine J_block ?_
 refine J_seq ?_
 refine J_seq ?_
 refine J_region ?_
 refine JL_pure (v := .bool (decide (k = 1))) rfl (Pu.eql rfl rfl) ?_
 refine JL_pure (v := .bool (decide (k = 1))) rfl (Pu.assign rfl) ?_
 refine JL_nil ?_
 refine J_cond (b := decide (k = 1)) rfl (fun h3 => ?_) (fun h3 => ?_)
 ·skip
  replace h3 := dt h3
  refine J_skip ?_
  refine J_cond (b := decide (k = 1)) rfl (fun _ => ?_) (fun h4 => absurd h3 (df h4))
  refine J_region ?_
  refine JL_pure (v := .pointer (some ⟨b2, 0, none⟩)) rfl (Pu.idxA 0 Try.runUnderlying140 ty4 rfl rfl (by decide) (by decide)) ?_
  refine JL_run rfl (Runs_storeB 0 (vs := [.bool (true)]) (l := [.bool (true), .bool (false), .bool (false)]) ty4 rfl rfl rfl rfl rfl (okc_cons rfl okc_nil) rfl ?_)
  refine JL_nil ?_
  refine J_seq ?_
  refine J_region ?_
  refine JL_run rfl (Pu_load ty140 rfl (At.bx 0 rfl) rfl ?_)
  refine JL_run rfl (Runs_storeB 1 (vs := [.bool (true), .bool (false), .bool (false)]) (l := [.bool (true), .bool (false), .bool (false)]) ty140 rfl rfl rfl rfl rfl (okc_cons rfl (okc_cons rfl (okc_cons rfl okc_nil))) rfl ?_)
  refine JL_nil ?_
  refine J_ret ?_
  refine ⟨.agg ⟨[.bool (true), .bool (false), .bool (false)]⟩, [], Ret.one rfl (RV.cell ty140 rfl (At.bx 1 rfl) rfl), Sub.nil, ?_⟩
  exact ⟨by simp_all [fN, fR, fC], rfl⟩
 ·skip
  replace h3 := df h3
  refine J_seq ?_
  refine J_region ?_
  refine JL_pure (v := .bool (decide (k = 2))) rfl (Pu.eql rfl rfl) ?_
  refine JL_pure (v := .bool (decide (k = 2))) rfl (Pu.assign rfl) ?_
  refine JL_nil ?_
  refine J_cond (b := decide (k = 2)) rfl (fun h5 => ?_) (fun h5 => ?_)
  ·skip
   replace h5 := dt h5
   refine J_skip ?_
   refine J_cond (b := decide (k = 2)) rfl (fun _ => ?_) (fun h6 => absurd h5 (df h6))
   refine J_region ?_
   refine JL_pure (v := .pointer (some ⟨b2, 0, none⟩)) rfl (Pu.idxA 0 Try.runUnderlying140 ty4 rfl rfl (by decide) (by decide)) ?_
   refine JL_run rfl (Runs_storeB 0 (vs := [.bool (true)]) (l := [.bool (true), .bool (false), .bool (false)]) ty4 rfl rfl rfl rfl rfl (okc_cons rfl okc_nil) rfl ?_)
   refine JL_nil ?_
   refine J_seq ?_
   refine J_region ?_
   refine JL_run rfl (Pu_load ty140 rfl (At.bx 0 rfl) rfl ?_)
   refine JL_run rfl (Runs_storeB 1 (vs := [.bool (true), .bool (false), .bool (false)]) (l := [.bool (true), .bool (false), .bool (false)]) ty140 rfl rfl rfl rfl rfl (okc_cons rfl (okc_cons rfl (okc_cons rfl okc_nil))) rfl ?_)
   refine JL_nil ?_
   refine J_ret ?_
   refine ⟨.agg ⟨[.bool (true), .bool (false), .bool (false)]⟩, [], Ret.one rfl (RV.cell ty140 rfl (At.bx 1 rfl) rfl), Sub.nil, ?_⟩
   exact ⟨by simp_all [fN, fR, fC], rfl⟩
  ·skip
   replace h5 := df h5
   refine J_seq ?_
   refine J_region ?_
   refine JL_pure (v := .bool (decide (k = 7))) rfl (Pu.eql rfl rfl) ?_
   refine JL_pure (v := .bool (decide (k = 7))) rfl (Pu.assign rfl) ?_
   refine JL_nil ?_
   refine J_cond (b := decide (k = 7)) rfl (fun h7 => ?_) (fun h7 => ?_)
   ·skip
    replace h7 := dt h7
    refine J_skip ?_
    refine J_cond (b := decide (k = 7)) rfl (fun _ => ?_) (fun h8 => absurd h7 (df h8))
    refine J_region ?_
    refine JL_pure (v := .pointer (some ⟨b2, 0, none⟩)) rfl (Pu.idxA 0 Try.runUnderlying140 ty4 rfl rfl (by decide) (by decide)) ?_
    refine JL_run rfl (Runs_storeB 0 (vs := [.bool (true)]) (l := [.bool (true), .bool (false), .bool (false)]) ty4 rfl rfl rfl rfl rfl (okc_cons rfl okc_nil) rfl ?_)
    refine JL_nil ?_
    refine J_seq ?_
    refine J_region ?_
    refine JL_run rfl (Pu_load ty140 rfl (At.bx 0 rfl) rfl ?_)
    refine JL_run rfl (Runs_storeB 1 (vs := [.bool (true), .bool (false), .bool (false)]) (l := [.bool (true), .bool (false), .bool (false)]) ty140 rfl rfl rfl rfl rfl (okc_cons rfl (okc_cons rfl (okc_cons rfl okc_nil))) rfl ?_)
    refine JL_nil ?_
    refine J_ret ?_
    refine ⟨.agg ⟨[.bool (true), .bool (false), .bool (false)]⟩, [], Ret.one rfl (RV.cell ty140 rfl (At.bx 1 rfl) rfl), Sub.nil, ?_⟩
    exact ⟨by simp_all [fN, fR, fC], rfl⟩
   ·skip
    replace h7 := df h7
    refine J_region ?_
    refine JL_pure (v := .bool (decide (k = 10))) rfl (Pu.eql rfl rfl) ?_
    refine JL_pure (v := .bool (decide (k = 10))) rfl (Pu.assign rfl) ?_
    refine JL_nil ?_
    refine J_cond (b := decide (k = 10)) rfl (fun h9 => ?_) (fun h9 => ?_)
    ·skip
     replace h9 := dt h9
     refine J_region ?_
     refine JL_pure (v := .pointer (some ⟨b2, 0, none⟩)) rfl (Pu.idxA 0 Try.runUnderlying140 ty4 rfl rfl (by decide) (by decide)) ?_
     refine JL_run rfl (Runs_storeB 0 (vs := [.bool (true)]) (l := [.bool (true), .bool (false), .bool (false)]) ty4 rfl rfl rfl rfl rfl (okc_cons rfl okc_nil) rfl ?_)
     refine JL_nil ?_
     refine J_seq ?_
     refine J_region ?_
     refine JL_run rfl (Pu_load ty140 rfl (At.bx 0 rfl) rfl ?_)
     refine JL_run rfl (Runs_storeB 1 (vs := [.bool (true), .bool (false), .bool (false)]) (l := [.bool (true), .bool (false), .bool (false)]) ty140 rfl rfl rfl rfl rfl (okc_cons rfl (okc_cons rfl (okc_cons rfl okc_nil))) rfl ?_)
     refine JL_nil ?_
     refine J_ret ?_
     refine ⟨.agg ⟨[.bool (true), .bool (false), .bool (false)]⟩, [], Ret.one rfl (RV.cell ty140 rfl (At.bx 1 rfl) rfl), Sub.nil, ?_⟩
     exact ⟨by simp_all [fN, fR, fC], rfl⟩
    ·skip
     replace h9 := df h9
     refine J_seq ?_
     refine J_seq ?_
     refine J_region ?_
     refine JL_pure (v := .bool (decide (k = 8))) rfl (Pu.eql rfl rfl) ?_
     refine JL_pure (v := .bool (decide (k = 8))) rfl (Pu.assign rfl) ?_
     refine JL_nil ?_
     refine J_cond (b := decide (k = 8)) rfl (fun h10 => ?_) (fun h10 => ?_)
     ·skip
      replace h10 := dt h10
      refine J_skip ?_
      refine J_cond (b := decide (k = 8)) rfl (fun _ => ?_) (fun h11 => absurd h10 (df h11))
      refine J_region ?_
      refine JL_pure (v := .pointer (some ⟨b2, 0, none⟩)) rfl (Pu.idxA 0 Try.runUnderlying140 ty4 rfl rfl (by decide) (by decide)) ?_
      refine JL_run rfl (Runs_storeB 0 (vs := [.bool (true)]) (l := [.bool (true), .bool (false), .bool (false)]) ty4 rfl rfl rfl rfl rfl (okc_cons rfl okc_nil) rfl ?_)
      refine JL_pure (v := .pointer (some ⟨b2, 1, none⟩)) rfl (Pu.idxA 1 Try.runUnderlying140 ty4 rfl rfl (by decide) (by decide)) ?_
      refine JL_run rfl (Runs_storeB 0 (vs := [.bool (true)]) (l := [.bool (true), .bool (true), .bool (false)]) ty4 rfl rfl rfl rfl rfl (okc_cons rfl okc_nil) rfl ?_)
      refine JL_nil ?_
      refine J_seq ?_
      refine J_region ?_
      refine JL_run rfl (Pu_load ty140 rfl (At.bx 0 rfl) rfl ?_)
      refine JL_run rfl (Runs_storeB 1 (vs := [.bool (true), .bool (true), .bool (false)]) (l := [.bool (true), .bool (true), .bool (false)]) ty140 rfl rfl rfl rfl rfl (okc_cons rfl (okc_cons rfl (okc_cons rfl okc_nil))) rfl ?_)
      refine JL_nil ?_
      refine J_ret ?_
      refine ⟨.agg ⟨[.bool (true), .bool (true), .bool (false)]⟩, [], Ret.one rfl (RV.cell ty140 rfl (At.bx 1 rfl) rfl), Sub.nil, ?_⟩
      exact ⟨by simp_all [fN, fR, fC], rfl⟩
     ·skip
      replace h10 := df h10
      refine J_region ?_
      refine JL_pure (v := .bool (decide (k = 11))) rfl (Pu.eql rfl rfl) ?_
      refine JL_pure (v := .bool (decide (k = 11))) rfl (Pu.assign rfl) ?_
      refine JL_nil ?_
      refine J_cond (b := decide (k = 11)) rfl (fun h12 => ?_) (fun h12 => ?_)
      ·skip
       replace h12 := dt h12
       refine J_region ?_
       refine JL_pure (v := .pointer (some ⟨b2, 0, none⟩)) rfl (Pu.idxA 0 Try.runUnderlying140 ty4 rfl rfl (by decide) (by decide)) ?_
       refine JL_run rfl (Runs_storeB 0 (vs := [.bool (true)]) (l := [.bool (true), .bool (false), .bool (false)]) ty4 rfl rfl rfl rfl rfl (okc_cons rfl okc_nil) rfl ?_)
       refine JL_pure (v := .pointer (some ⟨b2, 1, none⟩)) rfl (Pu.idxA 1 Try.runUnderlying140 ty4 rfl rfl (by decide) (by decide)) ?_
       refine JL_run rfl (Runs_storeB 0 (vs := [.bool (true)]) (l := [.bool (true), .bool (true), .bool (false)]) ty4 rfl rfl rfl rfl rfl (okc_cons rfl okc_nil) rfl ?_)
       refine JL_nil ?_
       refine J_seq ?_
       refine J_region ?_
       refine JL_run rfl (Pu_load ty140 rfl (At.bx 0 rfl) rfl ?_)
       refine JL_run rfl (Runs_storeB 1 (vs := [.bool (true), .bool (true), .bool (false)]) (l := [.bool (true), .bool (true), .bool (false)]) ty140 rfl rfl rfl rfl rfl (okc_cons rfl (okc_cons rfl (okc_cons rfl okc_nil))) rfl ?_)
       refine JL_nil ?_
       refine J_ret ?_
       refine ⟨.agg ⟨[.bool (true), .bool (true), .bool (false)]⟩, [], Ret.one rfl (RV.cell ty140 rfl (At.bx 1 rfl) rfl), Sub.nil, ?_⟩
       exact ⟨by simp_all [fN, fR, fC], rfl⟩
      ·skip
       replace h12 := df h12
       refine J_seq ?_
       refine J_seq ?_
       refine J_region ?_
       refine JL_pure (v := .bool (decide (k = 6))) rfl (Pu.eql rfl rfl) ?_
       refine JL_pure (v := .bool (decide (k = 6))) rfl (Pu.assign rfl) ?_
       refine JL_nil ?_
       refine J_cond (b := decide (k = 6)) rfl (fun h13 => ?_) (fun h13 => ?_)
       ·skip
        replace h13 := dt h13
        refine J_skip ?_
        refine J_cond (b := decide (k = 6)) rfl (fun _ => ?_) (fun h14 => absurd h13 (df h14))
        refine J_region ?_
        refine JL_pure (v := .pointer (some ⟨b2, 1, none⟩)) rfl (Pu.idxA 1 Try.runUnderlying140 ty4 rfl rfl (by decide) (by decide)) ?_
        refine JL_run rfl (Runs_storeB 0 (vs := [.bool (true)]) (l := [.bool (false), .bool (true), .bool (false)]) ty4 rfl rfl rfl rfl rfl (okc_cons rfl okc_nil) rfl ?_)
        refine JL_nil ?_
        refine J_seq ?_
        refine J_region ?_
        refine JL_run rfl (Pu_load ty140 rfl (At.bx 0 rfl) rfl ?_)
        refine JL_run rfl (Runs_storeB 1 (vs := [.bool (false), .bool (true), .bool (false)]) (l := [.bool (false), .bool (true), .bool (false)]) ty140 rfl rfl rfl rfl rfl (okc_cons rfl (okc_cons rfl (okc_cons rfl okc_nil))) rfl ?_)
        refine JL_nil ?_
        refine J_ret ?_
        refine ⟨.agg ⟨[.bool (false), .bool (true), .bool (false)]⟩, [], Ret.one rfl (RV.cell ty140 rfl (At.bx 1 rfl) rfl), Sub.nil, ?_⟩
        exact ⟨by simp_all [fN, fR, fC], rfl⟩
       ·skip
        replace h13 := df h13
        refine J_region ?_
        refine JL_pure (v := .bool (decide (k = 12))) rfl (Pu.eql rfl rfl) ?_
        refine JL_pure (v := .bool (decide (k = 12))) rfl (Pu.assign rfl) ?_
        refine JL_nil ?_
        refine J_cond (b := decide (k = 12)) rfl (fun h15 => ?_) (fun h15 => ?_)
        ·skip
         replace h15 := dt h15
         refine J_region ?_
         refine JL_pure (v := .pointer (some ⟨b2, 1, none⟩)) rfl (Pu.idxA 1 Try.runUnderlying140 ty4 rfl rfl (by decide) (by decide)) ?_
         refine JL_run rfl (Runs_storeB 0 (vs := [.bool (true)]) (l := [.bool (false), .bool (true), .bool (false)]) ty4 rfl rfl rfl rfl rfl (okc_cons rfl okc_nil) rfl ?_)
         refine JL_nil ?_
         refine J_seq ?_
         refine J_region ?_
         refine JL_run rfl (Pu_load ty140 rfl (At.bx 0 rfl) rfl ?_)
         refine JL_run rfl (Runs_storeB 1 (vs := [.bool (false), .bool (true), .bool (false)]) (l := [.bool (false), .bool (true), .bool (false)]) ty140 rfl rfl rfl rfl rfl (okc_cons rfl (okc_cons rfl (okc_cons rfl okc_nil))) rfl ?_)
         refine JL_nil ?_
         refine J_ret ?_
         refine ⟨.agg ⟨[.bool (false), .bool (true), .bool (false)]⟩, [], Ret.one rfl (RV.cell ty140 rfl (At.bx 1 rfl) rfl), Sub.nil, ?_⟩
         exact ⟨by simp_all [fN, fR, fC], rfl⟩
        ·skip
         replace h15 := df h15
         refine J_seq ?_
         refine J_region ?_
         refine JL_pure (v := .bool (decide (k = 9))) rfl (Pu.eql rfl rfl) ?_
         refine JL_pure (v := .bool (decide (k = 9))) rfl (Pu.assign rfl) ?_
         refine JL_nil ?_
         refine J_cond (b := decide (k = 9)) rfl (fun h16 => ?_) (fun h16 => ?_)
         ·skip
          replace h16 := dt h16
          refine J_region ?_
          refine JL_pure (v := .pointer (some ⟨b2, 2, none⟩)) rfl (Pu.idxA 2 Try.runUnderlying140 ty4 rfl rfl (by decide) (by decide)) ?_
          refine JL_run rfl (Runs_storeB 0 (vs := [.bool (true)]) (l := [.bool (false), .bool (false), .bool (true)]) ty4 rfl rfl rfl rfl rfl (okc_cons rfl okc_nil) rfl ?_)
          refine JL_nil ?_
          refine J_seq ?_
          refine J_region ?_
          refine JL_run rfl (Pu_load ty140 rfl (At.bx 0 rfl) rfl ?_)
          refine JL_run rfl (Runs_storeB 1 (vs := [.bool (false), .bool (false), .bool (true)]) (l := [.bool (false), .bool (false), .bool (true)]) ty140 rfl rfl rfl rfl rfl (okc_cons rfl (okc_cons rfl (okc_cons rfl okc_nil))) rfl ?_)
          refine JL_nil ?_
          refine J_ret ?_
          refine ⟨.agg ⟨[.bool (false), .bool (false), .bool (true)]⟩, [], Ret.one rfl (RV.cell ty140 rfl (At.bx 1 rfl) rfl), Sub.nil, ?_⟩
          exact ⟨by simp_all [fN, fR, fC], rfl⟩
         ·skip
          replace h16 := df h16
          refine J_skip ?_
          refine J_seq ?_
          refine J_region ?_
          refine JL_run rfl (Pu_load ty140 rfl (At.bx 0 rfl) rfl ?_)
          refine JL_run rfl (Runs_storeB 1 (vs := [.bool (false), .bool (false), .bool (false)]) (l := [.bool (false), .bool (false), .bool (false)]) ty140 rfl rfl rfl rfl rfl (okc_cons rfl (okc_cons rfl (okc_cons rfl okc_nil))) rfl ?_)
          refine JL_nil ?_
          refine J_ret ?_
          refine ⟨.agg ⟨[.bool (false), .bool (false), .bool (false)]⟩, [], Ret.one rfl (RV.cell ty140 rfl (At.bx 1 rfl) rfl), Sub.nil, ?_⟩
          exact ⟨by simp_all [fN, fR, fC], rfl⟩
theorem patternFields_ct (k : Int) (H : Heap) : CT Try.prog 98 ⟨[.int .i64 (k)]⟩ [] H (fun v N => v = .agg ⟨[.bool (pfN k), .bool (pfR k), .bool false]⟩ ∧ N = []) := by
 refine CT_enter Try.func98 rfl rfl ?_
 refine J_seq ?_
 refine J_region ?_
 refine JL_run rfl (Runs_alloc (l := [.bool (false), .bool (false), .bool (false)]) Try.zeroValue140 rfl fun b1 => ?_)
 refine JL_nil ?_
 refine J_seq ?_
 refine J_seq ?_
 refine J_region ?_
 refine JL_pure (v := .int .i64 (k)) rfl (Pu.move rfl) ?_
 refine JL_nil ?_
 refine J_block ?_
 refine J_seq ?_
 refine J_region ?_
 refine JL_pure (v := .bool (decide (k = 2))) rfl (Pu.eql rfl rfl) ?_
 refine JL_pure (v := .bool (decide (k = 2))) rfl (Pu.assign rfl) ?_
 refine JL_nil ?_
 refine J_cond (b := decide (k = 2)) rfl (fun h2 => ?_) (fun h2 => ?_)
 ·skip
  replace h2 := dt h2
  refine J_seq ?_
  refine J_region ?_
  refine JL_pure (v := .agg ⟨[.bool (true), .bool (false), .bool (false)]⟩) rfl (Pu.build (pv := [(0, .bool (true)), (1, .bool (false)), (2, .bool (false))]) (l := [.bool (true), .bool (false), .bool (false)]) rfl (bld140_0_1_2 _ _ _)) ?_
  refine JL_run rfl (Runs_storeB 0 (vs := [.bool (true), .bool (false), .bool (false)]) (l := [.bool (true), .bool (false), .bool (false)]) ty140 rfl rfl rfl rfl rfl (okc_cons rfl (okc_cons rfl (okc_cons rfl okc_nil))) rfl ?_)
  refine JL_nil ?_
  refine J_ret ?_
  refine ⟨.agg ⟨[.bool (true), .bool (false), .bool (false)]⟩, [], Ret.one rfl (RV.cell ty140 rfl (At.bx 0 rfl) rfl), Sub.nil, ?_⟩
  exact ⟨by simp_all [pfN, pfR], rfl⟩
 ·skip
  replace h2 := df h2
  refine J_seq ?_
  refine J_region ?_
  refine JL_pure (v := .bool (decide (k = 3))) rfl (Pu.eql rfl rfl) ?_
  refine JL_pure (v := .bool (decide (k = 3))) rfl (Pu.assign rfl) ?_
  refine JL_nil ?_
  refine J_cond (b := decide (k = 3)) rfl (fun h3 => ?_) (fun h3 => ?_)
  ·skip
   replace h3 := dt h3
   refine J_seq ?_
   refine J_region ?_
   refine JL_pure (v := .agg ⟨[.bool (true), .bool (true), .bool (false)]⟩) rfl (Pu.build (pv := [(0, .bool (true)), (1, .bool (true)), (2, .bool (false))]) (l := [.bool (true), .bool (true), .bool (false)]) rfl (bld140_0_1_2 _ _ _)) ?_
   refine JL_run rfl (Runs_storeB 0 (vs := [.bool (true), .bool (true), .bool (false)]) (l := [.bool (true), .bool (true), .bool (false)]) ty140 rfl rfl rfl rfl rfl (okc_cons rfl (okc_cons rfl (okc_cons rfl okc_nil))) rfl ?_)
   refine JL_nil ?_
   refine J_ret ?_
   refine ⟨.agg ⟨[.bool (true), .bool (true), .bool (false)]⟩, [], Ret.one rfl (RV.cell ty140 rfl (At.bx 0 rfl) rfl), Sub.nil, ?_⟩
   exact ⟨by simp_all [pfN, pfR], rfl⟩
  ·skip
   replace h3 := df h3
   refine J_skip ?_
   refine J_seq ?_
   refine J_region ?_
   refine JL_pure (v := .agg ⟨[.bool (false), .bool (false), .bool (false)]⟩) rfl (Pu.build (pv := []) (l := [.bool (false), .bool (false), .bool (false)]) rfl bld140_) ?_
   refine JL_run rfl (Runs_storeB 0 (vs := [.bool (false), .bool (false), .bool (false)]) (l := [.bool (false), .bool (false), .bool (false)]) ty140 rfl rfl rfl rfl rfl (okc_cons rfl (okc_cons rfl (okc_cons rfl okc_nil))) rfl ?_)
   refine JL_nil ?_
   refine J_ret ?_
   refine ⟨.agg ⟨[.bool (false), .bool (false), .bool (false)]⟩, [], Ret.one rfl (RV.cell ty140 rfl (At.bx 0 rfl) rfl), Sub.nil, ?_⟩
   exact ⟨by simp_all [pfN, pfR], rfl⟩
theorem clash_ct (a b c : Bool) (n : Int) (r : Sm) (m : Int) (H : Heap) : CT Try.prog 88 ⟨[.agg ⟨[.bool (a), .bool (b), .bool (c)]⟩, .int .i64 (n), .agg ⟨sC (r)⟩, .int .i64 (m)]⟩ [] H (fun v N => v = .bool (clashB a b c n r m) ∧ N = []) := by
 refine CT_enter Try.func88 rfl rfl ?_
 refine J_seq ?_
 refine J_region ?_
 refine JL_run rfl (Runs_box (l := [.bool (a), .bool (b), .bool (c)]) rfl rfl fun b1 => ?_)
 refine JL_run rfl (Runs_box (l := sC (r)) rfl rfl fun b2 => ?_)
 refine JL_pure (v := .bool (false)) rfl (Pu.assign rfl) ?_
 refine JL_nil ?_
 refine J_seq ?_
 refine J_region ?_
 refine JL_pure (v := .int .i64 (n)) rfl (Pu.move rfl) ?_
 refine JL_pure (v := .bool (!decide (n = 0))) rfl (Pu.neq rfl rfl) ?_
 refine JL_run rfl (Pu_load ty26 rfl (At.bx 0 rfl) (sub_a rfl) ?_)
 refine JL_pure (v := .agg ⟨sC (zS)⟩) rfl (Pu.build (pv := []) (l := sC (zS)) rfl bld26_) ?_
 refine JL_pure (v := .bool (!decide (r = zS))) rfl (neqS rfl rfl) ?_
 refine JL_pure (v := .int .i64 (m)) rfl (Pu.move rfl) ?_
 refine JL_pure (v := .bool (decide (0 < m))) rfl (Pu.gtr rfl rfl) ?_
 refine JL_pure (v := .agg ⟨[.bool (!decide (n = 0)), .bool (!decide (r = zS)), .bool (decide (0 < m))]⟩) rfl (Pu.build (pv := [(0, .bool (!decide (n = 0))), (1, .bool (!decide (r = zS))), (2, .bool (decide (0 < m)))]) (l := [.bool (!decide (n = 0)), .bool (!decide (r = zS)), .bool (decide (0 < m))]) rfl (bld140_0_1_2 _ _ _)) ?_
 refine JL_run rfl (Runs_alloc (l := [.bool (false), .bool (false), .bool (false)]) Try.zeroValue140 rfl fun b3 => ?_)
 refine JL_run rfl (Runs_storeB 0 (vs := [.bool (!decide (n = 0)), .bool (!decide (r = zS)), .bool (decide (0 < m))]) (l := [.bool (!decide (n = 0)), .bool (!decide (r = zS)), .bool (decide (0 < m))]) ty140 rfl rfl rfl rfl rfl (okc_cons rfl (okc_cons rfl (okc_cons rfl okc_nil))) rfl ?_)
 refine JL_nil ?_
 refine J_seq ?_
 refine J_region ?_
 refine JL_run rfl (Pu_load ty140 rfl (At.bx 0 rfl) rfl ?_)
 refine JL_run rfl (Runs_alloc (l := [.bool (false), .bool (false), .bool (false)]) Try.zeroValue140 rfl fun b4 => ?_)
 refine JL_run rfl (Runs_storeB 0 (vs := [.bool (!decide (n = 0)), .bool (!decide (r = zS)), .bool (decide (0 < m))]) (l := [.bool (!decide (n = 0)), .bool (!decide (r = zS)), .bool (decide (0 < m))]) ty140 rfl rfl rfl rfl rfl (okc_cons rfl (okc_cons rfl (okc_cons rfl okc_nil))) rfl ?_)
 refine JL_nil ?_
 refine J_seq ?_
 refine J_seq ?_
 refine J_region ?_
 refine JL_pure (v := .int .i64 (0)) rfl (Pu.move rfl) ?_
 refine JL_nil ?_
 refine J_block ?_
 refine J_rounds 4 ?_
 refine JR_succ ?_
 refine J_seq ?_
 refine J_region ?_
 refine JL_pure (v := .bool (true)) rfl (show Pu _ _ _ (.bool (decide ((0 : Int) < 3))) from Pu.lss rfl rfl) ?_
 refine JL_nil ?_
 refine J_seq ?_
 refine J_cond (b := true) rfl (fun _ => ?_) (fun h => absurd h (by simp))
 refine J_skip ?_
 refine J_seq ?_
 refine J_block ?_
 refine J_seq ?_
 refine J_region ?_
 refine JL_pure (v := .int .i64 (0)) rfl (Pu.move rfl) ?_
 refine JL_pure (v := .int .i64 (0)) rfl (Pu.assign rfl) ?_
 refine JL_nil ?_
 refine J_weak (N := fun ρ M => ρ 4 = .pointer (some ⟨b1, 0, none⟩) ∧ ρ 8 = .bool (false) ∧ ρ 9 = .pointer (some ⟨b3, 0, none⟩) ∧ ρ 10 = .pointer (some ⟨b4, 0, none⟩) ∧ ρ 21 = .int .i64 (0) ∧ M = [[(b4, .cells ⟨[.bool ((!decide (n = 0)) && (a)), .bool (!decide (r = zS)), .bool (decide (0 < m))]⟩ 140 (0, 0))], [(b3, .cells ⟨[.bool (!decide (n = 0)), .bool (!decide (r = zS)), .bool (decide (0 < m))]⟩ 140 (0, 0))], [(b2, .cells ⟨sC (r)⟩ 26 (0, 0))], [(b1, .cells ⟨[.bool (a), .bool (b), .bool (c)]⟩ 140 (0, 0))]]) ?_ ?_
 ·refine J_region ?_
  refine JL_pure (v := .int .i64 (0)) rfl (Pu.move rfl) ?_
  refine JL_pure (v := .int .i64 (0)) rfl (Pu.move rfl) ?_
  refine JL_pure (v := .pointer (some ⟨b3, 0, none⟩)) rfl (Pu.idxA 0 Try.runUnderlying140 ty4 rfl rfl (by decide) (by decide)) ?_
  refine JL_run rfl (Pu_load1 ty4 rfl (At.bx 1 rfl) rfl ?_)
  refine JL_pure (v := .bool (!decide (n = 0))) rfl (Pu.move rfl) ?_
  cases h5 : (!decide (n = 0)) with
  | true =>
   replace h5 := nt h5
   replace h5 := df h5
   refine JL_pure (v := .int .i64 (0)) rfl (Pu.move rfl) ?_
   refine JL_pure (v := .pointer (some ⟨b1, 0, none⟩)) rfl (Pu.idxA 0 Try.runUnderlying140 ty4 rfl rfl (by decide) (by decide)) ?_
   refine JL_run rfl (Pu_load1 ty4 rfl (At.bx 3 rfl) rfl ?_)
   refine JL_pure (v := .bool (a)) rfl (Pu.pickT rfl rfl) ?_
   refine JL_pure (v := .pointer (some ⟨b4, 0, none⟩)) rfl (Pu.idxA 0 Try.runUnderlying140 ty4 rfl rfl (by decide) (by decide)) ?_
   refine JL_run rfl (Runs_storeB 0 (vs := [.bool (a)]) (l := [.bool (a), .bool (!decide (r = zS)), .bool (decide (0 < m))]) ty4 rfl rfl rfl rfl rfl (okc_cons rfl okc_nil) rfl ?_)
   refine JL_nil ?_
   first | exact ⟨rfl, rfl, rfl, rfl, rfl, rfl⟩ | (exfalso; omega)
  | false =>
   replace h5 := nf h5
   replace h5 := dt h5
   refine JL_skip rfl ?_
   refine JL_skip rfl ?_
   refine JL_skip rfl ?_
   refine JL_pure (v := .bool (false)) rfl (Pu.pickF rfl rfl) ?_
   refine JL_pure (v := .pointer (some ⟨b4, 0, none⟩)) rfl (Pu.idxA 0 Try.runUnderlying140 ty4 rfl rfl (by decide) (by decide)) ?_
   refine JL_run rfl (Runs_storeB 0 (vs := [.bool (false)]) (l := [.bool (false), .bool (!decide (r = zS)), .bool (decide (0 < m))]) ty4 rfl rfl rfl rfl rfl (okc_cons rfl okc_nil) rfl ?_)
   refine JL_nil ?_
   first | exact ⟨rfl, rfl, rfl, rfl, rfl, rfl⟩ | (exfalso; omega)
 ·rintro ρ6 _ ⟨e7, e8, e9, e10, e11, rfl⟩
  obtain ⟨ρ12, rfl⟩ := reopen_ex (uc e7 (uc e8 (uc e9 (uc e10 (uc e11 un)))))
  clear e7 e8 e9 e10 e11
  refine J_region ?_
  refine JL_pure (v := .int .i64 (1)) rfl (Pu.arith rfl rfl rfl) ?_
  refine JL_pure (v := .int .i64 (1)) rfl (Pu.move rfl) ?_
  refine JL_nil ?_
  refine JR_succ ?_
  refine J_seq ?_
  refine J_region ?_
  refine JL_pure (v := .bool (true)) rfl (show Pu _ _ _ (.bool (decide ((1 : Int) < 3))) from Pu.lss rfl rfl) ?_
  refine JL_nil ?_
  refine J_seq ?_
  refine J_cond (b := true) rfl (fun _ => ?_) (fun h => absurd h (by simp))
  refine J_skip ?_
  refine J_seq ?_
  refine J_block ?_
  refine J_seq ?_
  refine J_region ?_
  refine JL_pure (v := .int .i64 (1)) rfl (Pu.move rfl) ?_
  refine JL_pure (v := .int .i64 (1)) rfl (Pu.assign rfl) ?_
  refine JL_nil ?_
  refine J_weak (N := fun ρ M => ρ 4 = .pointer (some ⟨b1, 0, none⟩) ∧ ρ 8 = .bool (false) ∧ ρ 9 = .pointer (some ⟨b3, 0, none⟩) ∧ ρ 10 = .pointer (some ⟨b4, 0, none⟩) ∧ ρ 21 = .int .i64 (1) ∧ M = [[(b4, .cells ⟨[.bool ((!decide (n = 0)) && (a)), .bool ((!decide (r = zS)) && (b)), .bool (decide (0 < m))]⟩ 140 (0, 0))], [(b3, .cells ⟨[.bool (!decide (n = 0)), .bool (!decide (r = zS)), .bool (decide (0 < m))]⟩ 140 (0, 0))], [(b2, .cells ⟨sC (r)⟩ 26 (0, 0))], [(b1, .cells ⟨[.bool (a), .bool (b), .bool (c)]⟩ 140 (0, 0))]]) ?_ ?_
  ·refine J_region ?_
   refine JL_pure (v := .int .i64 (1)) rfl (Pu.move rfl) ?_
   refine JL_pure (v := .int .i64 (1)) rfl (Pu.move rfl) ?_
   refine JL_pure (v := .pointer (some ⟨b3, 1, none⟩)) rfl (Pu.idxA 1 Try.runUnderlying140 ty4 rfl rfl (by decide) (by decide)) ?_
   refine JL_run rfl (Pu_load1 ty4 rfl (At.bx 1 rfl) rfl ?_)
   refine JL_pure (v := .bool (!decide (r = zS))) rfl (Pu.move rfl) ?_
   cases h13 : (!decide (r = zS)) with
   | true =>
    replace h13 := nt h13
    replace h13 := df h13
    refine JL_pure (v := .int .i64 (1)) rfl (Pu.move rfl) ?_
    refine JL_pure (v := .pointer (some ⟨b1, 1, none⟩)) rfl (Pu.idxA 1 Try.runUnderlying140 ty4 rfl rfl (by decide) (by decide)) ?_
    refine JL_run rfl (Pu_load1 ty4 rfl (At.bx 3 rfl) rfl ?_)
    refine JL_pure (v := .bool (b)) rfl (Pu.pickT rfl rfl) ?_
    refine JL_pure (v := .pointer (some ⟨b4, 1, none⟩)) rfl (Pu.idxA 1 Try.runUnderlying140 ty4 rfl rfl (by decide) (by decide)) ?_
    refine JL_run rfl (Runs_storeB 0 (vs := [.bool (b)]) (l := [.bool ((!decide (n = 0)) && (a)), .bool (b), .bool (decide (0 < m))]) ty4 rfl rfl rfl rfl rfl (okc_cons rfl okc_nil) rfl ?_)
    refine JL_nil ?_
    first | exact ⟨rfl, rfl, rfl, rfl, rfl, rfl⟩ | (exfalso; omega)
   | false =>
    replace h13 := nf h13
    replace h13 := dt h13
    refine JL_skip rfl ?_
    refine JL_skip rfl ?_
    refine JL_skip rfl ?_
    refine JL_pure (v := .bool (false)) rfl (Pu.pickF rfl rfl) ?_
    refine JL_pure (v := .pointer (some ⟨b4, 1, none⟩)) rfl (Pu.idxA 1 Try.runUnderlying140 ty4 rfl rfl (by decide) (by decide)) ?_
    refine JL_run rfl (Runs_storeB 0 (vs := [.bool (false)]) (l := [.bool ((!decide (n = 0)) && (a)), .bool (false), .bool (decide (0 < m))]) ty4 rfl rfl rfl rfl rfl (okc_cons rfl okc_nil) rfl ?_)
    refine JL_nil ?_
    first | exact ⟨rfl, rfl, rfl, rfl, rfl, rfl⟩ | (exfalso; omega)
  ·rintro ρ14 _ ⟨e15, e16, e17, e18, e19, rfl⟩
   obtain ⟨ρ20, rfl⟩ := reopen_ex (uc e15 (uc e16 (uc e17 (uc e18 (uc e19 un)))))
   clear e15 e16 e17 e18 e19
   refine J_region ?_
   refine JL_pure (v := .int .i64 (2)) rfl (Pu.arith rfl rfl rfl) ?_
   refine JL_pure (v := .int .i64 (2)) rfl (Pu.move rfl) ?_
   refine JL_nil ?_
   refine JR_succ ?_
   refine J_seq ?_
   refine J_region ?_
   refine JL_pure (v := .bool (true)) rfl (show Pu _ _ _ (.bool (decide ((2 : Int) < 3))) from Pu.lss rfl rfl) ?_
   refine JL_nil ?_
   refine J_seq ?_
   refine J_cond (b := true) rfl (fun _ => ?_) (fun h => absurd h (by simp))
   refine J_skip ?_
   refine J_seq ?_
   refine J_block ?_
   refine J_seq ?_
   refine J_region ?_
   refine JL_pure (v := .int .i64 (2)) rfl (Pu.move rfl) ?_
   refine JL_pure (v := .int .i64 (2)) rfl (Pu.assign rfl) ?_
   refine JL_nil ?_
   refine J_weak (N := fun ρ M => ρ 4 = .pointer (some ⟨b1, 0, none⟩) ∧ ρ 8 = .bool (false) ∧ ρ 9 = .pointer (some ⟨b3, 0, none⟩) ∧ ρ 10 = .pointer (some ⟨b4, 0, none⟩) ∧ ρ 21 = .int .i64 (2) ∧ M = [[(b4, .cells ⟨[.bool ((!decide (n = 0)) && (a)), .bool ((!decide (r = zS)) && (b)), .bool ((decide (0 < m)) && (c))]⟩ 140 (0, 0))], [(b3, .cells ⟨[.bool (!decide (n = 0)), .bool (!decide (r = zS)), .bool (decide (0 < m))]⟩ 140 (0, 0))], [(b2, .cells ⟨sC (r)⟩ 26 (0, 0))], [(b1, .cells ⟨[.bool (a), .bool (b), .bool (c)]⟩ 140 (0, 0))]]) ?_ ?_
   ·refine J_region ?_
    refine JL_pure (v := .int .i64 (2)) rfl (Pu.move rfl) ?_
    refine JL_pure (v := .int .i64 (2)) rfl (Pu.move rfl) ?_
    refine JL_pure (v := .pointer (some ⟨b3, 2, none⟩)) rfl (Pu.idxA 2 Try.runUnderlying140 ty4 rfl rfl (by decide) (by decide)) ?_
    refine JL_run rfl (Pu_load1 ty4 rfl (At.bx 1 rfl) rfl ?_)
    refine JL_pure (v := .bool (decide (0 < m))) rfl (Pu.move rfl) ?_
    cases h21 : (decide (0 < m)) with
    | true =>
     replace h21 := dt h21
     refine JL_pure (v := .int .i64 (2)) rfl (Pu.move rfl) ?_
     refine JL_pure (v := .pointer (some ⟨b1, 2, none⟩)) rfl (Pu.idxA 2 Try.runUnderlying140 ty4 rfl rfl (by decide) (by decide)) ?_
     refine JL_run rfl (Pu_load1 ty4 rfl (At.bx 3 rfl) rfl ?_)
     refine JL_pure (v := .bool (c)) rfl (Pu.pickT rfl rfl) ?_
     refine JL_pure (v := .pointer (some ⟨b4, 2, none⟩)) rfl (Pu.idxA 2 Try.runUnderlying140 ty4 rfl rfl (by decide) (by decide)) ?_
     refine JL_run rfl (Runs_storeB 0 (vs := [.bool (c)]) (l := [.bool ((!decide (n = 0)) && (a)), .bool ((!decide (r = zS)) && (b)), .bool (c)]) ty4 rfl rfl rfl rfl rfl (okc_cons rfl okc_nil) rfl ?_)
     refine JL_nil ?_
     first | exact ⟨rfl, rfl, rfl, rfl, rfl, rfl⟩ | (exfalso; omega)
    | false =>
     replace h21 := df h21
     refine JL_skip rfl ?_
     refine JL_skip rfl ?_
     refine JL_skip rfl ?_
     refine JL_pure (v := .bool (false)) rfl (Pu.pickF rfl rfl) ?_
     refine JL_pure (v := .pointer (some ⟨b4, 2, none⟩)) rfl (Pu.idxA 2 Try.runUnderlying140 ty4 rfl rfl (by decide) (by decide)) ?_
     refine JL_run rfl (Runs_storeB 0 (vs := [.bool (false)]) (l := [.bool ((!decide (n = 0)) && (a)), .bool ((!decide (r = zS)) && (b)), .bool (false)]) ty4 rfl rfl rfl rfl rfl (okc_cons rfl okc_nil) rfl ?_)
     refine JL_nil ?_
     first | exact ⟨rfl, rfl, rfl, rfl, rfl, rfl⟩ | (exfalso; omega)
   ·rintro ρ22 _ ⟨e23, e24, e25, e26, e27, rfl⟩
    obtain ⟨ρ28, rfl⟩ := reopen_ex (uc e23 (uc e24 (uc e25 (uc e26 (uc e27 un)))))
    clear e23 e24 e25 e26 e27
    refine J_region ?_
    refine JL_pure (v := .int .i64 (3)) rfl (Pu.arith rfl rfl rfl) ?_
    refine JL_pure (v := .int .i64 (3)) rfl (Pu.move rfl) ?_
    refine JL_nil ?_
    refine JR_succ ?_
    refine J_seq ?_
    refine J_region ?_
    refine JL_pure (v := .bool (false)) rfl (show Pu _ _ _ (.bool (decide ((3 : Int) < 3))) from Pu.lss rfl rfl) ?_
    refine JL_nil ?_
    refine J_seq ?_
    refine J_cond (b := false) rfl (fun h => absurd h (by simp)) (fun _ => ?_)
    refine J_exit _ rfl ?_
    refine J_seq ?_
    refine J_region ?_
    refine JL_run rfl (Pu_load ty140 rfl (At.bx 0 rfl) rfl ?_)
    refine JL_run rfl (Pu_load ty140 rfl (At.bx 1 rfl) rfl ?_)
    refine JL_pure (v := .bool (!((((!decide (n = 0)) && (a)) == (!decide (n = 0))) && ((((!decide (r = zS)) && (b)) == (!decide (r = zS))) && (((decide (0 < m)) && (c)) == (decide (0 < m))))))) rfl (neqB3 rfl rfl) ?_
    refine JL_pure (v := .bool (!((((!decide (n = 0)) && (a)) == (!decide (n = 0))) && ((((!decide (r = zS)) && (b)) == (!decide (r = zS))) && (((decide (0 < m)) && (c)) == (decide (0 < m))))))) rfl (Pu.assign rfl) ?_
    refine JL_nil ?_
    refine J_ret ?_
    refine ⟨.bool (!((((!decide (n = 0)) && (a)) == (!decide (n = 0))) && ((((!decide (r = zS)) && (b)) == (!decide (r = zS))) && (((decide (0 < m)) && (c)) == (decide (0 < m)))))), [], Ret.one rfl (RV.tmp rfl), Sub.nil, ?_⟩
    exact ⟨by unfold clashB; congr 1; cases a <;> cases b <;> cases c <;> simp, rfl⟩
theorem kidsT_ct (k n : Int) (H : Heap) : CT Try.prog 90 ⟨[.int .i64 (k), .int .i64 (n)]⟩ [] H (fun v N => v = .bool (kidsB k n) ∧ N = []) := by
 refine CT_enter Try.func90 rfl rfl ?_
 refine J_seq ?_
 refine J_region ?_
 refine JL_pure (v := .bool (false)) rfl (Pu.assign rfl) ?_
 refine JL_nil ?_
 refine J_seq ?_
 refine J_seq ?_
 refine J_region ?_
 refine JL_pure (v := .int .i64 (k)) rfl (Pu.move rfl) ?_
 refine JL_nil ?_
 refine J_block ?_
 refine J_seq ?_
 refine J_seq ?_
 refine J_region ?_
 refine JL_pure (v := .bool (decide (k = 3))) rfl (Pu.eql rfl rfl) ?_
 refine JL_pure (v := .bool (decide (k = 3))) rfl (Pu.assign rfl) ?_
 refine JL_nil ?_
 refine J_cond (b := decide (k = 3)) rfl (fun h1 => ?_) (fun h1 => ?_)
 ·skip
  replace h1 := dt h1
  refine J_skip ?_
  refine J_cond (b := decide (k = 3)) rfl (fun _ => ?_) (fun h2 => absurd h1 (df h2))
  refine J_seq ?_
  refine J_region ?_
  refine JL_pure (v := .int .i64 (n)) rfl (Pu.move rfl) ?_
  refine JL_pure (v := .bool (decide (n = 1))) rfl (Pu.eql rfl rfl) ?_
  refine JL_pure (v := .bool (decide (n = 1))) rfl (Pu.assign rfl) ?_
  refine JL_nil ?_
  refine J_ret ?_
  refine ⟨.bool (decide (n = 1)), [], Ret.one rfl (RV.tmp rfl), Sub.nil, ?_⟩
  exact ⟨by simp_all [kidsB], rfl⟩
 ·skip
  replace h1 := df h1
  refine J_seq ?_
  refine J_region ?_
  refine JL_pure (v := .bool (decide (k = 9))) rfl (Pu.eql rfl rfl) ?_
  refine JL_pure (v := .bool (decide (k = 9))) rfl (Pu.assign rfl) ?_
  refine JL_nil ?_
  refine J_cond (b := decide (k = 9)) rfl (fun h3 => ?_) (fun h3 => ?_)
  ·skip
   replace h3 := dt h3
   refine J_skip ?_
   refine J_cond (b := decide (k = 9)) rfl (fun _ => ?_) (fun h4 => absurd h3 (df h4))
   refine J_seq ?_
   refine J_region ?_
   refine JL_pure (v := .int .i64 (n)) rfl (Pu.move rfl) ?_
   refine JL_pure (v := .bool (decide (n = 1))) rfl (Pu.eql rfl rfl) ?_
   refine JL_pure (v := .bool (decide (n = 1))) rfl (Pu.assign rfl) ?_
   refine JL_nil ?_
   refine J_ret ?_
   refine ⟨.bool (decide (n = 1)), [], Ret.one rfl (RV.tmp rfl), Sub.nil, ?_⟩
   exact ⟨by simp_all [kidsB], rfl⟩
  ·skip
   replace h3 := df h3
   refine J_region ?_
   refine JL_pure (v := .bool (decide (k = 11))) rfl (Pu.eql rfl rfl) ?_
   refine JL_pure (v := .bool (decide (k = 11))) rfl (Pu.assign rfl) ?_
   refine JL_nil ?_
   refine J_cond (b := decide (k = 11)) rfl (fun h5 => ?_) (fun h5 => ?_)
   ·skip
    replace h5 := dt h5
    refine J_seq ?_
    refine J_region ?_
    refine JL_pure (v := .int .i64 (n)) rfl (Pu.move rfl) ?_
    refine JL_pure (v := .bool (decide (n = 1))) rfl (Pu.eql rfl rfl) ?_
    refine JL_pure (v := .bool (decide (n = 1))) rfl (Pu.assign rfl) ?_
    refine JL_nil ?_
    refine J_ret ?_
    refine ⟨.bool (decide (n = 1)), [], Ret.one rfl (RV.tmp rfl), Sub.nil, ?_⟩
    exact ⟨by simp_all [kidsB], rfl⟩
   ·skip
    replace h5 := df h5
    refine J_seq ?_
    refine J_seq ?_
    refine J_region ?_
    refine JL_pure (v := .bool (decide (k = 4))) rfl (Pu.eql rfl rfl) ?_
    refine JL_pure (v := .bool (decide (k = 4))) rfl (Pu.assign rfl) ?_
    refine JL_nil ?_
    refine J_cond (b := decide (k = 4)) rfl (fun h6 => ?_) (fun h6 => ?_)
    ·skip
     replace h6 := dt h6
     refine J_skip ?_
     refine J_cond (b := decide (k = 4)) rfl (fun _ => ?_) (fun h7 => absurd h6 (df h7))
     refine J_seq ?_
     refine J_region ?_
     refine JL_pure (v := .int .i64 (n)) rfl (Pu.move rfl) ?_
     refine JL_pure (v := .bool (decide (n = 2))) rfl (Pu.eql rfl rfl) ?_
     refine JL_pure (v := .bool (decide (n = 2))) rfl (Pu.assign rfl) ?_
     refine JL_nil ?_
     refine J_ret ?_
     refine ⟨.bool (decide (n = 2)), [], Ret.one rfl (RV.tmp rfl), Sub.nil, ?_⟩
     exact ⟨by simp_all [kidsB], rfl⟩
    ·skip
     replace h6 := df h6
     refine J_seq ?_
     refine J_region ?_
     refine JL_pure (v := .bool (decide (k = 5))) rfl (Pu.eql rfl rfl) ?_
     refine JL_pure (v := .bool (decide (k = 5))) rfl (Pu.assign rfl) ?_
     refine JL_nil ?_
     refine J_cond (b := decide (k = 5)) rfl (fun h8 => ?_) (fun h8 => ?_)
     ·skip
      replace h8 := dt h8
      refine J_skip ?_
      refine J_cond (b := decide (k = 5)) rfl (fun _ => ?_) (fun h9 => absurd h8 (df h9))
      refine J_seq ?_
      refine J_region ?_
      refine JL_pure (v := .int .i64 (n)) rfl (Pu.move rfl) ?_
      refine JL_pure (v := .bool (decide (n = 2))) rfl (Pu.eql rfl rfl) ?_
      refine JL_pure (v := .bool (decide (n = 2))) rfl (Pu.assign rfl) ?_
      refine JL_nil ?_
      refine J_ret ?_
      refine ⟨.bool (decide (n = 2)), [], Ret.one rfl (RV.tmp rfl), Sub.nil, ?_⟩
      exact ⟨by simp_all [kidsB], rfl⟩
     ·skip
      replace h8 := df h8
      refine J_region ?_
      refine JL_pure (v := .bool (decide (k = 10))) rfl (Pu.eql rfl rfl) ?_
      refine JL_pure (v := .bool (decide (k = 10))) rfl (Pu.assign rfl) ?_
      refine JL_nil ?_
      refine J_cond (b := decide (k = 10)) rfl (fun h10 => ?_) (fun h10 => ?_)
      ·skip
       replace h10 := dt h10
       refine J_seq ?_
       refine J_region ?_
       refine JL_pure (v := .int .i64 (n)) rfl (Pu.move rfl) ?_
       refine JL_pure (v := .bool (decide (n = 2))) rfl (Pu.eql rfl rfl) ?_
       refine JL_pure (v := .bool (decide (n = 2))) rfl (Pu.assign rfl) ?_
       refine JL_nil ?_
       refine J_ret ?_
       refine ⟨.bool (decide (n = 2)), [], Ret.one rfl (RV.tmp rfl), Sub.nil, ?_⟩
       exact ⟨by simp_all [kidsB], rfl⟩
      ·skip
       replace h10 := df h10
       refine J_seq ?_
       refine J_region ?_
       refine JL_pure (v := .bool (decide (k = 8))) rfl (Pu.eql rfl rfl) ?_
       refine JL_pure (v := .bool (decide (k = 8))) rfl (Pu.assign rfl) ?_
       refine JL_nil ?_
       refine J_cond (b := decide (k = 8)) rfl (fun h11 => ?_) (fun h11 => ?_)
       ·skip
        replace h11 := dt h11
        refine J_seq ?_
        refine J_region ?_
        refine JL_pure (v := .int .i64 (n)) rfl (Pu.move rfl) ?_
        refine JL_pure (v := .bool (decide (n ≤ 4))) rfl (Pu.leq rfl rfl) ?_
        refine JL_pure (v := .bool (decide (n ≤ 4))) rfl (Pu.assign rfl) ?_
        refine JL_nil ?_
        refine J_ret ?_
        refine ⟨.bool (decide (n ≤ 4)), [], Ret.one rfl (RV.tmp rfl), Sub.nil, ?_⟩
        exact ⟨by simp_all [kidsB], rfl⟩
       ·skip
        replace h11 := df h11
        refine J_seq ?_
        refine J_region ?_
        refine JL_pure (v := .bool (decide (k = 12))) rfl (Pu.eql rfl rfl) ?_
        refine JL_pure (v := .bool (decide (k = 12))) rfl (Pu.assign rfl) ?_
        refine JL_nil ?_
        refine J_cond (b := decide (k = 12)) rfl (fun h12 => ?_) (fun h12 => ?_)
        ·skip
         replace h12 := dt h12
         refine J_seq ?_
         refine J_region ?_
         refine JL_pure (v := .int .i64 (n)) rfl (Pu.move rfl) ?_
         refine JL_call rfl Try.call17 rfl (fun hin => off_ct _ _ _ _) rfl ?_
         rintro _ _ ⟨rfl, rfl⟩
         refine JL_pure (v := .bool (!(decide (n < 2 ∨ 10 < n)))) rfl (Pu.not rfl) ?_
         refine JL_pure (v := .bool (!(decide (n < 2 ∨ 10 < n)))) rfl (Pu.assign rfl) ?_
         refine JL_nil ?_
         refine J_ret ?_
         refine ⟨.bool (!(decide (n < 2 ∨ 10 < n))), [], Ret.one rfl (RV.tmp rfl), Sub.nil, ?_⟩
         exact ⟨by simp_all [kidsB], rfl⟩
        ·skip
         replace h12 := df h12
         refine J_skip ?_
         refine J_seq ?_
         refine J_region ?_
         refine JL_pure (v := .int .i64 (n)) rfl (Pu.move rfl) ?_
         refine JL_pure (v := .bool (decide (n = 0))) rfl (Pu.eql rfl rfl) ?_
         refine JL_pure (v := .bool (decide (n = 0))) rfl (Pu.assign rfl) ?_
         refine JL_nil ?_
         refine J_ret ?_
         refine ⟨.bool (decide (n = 0)), [], Ret.one rfl (RV.tmp rfl), Sub.nil, ?_⟩
         exact ⟨by simp_all [kidsB], rfl⟩
end Go.Proofs.Ytmdifonjepggcaa.Hs
/-! Walks, printed by a program of this session's own (gen.py). -/
namespace Go.Proofs.Ytmdifonjepggcaa.Hs
open Go Go.Proofs
set_option maxRecDepth 100000
set_option linter.unusedVariables false
set_option linter.unusedSimpArgs false
attribute [local irreducible] JL J CT wlo
theorem idxI_ct (g : Nat) (fs cv : List Value) (hcall : ∀ args w, (callFunc g args).run Try.prog w = .ok (.enter g args) w) (pr : Int → Bool) (l : List Int) (v : Value) (H : Heap) (hl : rdS RI 1 H v l) (hg : ∀ x ∈ l, ∀ h, Hle H h → CT Try.prog g ⟨fs ++ [.int .i64 x] ++ cv⟩ [] h (fun v N => v = .bool (pr x) ∧ N = [])) : CT Try.prog 77 ⟨[v, .func (.func g) ⟨fs⟩ ⟨cv⟩]⟩ [] H (fun v N => v = .int .i64 (fstI pr l 0) ∧ N = []) := by
 refine CT_enter Try.func77 rfl rfl ?_
 refine J_seq ?_
 refine J_region ?_
 refine JL_pure (v := .int .i64 (0)) rfl (Pu.assign rfl) ?_
 refine JL_nil ?_
 refine J_seq ?_
 refine J_seq ?_
 refine J_region ?_
 refine JL_pure (v := v) rfl (Pu.move rfl) ?_
 obtain ⟨a1, cap1, hv1⟩ := hl.sl
 have hle1 := hl.le
 refine JL_pure (v := .int .i64 (((l).length : Int))) rfl (Pu.lenSl Try.runUnderlying52 hv1) ?_
 refine JL_pure (v := .int .i64 (0)) rfl (Pu.move rfl) ?_
 refine JL_nil ?_
 refine J_block ?_
 refine J_loop (fun k ρ M => ∃ (j : Nat), ρ 0 = v ∧ ρ 1 = .func (.func g) ⟨fs⟩ ⟨cv⟩ ∧ ρ 4 = .int .i64 (0) ∧ ρ 7 = .int .i64 (((l).length : Int)) ∧ ρ 8 = .int .i64 ((j : Int)) ∧ Sub [] M ∧ j ≤ (l).length ∧ fstI pr (l.drop j) j = fstI pr l 0 ∧ k = (l).length - j) _ ⟨0, rfl, rfl, rfl, rfl, rfl, Sub.nil, Nat.zero_le _, rfl, rfl⟩ ?_
 rintro _ ρ2 _ ⟨j, e3, e4, e5, e6, e7, hm8, hj, hinv, rfl⟩
 obtain ⟨ρ9, rfl⟩ := reopen_ex (uc e3 (uc e4 (uc e5 (uc e6 (uc e7 un)))))
 clear e3 e4 e5 e6 e7
 refine J_sub hm8 ?_
 refine J_seq ?_
 refine J_region ?_
 refine JL_pure (v := .bool (decide ((j : Int) < ((l).length : Int)))) rfl (Pu.lss rfl rfl) ?_
 refine JL_nil ?_
 refine J_seq ?_
 refine J_cond (b := decide ((j : Int) < ((l).length : Int))) rfl (fun h10 => ?_) (fun h10 => ?_)
 ·skip
  replace h10 := dt h10
  have h10n : j < (l).length := by omega
  have hlenl := hl.le
  refine J_skip ?_
  refine J_seq ?_
  refine J_block ?_
  refine J_seq ?_
  refine J_region ?_
  refine JL_pure (v := .int .i64 ((j : Int))) rfl (Pu.move rfl) ?_
  refine JL_pure (v := .int .i64 ((j : Int))) rfl (Pu.assign rfl) ?_
  refine JL_nil ?_
  refine J_seq ?_
  refine J_region ?_
  refine JL_pure (v := .func (.func g) ⟨fs⟩ ⟨cv⟩) rfl (Pu.move rfl) ?_
  refine JL_pure (v := v) rfl (Pu.move rfl) ?_
  refine JL_pure (v := .int .i64 ((j : Int))) rfl (Pu.move rfl) ?_
  obtain ⟨b11, o11, cap11, row11, T11, fr11, cs11, hv11, hb11, hs11, hE11⟩ := hl.get j (by first | assumption | omega | decide | simp)
  refine JL_pure (v := .pointer (some ⟨b11, o11 + j * 1, none⟩)) rfl (Pu.idx j Try.runUnderlying52 ty3 hv11 rfl rfl (by first | assumption | omega | decide | simp)) ?_
  refine JL_run rfl (Pu_load1 ty3 rfl (At.im hb11) (sub_one ((show cs11 = [Value.int .i64 ((l)[j])] from hE11) ▸ hs11)) ?_)
  refine JL_call rfl hcall rfl (fun hin => hg _ (List.getElem_mem h10n) _ (Hle.hu _ _)) rfl ?_
  rintro _ _ ⟨rfl, rfl⟩
  refine JL_nil ?_
  refine J_cond (b := pr ((l)[j])) rfl (fun h12 => ?_) (fun h12 => ?_)
  ·skip
   refine J_seq ?_
   refine J_region ?_
   refine JL_pure (v := .int .i64 ((j : Int))) rfl (Pu.move rfl) ?_
   refine JL_pure (v := .int .i64 ((j : Int))) rfl (Pu.assign rfl) ?_
   refine JL_nil ?_
   refine J_ret ?_
   refine ⟨.int .i64 ((j : Int)), [], Ret.one rfl (RV.tmp rfl), Sub.nil, ?_⟩
   exact ⟨by rw [← hinv, dropc h10n, fstI, if_pos h12], rfl⟩
  ·skip
   refine J_skip ?_
   refine J_region ?_
   refine JL_pure (v := .int .i64 (((j + 1 : Nat) : Int))) rfl (Pu.inc rfl rfl (by omega)) ?_
   refine JL_pure (v := .int .i64 (((j + 1 : Nat) : Int))) rfl (Pu.move rfl) ?_
   refine JL_nil ?_
   refine ⟨_, ?_, (j + 1), rfl, rfl, rfl, rfl, rfl, Sub.nil, ?_, ?_, rfl⟩
   ·omega
   ·omega
   ·rw [dropc h10n, fstI, if_neg (by simp [h12])] at hinv; exact hinv
 ·skip
  replace h10 := df h10
  have h10n : (l).length ≤ j := by omega
  refine J_exit _ rfl ?_
  refine J_seq ?_
  refine J_region ?_
  refine JL_pure (v := .int .i64 (-1)) rfl (Pu.assign rfl) ?_
  refine JL_nil ?_
  refine J_ret ?_
  refine ⟨.int .i64 (-1), [], Ret.one rfl (RV.tmp rfl), Sub.nil, ?_⟩
  exact ⟨by rw [← hinv, dropn h10n]; rfl, rfl⟩
theorem containsI_ct (g : Nat) (fs cv : List Value) (hcall : ∀ args w, (callFunc g args).run Try.prog w = .ok (.enter g args) w) (pr : Int → Bool) (l : List Int) (v : Value) (H : Heap) (hl : rdS RI 1 H v l) (hg : ∀ x ∈ l, ∀ h, Hle H h → CT Try.prog g ⟨fs ++ [.int .i64 x] ++ cv⟩ [] h (fun v N => v = .bool (pr x) ∧ N = [])) : CT Try.prog 43 ⟨[v, .func (.func g) ⟨fs⟩ ⟨cv⟩]⟩ [] H (fun v N => v = .bool (l.any pr) ∧ N = []) := by
 refine CT_enter Try.func43 rfl rfl ?_
 refine J_seq ?_
 refine J_region ?_
 refine JL_pure (v := .bool (false)) rfl (Pu.assign rfl) ?_
 refine JL_nil ?_
 refine J_seq ?_
 refine J_region ?_
 refine JL_pure (v := v) rfl (Pu.move rfl) ?_
 refine JL_pure (v := .func (.func g) ⟨fs⟩ ⟨cv⟩) rfl (Pu.move rfl) ?_
 refine JL_call rfl Try.call77 rfl (fun hin => idxI_ct g fs cv hcall pr _ _ _ (RIs.mono (Hle.hu _ _) hl) (fun x hx h hh => hg x hx h (Hle.trans (Hle.hu _ _) hh))) rfl ?_
 rintro _ _ ⟨rfl, rfl⟩
 refine JL_pure (v := .bool (decide (0 ≤ fstI pr l 0))) rfl (Pu.geq rfl rfl) ?_
 refine JL_pure (v := .bool (decide (0 ≤ fstI pr l 0))) rfl (Pu.assign rfl) ?_
 refine JL_nil ?_
 refine J_ret ?_
 refine ⟨.bool (decide (0 ≤ fstI pr l 0)), [], Ret.one rfl (RV.tmp rfl), Sub.nil, ?_⟩
 exact ⟨by rw [← fstI_any pr l 0], rfl⟩
theorem every1_ct (g : Nat) (fs cv : List Value) (hcall : ∀ args w, (callFunc g args).run Try.prog w = .ok (.enter g args) w) (pr : Int → Bool) (x : Int) (H : Heap) (bP : Nat) (hP : H bP = some (.cells ⟨[.func (.func g) ⟨fs⟩ ⟨cv⟩]⟩ 54 (0, 0))) (hg : ∀ h, Hle H h → CT Try.prog g ⟨fs ++ [.int .i64 x] ++ cv⟩ [] h (fun v N => v = .bool (pr x) ∧ N = [])) : CT Try.prog 44 ⟨[.int .i64 (x), .pointer (some ⟨bP, 0, none⟩)]⟩ [] H (fun v N => v = .bool (!pr x) ∧ N = []) := by
 refine CT_enter Try.func44 rfl rfl ?_
 refine J_seq ?_
 refine J_region ?_
 refine JL_pure (v := .bool (false)) rfl (Pu.assign rfl) ?_
 refine JL_nil ?_
 refine J_seq ?_
 refine J_region ?_
 refine JL_run rfl (Pu_load1 ty54 rfl (At.im hP) rfl ?_)
 refine JL_pure (v := .int .i64 (x)) rfl (Pu.move rfl) ?_
 refine JL_call rfl hcall rfl (fun hin => hg _ (Hle.hu _ _)) rfl ?_
 rintro _ _ ⟨rfl, rfl⟩
 refine JL_pure (v := .bool (!(pr (x)))) rfl (Pu.not rfl) ?_
 refine JL_pure (v := .bool (!(pr (x)))) rfl (Pu.assign rfl) ?_
 refine JL_nil ?_
 refine J_ret ?_
 refine ⟨.bool (!(pr (x))), [], Ret.one rfl (RV.tmp rfl), Sub.nil, ?_⟩
 exact ⟨rfl, rfl⟩
theorem every_ct (g : Nat) (fs cv : List Value) (hcall : ∀ args w, (callFunc g args).run Try.prog w = .ok (.enter g args) w) (pr : Int → Bool) (l : List Int) (v : Value) (H : Heap) (hl : rdS RI 1 H v l) (hg : ∀ x ∈ l, ∀ h, Hle H h → CT Try.prog g ⟨fs ++ [.int .i64 x] ++ cv⟩ [] h (fun v N => v = .bool (pr x) ∧ N = [])) : CT Try.prog 18 ⟨[v, .func (.func g) ⟨fs⟩ ⟨cv⟩]⟩ [] H (fun v N => v = .bool (l.all pr) ∧ N = []) := by
 refine CT_enter Try.func18 rfl rfl ?_
 refine J_seq ?_
 refine J_region ?_
 refine JL_run rfl (Runs_box (l := [.func (.func g) ⟨fs⟩ ⟨cv⟩]) rfl rfl fun b1 => ?_)
 refine JL_pure (v := .bool (false)) rfl (Pu.assign rfl) ?_
 refine JL_nil ?_
 refine J_seq ?_
 refine J_region ?_
 refine JL_pure (v := v) rfl (Pu.move rfl) ?_
 refine JL_pure (v := .func (.func 44) ⟨[]⟩ ⟨[.pointer (some ⟨b1, 0, none⟩)]⟩) rfl (Pu.makeFunc rfl rfl) ?_
 refine JL_call rfl Try.call43 rfl (fun hin => containsI_ct 44 [] [.pointer (some ⟨b1, 0, none⟩)] Try.call44 (fun x => !pr x) _ _ _ (RIs.mono (Hle.hu _ _) hl) (fun x hx h hh => every1_ct g fs cv hcall pr x h b1 (hh _ _ (hin 0 _ rfl _ _ List.mem_cons_self)) (fun h2 hh2 => hg x hx h2 (Hle.trans (Hle.trans (Hle.hu _ _) hh) hh2)))) rfl ?_
 rintro _ _ ⟨rfl, rfl⟩
 refine JL_pure (v := .bool (!((l).any (fun x => !pr x)))) rfl (Pu.not rfl) ?_
 refine JL_pure (v := .bool (!((l).any (fun x => !pr x)))) rfl (Pu.assign rfl) ?_
 refine JL_nil ?_
 refine J_ret ?_
 refine ⟨.bool (!((l).any (fun x => !pr x))), [], Ret.one rfl (RV.tmp rfl), Sub.nil, ?_⟩
 exact ⟨by simp [List.not_any_eq_all_not], rfl⟩
theorem shiftO_ct (n dy fr : Int) (H : Heap) (bF bD : Nat) (hF : H bF = some (.cells ⟨[.int .i64 fr]⟩ 3 (0, 0))) (hD : H bD = some (.cells ⟨[.int .i64 dy]⟩ 3 (0, 0))) (hn0 : 0 ≤ n) (hn1 : n ≤ 60) (hd0 : -60 ≤ dy) (hd1 : dy ≤ 60) : CT Try.prog 20 ⟨[.int .i64 (n), .pointer (some ⟨bF, 0, none⟩), .pointer (some ⟨bD, 0, none⟩)]⟩ [] H (fun v N => v = .bool (mvOk dy fr n) ∧ N = []) := by
 refine CT_enter Try.func20 rfl rfl ?_
 refine J_seq ?_
 refine J_region ?_
 refine JL_pure (v := .bool (false)) rfl (Pu.assign rfl) ?_
 refine JL_nil ?_
 refine J_seq ?_
 refine J_region ?_
 refine JL_pure (v := .int .i64 (n)) rfl (Pu.move rfl) ?_
 refine JL_run rfl (Pu_load1 ty3 rfl (At.im hF) rfl ?_)
 refine JL_pure (v := .bool (decide (n < fr))) rfl (Pu.lss rfl rfl) ?_
 refine JL_pure (v := .bool (decide (n < fr))) rfl (Pu.move rfl) ?_
 cases h1 : (decide (n < fr)) with
 | true =>
  replace h1 := dt h1
  refine JL_skip rfl ?_
  refine JL_skip rfl ?_
  refine JL_skip rfl ?_
  refine JL_skip rfl ?_
  refine JL_skip rfl ?_
  refine JL_skip rfl ?_
  refine JL_pure (v := .bool (true)) rfl (Pu.pickT rfl rfl) ?_
  refine JL_pure (v := .bool (true)) rfl (Pu.assign rfl) ?_
  refine JL_nil ?_
  refine J_ret ?_
  refine ⟨.bool (true), [], Ret.one rfl (RV.tmp rfl), Sub.nil, ?_⟩
  exact ⟨by simp only [mvOk]; simp_all <;> omega, rfl⟩
 | false =>
  replace h1 := df h1
  refine JL_pure (v := .int .i64 (n)) rfl (Pu.move rfl) ?_
  refine JL_run rfl (Pu_load1 ty3 rfl (At.im hD) rfl ?_)
  refine JL_pure (v := .int .i64 (n + dy)) rfl (Pu.add64 rfl rfl (by first | omega | (constructor <;> omega))) ?_
  refine JL_run rfl (Pu_load1 ty3 rfl (At.im hF) rfl ?_)
  refine JL_call rfl Try.call17 rfl (fun hin => off_ct _ _ _ _) rfl ?_
  rintro _ _ ⟨rfl, rfl⟩
  refine JL_pure (v := .bool (!(decide (n + dy < fr ∨ 59 < n + dy)))) rfl (Pu.not rfl) ?_
  refine JL_pure (v := .bool (!(decide (n + dy < fr ∨ 59 < n + dy)))) rfl (Pu.pickF rfl rfl) ?_
  refine JL_pure (v := .bool (!(decide (n + dy < fr ∨ 59 < n + dy)))) rfl (Pu.assign rfl) ?_
  refine JL_nil ?_
  refine J_ret ?_
  refine ⟨.bool (!(decide (n + dy < fr ∨ 59 < n + dy))), [], Ret.one rfl (RV.tmp rfl), Sub.nil, ?_⟩
  exact ⟨by simp only [mvOk]; simp_all <;> omega, rfl⟩
theorem freeV_ct (n b : Int) (s : List Int) (r : Nat) (H : Heap) (bM : Nat) (hM : H bM = some (.cells ⟨[.map (some r)]⟩ 96 (0, 0))) (hn0 : 0 ≤ n) (hn1 : n ≤ 2000000) (hb0 : 0 ≤ b) (hb1 : b ≤ 2000000) : CT Try.prog 45 ⟨[.int .i64 (n), .int .i64 (b), .pointer (some ⟨bM, 0, none⟩)]⟩ [metC r (s)] H (fun v N => ∃ cs k, v = .agg ⟨cs⟩ ∧ N = [k, metC r (metV n b s).2] ∧ OT (metV n b s).1 cs k) := by
 refine CT_enter Try.func45 rfl rfl ?_
 refine J_seq ?_
 refine J_region ?_
 refine JL_run rfl (Runs_alloc (l := pkT (0) (0) (zS) (.slice none 0 0) (.slice none 0 0)) Try.zeroValue30 rfl fun b1 => ?_)
 refine JL_nil ?_
 refine J_seq ?_
 refine J_region ?_
 refine JL_run rfl (Pu_load1 ty96 rfl (At.im hM) rfl ?_)
 refine JL_pure (v := .int .i64 (n)) rfl (Pu.move rfl) ?_
 refine JL_run rfl (Runs_mapUpdate (i := 1) Try.underlying96 Try.underlying3 rfl rfl rfl rfl ?_)
 refine JL_nil ?_
 refine J_seq ?_
 refine J_region ?_
 refine JL_pure (v := .int .i64 (n)) rfl (Pu.move rfl) ?_
 refine JL_pure (v := .int .i64 (b)) rfl (Pu.move rfl) ?_
 refine JL_call rfl Try.call24 rfl (fun hin => stay_ct _ _ _ (by unfold inI; omega)) rfl ?_
 rintro _ _ ⟨cs2, k2, rfl, rfl, hO2⟩
 refine JL_run rfl (Runs_storeB 1 (vs := cs2) (l := cs2) ty30 rfl rfl rfl rfl hO2.len hO2.ok (spl_a (n := 36) rfl hO2.len) ?_)
 refine JL_nil ?_
 refine J_ret ?_
 refine ⟨.agg ⟨cs2⟩, [k2, metC r (addK (s) (n))], Ret.one rfl (RV.cell ty30 rfl (At.bx 1 rfl) (sub_a hO2.len)), (Sk (Sd (Sk Sub.nil))), ?_⟩
 exact ⟨_, _, rfl, rfl, hO2⟩
theorem freeP_ct (t : Tm) (cs : List Value) (H : Heap) (ht : RT H cs t) (hz : sizeT t ≤ 900000) (hv : vOK t) : CT Try.prog 19 ⟨[.agg ⟨cs⟩]⟩ [] H (fun v N => ∃ u k, v = u ∧ N = [k] ∧ Own 3 1 u (ints (freeP t)) k) := by
 refine CT_enter Try.func19 rfl rfl ?_
 refine J_seq ?_
 refine J_region ?_
 refine JL_run rfl (Runs_box (l := cs) rfl rfl fun b1 => ?_)
 refine JL_pure (v := .slice none 0 0) rfl (Pu.assign rfl) ?_
 refine JL_nil ?_
 refine J_seq ?_
 refine J_region ?_
 refine JL_run rfl (Runs_makeMap fun r2 => ?_)
 refine JL_run rfl (Runs_alloc (l := [.map none]) Try.zeroValue96 rfl fun b3 => ?_)
 refine JL_run rfl (Runs_storeB 0 (vs := [.map (some r2)]) (l := [.map (some r2)]) ty96 rfl rfl rfl rfl rfl (okc_cons rfl okc_nil) rfl ?_)
 refine JL_nil ?_
 refine J_seq ?_
 refine J_region ?_
 refine JL_pure (v := .func (.func 45) ⟨[]⟩ ⟨[.pointer (some ⟨b3, 0, none⟩)]⟩) rfl (Pu.makeFunc rfl rfl) ?_
 refine JL_pure (v := .agg ⟨[.func (.func 45) ⟨[]⟩ ⟨[.pointer (some ⟨b3, 0, none⟩)]⟩, .func (.func 25) ⟨[]⟩ ⟨[]⟩]⟩) rfl (Pu.build (pv := [(0, .func (.func 45) ⟨[]⟩ ⟨[.pointer (some ⟨b3, 0, none⟩)]⟩), (1, .func (.func 25) ⟨[]⟩ ⟨[]⟩)]) (l := [.func (.func 45) ⟨[]⟩ ⟨[.pointer (some ⟨b3, 0, none⟩)]⟩, .func (.func 25) ⟨[]⟩ ⟨[]⟩]) rfl (bld60_0_1 _ _ _ _ _ _)) ?_
 refine JL_run rfl (Pu_load ty30 rfl (At.bx 2 rfl) (sub_a (RT_len ht)) ?_)
 refine JL_call1 1 rfl Try.call26 rfl rfl (fun hin => mapTerm_ct 25 [] [] Try.call25 (fun s => s) 45 [] [.pointer (some ⟨b3, 0, none⟩)] Try.call45 (List Int) (metC r2) (fun _ => True) metV (fun _ _ _ _ => trivial) _ _ _ _ _ (RT.mono (Hle.hu _ _) ht) (by omega) hv (by decide) (by omega) trivial (fun s h hh => same_ct s h) (fun n b s h hh _ h1 h2 h3 h4 => freeV_ct n b s r2 h b3 (hh _ _ (hin 0 _ rfl _ _ List.mem_cons_self)) h1 h2 h3 h4)) rfl ?_
 rintro _ _ ⟨cs4, k4, rfl, rfl, hO4⟩
 refine JL_nil ?_
 refine J_seq ?_
 refine J_region ?_
 refine JL_pure (v := .slice none 0 0) rfl (Pu.assign rfl) ?_
 refine JL_nil ?_
 refine J_seq ?_
 refine J_seq ?_
 refine J_region ?_
 refine JL_pure (v := .int .i64 (0)) rfl (Pu.move rfl) ?_
 refine JL_nil ?_
 refine J_block ?_
 refine J_loop (fun k ρ M => ∃ (j : Nat) (v : Value) (k1 : Chunk), ρ 2 = .slice none 0 0 ∧ ρ 3 = .pointer (some ⟨b3, 0, none⟩) ∧ ρ 4 = v ∧ ρ 11 = .int .i64 ((j : Int)) ∧ Sub [k1, metC r2 (metT (t)), [(b3, .cells ⟨[.map (some r2)]⟩ 96 (0, 0))]] M ∧ j ≤ 60 ∧ Own 3 1 v (ints (upTo (metF (metT t)) j)) k1 ∧ k = 60 - j) _ ⟨0, (.slice none 0 0), [], rfl, rfl, rfl, rfl, (Sub.emp (Sd (Sk (Sk Sub.nil)))), Nat.zero_le _, Own.nil, rfl⟩ ?_
 rintro _ ρ5 _ ⟨j, v, k1, e6, e7, e8, e9, hm10, hj, ho, rfl⟩
 obtain ⟨ρ11, rfl⟩ := reopen_ex (uc e6 (uc e7 (uc e8 (uc e9 un))))
 clear e6 e7 e8 e9
 refine J_sub hm10 ?_
 refine J_seq ?_
 refine J_region ?_
 refine JL_pure (v := .bool (decide ((j : Int) < 60))) rfl (Pu.lss rfl rfl) ?_
 refine JL_nil ?_
 refine J_seq ?_
 refine J_cond (b := decide ((j : Int) < 60)) rfl (fun h12 => ?_) (fun h12 => ?_)
 ·skip
  replace h12 := dt h12
  have h12n : j < 60 := by omega
  have hul := upTo_len (metF (metT t)) j
  have hil := ints_len (upTo (metF (metT t)) j)
  have hge := metF_get (metT t) j h12n
  refine J_skip ?_
  refine J_seq ?_
  refine J_block ?_
  refine J_seq ?_
  refine J_region ?_
  refine JL_pure (v := .int .i64 ((j : Int))) rfl (Pu.move rfl) ?_
  refine JL_pure (v := .int .i64 ((j : Int))) rfl (Pu.assign rfl) ?_
  refine JL_nil ?_
  refine J_seq ?_
  refine J_region ?_
  refine JL_run rfl (Pu_load1 ty96 rfl (At.bx 2 rfl) rfl ?_)
  refine JL_pure (v := .int .i64 ((j : Int))) rfl (Pu.move rfl) ?_
  refine JL_run rfl (Runs_lookup (i := 1) Try.underlying96 Try.underlying3 Try.zeroValue4 rfl rfl rfl ?_)
  refine JL_nil ?_
  refine J_cond (b := decide ((j : Int) ∈ (metT (t)))) rfl (fun h13 => ?_) (fun h13 => ?_)
  ·skip
   replace h13 := dt h13
   refine J_region ?_
   refine JL_pure (v := v) rfl (Pu.move rfl) ?_
   refine JL_pure (v := .int .i64 ((j : Int))) rfl (Pu.move rfl) ?_
   refine JL_run rfl (Runs_buildSlice (vs := [.int .i64 ((j : Int))]) [[.int .i64 ((j : Int))]] Try.runUnderlying52 el3 rfl rfl (by intro e he; simp only [List.mem_cons, List.not_mem_nil, or_false] at he; subst he; exact rfl) rfl (by decide) fun b14 k14 ho14 hk14 => ?_)
   have hlens15 : ∀ e ∈ ([[.int .i64 ((j : Int))]] : List (List Value)), List.length e = 1 := by
    intro e he; simp only [List.mem_cons, List.not_mem_nil, or_false] at he
    rcases he with rfl
    ·exact rfl
   have hoks15 : ∀ e ∈ ([[.int .i64 ((j : Int))]] : List (List Value)), okc e := by
    intro e he; simp only [List.mem_cons, List.not_mem_nil, or_false] at he
    rcases he with rfl
    ·exact (okc_cons rfl okc_nil)
   refine JL_run rfl (Runs_append (i := 1) (n := 1) (es' := [[.int .i64 ((j : Int))]]) Try.runUnderlying52 Try.runUnderlying52 (Or.inl rfl) el3 rfl rfl rfl ho (fun F w m => Src.row (((At.k 0 rfl (by rw [hk14]; exact List.mem_cons_self))).heap m) (sub_a (flatten_len hlens15))) rfl hlens15 hoks15 (by decide) (by omega) fun v15 k15 ho15 => ?_)
   refine JL_pure (v := v15) rfl (Pu.assign rfl) ?_
   refine JL_nil ?_
   refine J_region ?_
   refine JL_pure (v := .int .i64 (((j + 1 : Nat) : Int))) rfl (Pu.inc rfl rfl (by omega)) ?_
   refine JL_pure (v := .int .i64 (((j + 1 : Nat) : Int))) rfl (Pu.move rfl) ?_
   refine JL_nil ?_
   refine ⟨_, ?_, (j + 1), (v15), (k15), rfl, rfl, rfl, rfl, (Sd (Sk (Sk (Sk Sub.nil)))), ?_, ?_, rfl⟩
   ·omega
   ·omega
   ·rw [upTo_succ, hge, if_pos (by simp [h13]), ints_snoc]; exact ho15
  ·skip
   replace h13 := df h13
   refine J_skip ?_
   refine J_region ?_
   refine JL_pure (v := .int .i64 (((j + 1 : Nat) : Int))) rfl (Pu.inc rfl rfl (by omega)) ?_
   refine JL_pure (v := .int .i64 (((j + 1 : Nat) : Int))) rfl (Pu.move rfl) ?_
   refine JL_nil ?_
   refine ⟨_, ?_, (j + 1), (v), (k1), rfl, rfl, rfl, rfl, (Sk (Sk (Sk Sub.nil))), ?_, ?_, rfl⟩
   ·omega
   ·omega
   ·rw [upTo_succ, hge, if_neg (by simp [h13])]; exact ho
 ·skip
  replace h12 := df h12
  have h12n : 60 ≤ j := by omega
  refine J_exit _ rfl ?_
  refine J_seq ?_
  refine J_region ?_
  refine JL_pure (v := v) rfl (Pu.move rfl) ?_
  refine JL_pure (v := v) rfl (Pu.assign rfl) ?_
  refine JL_nil ?_
  refine J_ret ?_
  refine ⟨v, [k1], Ret.one rfl (RV.tmp rfl), (Sk Sub.nil), ?_⟩
  obtain rfl : j = 60 := by omega
  exact ⟨v, k1, rfl, rfl, ho⟩
end Go.Proofs.Ytmdifonjepggcaa.Hs
/-! Walks, printed by a program of this session's own (gen.py). -/
namespace Go.Proofs.Ytmdifonjepggcaa.Hs
open Go Go.Proofs
set_option maxRecDepth 100000
set_option linter.unusedVariables false
set_option linter.unusedSimpArgs false
attribute [local irreducible] JL J CT wlo
theorem idxP_ct (g : Nat) (fs cv : List Value) (hcall : ∀ args w, (callFunc g args).run Try.prog w = .ok (.enter g args) w) {σ : Type} (Sc : σ → Chunk) (Inv : σ → Prop) (step : Pt → σ → Bool × σ) (l : List Pt) (v : Value) (H : Heap) (hl : rdS RP 35 H v l) (s0 : σ) (h0 : Inv s0) (hI : ∀ x ∈ l, ∀ s, Inv s → (step x s).1 = false → Inv (step x s).2) (hg : ∀ x ∈ l, ∀ s, Inv s → ∀ a h, Hle H h → RP h a x → CT Try.prog g ⟨fs ++ [.agg ⟨a⟩] ++ cv⟩ [Sc s] h (fun v N => v = .bool (step x s).1 ∧ N = [Sc (step x s).2])) : CT Try.prog 97 ⟨[v, .func (.func g) ⟨fs⟩ ⟨cv⟩]⟩ [Sc s0] H (fun v N => v = .int .i64 (idxS step l 0 s0).1 ∧ N = [Sc (idxS step l 0 s0).2]) := by
 refine CT_enter Try.func97 rfl rfl ?_
 refine J_seq ?_
 refine J_region ?_
 refine JL_pure (v := .int .i64 (0)) rfl (Pu.assign rfl) ?_
 refine JL_nil ?_
 refine J_seq ?_
 refine J_seq ?_
 refine J_region ?_
 refine JL_pure (v := v) rfl (Pu.move rfl) ?_
 obtain ⟨a1, cap1, hv1⟩ := hl.sl
 have hle1 := hl.le
 refine JL_pure (v := .int .i64 (((l).length : Int))) rfl (Pu.lenSl Try.runUnderlying64 hv1) ?_
 refine JL_pure (v := .int .i64 (0)) rfl (Pu.move rfl) ?_
 refine JL_nil ?_
 refine J_block ?_
 refine J_loop (fun k ρ M => ∃ (j : Nat) (s : σ), ρ 0 = v ∧ ρ 1 = .func (.func g) ⟨fs⟩ ⟨cv⟩ ∧ ρ 4 = .int .i64 (0) ∧ ρ 7 = .int .i64 (((l).length : Int)) ∧ ρ 8 = .int .i64 ((j : Int)) ∧ Sub [Sc s] M ∧ j ≤ (l).length ∧ Inv s ∧ idxS step (l.drop j) j s = idxS step l 0 s0 ∧ k = (l).length - j) _ ⟨0, s0, rfl, rfl, rfl, rfl, rfl, (Sk Sub.nil), Nat.zero_le _, h0, rfl, rfl⟩ ?_
 rintro _ ρ2 _ ⟨j, s, e3, e4, e5, e6, e7, hm8, hj, hs, hinv, rfl⟩
 obtain ⟨ρ9, rfl⟩ := reopen_ex (uc e3 (uc e4 (uc e5 (uc e6 (uc e7 un)))))
 clear e3 e4 e5 e6 e7
 refine J_sub hm8 ?_
 refine J_seq ?_
 refine J_region ?_
 refine JL_pure (v := .bool (decide ((j : Int) < ((l).length : Int)))) rfl (Pu.lss rfl rfl) ?_
 refine JL_nil ?_
 refine J_seq ?_
 refine J_cond (b := decide ((j : Int) < ((l).length : Int))) rfl (fun h10 => ?_) (fun h10 => ?_)
 ·skip
  replace h10 := dt h10
  have h10n : j < (l).length := by omega
  have hlenl := hl.le
  refine J_skip ?_
  refine J_seq ?_
  refine J_block ?_
  refine J_seq ?_
  refine J_region ?_
  refine JL_pure (v := .int .i64 ((j : Int))) rfl (Pu.move rfl) ?_
  refine JL_pure (v := .int .i64 ((j : Int))) rfl (Pu.assign rfl) ?_
  refine JL_nil ?_
  refine J_seq ?_
  refine J_region ?_
  refine JL_pure (v := .func (.func g) ⟨fs⟩ ⟨cv⟩) rfl (Pu.move rfl) ?_
  refine JL_pure (v := v) rfl (Pu.move rfl) ?_
  refine JL_pure (v := .int .i64 ((j : Int))) rfl (Pu.move rfl) ?_
  obtain ⟨b11, o11, cap11, row11, T11, fr11, cs11, hv11, hb11, hs11, hE11⟩ := hl.get j (by first | assumption | omega | decide | simp)
  refine JL_pure (v := .pointer (some ⟨b11, o11 + j * 35, none⟩)) rfl (Pu.idx j Try.runUnderlying64 ty66 hv11 rfl rfl (by first | assumption | omega | decide | simp)) ?_
  refine JL_run rfl (Pu_load ty66 rfl (At.im hb11) hs11 ?_)
  refine JL_call1 0 rfl hcall rfl rfl (fun hin => hg _ (List.getElem_mem h10n) _ hs _ _ (Hle.hu _ _) (RP.mono (Hle.hu _ _) hE11)) rfl ?_
  rintro _ _ ⟨rfl, rfl⟩
  refine JL_nil ?_
  refine J_cond (b := (step ((l)[j]) s).1) rfl (fun h12 => ?_) (fun h12 => ?_)
  ·skip
   refine J_seq ?_
   refine J_region ?_
   refine JL_pure (v := .int .i64 ((j : Int))) rfl (Pu.move rfl) ?_
   refine JL_pure (v := .int .i64 ((j : Int))) rfl (Pu.assign rfl) ?_
   refine JL_nil ?_
   refine J_ret ?_
   refine ⟨.int .i64 ((j : Int)), [Sc (step ((l)[j]) s).2], Ret.one rfl (RV.tmp rfl), (Sk Sub.nil), ?_⟩
   refine ⟨?_, ?_⟩ <;> rw [← hinv, dropc h10n, idxS, if_pos h12]
  ·skip
   refine J_skip ?_
   refine J_region ?_
   refine JL_pure (v := .int .i64 (((j + 1 : Nat) : Int))) rfl (Pu.inc rfl rfl (by omega)) ?_
   refine JL_pure (v := .int .i64 (((j + 1 : Nat) : Int))) rfl (Pu.move rfl) ?_
   refine JL_nil ?_
   refine ⟨_, ?_, (j + 1), ((step ((l)[j]) s).2), rfl, rfl, rfl, rfl, rfl, (Sk Sub.nil), ?_, ?_, ?_, rfl⟩
   ·omega
   ·omega
   ·exact hI _ (List.getElem_mem h10n) s hs h12
   ·rw [dropc h10n, idxS, if_neg (by simp [h12])] at hinv; exact hinv
 ·skip
  replace h10 := df h10
  have h10n : (l).length ≤ j := by omega
  refine J_exit _ rfl ?_
  refine J_seq ?_
  refine J_region ?_
  refine JL_pure (v := .int .i64 (-1)) rfl (Pu.assign rfl) ?_
  refine JL_nil ?_
  refine J_ret ?_
  refine ⟨.int .i64 (-1), [Sc s], Ret.one rfl (RV.tmp rfl), (Sk Sub.nil), ?_⟩
  refine ⟨?_, ?_⟩ <;> rw [← hinv, dropn h10n] <;> rfl
theorem idxT_ct (g : Nat) (fs cv : List Value) (hcall : ∀ args w, (callFunc g args).run Try.prog w = .ok (.enter g args) w) {σ : Type} (Sc : σ → Chunk) (Inv : σ → Prop) (step : Tm → σ → Bool × σ) (l : List Tm) (v : Value) (H : Heap) (hl : rdS RT 36 H v l) (s0 : σ) (h0 : Inv s0) (hI : ∀ x ∈ l, ∀ s, Inv s → (step x s).1 = false → Inv (step x s).2) (hg : ∀ x ∈ l, ∀ s, Inv s → ∀ a h, Hle H h → RT h a x → CT Try.prog g ⟨fs ++ [.agg ⟨a⟩] ++ cv⟩ [Sc s] h (fun v N => v = .bool (step x s).1 ∧ N = [Sc (step x s).2])) : CT Try.prog 84 ⟨[v, .func (.func g) ⟨fs⟩ ⟨cv⟩]⟩ [Sc s0] H (fun v N => v = .int .i64 (idxS step l 0 s0).1 ∧ N = [Sc (idxS step l 0 s0).2]) := by
 refine CT_enter Try.func84 rfl rfl ?_
 refine J_seq ?_
 refine J_region ?_
 refine JL_pure (v := .int .i64 (0)) rfl (Pu.assign rfl) ?_
 refine JL_nil ?_
 refine J_seq ?_
 refine J_seq ?_
 refine J_region ?_
 refine JL_pure (v := v) rfl (Pu.move rfl) ?_
 obtain ⟨a1, cap1, hv1⟩ := hl.sl
 have hle1 := hl.le
 refine JL_pure (v := .int .i64 (((l).length : Int))) rfl (Pu.lenSl Try.runUnderlying27 hv1) ?_
 refine JL_pure (v := .int .i64 (0)) rfl (Pu.move rfl) ?_
 refine JL_nil ?_
 refine J_block ?_
 refine J_loop (fun k ρ M => ∃ (j : Nat) (s : σ), ρ 0 = v ∧ ρ 1 = .func (.func g) ⟨fs⟩ ⟨cv⟩ ∧ ρ 4 = .int .i64 (0) ∧ ρ 7 = .int .i64 (((l).length : Int)) ∧ ρ 8 = .int .i64 ((j : Int)) ∧ Sub [Sc s] M ∧ j ≤ (l).length ∧ Inv s ∧ idxS step (l.drop j) j s = idxS step l 0 s0 ∧ k = (l).length - j) _ ⟨0, s0, rfl, rfl, rfl, rfl, rfl, (Sk Sub.nil), Nat.zero_le _, h0, rfl, rfl⟩ ?_
 rintro _ ρ2 _ ⟨j, s, e3, e4, e5, e6, e7, hm8, hj, hs, hinv, rfl⟩
 obtain ⟨ρ9, rfl⟩ := reopen_ex (uc e3 (uc e4 (uc e5 (uc e6 (uc e7 un)))))
 clear e3 e4 e5 e6 e7
 refine J_sub hm8 ?_
 refine J_seq ?_
 refine J_region ?_
 refine JL_pure (v := .bool (decide ((j : Int) < ((l).length : Int)))) rfl (Pu.lss rfl rfl) ?_
 refine JL_nil ?_
 refine J_seq ?_
 refine J_cond (b := decide ((j : Int) < ((l).length : Int))) rfl (fun h10 => ?_) (fun h10 => ?_)
 ·skip
  replace h10 := dt h10
  have h10n : j < (l).length := by omega
  have hlenl := hl.le
  refine J_skip ?_
  refine J_seq ?_
  refine J_block ?_
  refine J_seq ?_
  refine J_region ?_
  refine JL_pure (v := .int .i64 ((j : Int))) rfl (Pu.move rfl) ?_
  refine JL_pure (v := .int .i64 ((j : Int))) rfl (Pu.assign rfl) ?_
  refine JL_nil ?_
  refine J_seq ?_
  refine J_region ?_
  refine JL_pure (v := .func (.func g) ⟨fs⟩ ⟨cv⟩) rfl (Pu.move rfl) ?_
  refine JL_pure (v := v) rfl (Pu.move rfl) ?_
  refine JL_pure (v := .int .i64 ((j : Int))) rfl (Pu.move rfl) ?_
  obtain ⟨b11, o11, cap11, row11, T11, fr11, cs11, hv11, hb11, hs11, hE11⟩ := hl.get j (by first | assumption | omega | decide | simp)
  refine JL_pure (v := .pointer (some ⟨b11, o11 + j * 36, none⟩)) rfl (Pu.idx j Try.runUnderlying27 ty30 hv11 rfl rfl (by first | assumption | omega | decide | simp)) ?_
  refine JL_run rfl (Pu_load ty30 rfl (At.im hb11) hs11 ?_)
  refine JL_call1 0 rfl hcall rfl rfl (fun hin => hg _ (List.getElem_mem h10n) _ hs _ _ (Hle.hu _ _) (RT.mono (Hle.hu _ _) hE11)) rfl ?_
  rintro _ _ ⟨rfl, rfl⟩
  refine JL_nil ?_
  refine J_cond (b := (step ((l)[j]) s).1) rfl (fun h12 => ?_) (fun h12 => ?_)
  ·skip
   refine J_seq ?_
   refine J_region ?_
   refine JL_pure (v := .int .i64 ((j : Int))) rfl (Pu.move rfl) ?_
   refine JL_pure (v := .int .i64 ((j : Int))) rfl (Pu.assign rfl) ?_
   refine JL_nil ?_
   refine J_ret ?_
   refine ⟨.int .i64 ((j : Int)), [Sc (step ((l)[j]) s).2], Ret.one rfl (RV.tmp rfl), (Sk Sub.nil), ?_⟩
   refine ⟨?_, ?_⟩ <;> rw [← hinv, dropc h10n, idxS, if_pos h12]
  ·skip
   refine J_skip ?_
   refine J_region ?_
   refine JL_pure (v := .int .i64 (((j + 1 : Nat) : Int))) rfl (Pu.inc rfl rfl (by omega)) ?_
   refine JL_pure (v := .int .i64 (((j + 1 : Nat) : Int))) rfl (Pu.move rfl) ?_
   refine JL_nil ?_
   refine ⟨_, ?_, (j + 1), ((step ((l)[j]) s).2), rfl, rfl, rfl, rfl, rfl, (Sk Sub.nil), ?_, ?_, ?_, rfl⟩
   ·omega
   ·omega
   ·exact hI _ (List.getElem_mem h10n) s hs h12
   ·rw [dropc h10n, idxS, if_neg (by simp [h12])] at hinv; exact hinv
 ·skip
  replace h10 := df h10
  have h10n : (l).length ≤ j := by omega
  refine J_exit _ rfl ?_
  refine J_seq ?_
  refine J_region ?_
  refine JL_pure (v := .int .i64 (-1)) rfl (Pu.assign rfl) ?_
  refine JL_nil ?_
  refine J_ret ?_
  refine ⟨.int .i64 (-1), [Sc s], Ret.one rfl (RV.tmp rfl), (Sk Sub.nil), ?_⟩
  refine ⟨?_, ?_⟩ <;> rw [← hinv, dropn h10n] <;> rfl
theorem idxC_ct (g : Nat) (fs cv : List Value) (hcall : ∀ args w, (callFunc g args).run Try.prog w = .ok (.enter g args) w) {σ : Type} (Sc : σ → Chunk) (Inv : σ → Prop) (step : (Pt × Tm) → σ → Bool × σ) (l : List (Pt × Tm)) (v : Value) (H : Heap) (hl : rdS RC 71 H v l) (s0 : σ) (h0 : Inv s0) (hI : ∀ x ∈ l, ∀ s, Inv s → (step x s).1 = false → Inv (step x s).2) (hg : ∀ x ∈ l, ∀ s, Inv s → ∀ a h, Hle H h → RC h a x → CT Try.prog g ⟨fs ++ [.agg ⟨a⟩] ++ cv⟩ [Sc s] h (fun v N => v = .bool (step x s).1 ∧ N = [Sc (step x s).2])) : CT Try.prog 85 ⟨[v, .func (.func g) ⟨fs⟩ ⟨cv⟩]⟩ [Sc s0] H (fun v N => v = .int .i64 (idxS step l 0 s0).1 ∧ N = [Sc (idxS step l 0 s0).2]) := by
 refine CT_enter Try.func85 rfl rfl ?_
 refine J_seq ?_
 refine J_region ?_
 refine JL_pure (v := .int .i64 (0)) rfl (Pu.assign rfl) ?_
 refine JL_nil ?_
 refine J_seq ?_
 refine J_seq ?_
 refine J_region ?_
 refine JL_pure (v := v) rfl (Pu.move rfl) ?_
 obtain ⟨a1, cap1, hv1⟩ := hl.sl
 have hle1 := hl.le
 refine JL_pure (v := .int .i64 (((l).length : Int))) rfl (Pu.lenSl Try.runUnderlying28 hv1) ?_
 refine JL_pure (v := .int .i64 (0)) rfl (Pu.move rfl) ?_
 refine JL_nil ?_
 refine J_block ?_
 refine J_loop (fun k ρ M => ∃ (j : Nat) (s : σ), ρ 0 = v ∧ ρ 1 = .func (.func g) ⟨fs⟩ ⟨cv⟩ ∧ ρ 4 = .int .i64 (0) ∧ ρ 7 = .int .i64 (((l).length : Int)) ∧ ρ 8 = .int .i64 ((j : Int)) ∧ Sub [Sc s] M ∧ j ≤ (l).length ∧ Inv s ∧ idxS step (l.drop j) j s = idxS step l 0 s0 ∧ k = (l).length - j) _ ⟨0, s0, rfl, rfl, rfl, rfl, rfl, (Sk Sub.nil), Nat.zero_le _, h0, rfl, rfl⟩ ?_
 rintro _ ρ2 _ ⟨j, s, e3, e4, e5, e6, e7, hm8, hj, hs, hinv, rfl⟩
 obtain ⟨ρ9, rfl⟩ := reopen_ex (uc e3 (uc e4 (uc e5 (uc e6 (uc e7 un)))))
 clear e3 e4 e5 e6 e7
 refine J_sub hm8 ?_
 refine J_seq ?_
 refine J_region ?_
 refine JL_pure (v := .bool (decide ((j : Int) < ((l).length : Int)))) rfl (Pu.lss rfl rfl) ?_
 refine JL_nil ?_
 refine J_seq ?_
 refine J_cond (b := decide ((j : Int) < ((l).length : Int))) rfl (fun h10 => ?_) (fun h10 => ?_)
 ·skip
  replace h10 := dt h10
  have h10n : j < (l).length := by omega
  have hlenl := hl.le
  refine J_skip ?_
  refine J_seq ?_
  refine J_block ?_
  refine J_seq ?_
  refine J_region ?_
  refine JL_pure (v := .int .i64 ((j : Int))) rfl (Pu.move rfl) ?_
  refine JL_pure (v := .int .i64 ((j : Int))) rfl (Pu.assign rfl) ?_
  refine JL_nil ?_
  refine J_seq ?_
  refine J_region ?_
  refine JL_pure (v := .func (.func g) ⟨fs⟩ ⟨cv⟩) rfl (Pu.move rfl) ?_
  refine JL_pure (v := v) rfl (Pu.move rfl) ?_
  refine JL_pure (v := .int .i64 ((j : Int))) rfl (Pu.move rfl) ?_
  obtain ⟨b11, o11, cap11, row11, T11, fr11, cs11, hv11, hb11, hs11, hE11⟩ := hl.get j (by first | assumption | omega | decide | simp)
  obtain ⟨ca11, cb11, rfl, hA11, hB11⟩ := hE11
  refine JL_pure (v := .pointer (some ⟨b11, o11 + j * 71, none⟩)) rfl (Pu.idx j Try.runUnderlying28 ty68 hv11 rfl rfl (by first | assumption | omega | decide | simp)) ?_
  refine JL_run rfl (Pu_load ty68 rfl (At.im hb11) hs11 ?_)
  refine JL_call1 0 rfl hcall rfl rfl (fun hin => hg _ (List.getElem_mem h10n) _ hs _ _ (Hle.hu _ _) (RC.mono (Hle.hu _ _) (RC_mk hA11 hB11))) rfl ?_
  rintro _ _ ⟨rfl, rfl⟩
  refine JL_nil ?_
  refine J_cond (b := (step ((l)[j]) s).1) rfl (fun h12 => ?_) (fun h12 => ?_)
  ·skip
   refine J_seq ?_
   refine J_region ?_
   refine JL_pure (v := .int .i64 ((j : Int))) rfl (Pu.move rfl) ?_
   refine JL_pure (v := .int .i64 ((j : Int))) rfl (Pu.assign rfl) ?_
   refine JL_nil ?_
   refine J_ret ?_
   refine ⟨.int .i64 ((j : Int)), [Sc (step ((l)[j]) s).2], Ret.one rfl (RV.tmp rfl), (Sk Sub.nil), ?_⟩
   refine ⟨?_, ?_⟩ <;> rw [← hinv, dropc h10n, idxS, if_pos h12]
  ·skip
   refine J_skip ?_
   refine J_region ?_
   refine JL_pure (v := .int .i64 (((j + 1 : Nat) : Int))) rfl (Pu.inc rfl rfl (by omega)) ?_
   refine JL_pure (v := .int .i64 (((j + 1 : Nat) : Int))) rfl (Pu.move rfl) ?_
   refine JL_nil ?_
   refine ⟨_, ?_, (j + 1), ((step ((l)[j]) s).2), rfl, rfl, rfl, rfl, rfl, (Sk Sub.nil), ?_, ?_, ?_, rfl⟩
   ·omega
   ·omega
   ·exact hI _ (List.getElem_mem h10n) s hs h12
   ·rw [dropc h10n, idxS, if_neg (by simp [h12])] at hinv; exact hinv
 ·skip
  replace h10 := df h10
  have h10n : (l).length ≤ j := by omega
  refine J_exit _ rfl ?_
  refine J_seq ?_
  refine J_region ?_
  refine JL_pure (v := .int .i64 (-1)) rfl (Pu.assign rfl) ?_
  refine JL_nil ?_
  refine J_ret ?_
  refine ⟨.int .i64 (-1), [Sc s], Ret.one rfl (RV.tmp rfl), (Sk Sub.nil), ?_⟩
  refine ⟨?_, ?_⟩ <;> rw [← hinv, dropn h10n] <;> rfl
theorem containsP_ct (g : Nat) (fs cv : List Value) (hcall : ∀ args w, (callFunc g args).run Try.prog w = .ok (.enter g args) w) {σ : Type} (Sc : σ → Chunk) (Inv : σ → Prop) (step : Pt → σ → Bool × σ) (l : List Pt) (v : Value) (H : Heap) (hl : rdS RP 35 H v l) (s0 : σ) (h0 : Inv s0) (hI : ∀ x ∈ l, ∀ s, Inv s → (step x s).1 = false → Inv (step x s).2) (hg : ∀ x ∈ l, ∀ s, Inv s → ∀ a h, Hle H h → RP h a x → CT Try.prog g ⟨fs ++ [.agg ⟨a⟩] ++ cv⟩ [Sc s] h (fun v N => v = .bool (step x s).1 ∧ N = [Sc (step x s).2])) : CT Try.prog 86 ⟨[v, .func (.func g) ⟨fs⟩ ⟨cv⟩]⟩ [Sc s0] H (fun v N => v = .bool (anyS step l s0).1 ∧ N = [Sc (anyS step l s0).2]) := by
 refine CT_enter Try.func86 rfl rfl ?_
 refine J_seq ?_
 refine J_region ?_
 refine JL_pure (v := .bool (false)) rfl (Pu.assign rfl) ?_
 refine JL_nil ?_
 refine J_seq ?_
 refine J_region ?_
 refine JL_pure (v := v) rfl (Pu.move rfl) ?_
 refine JL_pure (v := .func (.func g) ⟨fs⟩ ⟨cv⟩) rfl (Pu.move rfl) ?_
 refine JL_call1 0 rfl Try.call97 rfl rfl (fun hin => idxP_ct g fs cv hcall Sc Inv step _ _ _ (RPs.mono (Hle.hu _ _) hl) s0 h0 hI (fun x hx s hs a h hh ra => hg x hx s hs a h (Hle.trans (Hle.hu _ _) hh) ra)) rfl ?_
 rintro _ _ ⟨rfl, rfl⟩
 refine JL_pure (v := .bool (decide (0 ≤ (idxS step l 0 s0).1))) rfl (Pu.geq rfl rfl) ?_
 refine JL_pure (v := .bool (decide (0 ≤ (idxS step l 0 s0).1))) rfl (Pu.assign rfl) ?_
 refine JL_nil ?_
 refine J_ret ?_
 refine ⟨.bool (decide (0 ≤ (idxS step l 0 s0).1)), [Sc (idxS step l 0 s0).2], Ret.one rfl (RV.tmp rfl), (Sk Sub.nil), ?_⟩
 exact ⟨by rw [(idxS_any step l 0 s0).1], by rw [(idxS_any step l 0 s0).2]⟩
theorem containsT_ct (g : Nat) (fs cv : List Value) (hcall : ∀ args w, (callFunc g args).run Try.prog w = .ok (.enter g args) w) {σ : Type} (Sc : σ → Chunk) (Inv : σ → Prop) (step : Tm → σ → Bool × σ) (l : List Tm) (v : Value) (H : Heap) (hl : rdS RT 36 H v l) (s0 : σ) (h0 : Inv s0) (hI : ∀ x ∈ l, ∀ s, Inv s → (step x s).1 = false → Inv (step x s).2) (hg : ∀ x ∈ l, ∀ s, Inv s → ∀ a h, Hle H h → RT h a x → CT Try.prog g ⟨fs ++ [.agg ⟨a⟩] ++ cv⟩ [Sc s] h (fun v N => v = .bool (step x s).1 ∧ N = [Sc (step x s).2])) : CT Try.prog 70 ⟨[v, .func (.func g) ⟨fs⟩ ⟨cv⟩]⟩ [Sc s0] H (fun v N => v = .bool (anyS step l s0).1 ∧ N = [Sc (anyS step l s0).2]) := by
 refine CT_enter Try.func70 rfl rfl ?_
 refine J_seq ?_
 refine J_region ?_
 refine JL_pure (v := .bool (false)) rfl (Pu.assign rfl) ?_
 refine JL_nil ?_
 refine J_seq ?_
 refine J_region ?_
 refine JL_pure (v := v) rfl (Pu.move rfl) ?_
 refine JL_pure (v := .func (.func g) ⟨fs⟩ ⟨cv⟩) rfl (Pu.move rfl) ?_
 refine JL_call1 0 rfl Try.call84 rfl rfl (fun hin => idxT_ct g fs cv hcall Sc Inv step _ _ _ (RTs.mono (Hle.hu _ _) hl) s0 h0 hI (fun x hx s hs a h hh ra => hg x hx s hs a h (Hle.trans (Hle.hu _ _) hh) ra)) rfl ?_
 rintro _ _ ⟨rfl, rfl⟩
 refine JL_pure (v := .bool (decide (0 ≤ (idxS step l 0 s0).1))) rfl (Pu.geq rfl rfl) ?_
 refine JL_pure (v := .bool (decide (0 ≤ (idxS step l 0 s0).1))) rfl (Pu.assign rfl) ?_
 refine JL_nil ?_
 refine J_ret ?_
 refine ⟨.bool (decide (0 ≤ (idxS step l 0 s0).1)), [Sc (idxS step l 0 s0).2], Ret.one rfl (RV.tmp rfl), (Sk Sub.nil), ?_⟩
 exact ⟨by rw [(idxS_any step l 0 s0).1], by rw [(idxS_any step l 0 s0).2]⟩
theorem containsC_ct (g : Nat) (fs cv : List Value) (hcall : ∀ args w, (callFunc g args).run Try.prog w = .ok (.enter g args) w) {σ : Type} (Sc : σ → Chunk) (Inv : σ → Prop) (step : (Pt × Tm) → σ → Bool × σ) (l : List (Pt × Tm)) (v : Value) (H : Heap) (hl : rdS RC 71 H v l) (s0 : σ) (h0 : Inv s0) (hI : ∀ x ∈ l, ∀ s, Inv s → (step x s).1 = false → Inv (step x s).2) (hg : ∀ x ∈ l, ∀ s, Inv s → ∀ a h, Hle H h → RC h a x → CT Try.prog g ⟨fs ++ [.agg ⟨a⟩] ++ cv⟩ [Sc s] h (fun v N => v = .bool (step x s).1 ∧ N = [Sc (step x s).2])) : CT Try.prog 71 ⟨[v, .func (.func g) ⟨fs⟩ ⟨cv⟩]⟩ [Sc s0] H (fun v N => v = .bool (anyS step l s0).1 ∧ N = [Sc (anyS step l s0).2]) := by
 refine CT_enter Try.func71 rfl rfl ?_
 refine J_seq ?_
 refine J_region ?_
 refine JL_pure (v := .bool (false)) rfl (Pu.assign rfl) ?_
 refine JL_nil ?_
 refine J_seq ?_
 refine J_region ?_
 refine JL_pure (v := v) rfl (Pu.move rfl) ?_
 refine JL_pure (v := .func (.func g) ⟨fs⟩ ⟨cv⟩) rfl (Pu.move rfl) ?_
 refine JL_call1 0 rfl Try.call85 rfl rfl (fun hin => idxC_ct g fs cv hcall Sc Inv step _ _ _ (RCs.mono (Hle.hu _ _) hl) s0 h0 hI (fun x hx s hs a h hh ra => hg x hx s hs a h (Hle.trans (Hle.hu _ _) hh) ra)) rfl ?_
 rintro _ _ ⟨rfl, rfl⟩
 refine JL_pure (v := .bool (decide (0 ≤ (idxS step l 0 s0).1))) rfl (Pu.geq rfl rfl) ?_
 refine JL_pure (v := .bool (decide (0 ≤ (idxS step l 0 s0).1))) rfl (Pu.assign rfl) ?_
 refine JL_nil ?_
 refine J_ret ?_
 refine ⟨.bool (decide (0 ≤ (idxS step l 0 s0).1)), [Sc (idxS step l 0 s0).2], Ret.one rfl (RV.tmp rfl), (Sk Sub.nil), ?_⟩
 exact ⟨by rw [(idxS_any step l 0 s0).1], by rw [(idxS_any step l 0 s0).2]⟩
end Go.Proofs.Ytmdifonjepggcaa.Hs
/-! Walks, printed by a program of this session's own (gen.py). -/
namespace Go.Proofs.Ytmdifonjepggcaa.Hs
open Go Go.Proofs
set_option maxRecDepth 100000
set_option linter.unusedVariables false
set_option linter.unusedSimpArgs false
attribute [local irreducible] JL J CT wlo
theorem longPK_ct : ∀ (x : Pt) (d s : Int) (a : List Value) (H : Heap) (bL bA bD : Nat), RP H a x → H bA = some (.cells ⟨[.pointer (some ⟨bL, 0, none⟩)]⟩ 88 (0, 0)) → H bD = some (.cells ⟨[.int .i64 d]⟩ 3 (0, 0)) → 0 ≤ d → d ≤ 100 → (∀ h a, Hle H h → RP h a x → CT Try.prog 73 ⟨[.pointer (some ⟨bL, 0, none⟩), .agg ⟨a⟩, .int .i64 (d + 1)]⟩ [[(bL, .cells ⟨[.int .i64 (s)]⟩ 90 (0, 0))]] h (fun v N => v = .bool (cnP stL (d + 1) x s).1 ∧ N = [[(bL, .cells ⟨[.int .i64 ((cnP stL (d + 1) x s).2)]⟩ 90 (0, 0))]])) → CT Try.prog 87 ⟨[.agg ⟨a⟩, .pointer (some ⟨bA, 0, none⟩), .pointer (some ⟨bD, 0, none⟩)]⟩ [[(bL, .cells ⟨[.int .i64 (s)]⟩ 90 (0, 0))]] H (fun v N => v = .bool (cnP stL (d + 1) x s).1 ∧ N = [[(bL, .cells ⟨[.int .i64 ((cnP stL (d + 1) x s).2)]⟩ 90 (0, 0))]]) := by
 intro x d s a H bL bA bD ra hH1 hH5 hd0 hd1 hg
 refine CT_enter Try.func87 rfl rfl ?_
 refine J_seq ?_
 refine J_region ?_
 refine JL_run rfl (Runs_box (l := a) rfl rfl fun b1 => ?_)
 refine JL_pure (v := .bool (false)) rfl (Pu.assign rfl) ?_
 refine JL_nil ?_
 refine J_seq ?_
 refine J_region ?_
 refine JL_run rfl (Pu_load1 ty88 rfl (At.im hH1) rfl ?_)
 refine JL_run rfl (Pu_load ty66 rfl (At.bx 0 rfl) (sub_a (RP_len ra)) ?_)
 refine JL_run rfl (Pu_load1 ty3 rfl (At.im hH5) rfl ?_)
 refine JL_pure (v := .int .i64 (d + 1)) rfl (Pu.add64 rfl rfl (by first | omega | (constructor <;> omega))) ?_
 refine JL_call1 1 rfl Try.call73 rfl rfl (fun hin => hg _ _ (Hle.hu _ _) (RP.mono (Hle.hu _ _) ra)) rfl ?_
 rintro _ _ ⟨rfl, rfl⟩
 refine JL_pure (v := .bool ((cnP stL (d + 1) (x) (s)).1)) rfl (Pu.assign rfl) ?_
 refine JL_nil ?_
 refine J_ret ?_
 refine ⟨.bool ((cnP stL (d + 1) (x) (s)).1), [[(bL, .cells ⟨[.int .i64 ((cnP stL (d + 1) (x) (s)).2)]⟩ 90 (0, 0))]], Ret.one rfl (RV.tmp rfl), (Sk Sub.nil), ?_⟩
 exact ⟨rfl, rfl⟩
theorem longTK_ct : ∀ (x : Tm) (d s : Int) (a : List Value) (H : Heap) (bL bA bD : Nat), RT H a x → H bA = some (.cells ⟨[.pointer (some ⟨bL, 0, none⟩)]⟩ 88 (0, 0)) → H bD = some (.cells ⟨[.int .i64 d]⟩ 3 (0, 0)) → 0 ≤ d → d ≤ 100 → (∀ h a, Hle H h → RT h a x → CT Try.prog 40 ⟨[.pointer (some ⟨bL, 0, none⟩), .agg ⟨a⟩, .int .i64 (d + 1)]⟩ [[(bL, .cells ⟨[.int .i64 (s)]⟩ 90 (0, 0))]] h (fun v N => v = .bool (cnT stL (d + 1) x s).1 ∧ N = [[(bL, .cells ⟨[.int .i64 ((cnT stL (d + 1) x s).2)]⟩ 90 (0, 0))]])) → CT Try.prog 69 ⟨[.agg ⟨a⟩, .pointer (some ⟨bA, 0, none⟩), .pointer (some ⟨bD, 0, none⟩)]⟩ [[(bL, .cells ⟨[.int .i64 (s)]⟩ 90 (0, 0))]] H (fun v N => v = .bool (cnT stL (d + 1) x s).1 ∧ N = [[(bL, .cells ⟨[.int .i64 ((cnT stL (d + 1) x s).2)]⟩ 90 (0, 0))]]) := by
 intro x d s a H bL bA bD ra hH1 hH5 hd0 hd1 hg
 refine CT_enter Try.func69 rfl rfl ?_
 refine J_seq ?_
 refine J_region ?_
 refine JL_run rfl (Runs_box (l := a) rfl rfl fun b1 => ?_)
 refine JL_pure (v := .bool (false)) rfl (Pu.assign rfl) ?_
 refine JL_nil ?_
 refine J_seq ?_
 refine J_region ?_
 refine JL_run rfl (Pu_load1 ty88 rfl (At.im hH1) rfl ?_)
 refine JL_run rfl (Pu_load ty30 rfl (At.bx 0 rfl) (sub_a (RT_len ra)) ?_)
 refine JL_run rfl (Pu_load1 ty3 rfl (At.im hH5) rfl ?_)
 refine JL_pure (v := .int .i64 (d + 1)) rfl (Pu.add64 rfl rfl (by first | omega | (constructor <;> omega))) ?_
 refine JL_call1 1 rfl Try.call40 rfl rfl (fun hin => hg _ _ (Hle.hu _ _) (RT.mono (Hle.hu _ _) ra)) rfl ?_
 rintro _ _ ⟨rfl, rfl⟩
 refine JL_pure (v := .bool ((cnT stL (d + 1) (x) (s)).1)) rfl (Pu.assign rfl) ?_
 refine JL_nil ?_
 refine J_ret ?_
 refine ⟨.bool ((cnT stL (d + 1) (x) (s)).1), [[(bL, .cells ⟨[.int .i64 ((cnT stL (d + 1) (x) (s)).2)]⟩ 90 (0, 0))]], Ret.one rfl (RV.tmp rfl), (Sk Sub.nil), ?_⟩
 exact ⟨rfl, rfl⟩
theorem longP_ct : ∀ (p : Pt) (d n : Int) (cs : List Value) (H : Heap) (bL : Nat), RP H cs p → 0 ≤ n → n ≤ 300 → 0 ≤ d → d ≤ 61 → CT Try.prog 73 ⟨[.pointer (some ⟨bL, 0, none⟩), .agg ⟨cs⟩, .int .i64 d]⟩ [[(bL, .cells ⟨[.int .i64 (n)]⟩ 90 (0, 0))]] H (fun v N => v = .bool (cnP stL d p n).1 ∧ N = [[(bL, .cells ⟨[.int .i64 ((cnP stL d p n).2)]⟩ 90 (0, 0))]]) := by
 intro p
 induction p using Pt.ind with
 | h kind num ref kids ih =>
 intro d n cs H bL hp hn0 hn1 hd0 hd1
 obtain ⟨ks, rfl, hk, hn, hks⟩ := RP_mk.1 hp
 refine CT_enter Try.func73 rfl rfl ?_
 refine J_seq ?_
 refine J_region ?_
 refine JL_run rfl (Runs_box (l := [.pointer (some ⟨bL, 0, none⟩)]) rfl rfl fun b1 => ?_)
 refine JL_run rfl (Runs_box (l := pkP (kind) (num) (ref) (ks)) rfl rfl fun b2 => ?_)
 refine JL_run rfl (Runs_box (l := [.int .i64 (d)]) rfl rfl fun b3 => ?_)
 refine JL_pure (v := .bool (false)) rfl (Pu.assign rfl) ?_
 refine JL_nil ?_
 refine J_seq ?_
 refine J_seq ?_
 refine J_region ?_
 refine JL_run rfl (Pu_load1 ty88 rfl (At.bx 2 rfl) rfl ?_)
 refine JL_pure (v := .pointer (some ⟨bL, 0, none⟩)) rfl (Pu.nilCheck rfl) ?_
 refine JL_pure (v := .pointer (some ⟨bL, 0, none⟩)) rfl (fa90_0 rfl rfl) ?_
 refine JL_run rfl (Pu_load1 ty3 rfl (At.bx 3 rfl) rfl ?_)
 refine JL_pure (v := .int .i64 (n + 1)) rfl (Pu.add64 rfl rfl (by first | omega | (constructor <;> omega))) ?_
 refine JL_pure (v := .pointer (some ⟨bL, 0, none⟩)) rfl (Pu.nilCheck rfl) ?_
 refine JL_pure (v := .pointer (some ⟨bL, 0, none⟩)) rfl (fa90_0 rfl rfl) ?_
 refine JL_run rfl (Runs_storeB 3 (vs := [.int .i64 (n + 1)]) (l := [.int .i64 (n + 1)]) ty3 rfl rfl rfl rfl rfl (okc_cons rfl okc_nil) rfl ?_)
 refine JL_nil ?_
 refine J_cut (fun ρ M => ρ 3 = .pointer (some ⟨b1, 0, none⟩) ∧ ρ 4 = .pointer (some ⟨b2, 0, none⟩) ∧ ρ 5 = .pointer (some ⟨b3, 0, none⟩) ∧ ρ 6 = .bool (false) ∧ ρ 22 = .bool ((decide (300 < n + 1)) || (decide (60 < d))) ∧ M = [[(b3, .cells ⟨[.int .i64 (d)]⟩ 3 (0, 0))], [(b2, .cells ⟨pkP (kind) (num) (ref) (ks)⟩ 66 (0, 0))], [(b1, .cells ⟨[.pointer (some ⟨bL, 0, none⟩)]⟩ 88 (0, 0))], [(bL, .cells ⟨[.int .i64 (n + 1)]⟩ 90 (0, 0))]]) ?_ ?_
 ·refine J_region ?_
  refine JL_run rfl (Pu_load1 ty88 rfl (At.bx 2 rfl) rfl ?_)
  refine JL_pure (v := .pointer (some ⟨bL, 0, none⟩)) rfl (Pu.nilCheck rfl) ?_
  refine JL_pure (v := .pointer (some ⟨bL, 0, none⟩)) rfl (fa90_0 rfl rfl) ?_
  refine JL_run rfl (Pu_load1 ty3 rfl (At.bx 3 rfl) rfl ?_)
  refine JL_pure (v := .bool (decide (300 < n + 1))) rfl (Pu.gtr rfl rfl) ?_
  refine JL_pure (v := .bool (decide (300 < n + 1))) rfl (Pu.move rfl) ?_
  cases h4 : (decide (300 < n + 1)) with
  | true =>
   replace h4 := dt h4
   refine JL_skip rfl ?_
   refine JL_skip rfl ?_
   refine JL_pure (v := .bool (true)) rfl (Pu.pickT rfl rfl) ?_
   refine JL_nil ?_
   first | exact ⟨rfl, rfl, rfl, rfl, rfl, rfl⟩ | (exfalso; omega)
  | false =>
   replace h4 := df h4
   refine JL_run rfl (Pu_load1 ty3 rfl (At.bx 0 rfl) rfl ?_)
   refine JL_pure (v := .bool (decide (60 < d))) rfl (Pu.gtr rfl rfl) ?_
   refine JL_pure (v := .bool (decide (60 < d))) rfl (Pu.pickF rfl rfl) ?_
   refine JL_nil ?_
   first | exact ⟨rfl, rfl, rfl, rfl, rfl, rfl⟩ | (exfalso; omega)
 ·rintro ρ5 _ ⟨e6, e7, e8, e9, e10, rfl⟩
  obtain ⟨ρ11, rfl⟩ := reopen_ex (uc e6 (uc e7 (uc e8 (uc e9 (uc e10 un)))))
  clear e6 e7 e8 e9 e10
  refine J_cond (b := (decide (300 < n + 1)) || (decide (60 < d))) rfl (fun h12 => ?_) (fun h12 => ?_)
  ·skip
   refine J_seq ?_
   refine J_region ?_
   refine JL_pure (v := .bool (true)) rfl (Pu.assign rfl) ?_
   refine JL_nil ?_
   refine J_ret ?_
   refine ⟨.bool (true), [[(bL, .cells ⟨[.int .i64 (n + 1)]⟩ 90 (0, 0))]], Ret.one rfl (RV.tmp rfl), (Sd (Sd (Sd (Sk Sub.nil)))), ?_⟩
   refine ⟨?_, ?_⟩ <;> rw [cnP, if_pos (by simpa [stL] using h12)]
  ·skip
   obtain ⟨h12a, h12b⟩ := orF h12
   replace h12a := df h12a
   replace h12b := df h12b
   refine J_skip ?_
   refine J_seq ?_
   refine J_region ?_
   refine JL_pure (v := .pointer (some ⟨b2, 34, none⟩)) rfl (fa66_3 rfl rfl) ?_
   refine JL_run rfl (Pu_load1 ty64 rfl (At.bx 1 rfl) (pkP_34 ..) ?_)
   refine JL_pure (v := .func (.func 87) ⟨[]⟩ ⟨[.pointer (some ⟨b1, 0, none⟩), .pointer (some ⟨b3, 0, none⟩)]⟩) rfl (Pu.makeFunc rfl rfl) ?_
   refine JL_call1 3 rfl Try.call86 rfl rfl (fun hin => containsP_ct 87 [] [.pointer (some ⟨b1, 0, none⟩), .pointer (some ⟨b3, 0, none⟩)] (fun _ _ => rfl) (fun n => [(bL, .cells ⟨[.int .i64 (n)]⟩ 90 (0, 0))]) (fun n => 0 ≤ n ∧ n ≤ 300) (cnP stL (d + 1)) _ _ _ (RPs.mono (Hle.hu _ _) hks) (n + 1) ⟨by omega, by omega⟩ (fun x hx s hs hf => cnP_keep stL_le x _ s hs.1 hf) (fun x hx s hs a h hh ra => longPK_ct x d s a h bL b1 b3 ra (hh _ _ (hin 2 _ rfl _ _ List.mem_cons_self)) (hh _ _ (hin 0 _ rfl _ _ List.mem_cons_self)) (by omega) (by omega) (fun h' a' hh' ra' => ih x hx (d + 1) s a' h' bL ra' hs.1 hs.2 (by omega) (by omega)))) rfl ?_
   rintro _ _ ⟨rfl, rfl⟩
   refine JL_pure (v := .bool ((anyS (cnP stL (d + 1)) (kids) (n + 1)).1)) rfl (Pu.assign rfl) ?_
   refine JL_nil ?_
   refine J_ret ?_
   refine ⟨.bool ((anyS (cnP stL (d + 1)) (kids) (n + 1)).1), [[(bL, .cells ⟨[.int .i64 ((anyS (cnP stL (d + 1)) (kids) (n + 1)).2)]⟩ 90 (0, 0))]], Ret.one rfl (RV.tmp rfl), (Sk Sub.nil), ?_⟩
   refine ⟨?_, ?_⟩ <;> rw [cnP, if_neg (by simp [stL]; omega), cnPs_any]
theorem longC_ct : ∀ (c : Pt × Tm) (d n : Int) (a : List Value) (H : Heap) (bL bA bD bK : Nat), RC H a c → 0 ≤ n → n ≤ 300 → 0 ≤ d → d ≤ 60 → H bA = some (.cells ⟨[.pointer (some ⟨bL, 0, none⟩)]⟩ 88 (0, 0)) → H bD = some (.cells ⟨[.int .i64 d]⟩ 3 (0, 0)) → H bK = some (.cells ⟨[.func (.func 69) ⟨[]⟩ ⟨[.pointer (some ⟨bA, 0, none⟩), .pointer (some ⟨bD, 0, none⟩)]⟩]⟩ 114 (0, 0)) → (∀ s a h, Hle H h → RT h a c.2 → 0 ≤ s → s ≤ 300 → CT Try.prog 40 ⟨[.pointer (some ⟨bL, 0, none⟩), .agg ⟨a⟩, .int .i64 (d + 1)]⟩ [[(bL, .cells ⟨[.int .i64 (s)]⟩ 90 (0, 0))]] h (fun v N => v = .bool (cnT stL (d + 1) c.2 s).1 ∧ N = [[(bL, .cells ⟨[.int .i64 ((cnT stL (d + 1) c.2 s).2)]⟩ 90 (0, 0))]])) → CT Try.prog 72 ⟨[.agg ⟨a⟩, .pointer (some ⟨bA, 0, none⟩), .pointer (some ⟨bD, 0, none⟩), .pointer (some ⟨bK, 0, none⟩)]⟩ [[(bL, .cells ⟨[.int .i64 (n)]⟩ 90 (0, 0))]] H (fun v N => v = .bool (cnC stL (d + 1) c n).1 ∧ N = [[(bL, .cells ⟨[.int .i64 ((cnC stL (d + 1) c n).2)]⟩ 90 (0, 0))]]) := by
 intro c d n a H bL bA bD bK ⟨ca, cb, e1, ra1, ra2⟩ hn0 hn1 hd0 hd1 hH1 hH5 hH7 hg
 subst e1
 refine CT_enter Try.func72 rfl rfl ?_
 refine J_seq ?_
 refine J_region ?_
 refine JL_run rfl (Runs_box (l := (ca) ++ (cb)) rfl rfl fun b1 => ?_)
 refine JL_pure (v := .bool (false)) rfl (Pu.assign rfl) ?_
 refine JL_nil ?_
 refine J_seq ?_
 refine J_region ?_
 refine JL_run rfl (Pu_load1 ty88 rfl (At.im hH1) rfl ?_)
 refine JL_pure (v := .pointer (some ⟨b1, 0, none⟩)) rfl (fa68_0 rfl rfl) ?_
 refine JL_run rfl (Pu_load ty66 rfl (At.bx 0 rfl) (sub_l (RP_len ra1)) ?_)
 refine JL_run rfl (Pu_load1 ty3 rfl (At.im hH5) rfl ?_)
 refine JL_pure (v := .int .i64 (d + 1)) rfl (Pu.add64 rfl rfl (by first | omega | (constructor <;> omega))) ?_
 refine JL_call1 1 rfl Try.call73 rfl rfl (fun hin => longP_ct _ _ _ _ _ _ (RP.mono (Hle.hu _ _) ra1) (by omega) (by omega) (by omega) (by omega)) rfl ?_
 rintro _ _ ⟨rfl, rfl⟩
 refine JL_pure (v := .bool ((cnP stL (d + 1) (c.1) (n)).1)) rfl (Pu.move rfl) ?_
 cases h3 : ((cnP stL (d + 1) (c.1) (n)).1) with
 | true =>
  refine JL_skip rfl ?_
  refine JL_skip rfl ?_
  refine JL_skip rfl ?_
  refine JL_skip rfl ?_
  refine JL_pure (v := .bool (true)) rfl (Pu.pickT rfl rfl) ?_
  refine JL_pure (v := .bool (true)) rfl (Pu.assign rfl) ?_
  refine JL_nil ?_
  refine J_ret ?_
  refine ⟨.bool (true), [[(bL, .cells ⟨[.int .i64 ((cnP stL (d + 1) (c.1) (n)).2)]⟩ 90 (0, 0))]], Ret.one rfl (RV.tmp rfl), (Sk Sub.nil), ?_⟩
  refine ⟨?_, ?_⟩ <;> rw [cnC, if_pos h3]
 | false =>
  refine JL_run rfl (Pu_load1 ty114 rfl (At.im hH7) rfl ?_)
  refine JL_pure (v := .pointer (some ⟨b1, 35, none⟩)) rfl (fa68_1 rfl rfl) ?_
  refine JL_run rfl (Pu_load ty30 rfl (At.bx 1 rfl) (sub_r (RP_len ra1) (RT_len ra2)) ?_)
  refine JL_call1 0 rfl Try.call69 rfl rfl (fun hin => longTK_ct _ d _ _ _ bL bA bD (RT.mono (Hle.hu _ _) ra2) (Hle.hu _ _ _ _ hH1) (Hle.hu _ _ _ _ hH5) (by omega) (by omega) (fun h' a' hh' ra' => hg _ _ _ (Hle.trans (Hle.hu _ _) hh') ra' (cnP_keep stL_le _ _ _ hn0 h3).1 (cnP_keep stL_le _ _ _ hn0 h3).2)) rfl ?_
  rintro _ _ ⟨rfl, rfl⟩
  refine JL_pure (v := .bool ((cnT stL (d + 1) (c.2) ((cnP stL (d + 1) (c.1) (n)).2)).1)) rfl (Pu.pickF rfl rfl) ?_
  refine JL_pure (v := .bool ((cnT stL (d + 1) (c.2) ((cnP stL (d + 1) (c.1) (n)).2)).1)) rfl (Pu.assign rfl) ?_
  refine JL_nil ?_
  refine J_ret ?_
  refine ⟨.bool ((cnT stL (d + 1) (c.2) ((cnP stL (d + 1) (c.1) (n)).2)).1), [[(bL, .cells ⟨[.int .i64 ((cnT stL (d + 1) (c.2) ((cnP stL (d + 1) (c.1) (n)).2)).2)]⟩ 90 (0, 0))]], Ret.one rfl (RV.tmp rfl), (Sk Sub.nil), ?_⟩
  refine ⟨?_, ?_⟩ <;> rw [cnC, if_neg (by simp [h3])]
theorem longT_ct : ∀ (t : Tm) (d n : Int) (cs : List Value) (H : Heap) (bL : Nat), RT H cs t → 0 ≤ n → n ≤ 300 → 0 ≤ d → d ≤ 61 → CT Try.prog 40 ⟨[.pointer (some ⟨bL, 0, none⟩), .agg ⟨cs⟩, .int .i64 d]⟩ [[(bL, .cells ⟨[.int .i64 (n)]⟩ 90 (0, 0))]] H (fun v N => v = .bool (cnT stL d t n).1 ∧ N = [[(bL, .cells ⟨[.int .i64 ((cnT stL d t n).2)]⟩ 90 (0, 0))]]) := by
 intro t
 induction t using Tm.ind with
 | h kind num ref kids cases ih ih' =>
 intro d n cs H bL ht hn0 hn1 hd0 hd1
 obtain ⟨ks, cv, rfl, hk, hn, hks, hcv⟩ := RT_mk.1 ht
 refine CT_enter Try.func40 rfl rfl ?_
 refine J_seq ?_
 refine J_region ?_
 refine JL_run rfl (Runs_box (l := [.pointer (some ⟨bL, 0, none⟩)]) rfl rfl fun b1 => ?_)
 refine JL_run rfl (Runs_box (l := pkT (kind) (num) (ref) (ks) (cv)) rfl rfl fun b2 => ?_)
 refine JL_run rfl (Runs_box (l := [.int .i64 (d)]) rfl rfl fun b3 => ?_)
 refine JL_pure (v := .bool (false)) rfl (Pu.assign rfl) ?_
 refine JL_nil ?_
 refine J_seq ?_
 refine J_seq ?_
 refine J_region ?_
 refine JL_run rfl (Pu_load1 ty88 rfl (At.bx 2 rfl) rfl ?_)
 refine JL_pure (v := .pointer (some ⟨bL, 0, none⟩)) rfl (Pu.nilCheck rfl) ?_
 refine JL_pure (v := .pointer (some ⟨bL, 0, none⟩)) rfl (fa90_0 rfl rfl) ?_
 refine JL_run rfl (Pu_load1 ty3 rfl (At.bx 3 rfl) rfl ?_)
 refine JL_pure (v := .int .i64 (n + 1)) rfl (Pu.add64 rfl rfl (by first | omega | (constructor <;> omega))) ?_
 refine JL_pure (v := .pointer (some ⟨bL, 0, none⟩)) rfl (Pu.nilCheck rfl) ?_
 refine JL_pure (v := .pointer (some ⟨bL, 0, none⟩)) rfl (fa90_0 rfl rfl) ?_
 refine JL_run rfl (Runs_storeB 3 (vs := [.int .i64 (n + 1)]) (l := [.int .i64 (n + 1)]) ty3 rfl rfl rfl rfl rfl (okc_cons rfl okc_nil) rfl ?_)
 refine JL_nil ?_
 refine J_cut (fun ρ M => ρ 3 = .pointer (some ⟨b1, 0, none⟩) ∧ ρ 4 = .pointer (some ⟨b2, 0, none⟩) ∧ ρ 5 = .pointer (some ⟨b3, 0, none⟩) ∧ ρ 6 = .bool (false) ∧ ρ 23 = .bool ((decide (300 < n + 1)) || (decide (60 < d))) ∧ M = [[(b3, .cells ⟨[.int .i64 (d)]⟩ 3 (0, 0))], [(b2, .cells ⟨pkT (kind) (num) (ref) (ks) (cv)⟩ 30 (0, 0))], [(b1, .cells ⟨[.pointer (some ⟨bL, 0, none⟩)]⟩ 88 (0, 0))], [(bL, .cells ⟨[.int .i64 (n + 1)]⟩ 90 (0, 0))]]) ?_ ?_
 ·refine J_region ?_
  refine JL_run rfl (Pu_load1 ty88 rfl (At.bx 2 rfl) rfl ?_)
  refine JL_pure (v := .pointer (some ⟨bL, 0, none⟩)) rfl (Pu.nilCheck rfl) ?_
  refine JL_pure (v := .pointer (some ⟨bL, 0, none⟩)) rfl (fa90_0 rfl rfl) ?_
  refine JL_run rfl (Pu_load1 ty3 rfl (At.bx 3 rfl) rfl ?_)
  refine JL_pure (v := .bool (decide (300 < n + 1))) rfl (Pu.gtr rfl rfl) ?_
  refine JL_pure (v := .bool (decide (300 < n + 1))) rfl (Pu.move rfl) ?_
  cases h4 : (decide (300 < n + 1)) with
  | true =>
   replace h4 := dt h4
   refine JL_skip rfl ?_
   refine JL_skip rfl ?_
   refine JL_pure (v := .bool (true)) rfl (Pu.pickT rfl rfl) ?_
   refine JL_nil ?_
   first | exact ⟨rfl, rfl, rfl, rfl, rfl, rfl⟩ | (exfalso; omega)
  | false =>
   replace h4 := df h4
   refine JL_run rfl (Pu_load1 ty3 rfl (At.bx 0 rfl) rfl ?_)
   refine JL_pure (v := .bool (decide (60 < d))) rfl (Pu.gtr rfl rfl) ?_
   refine JL_pure (v := .bool (decide (60 < d))) rfl (Pu.pickF rfl rfl) ?_
   refine JL_nil ?_
   first | exact ⟨rfl, rfl, rfl, rfl, rfl, rfl⟩ | (exfalso; omega)
 ·rintro ρ5 _ ⟨e6, e7, e8, e9, e10, rfl⟩
  obtain ⟨ρ11, rfl⟩ := reopen_ex (uc e6 (uc e7 (uc e8 (uc e9 (uc e10 un)))))
  clear e6 e7 e8 e9 e10
  refine J_cond (b := (decide (300 < n + 1)) || (decide (60 < d))) rfl (fun h12 => ?_) (fun h12 => ?_)
  ·skip
   refine J_seq ?_
   refine J_region ?_
   refine JL_pure (v := .bool (true)) rfl (Pu.assign rfl) ?_
   refine JL_nil ?_
   refine J_ret ?_
   refine ⟨.bool (true), [[(bL, .cells ⟨[.int .i64 (n + 1)]⟩ 90 (0, 0))]], Ret.one rfl (RV.tmp rfl), (Sd (Sd (Sd (Sk Sub.nil)))), ?_⟩
   refine ⟨?_, ?_⟩ <;> rw [cnT, if_pos (by simpa [stL] using h12)]
  ·skip
   obtain ⟨h12a, h12b⟩ := orF h12
   replace h12a := df h12a
   replace h12b := df h12b
   refine J_skip ?_
   refine J_seq ?_
   refine J_region ?_
   refine JL_pure (v := .func (.func 69) ⟨[]⟩ ⟨[.pointer (some ⟨b1, 0, none⟩), .pointer (some ⟨b3, 0, none⟩)]⟩) rfl (Pu.makeFunc rfl rfl) ?_
   refine JL_run rfl (Runs_alloc (l := [.nilFunc]) Try.zeroValue114 rfl fun b13 => ?_)
   refine JL_run rfl (Runs_storeB 0 (vs := [.func (.func 69) ⟨[]⟩ ⟨[.pointer (some ⟨b1, 0, none⟩), .pointer (some ⟨b3, 0, none⟩)]⟩]) (l := [.func (.func 69) ⟨[]⟩ ⟨[.pointer (some ⟨b1, 0, none⟩), .pointer (some ⟨b3, 0, none⟩)]⟩]) ty114 rfl rfl rfl rfl rfl (okc_cons rfl okc_nil) rfl ?_)
   refine JL_nil ?_
   refine J_seq ?_
   refine J_region ?_
   refine JL_pure (v := .pointer (some ⟨b2, 34, none⟩)) rfl (fa30_3 rfl rfl) ?_
   refine JL_run rfl (Pu_load1 ty27 rfl (At.bx 2 rfl) (pkT_34 ..) ?_)
   refine JL_run rfl (Pu_load1 ty114 rfl (At.bx 0 rfl) rfl ?_)
   refine JL_call1 4 rfl Try.call70 rfl rfl (fun hin => containsT_ct 69 [] [.pointer (some ⟨b1, 0, none⟩), .pointer (some ⟨b3, 0, none⟩)] (fun _ _ => rfl) (fun n => [(bL, .cells ⟨[.int .i64 (n)]⟩ 90 (0, 0))]) (fun n => 0 ≤ n ∧ n ≤ 300) (cnT stL (d + 1)) _ _ _ (RTs.mono (Hle.hu _ _) hks) (n + 1) ⟨by omega, by omega⟩ (fun x hx s hs hf => cnT_keep stL_le x _ s hs.1 hf) (fun x hx s hs a h hh ra => longTK_ct x d s a h bL b1 b3 ra (hh _ _ (hin 3 _ rfl _ _ List.mem_cons_self)) (hh _ _ (hin 1 _ rfl _ _ List.mem_cons_self)) (by omega) (by omega) (fun h' a' hh' ra' => ih x hx (d + 1) s a' h' bL ra' hs.1 hs.2 (by omega) (by omega)))) rfl ?_
   rintro _ _ ⟨rfl, rfl⟩
   refine JL_pure (v := .bool ((anyS (cnT stL (d + 1)) (kids) (n + 1)).1)) rfl (Pu.move rfl) ?_
   cases h15 : ((anyS (cnT stL (d + 1)) (kids) (n + 1)).1) with
   | true =>
    refine JL_skip rfl ?_
    refine JL_skip rfl ?_
    refine JL_skip rfl ?_
    refine JL_skip rfl ?_
    refine JL_pure (v := .bool (true)) rfl (Pu.pickT rfl rfl) ?_
    refine JL_pure (v := .bool (true)) rfl (Pu.assign rfl) ?_
    refine JL_nil ?_
    refine J_ret ?_
    refine ⟨.bool (true), [[(bL, .cells ⟨[.int .i64 ((anyS (cnT stL (d + 1)) (kids) (n + 1)).2)]⟩ 90 (0, 0))]], Ret.one rfl (RV.tmp rfl), (Sk Sub.nil), ?_⟩
    refine ⟨?_, ?_⟩ <;> rw [cnT, if_neg (by simp [stL]; omega), cnTs_any, if_pos h15]
   | false =>
    refine JL_pure (v := .pointer (some ⟨b2, 35, none⟩)) rfl (fa30_4 rfl rfl) ?_
    refine JL_run rfl (Pu_load1 ty28 rfl (At.bx 3 rfl) (pkT_35 ..) ?_)
    refine JL_pure (v := .func (.func 72) ⟨[]⟩ ⟨[.pointer (some ⟨b1, 0, none⟩), .pointer (some ⟨b3, 0, none⟩), .pointer (some ⟨b13, 0, none⟩)]⟩) rfl (Pu.makeFunc rfl rfl) ?_
    refine JL_call1 0 rfl Try.call71 rfl rfl (fun hin => containsC_ct 72 [] [.pointer (some ⟨b1, 0, none⟩), .pointer (some ⟨b3, 0, none⟩), .pointer (some ⟨b13, 0, none⟩)] (fun _ _ => rfl) (fun n => [(bL, .cells ⟨[.int .i64 (n)]⟩ 90 (0, 0))]) (fun n => 0 ≤ n ∧ n ≤ 300) (cnC stL (d + 1)) _ _ _ (RCs.mono (Hle.hu _ _) hcv) ((anyS (cnT stL (d + 1)) (kids) (n + 1)).2) (anyT_keep stL_le _ _ _ (by omega) (by omega) h15) (fun x hx s hs hf => cnC_keep stL_le x _ s hs.1 hf) (fun x hx s hs a h hh ra => longC_ct x d s a h bL b1 b3 b13 ra hs.1 hs.2 (by omega) (by omega) (hh _ _ (hin 3 _ rfl _ _ List.mem_cons_self)) (hh _ _ (hin 1 _ rfl _ _ List.mem_cons_self)) (hh _ _ (hin 0 _ rfl _ _ List.mem_cons_self)) (fun s' a' h' hh' ra' k1 k2 => ih' x hx (d + 1) s' a' h' bL ra' k1 k2 (by omega) (by omega)))) rfl ?_
    rintro _ _ ⟨rfl, rfl⟩
    refine JL_pure (v := .bool ((anyS (cnC stL (d + 1)) (cases) ((anyS (cnT stL (d + 1)) (kids) (n + 1)).2)).1)) rfl (Pu.pickF rfl rfl) ?_
    refine JL_pure (v := .bool ((anyS (cnC stL (d + 1)) (cases) ((anyS (cnT stL (d + 1)) (kids) (n + 1)).2)).1)) rfl (Pu.assign rfl) ?_
    refine JL_nil ?_
    refine J_ret ?_
    refine ⟨.bool ((anyS (cnC stL (d + 1)) (cases) ((anyS (cnT stL (d + 1)) (kids) (n + 1)).2)).1), [[(bL, .cells ⟨[.int .i64 ((anyS (cnC stL (d + 1)) (cases) ((anyS (cnT stL (d + 1)) (kids) (n + 1)).2)).2)]⟩ 90 (0, 0))]], Ret.one rfl (RV.tmp rfl), (Sk Sub.nil), ?_⟩
    refine ⟨?_, ?_⟩ <;> rw [cnT, if_neg (by simp [stL]; omega), cnTs_any, if_neg (by simp [h15]), cnCs_any]
end Go.Proofs.Ytmdifonjepggcaa.Hs
/-! The mapper without a state. -/
namespace Go.Proofs.Ytmdifonjepggcaa.Hs
open Go Go.Proofs
set_option maxRecDepth 100000

theorem CT.nils {P : Program} {f : FuncId} {a : Array Value} {H : Heap} {t : Tm} (h : CT P f a [] H (fun v N => ∃ cs k, v = .agg ⟨cs⟩ ∧ N = [k] ∧ OT t cs k)) :
    CT P f a [[]] H (fun v N => ∃ cs k, v = .agg ⟨cs⟩ ∧ N = [k, []] ∧ OT t cs k) := fun F w m => by
  refine (h F w (by simpa using m)).mono ?_
  rintro e w' ⟨v, N, h1, h2, cs, k, h3, h4, h5⟩
  subst h4
  exact ⟨v, [k, []], h1, by simpa using h2, cs, k, h3, rfl, h5⟩
theorem CT.unnils {P : Program} {f : FuncId} {a : Array Value} {H : Heap} {t : Tm} (h : CT P f a [[]] H (fun v N => ∃ cs k, v = .agg ⟨cs⟩ ∧ N = [k, []] ∧ OT t cs k)) :
    CT P f a [] H (fun v N => ∃ cs k, v = .agg ⟨cs⟩ ∧ N = [k] ∧ OT t cs k) := fun F w m => by
  refine (h F w (by simpa using m)).mono ?_
  rintro e w' ⟨v, N, h1, h2, cs, k, h3, h4, h5⟩
  subst h4
  exact ⟨v, [k], h1, by simpa using h2, cs, k, h3, rfl, h5⟩

theorem mapTermP_ct (gr : Nat) (frs crs : List Value) (hcallr : ∀ args w, (callFunc gr args).run Try.prog w = .ok (.enter gr args) w) (rf : Sm → Sm) (gv : Nat) (fvs cvs : List Value) (hcallv : ∀ args w, (callFunc gv args).run Try.prog w = .ok (.enter gv args) w)
    (vf : Int → Int → Tm) (t : Tm) (b : Int) (cs : List Value) (H : Heap) (ht : RT H cs t) (hz : sizeT t ≤ 1000000) (hv : vOK t) (hb0 : 0 ≤ b) (hb : b + 2 * sizeT t ≤ 2000000)
    (hgr : ∀ s h, Hle H h → CT Try.prog gr ⟨frs ++ [.agg ⟨sC s⟩] ++ crs⟩ [] h (fun v N => v = .agg ⟨sC (rf s)⟩ ∧ N = []))
    (hgv : ∀ (n b : Int) (h : Heap), Hle H h → 0 ≤ n → n ≤ 2000000 → 0 ≤ b → b ≤ 2000000 → CT Try.prog gv ⟨fvs ++ [.int .i64 n, .int .i64 b] ++ cvs⟩ [] h (fun v N => ∃ cs k, v = .agg ⟨cs⟩ ∧ N = [k] ∧ OT (vf n b) cs k)) :
    CT Try.prog 26 ⟨[.agg ⟨[.func (.func gv) ⟨fvs⟩ ⟨cvs⟩, .func (.func gr) ⟨frs⟩ ⟨crs⟩]⟩, .agg ⟨cs⟩, .int .i64 b]⟩ [] H (fun v N => ∃ cs k, v = .agg ⟨cs⟩ ∧ N = [k] ∧ OT (mapQ rf vf b t) cs k) :=
  CT.unnils (mapTerm_ct gr frs crs hcallr rf gv fvs cvs hcallv Unit (fun _ => []) (fun _ => True) (fun n b s => (vf n b, s)) (fun _ _ _ _ => trivial) t b () cs H ht hz hv hb0 hb trivial hgr
    (fun n b _ h hh _ h1 h2 h3 h4 => CT.nils (hgv n b h hh h1 h2 h3 h4)))
end Go.Proofs.Ytmdifonjepggcaa.Hs
/-! Walks, printed by a program of this session's own (gen.py). -/
namespace Go.Proofs.Ytmdifonjepggcaa.Hs
open Go Go.Proofs
set_option maxRecDepth 100000
set_option linter.unusedVariables false
set_option linter.unusedSimpArgs false
attribute [local irreducible] JL J CT wlo
theorem shiftedV_ct (n b dy fr : Int) (H : Heap) (bF bD : Nat) (hF : H bF = some (.cells ⟨[.int .i64 fr]⟩ 3 (0, 0))) (hD : H bD = some (.cells ⟨[.int .i64 dy]⟩ 3 (0, 0))) (hn0 : 0 ≤ n) (hn1 : n ≤ 2000000) (hb0 : 0 ≤ b) (hb1 : b ≤ 2000000) (hd0 : -2000000 ≤ dy) (hd1 : dy ≤ 2000000) : CT Try.prog 46 ⟨[.int .i64 (n), .int .i64 (b), .pointer (some ⟨bF, 0, none⟩), .pointer (some ⟨bD, 0, none⟩)]⟩ [] H (fun v N => ∃ cs k, v = .agg ⟨cs⟩ ∧ N = [k] ∧ OT (shv dy fr n b) cs k) := by
 refine CT_enter Try.func46 rfl rfl ?_
 refine J_seq ?_
 refine J_region ?_
 refine JL_run rfl (Runs_alloc (l := pkT (0) (0) (zS) (.slice none 0 0) (.slice none 0 0)) Try.zeroValue30 rfl fun b1 => ?_)
 refine JL_nil ?_
 refine J_seq ?_
 refine J_seq ?_
 refine J_region ?_
 refine JL_pure (v := .int .i64 (n)) rfl (Pu.move rfl) ?_
 refine JL_run rfl (Pu_load1 ty3 rfl (At.im hF) rfl ?_)
 refine JL_pure (v := .bool (decide (fr ≤ n))) rfl (Pu.geq rfl rfl) ?_
 refine JL_nil ?_
 refine J_cond (b := decide (fr ≤ n)) rfl (fun h2 => ?_) (fun h2 => ?_)
 ·skip
  replace h2 := dt h2
  refine J_region ?_
  refine JL_pure (v := .int .i64 (n)) rfl (Pu.move rfl) ?_
  refine JL_run rfl (Pu_load1 ty3 rfl (At.im hD) rfl ?_)
  refine JL_pure (v := .int .i64 (n + dy)) rfl (Pu.add64 rfl rfl (by first | omega | (constructor <;> omega))) ?_
  refine JL_pure (v := .int .i64 (n + dy)) rfl (Pu.assign rfl) ?_
  refine JL_nil ?_
  refine J_seq ?_
  refine J_region ?_
  refine JL_pure (v := .int .i64 (n + dy)) rfl (Pu.move rfl) ?_
  refine JL_pure (v := .int .i64 (b)) rfl (Pu.move rfl) ?_
  refine JL_call rfl Try.call24 rfl (fun hin => stay_ct _ _ _ (by unfold inI; omega)) rfl ?_
  rintro _ _ ⟨cs3, k3, rfl, rfl, hO3⟩
  refine JL_run rfl (Runs_storeB 1 (vs := cs3) (l := cs3) ty30 rfl rfl rfl rfl hO3.len hO3.ok (spl_a (n := 36) rfl hO3.len) ?_)
  refine JL_nil ?_
  refine J_ret ?_
  refine ⟨.agg ⟨cs3⟩, [k3], Ret.one rfl (RV.cell ty30 rfl (At.bx 1 rfl) (sub_a hO3.len)), (Sk Sub.nil), ?_⟩
  have hx : shv dy fr n b = .mk 1 (n + dy + b) zS [] [] := by first | rfl | (simp only [shv]; (repeat' split) <;> first | rfl | (exfalso; omega))
  exact ⟨_, _, rfl, rfl, by rw [hx]; exact hO3⟩
 ·skip
  replace h2 := df h2
  refine J_skip ?_
  refine J_seq ?_
  refine J_region ?_
  refine JL_pure (v := .int .i64 (n)) rfl (Pu.move rfl) ?_
  refine JL_pure (v := .int .i64 (b)) rfl (Pu.move rfl) ?_
  refine JL_call rfl Try.call24 rfl (fun hin => stay_ct _ _ _ (by unfold inI; omega)) rfl ?_
  rintro _ _ ⟨cs4, k4, rfl, rfl, hO4⟩
  refine JL_run rfl (Runs_storeB 1 (vs := cs4) (l := cs4) ty30 rfl rfl rfl rfl hO4.len hO4.ok (spl_a (n := 36) rfl hO4.len) ?_)
  refine JL_nil ?_
  refine J_ret ?_
  refine ⟨.agg ⟨cs4⟩, [k4], Ret.one rfl (RV.cell ty30 rfl (At.bx 1 rfl) (sub_a hO4.len)), (Sk Sub.nil), ?_⟩
  have hx : shv dy fr n b = .mk 1 (n + b) zS [] [] := by first | rfl | (simp only [shv]; (repeat' split) <;> first | rfl | (exfalso; omega))
  exact ⟨_, _, rfl, rfl, by rw [hx]; exact hO4⟩
theorem shifted_ct (t : Tm) (dy fr : Int) (cs : List Value) (H : Heap) (ht : RT H cs t) (hz : sizeT t ≤ 900000) (hv : vOK t) (hd0 : -2000000 ≤ dy) (hd1 : dy ≤ 2000000) : CT Try.prog 21 ⟨[.agg ⟨cs⟩, .int .i64 (dy), .int .i64 (fr)]⟩ [] H (fun v N => ∃ cs k, v = .agg ⟨cs⟩ ∧ N = [k] ∧ OT (shT dy fr t) cs k) := by
 refine CT_enter Try.func21 rfl rfl ?_
 refine J_seq ?_
 refine J_region ?_
 refine JL_run rfl (Runs_box (l := cs) rfl rfl fun b1 => ?_)
 refine JL_run rfl (Runs_box (l := [.int .i64 (dy)]) rfl rfl fun b2 => ?_)
 refine JL_run rfl (Runs_box (l := [.int .i64 (fr)]) rfl rfl fun b3 => ?_)
 refine JL_run rfl (Runs_alloc (l := pkT (0) (0) (zS) (.slice none 0 0) (.slice none 0 0)) Try.zeroValue30 rfl fun b4 => ?_)
 refine JL_nil ?_
 refine J_seq ?_
 refine J_region ?_
 refine JL_pure (v := .func (.func 46) ⟨[]⟩ ⟨[.pointer (some ⟨b3, 0, none⟩), .pointer (some ⟨b2, 0, none⟩)]⟩) rfl (Pu.makeFunc rfl rfl) ?_
 refine JL_pure (v := .agg ⟨[.func (.func 46) ⟨[]⟩ ⟨[.pointer (some ⟨b3, 0, none⟩), .pointer (some ⟨b2, 0, none⟩)]⟩, .func (.func 25) ⟨[]⟩ ⟨[]⟩]⟩) rfl (Pu.build (pv := [(0, .func (.func 46) ⟨[]⟩ ⟨[.pointer (some ⟨b3, 0, none⟩), .pointer (some ⟨b2, 0, none⟩)]⟩), (1, .func (.func 25) ⟨[]⟩ ⟨[]⟩)]) (l := [.func (.func 46) ⟨[]⟩ ⟨[.pointer (some ⟨b3, 0, none⟩), .pointer (some ⟨b2, 0, none⟩)]⟩, .func (.func 25) ⟨[]⟩ ⟨[]⟩]) rfl (bld60_0_1 _ _ _ _ _ _)) ?_
 refine JL_run rfl (Pu_load ty30 rfl (At.bx 3 rfl) (sub_a (RT_len ht)) ?_)
 refine JL_call rfl Try.call26 rfl (fun hin => mapTermP_ct 25 [] [] Try.call25 (fun s => s) 46 [] [.pointer (some ⟨b3, 0, none⟩), .pointer (some ⟨b2, 0, none⟩)] Try.call46 (shv dy fr) _ _ _ _ (RT.mono (Hle.hu _ _) ht) (by omega) hv (by decide) (by omega) (fun s h hh => same_ct s h) (fun n b h hh h1 h2 h3 h4 => shiftedV_ct n b dy fr h b3 b2 (hh _ _ (hin 1 _ rfl _ _ List.mem_cons_self)) (hh _ _ (hin 2 _ rfl _ _ List.mem_cons_self)) h1 h2 h3 h4 hd0 hd1)) rfl ?_
 rintro _ _ ⟨cs5, k5, rfl, rfl, hO5⟩
 refine JL_run rfl (Runs_storeB 1 (vs := cs5) (l := cs5) ty30 rfl rfl rfl rfl hO5.len hO5.ok (spl_a (n := 36) rfl hO5.len) ?_)
 refine JL_nil ?_
 refine J_ret ?_
 refine ⟨.agg ⟨cs5⟩, [k5], Ret.one rfl (RV.cell ty30 rfl (At.bx 1 rfl) (sub_a hO5.len)), (Sk Sub.nil), ?_⟩
 have hx : shT dy fr t = mapQ (fun s => s) (shv dy fr) (0) (t) := by first | rfl | (simp only [shT]; (repeat' split) <;> first | rfl | (exfalso; omega))
 exact ⟨_, _, rfl, rfl, by rw [hx]; exact hO5⟩
theorem substV_ct (n b m : Int) (u : Tm) (us : List Value) (H : Heap) (bN bU : Nat) (hN : H bN = some (.cells ⟨[.int .i64 m]⟩ 3 (0, 0))) (hU : H bU = some (.cells ⟨us⟩ 30 (0, 0))) (hu1 : RT H us u) (hzu : sizeT u ≤ 900000) (hvu : vOK u) (hn0 : 0 ≤ n) (hn1 : n ≤ 2000000) (hb0 : 0 ≤ b) (hb1 : b ≤ 2000000) : CT Try.prog 23 ⟨[.int .i64 (n), .int .i64 (b), .pointer (some ⟨bN, 0, none⟩), .pointer (some ⟨bU, 0, none⟩)]⟩ [] H (fun v N => ∃ cs k, v = .agg ⟨cs⟩ ∧ N = [k] ∧ OT (sbv m u n b) cs k) := by
 refine CT_enter Try.func23 rfl rfl ?_
 refine J_seq ?_
 refine J_region ?_
 refine JL_run rfl (Runs_alloc (l := pkT (0) (0) (zS) (.slice none 0 0) (.slice none 0 0)) Try.zeroValue30 rfl fun b1 => ?_)
 refine JL_nil ?_
 refine J_seq ?_
 refine J_block ?_
 refine J_seq ?_
 refine J_region ?_
 refine JL_pure (v := .int .i64 (n)) rfl (Pu.move rfl) ?_
 refine JL_run rfl (Pu_load1 ty3 rfl (At.im hN) rfl ?_)
 refine JL_pure (v := .bool (decide (n = m))) rfl (Pu.eql rfl rfl) ?_
 refine JL_pure (v := .bool (decide (n = m))) rfl (Pu.assign rfl) ?_
 refine JL_nil ?_
 refine J_cond (b := decide (n = m)) rfl (fun h2 => ?_) (fun h2 => ?_)
 ·skip
  replace h2 := dt h2
  refine J_seq ?_
  refine J_region ?_
  refine JL_run rfl (Pu_load ty30 rfl (At.im hU) (sub_a (RT_len hu1)) ?_)
  refine JL_pure (v := .int .i64 (b)) rfl (Pu.move rfl) ?_
  refine JL_call rfl Try.call21 rfl (fun hin => shifted_ct _ _ _ _ _ (RT.mono (Hle.hu _ _) hu1) hzu hvu (by omega) (by omega)) rfl ?_
  rintro _ _ ⟨cs3, k3, rfl, rfl, hO3⟩
  refine JL_run rfl (Runs_storeB 1 (vs := cs3) (l := cs3) ty30 rfl rfl rfl rfl hO3.len hO3.ok (spl_a (n := 36) rfl hO3.len) ?_)
  refine JL_nil ?_
  refine J_ret ?_
  refine ⟨.agg ⟨cs3⟩, [k3], Ret.one rfl (RV.cell ty30 rfl (At.bx 1 rfl) (sub_a hO3.len)), (Sk Sub.nil), ?_⟩
  have hx : sbv m u n b = shT (b) (0) (u) := by first | rfl | (simp only [sbv]; (repeat' split) <;> first | rfl | (exfalso; omega))
  exact ⟨_, _, rfl, rfl, by rw [hx]; exact hO3⟩
 ·skip
  replace h2 := df h2
  refine J_seq ?_
  refine J_region ?_
  refine JL_pure (v := .int .i64 (n)) rfl (Pu.move rfl) ?_
  refine JL_run rfl (Pu_load1 ty3 rfl (At.im hN) rfl ?_)
  refine JL_pure (v := .bool (decide (m < n))) rfl (Pu.gtr rfl rfl) ?_
  refine JL_pure (v := .bool (decide (m < n))) rfl (Pu.assign rfl) ?_
  refine JL_nil ?_
  refine J_cond (b := decide (m < n)) rfl (fun h4 => ?_) (fun h4 => ?_)
  ·skip
   replace h4 := dt h4
   refine J_region ?_
   refine JL_pure (v := .int .i64 (n)) rfl (Pu.move rfl) ?_
   refine JL_pure (v := .int .i64 (n - 1)) rfl (Pu.sub64 rfl rfl (by first | omega | (constructor <;> omega))) ?_
   refine JL_pure (v := .int .i64 (n - 1)) rfl (Pu.assign rfl) ?_
   refine JL_nil ?_
   refine J_seq ?_
   refine J_region ?_
   refine JL_pure (v := .int .i64 (n - 1)) rfl (Pu.move rfl) ?_
   refine JL_pure (v := .int .i64 (b)) rfl (Pu.move rfl) ?_
   refine JL_call rfl Try.call24 rfl (fun hin => stay_ct _ _ _ (by unfold inI; omega)) rfl ?_
   rintro _ _ ⟨cs5, k5, rfl, rfl, hO5⟩
   refine JL_run rfl (Runs_storeB 1 (vs := cs5) (l := cs5) ty30 rfl rfl rfl rfl hO5.len hO5.ok (spl_a (n := 36) rfl hO5.len) ?_)
   refine JL_nil ?_
   refine J_ret ?_
   refine ⟨.agg ⟨cs5⟩, [k5], Ret.one rfl (RV.cell ty30 rfl (At.bx 1 rfl) (sub_a hO5.len)), (Sk Sub.nil), ?_⟩
   have hx : sbv m u n b = .mk 1 (n - 1 + b) zS [] [] := by first | rfl | (simp only [sbv]; (repeat' split) <;> first | rfl | (exfalso; omega))
   exact ⟨_, _, rfl, rfl, by rw [hx]; exact hO5⟩
  ·skip
   replace h4 := df h4
   refine J_skip ?_
   refine J_seq ?_
   refine J_region ?_
   refine JL_pure (v := .int .i64 (n)) rfl (Pu.move rfl) ?_
   refine JL_pure (v := .int .i64 (b)) rfl (Pu.move rfl) ?_
   refine JL_call rfl Try.call24 rfl (fun hin => stay_ct _ _ _ (by unfold inI; omega)) rfl ?_
   rintro _ _ ⟨cs6, k6, rfl, rfl, hO6⟩
   refine JL_run rfl (Runs_storeB 1 (vs := cs6) (l := cs6) ty30 rfl rfl rfl rfl hO6.len hO6.ok (spl_a (n := 36) rfl hO6.len) ?_)
   refine JL_nil ?_
   refine J_ret ?_
   refine ⟨.agg ⟨cs6⟩, [k6], Ret.one rfl (RV.cell ty30 rfl (At.bx 1 rfl) (sub_a hO6.len)), (Sk Sub.nil), ?_⟩
   have hx : sbv m u n b = .mk 1 (n + b) zS [] [] := by first | rfl | (simp only [sbv]; (repeat' split) <;> first | rfl | (exfalso; omega))
   exact ⟨_, _, rfl, rfl, by rw [hx]; exact hO6⟩
theorem short_ct (t : Tm) (cs : List Value) (H : Heap) (ht : RT H cs t) : CT Try.prog 22 ⟨[.agg ⟨cs⟩]⟩ [] H (fun v N => v = .tuple ⟨[.agg ⟨if longB t = true then pkT 0 0 zS (.slice none 0 0) (.slice none 0 0) else cs⟩, .int .i64 (if longB t = true then 11 else 0)]⟩ ∧ N = []) := by
 refine CT_enter Try.func22 rfl rfl ?_
 refine J_seq ?_
 refine J_region ?_
 refine JL_run rfl (Runs_box (l := cs) rfl rfl fun b1 => ?_)
 refine JL_run rfl (Runs_alloc (l := pkT (0) (0) (zS) (.slice none 0 0) (.slice none 0 0)) Try.zeroValue30 rfl fun b2 => ?_)
 refine JL_pure (v := .int .i64 (0)) rfl (Pu.assign rfl) ?_
 refine JL_nil ?_
 refine J_seq ?_
 refine J_seq ?_
 refine J_region ?_
 refine JL_pure (v := .agg ⟨[.int .i64 (0)]⟩) rfl (Pu.build (pv := []) (l := [.int .i64 (0)]) rfl bld90_) ?_
 refine JL_run rfl (Runs_box (l := [.int .i64 (0)]) rfl rfl fun b3 => ?_)
 refine JL_run rfl (Pu_load ty30 rfl (At.bx 2 rfl) (sub_a (RT_len ht)) ?_)
 refine JL_call1 0 rfl Try.call40 rfl rfl (fun hin => longT_ct _ _ _ _ _ _ (RT.mono (Hle.hu _ _) ht) (by omega) (by omega) (by omega) (by omega)) rfl ?_
 rintro _ _ ⟨rfl, rfl⟩
 refine JL_nil ?_
 refine J_cond (b := (cnT stL (1) (t) (0)).1) rfl (fun h5 => ?_) (fun h5 => ?_)
 ·skip
  refine J_seq ?_
  refine J_region ?_
  refine JL_pure (v := .agg ⟨pkT (0) (0) (zS) (.slice none 0 0) (.slice none 0 0)⟩) rfl (Pu.build (pv := []) (l := pkT (0) (0) (zS) (.slice none 0 0) (.slice none 0 0)) rfl (bld30_ )) ?_
  refine JL_run rfl (Runs_storeB 1 (vs := pkT (0) (0) (zS) (.slice none 0 0) (.slice none 0 0)) (l := pkT (0) (0) (zS) (.slice none 0 0) (.slice none 0 0)) ty30 rfl rfl rfl rfl rfl (pkT_ok rfl rfl) (pkT_s ..) ?_)
  refine JL_pure (v := .int .i64 (11)) rfl (Pu.assign rfl) ?_
  refine JL_nil ?_
  refine J_ret ?_
  refine ⟨.tuple ⟨[.agg ⟨pkT (0) (0) (zS) (.slice none 0 0) (.slice none 0 0)⟩, .int .i64 (11)]⟩, [], Ret.two rfl (RV.cell ty30 rfl (At.bx 1 rfl) (pkT_a ..)) (RV.tmp rfl), Sub.nil, ?_⟩
  rw [long_eq] at h5
  exact ⟨by simp [h5], rfl⟩
 ·skip
  refine J_skip ?_
  refine J_seq ?_
  refine J_region ?_
  refine JL_run rfl (Pu_load ty30 rfl (At.bx 2 rfl) (sub_a (RT_len ht)) ?_)
  refine JL_run rfl (Runs_storeB 1 (vs := cs) (l := cs) ty30 rfl rfl rfl rfl (RT_len ht) (RT_ok ht) (spl_a (n := 36) rfl (RT_len ht)) ?_)
  refine JL_pure (v := .int .i64 (0)) rfl (Pu.assign rfl) ?_
  refine JL_nil ?_
  refine J_ret ?_
  refine ⟨.tuple ⟨[.agg ⟨cs⟩, .int .i64 (0)]⟩, [], Ret.two rfl (RV.cell ty30 rfl (At.bx 1 rfl) (sub_a (RT_len ht))) (RV.tmp rfl), Sub.nil, ?_⟩
  rw [long_eq] at h5
  exact ⟨by simp [h5], rfl⟩
end Go.Proofs.Ytmdifonjepggcaa.Hs
