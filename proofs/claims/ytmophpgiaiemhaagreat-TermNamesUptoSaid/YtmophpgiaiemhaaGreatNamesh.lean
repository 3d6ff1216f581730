import Derived.Test.YtmophpgiaiemhaaGreatNamesg
import Derived.Laws.RangeString
/-! Strings: rows of them, ranges over them, names of one letter. -/
namespace Go.Proofs.YtmophpgiaiemhaaGreat.Hs
open Go
/-- the name of one letter -/
def ltr (i : Nat) : ByteArray := ⟨#[UInt8.ofNat (97 + i)]⟩
def Z0 (l : List ByteArray) : List (List Value) := l.map fun n => [.string n]
theorem ZT (l : List ByteArray) : (Z0 l).length = l.length := by simp [Z0]
theorem strs_snoc (l : List ByteArray) (n : ByteArray) : Z0 (l ++ [n]) = Z0 l ++ [[.string n]] := by simp [Z0]
theorem strs_app (l m : List ByteArray) : Z0 (l ++ m) = Z0 l ++ Z0 m := by simp [Z0]
theorem strs_get (l : List ByteArray) (j : Nat) (h : j < l.length) : (Z0 l)[j]'(by rw [ZT]; exact h) = [.string l[j]] := by simp [Z0]
theorem strs_len1 (l : List ByteArray) : ∀ e ∈ Z0 l, e.length = 1 := by
  intro e he; obtain ⟨n, _, rfl⟩ := List.mem_map.1 he; rfl
theorem strs_ok (l : List ByteArray) : ∀ e ∈ Z0 l, okc e := by
  intro e he; obtain ⟨n, _, rfl⟩ := List.mem_map.1 he; exact Zk rfl Zq
def RS (_ : Heap) (cs : List Value) (n : ByteArray) : Prop := cs = [.string n]
theorem RSs.mono {h h' : Heap} (hh : Hle h h') {v : Value} {l : List ByteArray} (q : Hs.rdS RS 1 h v l) : Hs.rdS RS 1 h' v l := rdS.mono q hh fun _ _ _ e => e
theorem Yc {T : TypeId} {v : Value} {l : List ByteArray} {k : Zj} {h : Heap} (o : Own T 1 v (Z0 l) k) (hn : l.length ≤ 9223372036854775807) (hk : Has k h) : Hs.rdS RS 1 h v l :=
  o.rdS (ZT l).symm hn hk fun i _ h2 => strs_get l i h2
theorem rdS.none {α : Type} {E : Heap → List Value → α → Prop} {sz : Nat} {h : Heap} {a : Option Addr} {cap : Nat} : Hs.rdS E sz h (.slice a 0 cap) [] := ⟨a, cap, rfl, by simp, .inl rfl⟩
/-- What a row of strings gives to append. -/
theorem strs_src {P : Program} {H : Heap} {v : Value} {l : List ByteArray} (h : Hs.rdS RS 1 H v l) : ∀ w L, Mem w L H → Src P 1 w v l.length (Z0 l).flatten := by
  obtain ⟨es, e1, e2, e3, e4⟩ := rdS.src (P := P) h
  have : es = Z0 l := by
    apply List.ext_getElem
    · rw [e1, ZT]
    · intro i h1 h2
      have := e2 i h1 (by omega)
      rw [strs_get l i (by omega)]; exact this
  subst this
  intro w L m
  exact e4 w L H (Hle.refl _) m
theorem own_src {P : Program} {H : Heap} {T : TypeId} {v : Value} {l : List ByteArray} {k : Zj} {M : List Zj} {i : Nat} (o : Own T 1 v (Z0 l) k) (hi : M[i]? = some k) : ∀ F w, Mem w (M.flatten ++ F) H → Src P 1 w v l.length (Z0 l).flatten := by
  intro F w m
  rcases o.2 with ⟨e, e2, e3⟩ | ⟨b, cap, sp, e, e2, e3, e4⟩
  · have : l = [] := by have := ZT l; rw [e2] at this; exact List.eq_nil_of_length_eq_zero this.symm
    subst this
    rw [e]; exact Src.nil
  · subst e
    have hb : w.heap[b]? = some (.cells ⟨(Z0 l).flatten ++ sp⟩ T (0, 0)) := (At.k (M := M) (H := H) i hi (by rw [e2]; simp)).heap m
    have := Src.row (P := P) (cap := cap) (n := l.length) hb (by have := sub_flat (sp := sp) o.1; rwa [ZT] at this)
    rw [ZT]; exact this

/-- the place of a string in a row -/
def YN (x : ByteArray) : List ByteArray → Nat → Int
  | [], _ => -1
  | y :: l, i => if x = y then (i : Int) else YN x l (i + 1)
theorem fstS_mem (x : ByteArray) (l : List ByteArray) : ∀ i, decide (0 ≤ YN x l i) = l.any (fun y => decide (x = y)) := by
  induction l with
  | nil => intro i; simp [YN]
  | cons y l ih =>
    intro i
    rw [YN]
    by_cases h : x = y
    · rw [if_pos h, List.any_cons, decide_eq_true h]; simp
    · rw [if_neg h, ih, List.any_cons, decide_eq_false h]; rfl
/-- the place of a bool in a row -/
def fstB (x : Bool) : List Bool → Nat → Int
  | [], _ => -1
  | y :: l, i => if x = y then (i : Int) else fstB x l (i + 1)

def itC (r : Nat) (s : ByteArray) (p : Nat) : Zj := [(r, .stringIter s p)]
section
variable {c : Cx} {H : Heap} {ρ : Nat → Value} {M : List Zj} {K : Value → List Zj → Prop} {d : Option Nat} {ot : TypeId} {pos : String} {af : Array Edge} {g : Option (Nat × Bool)} {x y z : Operand}
theorem Runs_rangeS {T : TypeId} {s : ByteArray} (hT : c.P.underlying T = some .string) (hx : ev c.n ρ x = .string s) (h : ∀ r, K (.pointer (some ⟨r, 0, none⟩)) (itC r s 0 :: M)) : Runs c H ⟨d, .range T x, ot, pos, af, g⟩ ρ M K := fun F w m => by
  refine ⟨.pointer (some ⟨w.heap.size, 0, none⟩), { w with heap := w.heap.push (.stringIter s 0) }, [(w.heap.size, .stringIter s 0)] :: M, .inl ?_, m.push (w' := { w with heap := w.heap.push (.stringIter s 0) }) rfl, h _⟩
  simp [execOp, Instr.range, hx, run_underlying hT, Result.andThen]
theorem Runs_nextA {i r p : Nat} {s : ByteArray} (hx : ev c.n ρ x = .pointer (some ⟨r, 0, none⟩)) (hi : M[i]? = some (itC r s p)) (hp : p < s.size) (ha : (s[p]'hp).toNat < 128)
    (h : K (.tuple ⟨[.bool true, .int .i64 p, .int .i32 ((s[p]'hp).toNat : Int)]⟩) (M.set i (itC r s (p + 1)))) : Runs c H ⟨d, .next x true, ot, pos, af, g⟩ ρ M K := fun F w m => by
  have hb : w.heap[r]? = some (.stringIter s p) := (m.perm ((Yq hi).append_right F)).own r _ (List.mem_cons_self ..)
  refine ⟨_, _, _, .inl ?_, m.put (o' := .stringIter s (p + 1)) hi, h⟩
  have hg : (getObj r).run c.P w = .ok (.stringIter s p) w := by simp [getObj, Sem.run, hb]
  have hs : (setObj r (.stringIter s (p + 1))).run c.P w = .ok () { w with heap := w.heap.setIfInBounds r (.stringIter s (p + 1)) } := by simp [setObj, Sem.run, hb]
  simp only [execOp, Instr.next, hx, Sem.run_bind, hg, Result.andThen, hp, if_true, decode_ascii s p hp ha, hs]
  simp [goInt]
theorem Runs_nextE {i r p : Nat} {s : ByteArray} (hx : ev c.n ρ x = .pointer (some ⟨r, 0, none⟩)) (hi : M[i]? = some (itC r s p)) (hp : ¬ p < s.size)
    (h : K (.tuple ⟨[.bool false]⟩) M) : Runs c H ⟨d, .next x true, ot, pos, af, g⟩ ρ M K := fun F w m => by
  have hb : w.heap[r]? = some (.stringIter s p) := (m.perm ((Yq hi).append_right F)).own r _ (List.mem_cons_self ..)
  refine ⟨_, _, _, .inl ?_, m, h⟩
  have hg : (getObj r).run c.P w = .ok (.stringIter s p) w := by simp [getObj, Sem.run, hb]
  simp [execOp, Instr.next, hx, hg, Result.andThen, hp]
end
theorem w32 {a : Int} (h : -2147483648 ≤ a ∧ a ≤ 2147483647) : IntKind.i32.wrap a = a := by
  exact IntWalk.i32_in a h
section
variable {P : Program} {e : Operand → Value} {T T' : TypeId} {x : Operand} {k : IntKind} {a : Int} {d : Option Nat} {ot : TypeId} {pos : String} {af : Array Edge} {g : Option (Nat × Bool)}
theorem Pu.convS {s : ByteArray} {t : TypeDesc} (hs : ∀ w, (underlying T).run P w = .ok t w) (hT : ∀ w, (underlying T').run P w = .ok .string w) (hx : e x = .int k a) (hv : Utf8.encode a = s) : Pu P e ⟨d, .convert T T' x, ot, pos, af, g⟩ (.string s) := fun w => by
  subst hv
  simp [execOp, convert, hs, hT, hx, Result.andThen, Conv.intToString]
end
theorem ltr_size (i : Nat) : (ltr i).size = 1 := rfl
theorem ltr_get (i : Nat) (h : i < 26) : ((ltr i)[0]'(by rw [ltr_size]; decide)).toNat = 97 + i := by
  show (UInt8.ofNat (97 + i)).toNat = 97 + i
  simp; omega
theorem ltr_enc : ∀ i : Nat, i < 26 → Utf8.encode ((97 + i : Nat) : Int) = ltr i := by decide
theorem ltr_enc' (i : Nat) (h : i < 26) : Utf8.encode (97 + (i : Int)) = ltr i := by have := ltr_enc i h; simpa using this
section
variable {c : Cx} {H : Heap} {ρ : Nat → Value} {M : List Zj} {K : Value → List Zj → Prop} {d : Option Nat} {ot : TypeId} {pos : String} {af : Array Edge} {g : Option (Nat × Bool)} {x : Operand}
theorem Runs_nextL {i r k : Nat} (hx : ev c.n ρ x = .pointer (some ⟨r, 0, none⟩)) (hi : M[i]? = some (itC r (ltr k) 0)) (hk : k < 26)
    (h : K (.tuple ⟨[.bool true, .int .i64 0, .int .i32 (97 + (k : Int))]⟩) (M.set i (itC r (ltr k) 1))) : Runs c H ⟨d, .next x true, ot, pos, af, g⟩ ρ M K := by
  have hg := ltr_get k hk
  refine Runs_nextA hx hi (by rw [ltr_size]; decide) (by omega) ?_
  rw [hg]
  simpa using h
end
def markL (i : Nat) (l : List Bool) : List Bool := if i < l.length then l.set i true else l
/-- What is known of a term with names: the names on the way down, one Kid after the other. -/
def NC : List (List ByteArray) → List Value → Zj → Prop
  | [], cs, _ => cs.length = 37 ∧ okc cs
  | x :: xs, cs, c => ∃ k n r ns ks cv e k1 k2 k3, cs = pkT k n r ns ks ++ [cv] ∧ cv.oneCell' = true ∧ Own 9 1 ns (Z0 x) k1 ∧ Own 32 37 ks [e] k2 ∧ NC xs e k3 ∧ c = k1 ++ (k2 ++ k3)
theorem NC.len : ∀ {xs : List (List ByteArray)} {cs : List Value} {c : Zj}, NC xs cs c → cs.length = 37
  | [], _, _, h => h.1
  | _ :: _, _, _, ⟨_, _, _, _, _, _, _, _, _, _, h, _⟩ => by rw [h]; rfl
theorem NC.ok : ∀ {xs : List (List ByteArray)} {cs : List Value} {c : Zj}, NC xs cs c → okc cs
  | [], _, _, h => h.2
  | _ :: _, _, _, ⟨_, _, _, _, _, _, _, _, _, _, h, h1, h2, h3, _⟩ => by rw [h]; exact ZN (ZI h2.one h3.one) (Zk h1 Zq)
theorem spl_l {a b a' vs : List Value} {off : Nat} (h : spl a off vs = some a') : spl (a ++ b) off vs = some (a' ++ b) := by
  obtain ⟨h1, h2⟩ := spl_some h
  rw [spl_mk (by rw [List.length_append]; omega), h2, List.take_append_of_le_length (by omega), List.drop_append_of_le_length (by omega)]
  simp
theorem markL_len (i : Nat) (l : List Bool) : (markL i l).length = l.length := by unfold markL; split <;> simp
theorem int_r {P : Program} {f : FuncId} {a : Array Value} {M : List Zj} {H : Heap} {x r : Int} (h : CT P f a M H (fun v N => v = .int .i64 x ∧ N = [])) (hr : x = r) : CT P f a M H (fun v N => v = .int .i64 r ∧ N = []) := hr ▸ h
noncomputable def eqL {α : Type} (l m : List α) : Bool := @decide (l = m) (Classical.propDecidable _)
theorem eqL_true {α : Type} {l m : List α} (h : l = m) : eqL l m = true := by unfold eqL; simp [h]
theorem eqL_false {α : Type} {l m : List α} (h : ¬ l = m) : eqL l m = false := by unfold eqL; simp [h]
end Go.Proofs.YtmophpgiaiemhaaGreat.Hs
/-! Terms with names, as data: read, and owned. -/
namespace Go.Proofs.YtmophpgiaiemhaaGreat.Hs
open Go

/-- A slice of strings, with its room. -/
def strR (H : Heap) (v : Value) (l : List ByteArray) : Prop := ∃ a cap, v = .slice a l.length cap ∧ l.length ≤ cap ∧ Hs.rdS RS 1 H v l
theorem strR.rd {H : Heap} {v : Value} {l : List ByteArray} (h : strR H v l) : Hs.rdS RS 1 H v l := by obtain ⟨_, _, _, _, h⟩ := h; exact h
theorem strR.mono {H H' : Heap} {v : Value} {l : List ByteArray} (hh : Hle H H') (h : strR H v l) : strR H' v l := by obtain ⟨a, cap, e, h1, h⟩ := h; exact ⟨a, cap, e, h1, RSs.mono hh h⟩
theorem strR.one {H : Heap} {v : Value} {l : List ByteArray} (h : strR H v l) : v.oneCell' = true := h.rd.one
theorem strR.own {T : TypeId} {v : Value} {l : List ByteArray} {k : Zj} {h : Heap} (o : Own T 1 v (Z0 l) k) (hn : l.length ≤ 9223372036854775807) (hk : Has k h) : strR h v l := by
  have hr := Yc o hn hk
  rcases id o.2 with ⟨rfl, h1, _⟩ | ⟨b, cap, sp, rfl, rfl, h3, h4⟩
  · have : l = [] := by cases l; rfl; simp [Z0] at h1
    subst this; exact ⟨none, 0, rfl, by simp, hr⟩
  · refine ⟨_, cap, by rw [ZT], ?_, hr⟩
    rw [ZT] at h4; exact h4
theorem strR.nil {h : Heap} : strR h (.slice none 0 0) [] := ⟨none, 0, rfl, by simp, rdS.nil⟩
theorem strR.take {h : Heap} {a : Option Addr} {N cap : Nat} {l : List ByteArray} (r : strR h (.slice a N cap) l) (n : Nat) (hn : n ≤ l.length) : strR h (.slice (if cap = 0 then a else a.map (·.add (0 * 1))) n cap) (l.take n) := by
  have ea : (if cap = 0 then a else a.map (·.add (0 * 1))) = a := by
    cases a with
    | none => simp
    | some a => simp [Addr.add]
  rw [ea]
  have hln : (l.take n).length = n := by rw [List.length_take]; omega
  obtain ⟨a', c', e, h1, a2, c2, e2, h2, h0⟩ := r
  cases e; cases e2
  refine ⟨a, cap, by rw [hln], by rw [hln]; omega, a, cap, by rw [hln], by rw [hln]; omega, ?_⟩
  rcases h0 with h0 | ⟨b, o, row, T, fr, e1, e2, e3⟩
  · left; omega
  · right
    refine ⟨b, o, row, T, fr, e1, e2, rows.mk fun i hi => ?_⟩
    rw [List.length_take] at hi
    obtain ⟨cs, h2, h3⟩ := e3.get i (by omega)
    exact ⟨cs, h2, by rw [List.getElem_take]; exact h3⟩
theorem strR.drop {h : Heap} {a : Option Addr} {N cap : Nat} {l : List ByteArray} (r : strR h (.slice a N cap) l) (n : Nat) (hn : n ≤ l.length) : strR h (.slice (if cap = n then a else a.map (·.add (n * 1))) (N - n) (cap - n)) (l.drop n) := by
  obtain ⟨a', c', e, h1, a2, c2, e2, h2, h0⟩ := r
  cases e; cases e2
  refine ⟨_, _, by rw [List.length_drop], by rw [List.length_drop]; omega, _, _, by rw [List.length_drop], by rw [List.length_drop]; omega, ?_⟩
  by_cases hz : (l.drop n).length = 0
  · exact .inl hz
  rw [List.length_drop] at hz
  rcases h0 with h0 | ⟨b, o, row, T, fr, e1, e2, e3⟩
  · omega
  · right
    have hc : ¬ cap = n := by omega
    refine ⟨b, o + n * 1, row, T, fr, by rw [if_neg hc, e1]; simp [Addr.add], e2, rows.mk fun i hi => ?_⟩
    rw [List.length_drop] at hi
    obtain ⟨cs, h2, h3⟩ := e3.get (n + i) (by omega)
    exact ⟨cs, by rw [← h2]; congr 1; omega, by rw [List.getElem_drop]; exact h3⟩
section
variable {c : Cx} {H : Heap} {ρ : Nat → Value} {M : List Zj} {K : Value → List Zj → Prop} {d : Option Nat} {ot : TypeId} {pos : String} {af : Array Edge} {g : Option (Nat × Bool)} {x y : Operand}
/-- the first ones of a slice of strings; and those behind them -/
theorem Runs_takeS {T el : TypeId} {k : IntKind} {v : Value} {l : List ByteArray} {H0 : Heap} {n : Nat} {i : Int} (hp : strR H0 v l) (hi : i = (n : Int)) (hn : n ≤ l.length) (hT : ∀ w, (underlying T).run c.P w = .ok (.slice el) w) (hsz : ∀ w, (sizeOf el).run c.P w = .ok 1 w) (hx : ev c.n ρ x = v) (hy : ev c.n ρ y = .int k i)
    (h : ∀ u, (∀ h, strR h v l → strR h u (l.take n)) → K u M) : Runs c H ⟨d, .slice T x none (some y) none, ot, pos, af, g⟩ ρ M K := fun F w m => by
  subst hi
  obtain ⟨a, cap, rfl, h1, h2⟩ := hp
  refine ⟨_, w, M, .inl ?_, m, h (.slice (if cap = 0 then a else a.map (·.add (0 * 1))) n cap) (fun h' q => q.take n hn)⟩
  have h3 : n ≤ cap := by omega
  simp [execOp, Instr.sliceAt, Instr.slice, Instr.sliceBounds, Instr.sliceBound, asIntOf, hx, hy, hT, hsz, Result.andThen, h3]
theorem Runs_dropS {T el : TypeId} {k : IntKind} {v : Value} {l : List ByteArray} {H0 : Heap} {n : Nat} {i : Int} (hp : strR H0 v l) (hi : i = (n : Int)) (hn : n ≤ l.length) (hT : ∀ w, (underlying T).run c.P w = .ok (.slice el) w) (hsz : ∀ w, (sizeOf el).run c.P w = .ok 1 w) (hx : ev c.n ρ x = v) (hy : ev c.n ρ y = .int k i)
    (h : ∀ u, (∀ h, strR h v l → strR h u (l.drop n)) → K u M) : Runs c H ⟨d, .slice T x (some y) none none, ot, pos, af, g⟩ ρ M K := fun F w m => by
  subst hi
  obtain ⟨a, cap, rfl, h1, h2⟩ := hp
  refine ⟨_, w, M, .inl ?_, m, h (.slice (if cap = n then a else a.map (·.add (n * 1))) (l.length - n) (cap - n)) (fun h' q => q.drop n hn)⟩
  simp [execOp, Instr.sliceAt, Instr.slice, Instr.sliceBounds, Instr.sliceBound, asIntOf, hx, hy, hT, hsz, Result.andThen, hn]
end
inductive Nm where
  | mk (kind num : Int) (ref : Sm) (names : List ByteArray) (kids : List Nm) (cases : List (Pt × List ByteArray × Nm))
namespace Nm
def kind : Nm → Int | .mk k _ _ _ _ _ => k
def num : Nm → Int | .mk _ n _ _ _ _ => n
def ref : Nm → Sm | .mk _ _ r _ _ _ => r
def names : Nm → List ByteArray | .mk _ _ _ l _ _ => l
def kids : Nm → List Nm | .mk _ _ _ _ l _ => l
def cases : Nm → List (Pt × List ByteArray × Nm) | .mk _ _ _ _ _ l => l
end Nm

theorem Nm.ind {P : Nm → Prop} (h : ∀ k n r ns kids cases, (∀ x ∈ kids, P x) → (∀ c ∈ cases, P c.2.2) → P (.mk k n r ns kids cases)) : ∀ t, P t := by
  have key : ∀ n (t : Nm), SizeOf.sizeOf t ≤ n → P t := by
    intro n
    induction n with
    | zero => intro t ht; cases t; simp at ht
    | succ n ih =>
      intro t ht
      cases t with
      | mk k m r ns kids cases =>
        refine h k m r ns kids cases (fun x hx => ih x ?_) (fun c hc => ih c.2.2 ?_)
        · have := List.sizeOf_lt_of_mem hx
          simp at ht
          omega
        · have := List.sizeOf_lt_of_mem hc
          have h2 : SizeOf.sizeOf c = 1 + SizeOf.sizeOf c.1 + (1 + SizeOf.sizeOf c.2.1 + SizeOf.sizeOf c.2.2) := by obtain ⟨a, b, c⟩ := c; rfl
          simp at ht
          omega
  exact fun t => key _ t (Nat.le_refl _)

/-- The cells of a term with names, and of a case. -/
def pkN (k n : Int) (r : Sm) (ns ks cs : Value) : List Value := pkT k n r ns ks ++ [cs]

mutual
def rdN (h : Heap) : Nm → List Value → Prop
  | .mk k n r ns kids cases, cs => ∃ nv ks cv, cs = pkN k n r nv ks cv ∧ inI k ∧ inI n ∧ strR h nv ns ∧ rdSl h kids.length ks (rdNs h kids) ∧ rdSl h cases.length cv (rdNCs h cases)
def rdNs (h : Heap) : List Nm → List Value → Nat → Prop
  | [], _, _ => True
  | p :: ps, row, o => (∃ cs, sub row o 37 = some cs ∧ rdN h p cs) ∧ rdNs h ps row (o + 37)
def rdNCs (h : Heap) : List (Pt × List ByteArray × Nm) → List Value → Nat → Prop
  | [], _, _ => True
  | (p, m, t) :: ps, row, o => (∃ cs, sub row o 73 = some cs ∧ ∃ a v b, cs = a ++ ([v] ++ b) ∧ RP h a p ∧ Hs.rdS RS 1 h v m ∧ rdN h t b) ∧ rdNCs h ps row (o + 73)
end

def RN (h : Heap) (cs : List Value) (t : Nm) : Prop := rdN h t cs
def RNC (h : Heap) (cs : List Value) (c : Pt × List ByteArray × Nm) : Prop := ∃ a v b, cs = a ++ ([v] ++ b) ∧ RP h a c.1 ∧ Hs.rdS RS 1 h v c.2.1 ∧ RN h b c.2.2

theorem rdNs_eq (h : Heap) (l : List Nm) : ∀ row o, rdNs h l row o = rows (RN h) 37 row o l := by
  induction l with
  | nil => intro row o; simp only [rdNs, rows]
  | cons p ps ih => intro row o; simp only [rdNs, rows, ih, RN]
theorem rdNCs_eq (h : Heap) (l : List (Pt × List ByteArray × Nm)) : ∀ row o, rdNCs h l row o = rows (RNC h) 73 row o l := by
  induction l with
  | nil => intro row o; simp only [rdNCs, rows]
  | cons p ps ih => intro row o; obtain ⟨a, m, b⟩ := p; simp only [rdNCs, rows, ih, RNC, RN]

theorem RN_mk {h : Heap} {cs : List Value} {k n : Int} {r : Sm} {ns : List ByteArray} {kids : List Nm} {cases : List (Pt × List ByteArray × Nm)} :
    RN h cs (.mk k n r ns kids cases) ↔ ∃ nv ks cv, cs = pkN k n r nv ks cv ∧ inI k ∧ inI n ∧ strR h nv ns ∧ Hs.rdS RN 37 h ks kids ∧ Hs.rdS RNC 73 h cv cases := by
  have e1 : rdNs h kids = fun row o => rows (RN h) 37 row o kids := by funext row o; exact rdNs_eq h kids row o
  have e2 : rdNCs h cases = fun row o => rows (RNC h) 73 row o cases := by funext row o; exact rdNCs_eq h cases row o
  rw [show RN h cs (.mk k n r ns kids cases) = rdN h (.mk k n r ns kids cases) cs from rfl]
  simp only [rdN]
  rw [e1, e2]
  rfl

theorem ZV {h : Heap} {cs : List Value} {t : Nm} (r : RN h cs t) : cs.length = 37 := by cases t; obtain ⟨nv, ks, cv, rfl, _⟩ := RN_mk.1 r; rfl
theorem RNC_len {h : Heap} {cs : List Value} {t : Pt × List ByteArray × Nm} (r : RNC h cs t) : cs.length = 73 := by obtain ⟨a, v, b, rfl, h1, _, h2⟩ := r; rw [List.length_append, List.length_append, Zu h1, ZV h2]; rfl
theorem RN.mono {h h' : Heap} (hh : Hle h h') : ∀ {t cs}, RN h cs t → RN h' cs t := by
  intro t
  induction t using Nm.ind with
  | h k n r ns kids cases ih ih' =>
    intro cs q
    obtain ⟨nv, ks, cv, e, h1, h2, h0, h3, h4⟩ := RN_mk.1 q
    exact RN_mk.2 ⟨nv, ks, cv, e, h1, h2, h0.mono hh, h3.mono hh fun x hx cs q => ih x hx q, h4.mono hh fun x hx cs ⟨a, v, b, e, q1, q0, q2⟩ => ⟨a, v, b, e, q1.mono hh, RSs.mono hh q0, ih' x hx q2⟩⟩
theorem RNC.mono {h h' : Heap} (hh : Hle h h') {c cs} (q : RNC h cs c) : RNC h' cs c := by obtain ⟨a, v, b, e, q1, q0, q2⟩ := q; exact ⟨a, v, b, e, q1.mono hh, RSs.mono hh q0, q2.mono hh⟩
theorem RNs.mono {h h' : Heap} (hh : Hle h h') {v l} (q : Hs.rdS RN 37 h v l) : Hs.rdS RN 37 h' v l := rdS.mono q hh fun _ _ _ => RN.mono hh
theorem RNCs.mono {h h' : Heap} (hh : Hle h h') {v l} (q : Hs.rdS RNC 73 h v l) : Hs.rdS RNC 73 h' v l := rdS.mono q hh fun _ _ _ => RNC.mono hh
theorem RN_open {h : Heap} {cs : List Value} {t : Nm} (q : RN h cs t) : ∃ nv ks cv, cs = pkN t.kind t.num t.ref nv ks cv ∧ inI t.kind ∧ inI t.num ∧ strR h nv t.names ∧ Hs.rdS RN 37 h ks t.kids ∧ Hs.rdS RNC 73 h cv t.cases := by cases t; exact RN_mk.1 q

section
variable (k n : Int) (r : Sm) (ns ks cs : Value)
theorem pkN_0 : (pkN k n r ns ks cs)[0]? = some (.int .i64 k) := rfl
theorem pkN_1 : (pkN k n r ns ks cs)[1]? = some (.int .i64 n) := rfl
theorem pkN_2 : sub (pkN k n r ns ks cs) 2 32 = some (sC r) := rfl
theorem Xw : (pkN k n r ns ks cs)[34]? = some ns := rfl
theorem Xa : (pkN k n r ns ks cs)[35]? = some ks := rfl
theorem YP : (pkN k n r ns ks cs)[36]? = some cs := rfl
theorem XA : sub (pkN k n r ns ks cs) 0 37 = some (pkN k n r ns ks cs) := rfl
theorem pkN_s1 (k' : Int) : spl (pkN k n r ns ks cs) 1 [.int .i64 k'] = some (pkN k k' r ns ks cs) := rfl
theorem pkN_s34 (v : Value) : spl (pkN k n r ns ks cs) 34 [v] = some (pkN k n r v ks cs) := rfl
theorem pkN_s35 (v : Value) : spl (pkN k n r ns ks cs) 35 [v] = some (pkN k n r ns v cs) := rfl
theorem pkN_s36 (v : Value) : spl (pkN k n r ns ks cs) 36 [v] = some (pkN k n r ns ks v) := rfl
theorem pkN_s (k' n' : Int) (r' : Sm) (ns' ks' cs' : Value) : spl (pkN k n r ns ks cs) 0 (pkN k' n' r' ns' ks' cs') = some (pkN k' n' r' ns' ks' cs') := rfl
theorem YZ {k n : Int} {r : Sm} {ns ks cs : Value} (h0 : ns.oneCell' = true) (h : ks.oneCell' = true) (h' : cs.oneCell' = true) : okc (pkN k n r ns ks cs) := by
  exact ZN (ZI h0 h) (Zk h' Zq)
end
theorem RN_ok {h : Heap} {cs : List Value} {t : Nm} (r : RN h cs t) : okc cs := by cases t; obtain ⟨nv, ks, cv, rfl, _, _, h0, h3, h4⟩ := RN_mk.1 r; exact YZ h0.one h3.one h4.one
mutual
def ON : Nm → List Value → Zj → Prop
  | .mk k n r ns kids cases, cs, c => ∃ nv ks cv es es' k0 k1 k2 k3 k4, cs = pkN k n r nv ks cv ∧ inI k ∧ inI n ∧ Own 9 1 nv (Z0 ns) k0 ∧ Own 32 37 ks es k1 ∧ ONs kids es k2 ∧ Own 85 73 cv es' k3 ∧ ONCs cases es' k4 ∧ c = k0 ++ (k1 ++ (k2 ++ (k3 ++ k4))) ∧
      ns.length ≤ 9223372036854775807 ∧ kids.length ≤ 9223372036854775807 ∧ cases.length ≤ 9223372036854775807
def ONs : List Nm → List (List Value) → Zj → Prop
  | [], es, c => es = [] ∧ c = []
  | p :: ps, es, c => ∃ e es' k k', es = e :: es' ∧ ON p e k ∧ ONs ps es' k' ∧ c = k ++ k'
def ONCs : List (Pt × List ByteArray × Nm) → List (List Value) → Zj → Prop
  | [], es, c => es = [] ∧ c = []
  | (p, m, t) :: ps, es, c => ∃ a v b es' ka km kb k', es = (a ++ ([v] ++ b)) :: es' ∧ OP p a ka ∧ Own 9 1 v (Z0 m) km ∧ m.length ≤ 9223372036854775807 ∧ ON t b kb ∧ ONCs ps es' k' ∧ c = ka ++ (km ++ (kb ++ k'))
end
theorem ON_mk {k n : Int} {r : Sm} {ns : List ByteArray} {kids : List Nm} {cases : List (Pt × List ByteArray × Nm)} {cs : List Value} {c : Zj} : ON (.mk k n r ns kids cases) cs c ↔ ∃ nv ks cv es es' k0 k1 k2 k3 k4, cs = pkN k n r nv ks cv ∧ inI k ∧ inI n ∧ Own 9 1 nv (Z0 ns) k0 ∧ Own 32 37 ks es k1 ∧ ONs kids es k2 ∧ Own 85 73 cv es' k3 ∧ ONCs cases es' k4 ∧ c = k0 ++ (k1 ++ (k2 ++ (k3 ++ k4))) ∧
      ns.length ≤ 9223372036854775807 ∧ kids.length ≤ 9223372036854775807 ∧ cases.length ≤ 9223372036854775807 := by
  rw [ON]
theorem ONs_len {l : List Nm} : ∀ {es c}, ONs l es c → es.length = l.length := by
  induction l with
  | nil => rintro es c h; rw [ONs] at h; rw [h.1]; rfl
  | cons p l ih => intro es c h; rw [ONs] at h; obtain ⟨e, es', k, k', rfl, _, h, _⟩ := h; simp [ih h]
theorem ONCs_len {l : List (Pt × List ByteArray × Nm)} : ∀ {es c}, ONCs l es c → es.length = l.length := by
  induction l with
  | nil => rintro es c h; rw [ONCs] at h; rw [h.1]; rfl
  | cons p l ih => intro es c h; obtain ⟨p, m, t⟩ := p; rw [ONCs] at h; obtain ⟨a, v, b, es', ka, km, kb, k', rfl, _, _, _, _, h, _⟩ := h; simp [ih h]
theorem ONs.nil : ONs [] [] [] := by rw [ONs]; exact ⟨rfl, rfl⟩
theorem ONCs.nil : ONCs [] [] [] := by rw [ONCs]; exact ⟨rfl, rfl⟩
theorem ONs.snoc {l : List Nm} {p : Nm} {e : List Value} {k : Zj} (h' : ON p e k) : ∀ {es c}, ONs l es c → ONs (l ++ [p]) (es ++ [e]) (c ++ k) := by
  induction l with
  | nil => intro es c h; rw [ONs] at h; rw [h.1, h.2]; simp only [List.nil_append]; rw [ONs]; exact ⟨e, [], k, [], rfl, h', ONs.nil, by simp⟩
  | cons q l ih =>
    intro es c h
    rw [ONs] at h
    obtain ⟨f, es', k1, k2, rfl, h1, h2, rfl⟩ := h
    simp only [List.cons_append]
    rw [ONs]
    exact ⟨f, _, k1, _, rfl, h1, ih h2, by rw [List.append_assoc]⟩
theorem ONCs.snoc {l : List (Pt × List ByteArray × Nm)} {p : Pt} {m : List ByteArray} {t : Nm} {a b : List Value} {v : Value} {ka km kb : Zj} (hp : OP p a ka) (hm : Own 9 1 v (Z0 m) km) (hl : m.length ≤ 9223372036854775807) (ht : ON t b kb) : ∀ {es c}, ONCs l es c → ONCs (l ++ [(p, m, t)]) (es ++ [a ++ ([v] ++ b)]) (c ++ (ka ++ (km ++ kb))) := by
  induction l with
  | nil => intro es c h; rw [ONCs] at h; rw [h.1, h.2]; simp only [List.nil_append]; rw [ONCs]; exact ⟨a, v, b, [], ka, km, kb, [], rfl, hp, hm, hl, ht, ONCs.nil, by simp⟩
  | cons q l ih =>
    intro es c h
    obtain ⟨q, n, u⟩ := q
    rw [ONCs] at h
    obtain ⟨a', v', b', es', k1, k0, k2, k3, rfl, h1, h0, h00, h2, h3, rfl⟩ := h
    simp only [List.cons_append]
    rw [ONCs]
    exact ⟨a', v', b', _, k1, k0, k2, _, rfl, h1, h0, h00, h2, ih h3, by simp only [List.append_assoc]⟩
theorem ON.len {t : Nm} {cs : List Value} {c : Zj} (h : ON t cs c) : cs.length = 37 := by cases t; obtain ⟨_, _, _, _, _, _, _, _, _, _, rfl, _⟩ := ON_mk.1 h; rfl
theorem ON.ok {t : Nm} {cs : List Value} {c : Zj} (h : ON t cs c) : okc cs := by cases t; obtain ⟨_, _, _, _, _, _, _, _, _, _, rfl, _, _, h0, h, _, h', _⟩ := ON_mk.1 h; exact YZ h0.one h.one h'.one
theorem ONs_rows {h : Heap} {l : List Nm} (ih : ∀ p ∈ l, ∀ cs c, ON p cs c → Has c h → RN h cs p) : ∀ {es c}, ONs l es c → Has c h → ∀ i (h1 : i < es.length) (h2 : i < l.length), RN h es[i] l[i] := by
  induction l with
  | nil => intro es c _ _ i _ h2; exact absurd h2 (by simp)
  | cons p l ih' =>
    intro es c ho hh i h1 h2
    rw [ONs] at ho
    obtain ⟨e, es', k, k', rfl, hp, hs, rfl⟩ := ho
    cases i with
    | zero => exact ih p (by simp) e k hp hh.left
    | succ i => exact ih' (fun q hq => ih q (by simp [hq])) hs hh.right i (by simpa using h1) (by simpa using h2)
theorem ONCs_rows {h : Heap} {l : List (Pt × List ByteArray × Nm)} (ih : ∀ p ∈ l, ∀ cs c, ON p.2.2 cs c → Has c h → RN h cs p.2.2) : ∀ {es c}, ONCs l es c → Has c h → ∀ i (h1 : i < es.length) (h2 : i < l.length), RNC h es[i] l[i] := by
  induction l with
  | nil => intro es c _ _ i _ h2; exact absurd h2 (by simp)
  | cons p l ih' =>
    intro es c ho hh i h1 h2
    obtain ⟨p, m, t⟩ := p
    rw [ONCs] at ho
    obtain ⟨a, v, b, es', ka, km, kb, k', rfl, hp, hm, hl, ht, hs, rfl⟩ := ho
    cases i with
    | zero => exact ⟨a, v, b, rfl, hp.rd hh.left, Yc hm hl hh.right.left, ih (p, m, t) (by simp) b kb ht hh.right.right.left⟩
    | succ i => exact ih' (fun q hq => ih q (by simp [hq])) hs hh.right.right.right i (by simpa using h1) (by simpa using h2)
theorem ON.rd {h : Heap} {t : Nm} : ∀ {cs c}, ON t cs c → Has c h → RN h cs t := by
  induction t using Nm.ind with
  | h k n r ns kids cases ih ih' =>
    intro cs c ho hh
    obtain ⟨nv, ks, cv, es, es', k0, k1, k2, k3, k4, rfl, hk, hn, ho0, ho1, ho2, ho3, ho4, rfl, hl0, hl, hl'⟩ := ON_mk.1 ho
    exact RN_mk.2 ⟨nv, ks, cv, rfl, hk, hn, strR.own ho0 hl0 hh.left, ho1.rdS (ONs_len ho2).symm hl hh.right.left (ONs_rows (fun p hp cs c => ih p hp) ho2 hh.right.right.left),
      ho3.rdS (ONCs_len ho4).symm hl' hh.right.right.right.left (ONCs_rows (fun p hp cs c => ih' p hp) ho4 hh.right.right.right.right)⟩
theorem ON_leaf {k n : Int} {r : Sm} (hk : inI k) (hn : inI n) : ON (.mk k n r [] [] []) (pkN k n r (.slice none 0 0) (.slice none 0 0) (.slice none 0 0)) [] :=
  ON_mk.2 ⟨_, _, _, [], [], [], [], [], [], [], rfl, hk, hn, Own.nil, Own.nil, ONs.nil, Own.nil, ONCs.nil, rfl, by simp, by simp, by simp⟩
def zN : Nm := .mk 0 0 zS [] [] []
theorem ON_zero : ON zN (pkN 0 0 zS (.slice none 0 0) (.slice none 0 0) (.slice none 0 0)) [] := ON_leaf (by unfold inI; omega) (by unfold inI; omega)
end Go.Proofs.YtmophpgiaiemhaaGreat.Hs
/-! Names: numbers of names, names of numbers, names that are free. -/
namespace Go.Proofs.YtmophpgiaiemhaaGreat.Hs
open Go Go.Proofs
set_option maxRecDepth 100000
theorem decode_high (s : ByteArray) (p : Nat) (h : p < s.size) (ha : ¬ (s[p]'h).toNat < 128) : 128 ≤ (Utf8.decode s p).1 ∧ (Utf8.decode s p).1 ≤ 1114111 ∧ 1 ≤ (Utf8.decode s p).2 := by
  have e : s.get! (p + 0) = s[p]'h := by
    show s.get! p = _
    simp [ByteArray.get!, getElem!_pos, h]
    rfl
  have hb : (s[p]'h).toNat < 256 := (s[p]'h).toNat_lt
  have hv : ∀ c : Nat, Utf8.valid c = true → c ≤ 1114111 := by
    intro c q
    simp only [Utf8.valid, Bool.or_eq_true, Bool.and_eq_true, decide_eq_true_eq] at q
    omega
  simp only [Utf8.decode, e, if_neg ha, Utf8.runeError]
  split
  · split
    · rename_i q; exact ⟨by simpa using q, by omega, by simp⟩
    · simp
  · split
    · split
      · rename_i q; simp only [Bool.and_eq_true, decide_eq_true_eq] at q; exact ⟨by omega, hv _ q.2, by simp⟩
      · simp
    · split
      · split
        · rename_i q; simp only [Bool.and_eq_true, decide_eq_true_eq] at q; exact ⟨by omega, hv _ q.2, by simp⟩
        · simp
      · simp
theorem bytes_drop (s : ByteArray) (p : Nat) (h : p < s.size) : s.data.toList.drop p = (s[p]'h) :: s.data.toList.drop (p + 1) := by
  rw [List.drop_eq_getElem_cons (by simpa using h)]; rfl
section
variable {c : Cx} {H : Heap} {ρ : Nat → Value} {M : List Zj} {K : Value → List Zj → Prop} {d : Option Nat} {ot : TypeId} {pos : String} {af : Array Edge} {g : Option (Nat × Bool)} {x y z : Operand}
theorem Runs_nextH {i r p : Nat} {s : ByteArray} (hx : ev c.n ρ x = .pointer (some ⟨r, 0, none⟩)) (hi : M[i]? = some (itC r s p)) (hp : p < s.size) (ha : ¬ (s[p]'hp).toNat < 128)
    (h : ∀ q k : Nat, 128 ≤ q → q ≤ 1114111 → 0 < k → K (.tuple ⟨[.bool true, .int .i64 p, .int .i32 (q : Int)]⟩) (M.set i (itC r s (p + k)))) : Runs c H ⟨d, .next x true, ot, pos, af, g⟩ ρ M K := fun F w m => by
  obtain ⟨h1, h2, h3⟩ := decode_high s p hp ha
  have hb : w.heap[r]? = some (.stringIter s p) := (m.perm ((Yq hi).append_right F)).own r _ (List.mem_cons_self ..)
  refine ⟨_, _, _, .inl ?_, m.put (o' := .stringIter s (p + (Utf8.decode s p).2)) hi, h (Utf8.decode s p).1 (Utf8.decode s p).2 h1 h2 (by omega)⟩
  have hg : (getObj r).run c.P w = .ok (.stringIter s p) w := by simp [getObj, Sem.run, hb]
  have hs : (setObj r (.stringIter s (p + (Utf8.decode s p).2))).run c.P w = .ok () { w with heap := w.heap.setIfInBounds r (.stringIter s (p + (Utf8.decode s p).2)) } := by simp [setObj, Sem.run, hb]
  simp only [execOp, Instr.next, hx, Sem.run_bind, hg, Result.andThen, hp, if_true, hs]
  simp [goInt]
end
/-- the number of a name, read on -/
def YH : Int → List UInt8 → Int
  | o, [] => o
  | o, c :: l => if c.toNat < 97 ∨ 122 < c.toNat ∨ 1073741824 < o then -1 else YH ((o + 1) * 26 + ((c.toNat : Int) - 97)) l
def numS (s : ByteArray) : Int := YH (-1) s.data.toList
/-- the name of a number -/
def nmL (n : Nat) : List UInt8 := if h : n < 26 then [UInt8.ofNat (97 + n)] else nmL (n / 26 - 1) ++ [UInt8.ofNat (97 + n % 26)]
termination_by n
decreasing_by omega
def YG (n : Nat) : ByteArray := ⟨⟨nmL n⟩⟩
theorem nameS_lt {n : Nat} (h : n < 26) : YG n = ltr n := by
  rw [YG, nmL, dif_pos h]; rfl
theorem nameS_ge {n : Nat} (h : ¬ n < 26) : YG n = YG (n / 26 - 1) ++ ltr (n % 26) := by
  apply ByteArray.ext
  rw [ByteArray.data_append]
  apply Array.ext'
  rw [Array.toList_append, YG, nmL, dif_neg h]
  rfl
theorem nmL_len (n : Nat) : (nmL n).length ≤ n + 1 := by
  induction n using Nat.strongRecOn with
  | _ n ih =>
    rw [nmL]
    split
    · simp
    · have := ih (n / 26 - 1) (by omega)
      rw [List.length_append, List.length_singleton]
      omega
theorem nameS_size (n : Nat) : (YG n).size ≤ n + 1 := nmL_len n
theorem numL_app (l : List UInt8) (c : UInt8) : ∀ o : Int, YH o l ≠ -1 ∨ l = [] → YH o (l ++ [c]) = YH (YH o l) [c] := by
  induction l with
  | nil => intro o _; rfl
  | cons d l ih =>
    intro o h
    rcases h with h | h
    · rw [List.cons_append, YH]
      rw [YH] at h
      rw [show YH o (d :: l) = if d.toNat < 97 ∨ 122 < d.toNat ∨ 1073741824 < o then -1 else YH ((o + 1) * 26 + ((d.toNat : Int) - 97)) l from rfl]
      split
      · rename_i q; rw [if_pos q] at h; exact absurd rfl h
      · rename_i q
        rw [if_neg q] at h
        exact ih _ (.inl h)
    · cases h
theorem letter (i : Nat) (h : i < 26) : (UInt8.ofNat (97 + i)).toNat = 97 + i := by simp; omega
theorem num_name (n : Nat) (hn : n ≤ 1073741824) : numS (YG n) = n := by
  show YH (-1) (nmL n) = n
  induction n using Nat.strongRecOn with
  | _ n ih =>
    rw [nmL]
    split
    · rename_i h
      rw [YH, letter n h, if_neg (by omega)]
      show (-1 + 1) * 26 + (((97 + n : Nat) : Int) - 97) = n
      omega
    · rename_i h
      have e := ih (n / 26 - 1) (by omega) (by omega)
      rw [numL_app _ _ _ (.inl (by omega)), e, YH, letter (n % 26) (by omega), if_neg (by omega)]
      show ((((n / 26 - 1 : Nat) : Int)) + 1) * 26 + (((97 + n % 26 : Nat) : Int) - 97) = n
      omega
/-- what has a number is its name -/
theorem numL_nil {l : List UInt8} : ∀ {o : Int}, 0 ≤ o → YH o l = -1 ∨ 0 ≤ YH o l := by
  induction l with
  | nil => intro o h; exact .inr h
  | cons c l ih =>
    intro o h
    rw [YH]
    split
    · exact .inl rfl
    · exact ih (by omega)
theorem name_num (l : List UInt8) : 0 ≤ YH (-1) l → nmL (YH (-1) l).toNat = l := by
  have key : ∀ (k : Nat) (l : List UInt8), l.length = k → 0 ≤ YH (-1) l → nmL (YH (-1) l).toNat = l := by
    intro k
    induction k with
    | zero => intro l h q; obtain rfl := List.eq_nil_of_length_eq_zero h; exact absurd q (by decide)
    | succ k ih =>
      intro l h q
      obtain ⟨m, c, rfl⟩ : ∃ m c, l = m ++ [c] := ⟨l.dropLast, l.getLast (by intro e; subst e; simp at h), (List.dropLast_concat_getLast _).symm⟩
      have hm : m.length = k := by simpa using h
      by_cases hk : m = []
      · subst hk
        have e : YH (-1) ([] ++ [c]) = if c.toNat < 97 ∨ 122 < c.toNat ∨ (1073741824 : Int) < -1 then -1 else ((-1 + 1) * 26 + ((c.toNat : Int) - 97)) := rfl
        rw [e] at q ⊢
        split at q
        · omega
        · rename_i w
          rw [if_neg w, nmL, dif_pos (by omega)]
          congr 1
          apply UInt8.toNat_inj.1
          rw [letter _ (by omega)]
          omega
      · have hne : YH (-1) m ≠ -1 := by
          intro e
          obtain ⟨d, m', rfl⟩ : ∃ d m', m = d :: m' := by cases m; exact absurd rfl hk; exact ⟨_, _, rfl⟩
          clear ih hm hk h
          revert q
          have : ∀ (m : List UInt8) (o : Int), 0 ≤ o → YH o m = -1 → YH o (m ++ [c]) = -1 := by
            intro m
            induction m with
            | nil => intro o h0 h1; change o = -1 at h1; omega
            | cons d m ih =>
              intro o h0 h1
              rw [List.cons_append, YH]
              rw [YH] at h1
              split
              · rfl
              · rename_i w; rw [if_neg w] at h1; exact ih _ (by omega) h1
          rw [List.cons_append, YH]
          rw [YH] at e
          split
          · omega
          · rename_i w; rw [if_neg w] at e; rw [this m' _ (by omega) e]; omega
        have h0 : 0 ≤ YH (-1) m := by
          obtain ⟨d, m', rfl⟩ : ∃ d m', m = d :: m' := by cases m; exact absurd rfl hk; exact ⟨_, _, rfl⟩
          rw [YH] at hne ⊢
          split
          · rename_i w; rw [if_pos w] at hne; exact absurd rfl hne
          · rename_i w; rw [if_neg w] at hne; exact (numL_nil (by omega)).resolve_left hne
        have e1 := ih m hm h0
        rw [numL_app _ _ _ (.inl hne)] at q ⊢
        have e : YH (YH (-1) m) [c] = if c.toNat < 97 ∨ 122 < c.toNat ∨ (1073741824 : Int) < YH (-1) m then -1 else ((YH (-1) m + 1) * 26 + ((c.toNat : Int) - 97)) := rfl
        rw [e] at q ⊢
        split at q
        · omega
        · rename_i w
          rw [if_neg w, nmL, dif_neg (by omega)]
          have g1 : ((YH (-1) m + 1) * 26 + ((c.toNat : Int) - 97)).toNat / 26 - 1 = (YH (-1) m).toNat := by omega
          have g2 : ((YH (-1) m + 1) * 26 + ((c.toNat : Int) - 97)).toNat % 26 = c.toNat - 97 := by omega
          rw [g1, g2, e1]
          congr 2
          apply UInt8.toNat_inj.1
          rw [letter _ (by omega)]
          omega
  exact fun q => key l.length l rfl q
theorem nameS_num {s : ByteArray} (h : 0 ≤ numS s) : YG (numS s).toNat = s := by
  apply ByteArray.ext
  apply Array.ext'
  exact name_num s.data.toList h
end Go.Proofs.YtmophpgiaiemhaaGreat.Hs
/-! Names that are chosen; the term with names of a term. -/
namespace Go.Proofs.YtmophpgiaiemhaaGreat.Hs
open Go Go.Proofs
set_option maxRecDepth 100000
theorem bytes_getD (s : ByteArray) (p : Nat) (h : p < s.size) : s.data.toList.getD p 0 = s[p]'h := by
  have : p < s.data.toList.length := by simpa using h
  rw [List.getD_eq_getElem?_getD, List.getElem?_eq_getElem this]; rfl
theorem drop_getD {s : ByteArray} {p : Nat} (h : p < s.size) : s.data.toList.drop p = s.data.toList.getD p 0 :: s.data.toList.drop (p + 1) := by
  rw [bytes_getD s p h]; exact bytes_drop s p h
theorem drop_end {s : ByteArray} {p : Nat} (h : ¬ p < s.size) : s.data.toList.drop p = [] := List.drop_eq_nil_of_le (show s.data.toList.length ≤ p by
  have : s.data.toList.length = s.size := rfl
  omega)
section
variable {c : Cx} {H : Heap} {ρ : Nat → Value} {M : List Zj} {K : Value → List Zj → Prop} {d : Option Nat} {ot : TypeId} {pos : String} {af : Array Edge} {g : Option (Nat × Bool)} {x y z : Operand}
theorem Runs_nextG {i r p : Nat} {s : ByteArray} (hx : ev c.n ρ x = .pointer (some ⟨r, 0, none⟩)) (hi : M[i]? = some (itC r s p)) (hp : p < s.size) (ha : (s.data.toList.getD p 0).toNat < 128)
    (h : K (.tuple ⟨[.bool true, .int .i64 p, .int .i32 ((s.data.toList.getD p 0).toNat : Int)]⟩) (M.set i (itC r s (p + 1)))) : Runs c H ⟨d, .next x true, ot, pos, af, g⟩ ρ M K := by
  rw [bytes_getD s p hp] at ha h
  exact Runs_nextA hx hi hp ha h
theorem Runs_nextG2 {i r p : Nat} {s : ByteArray} (hx : ev c.n ρ x = .pointer (some ⟨r, 0, none⟩)) (hi : M[i]? = some (itC r s p)) (hp : p < s.size) (ha : ¬ (s.data.toList.getD p 0).toNat < 128)
    (h : ∀ q k : Nat, 128 ≤ q → q ≤ 1114111 → 0 < k → K (.tuple ⟨[.bool true, .int .i64 p, .int .i32 (q : Int)]⟩) (M.set i (itC r s (p + k)))) : Runs c H ⟨d, .next x true, ot, pos, af, g⟩ ρ M K := by
  rw [bytes_getD s p hp] at ha
  exact Runs_nextH hx hi hp ha h
end
theorem bls_rep (n : Nat) : (List.replicate n [Value.bool false]).flatten = bls (List.replicate n false) := by
  induction n with
  | zero => rfl
  | succ n ih => rw [List.replicate_succ, List.flatten_cons, ih, List.replicate_succ]; rfl
def mkS (x : ByteArray) (l : List Bool) : List Bool := if 0 ≤ numS x ∧ numS x < (l.length : Int) then l.set (numS x).toNat true else l
theorem mkS_len (x : ByteArray) (l : List Bool) : (mkS x l).length = l.length := by unfold mkS; split <;> simp
def mkA : List ByteArray → List Bool → List Bool
  | [], l => l
  | x :: s, l => mkA s (mkS x l)
theorem mkA_len (s : List ByteArray) : ∀ l, (mkA s l).length = l.length := by
  induction s with
  | nil => intro l; rfl
  | cons x s ih => intro l; rw [mkA, ih, mkS_len]
/-- the first place that is not marked -/
def ffN : List Bool → Nat
  | [] => 0
  | true :: l => ffN l + 1
  | false :: _ => 0
def cntT : List Bool → Nat
  | [] => 0
  | b :: l => (if b then 1 else 0) + cntT l
theorem cntT_rep (n : Nat) : cntT (List.replicate n false) = 0 := by
  induction n with
  | zero => rfl
  | succ n ih => rw [List.replicate_succ, cntT, ih]; rfl
theorem cntT_set (l : List Bool) : ∀ i, cntT (l.set i true) ≤ cntT l + 1 := by
  induction l with
  | nil => intro i; simp [cntT]
  | cons b l ih =>
    intro i
    cases i with
    | zero => simp only [List.set_cons_zero, cntT]; cases b <;> simp <;> omega
    | succ i => simp only [List.set_cons_succ, cntT]; have := ih i; omega
theorem cntT_mk (x : ByteArray) (l : List Bool) : cntT (mkS x l) ≤ cntT l + 1 := by
  unfold mkS; split
  · exact cntT_set _ _
  · omega
theorem cntT_mkA (s : List ByteArray) : ∀ l, cntT (mkA s l) ≤ cntT l + s.length := by
  induction s with
  | nil => intro l; simp [mkA]
  | cons x s ih => intro l; rw [mkA]; have h1 := ih (mkS x l); have h2 := cntT_mk x l; simp only [List.length_cons]; omega
theorem ff_lt (l : List Bool) (h : cntT l < l.length) : ffN l < l.length := by
  induction l with
  | nil => simp [cntT] at h
  | cons b l ih =>
    cases b with
    | false => simp [ffN]
    | true => simp only [cntT, if_true, List.length_cons] at h; have := ih (by omega); simp only [ffN, List.length_cons]; omega
theorem ff_fst (l : List Bool) : cntT l < l.length → ∀ i, fstB false l i = ((ffN l + i : Nat) : Int) := by
  induction l with
  | nil => intro h; simp [cntT] at h
  | cons b l ih =>
    intro h i
    cases b with
    | false => simp [fstB, ffN]
    | true =>
      simp only [cntT, if_true, List.length_cons] at h
      rw [fstB, if_neg (by decide), ih (by omega), ffN]
      congr 1; omega
def pickN : List Bool → Nat → List ByteArray
  | _, 0 => []
  | l, m + 1 => YG (ffN l) :: pickN (l.set (ffN l) true) m
/-- so many names that are not in a list, as one looks for them -/
def ZX (s : List ByteArray) (m : Nat) : List ByteArray := pickN (mkA s (List.replicate (s.length + m) false)) m
theorem pick_len (m : Nat) : ∀ l, (pickN l m).length = m := by
  induction m with
  | zero => intro l; rfl
  | succ m ih => intro l; rw [pickN, List.length_cons, ih]
theorem Yd (s : List ByteArray) (m : Nat) : (ZX s m).length = m := pick_len _ _
theorem pick_succ (l : List Bool) {m j : Nat} (h : j < m) : pickN l (m - j) = YG (ffN l) :: pickN (l.set (ffN l) true) (m - (j + 1)) := by
  obtain ⟨q, hq⟩ : ∃ q, m - j = q + 1 := ⟨m - j - 1, by omega⟩
  rw [hq, pickN, show m - (j + 1) = q from by omega]
def ZY (s m : List ByteArray) : List ByteArray := m.reverse ++ s
theorem ZW (s m : List ByteArray) : (ZY s m).length = s.length + m.length := by rw [ZY, List.length_append, List.length_reverse, Nat.add_comm]

def ltr0 : ByteArray := ltr 0
def nmNs (k : Int) (s : List ByteArray) : Nat → List Tm → List ByteArray
  | _, [] => []
  | i, _ :: l => ZX s (ZB k i).toNat ++ nmNs k s (i + 1) l
/-- the name of a variable -/
def vN (k n : Int) (s : List ByteArray) : List ByteArray := if k = 1 then [s.getD n.toNat ltr0] else []
theorem vN_pos {k n : Int} {s : List ByteArray} (h : k = 1) (hn : n.toNat < s.length) : vN k n s = [s[n.toNat]] := by
  rw [vN, if_pos h, List.getD_eq_getElem?_getD, List.getElem?_eq_getElem hn]; rfl
theorem vN_neg {k n : Int} {s : List ByteArray} (h : ¬ k = 1) : vN k n s = [] := by rw [vN, if_neg h]
theorem vN_len (k n : Int) (s : List ByteArray) : (vN k n s).length ≤ 1 := by unfold vN; split <;> simp
mutual
def nmT : Tm → List ByteArray → Nm
  | .mk k n r kids cases, s => .mk k (if k = 1 then 0 else n) r (vN k n s ++ nmNs k s 0 kids) (nmKs k s 0 kids) (nmCs s cases)
def nmKs (k : Int) (s : List ByteArray) : Nat → List Tm → List Nm
  | _, [] => []
  | i, t :: l => nmT t (ZY s (ZX s (ZB k i).toNat)) :: nmKs k s (i + 1) l
def nmCs (s : List ByteArray) : List (Pt × Tm) → List (Pt × List ByteArray × Nm)
  | [] => []
  | (p, t) :: l => (p, ZX s (binds p), nmT t (ZY s (ZX s (binds p)))) :: nmCs s l
end
theorem nmNs_take (k : Int) (s : List ByteArray) (l : List Tm) : ∀ (i j : Nat), j < l.length → nmNs k s i (l.take (j + 1)) = nmNs k s i (l.take j) ++ ZX s (ZB k ((i + j : Nat) : Int)).toNat := by
  induction l with
  | nil => intro i j h; simp at h
  | cons t l ih =>
    intro i j h
    cases j with
    | zero => simp [nmNs]
    | succ j =>
      simp only [List.take_succ_cons, nmNs]
      rw [ih (i + 1) j (by simpa using h), List.append_assoc, show i + 1 + j = i + (j + 1) from by omega]
theorem nmKs_len (k : Int) (s : List ByteArray) (l : List Tm) : ∀ i, (nmKs k s i l).length = l.length := by
  induction l with
  | nil => intro i; simp [nmKs]
  | cons t l ih => intro i; simp [nmKs, ih]
theorem nmCs_len (s : List ByteArray) (l : List (Pt × Tm)) : (nmCs s l).length = l.length := by
  induction l with
  | nil => simp [nmCs]
  | cons c l ih => obtain ⟨p, t⟩ := c; simp [nmCs, ih]
theorem nmKs_take (k : Int) (s : List ByteArray) (l : List Tm) : ∀ (i j : Nat) (h : j < l.length), nmKs k s i (l.take (j + 1)) = nmKs k s i (l.take j) ++ [nmT l[j] (ZY s (ZX s (ZB k ((i + j : Nat) : Int)).toNat))] := by
  induction l with
  | nil => intro i j h; simp at h
  | cons t l ih =>
    intro i j h
    cases j with
    | zero => simp [nmKs]
    | succ j =>
      simp only [List.take_succ_cons, nmKs, List.getElem_cons_succ]
      rw [ih (i + 1) j (by simpa using h), show i + 1 + j = i + (j + 1) from by omega]
      rfl
theorem nmKs_take0 (k : Int) (s : List ByteArray) (l : List Tm) (j : Nat) (h : j < l.length) : nmKs k s 0 (l.take (j + 1)) = nmKs k s 0 (l.take j) ++ [nmT l[j] (ZY s (ZX s (ZB k (j : Int)).toNat))] := by
  have := nmKs_take k s l 0 j h; rwa [Nat.zero_add] at this
theorem nmNs_take0 (k : Int) (s : List ByteArray) (l : List Tm) (j : Nat) (h : j < l.length) : nmNs k s 0 (l.take (j + 1)) = nmNs k s 0 (l.take j) ++ ZX s (ZB k (j : Int)).toNat := by
  have := nmNs_take k s l 0 j h; rwa [Nat.zero_add] at this
theorem nmCs_take (s : List ByteArray) (l : List (Pt × Tm)) : ∀ (j : Nat) (h : j < l.length), nmCs s (l.take (j + 1)) = nmCs s (l.take j) ++ [(l[j].1, ZX s (binds l[j].1), nmT l[j].2 (ZY s (ZX s (binds l[j].1))))] := by
  induction l with
  | nil => intro j h; simp at h
  | cons c l ih =>
    intro j h
    obtain ⟨p, t⟩ := c
    cases j with
    | zero => simp [nmCs]
    | succ j =>
      simp only [List.take_succ_cons, nmCs, List.getElem_cons_succ]
      rw [ih j (by simpa using h)]
      rfl
/-! all variables are among so many -/
mutual
def scT : Nat → Tm → Prop
  | n, .mk k m _ kids cases => (k = 1 → 0 ≤ m ∧ m < (n : Int)) ∧ scKs n k 0 kids ∧ scCs n cases
def scKs (n : Nat) (k : Int) : Nat → List Tm → Prop
  | _, [] => True
  | i, t :: l => scT (n + (ZB k i).toNat) t ∧ scKs n k (i + 1) l
def scCs (n : Nat) : List (Pt × Tm) → Prop
  | [] => True
  | (p, t) :: l => scT (n + binds p) t ∧ scCs n l
end
theorem scKs_get (n : Nat) (k : Int) (l : List Tm) : ∀ (i j : Nat) (h : j < l.length), scKs n k i l → scT (n + (ZB k ((i + j : Nat) : Int)).toNat) l[j] := by
  induction l with
  | nil => intro i j h; simp at h
  | cons t l ih =>
    intro i j h q
    rw [scKs] at q
    cases j with
    | zero => exact q.1
    | succ j => have := ih (i + 1) j (by simpa using h) q.2; rw [show i + 1 + j = i + (j + 1) from by omega] at this; exact this
theorem scKs_get0 {n : Nat} {k : Int} {l : List Tm} {j : Nat} (h : j < l.length) (q : scKs n k 0 l) : scT (n + (ZB k (j : Int)).toNat) l[j] := by
  have := scKs_get n k l 0 j h q; rwa [Nat.zero_add] at this
theorem scCs_get {n : Nat} {l : List (Pt × Tm)} : ∀ {j : Nat} (h : j < l.length), scCs n l → scT (n + binds l[j].1) l[j].2 := by
  induction l with
  | nil => intro j h; simp at h
  | cons c l ih =>
    intro j h q
    obtain ⟨p, t⟩ := c
    rw [scCs] at q
    cases j with
    | zero => exact q.1
    | succ j => exact ih (by simpa using h) q.2
end Go.Proofs.YtmophpgiaiemhaaGreat.Hs
/-! Terms with names: how many nodes; Name and Nameless. -/
namespace Go.Proofs.YtmophpgiaiemhaaGreat.Hs
open Go Go.Proofs
set_option maxRecDepth 100000
theorem RNC_mk {h : Heap} {c : Pt × List ByteArray × Nm} {a b : List Value} {v : Value} (h1 : RP h a c.1) (h2 : Hs.rdS RS 1 h v c.2.1) (h3 : RN h b c.2.2) : RNC h (a ++ ([v] ++ b)) c := ⟨a, v, b, rfl, h1, h2, h3⟩
theorem Xe {a b c : List Value} {n i m : Nat} (hn : a.length = n) (h : sub b i m = some c) : sub (a ++ b) (n + i) m = some c := by
  obtain ⟨h1, h2⟩ := XE h
  rw [sub_mk (by rw [List.length_append]; omega), h2, ← hn, List.drop_length_add_append]
theorem nodup_take {l : List ByteArray} {j : Nat} (h : j < l.length) (hn : (l.take j).Nodup) (hd : ((l.take j).any (fun y => decide (l[j] = y))) = false) : (l.take (j + 1)).Nodup := by
  rw [List.take_succ_eq_append_getElem h, List.nodup_append]
  refine ⟨hn, by simp, fun a ha b hb => ?_⟩
  rw [List.mem_singleton] at hb
  subst hb
  intro e
  subst e
  rw [List.any_eq_false] at hd
  exact hd _ ha (by simp)
theorem dup_mem {l : List ByteArray} {j : Nat} (h : j < l.length) (hd : ((l.take j).any (fun y => decide (l[j] = y))) = true) : ¬ l.Nodup := by
  obtain ⟨y, h1, h2⟩ := List.any_eq_true.1 hd
  have e : l[j] = y := of_decide_eq_true h2
  subst e
  obtain ⟨i, hi, e⟩ := List.getElem_of_mem h1
  rw [List.length_take] at hi
  rw [List.getElem_take] at e
  intro hn
  have := (List.getElem_inj (h₀ := by omega) (h₁ := h) hn).1 e
  omega
def fstA {α : Type} (p : α → Bool) : List α → Nat → Int
  | [], _ => -1
  | x :: l, i => if p x = true then (i : Int) else fstA p l (i + 1)
theorem fstA_any {α : Type} (p : α → Bool) (l : List α) : ∀ i, decide (0 ≤ fstA p l i) = l.any p := by
  induction l with
  | nil => intro i; simp [fstA]
  | cons x l ih =>
    intro i
    rw [fstA, List.any_cons]
    by_cases h : p x = true
    · rw [if_pos h, h]; simp
    · rw [if_neg h, ih, Bool.eq_false_iff.2 h]; rfl
/-! without names -/
mutual
def skN : Nm → Tm
  | .mk k n r _ kids cases => .mk k n r (Y9 kids) (YF cases)
def Y9 : List Nm → List Tm
  | [] => []
  | x :: l => skN x :: Y9 l
def YF : List (Pt × List ByteArray × Nm) → List (Pt × Tm)
  | [] => []
  | (p, _, x) :: l => (p, skN x) :: YF l
end
def cnN (st : Int → Int → Bool) (d : Int) (x : Nm) (n : Int) : Bool × Int := cnT st d (skN x) n
def cnNC (st : Int → Int → Bool) (d : Int) (c : Pt × List ByteArray × Nm) (n : Int) : Bool × Int := cnC st d (c.1, skN c.2.2) n
theorem anyS_skNs (st : Int → Int → Bool) (d : Int) (l : List Nm) : ∀ n, ZP (cnT st d) (Y9 l) n = ZP (cnN st d) l n := by
  induction l with
  | nil => intro n; rw [Y9, ZP, ZP]
  | cons x l ih => intro n; rw [Y9, ZP, ZP, ih]; rfl
theorem anyS_skNCs (st : Int → Int → Bool) (d : Int) (l : List (Pt × List ByteArray × Nm)) : ∀ n, ZP (cnC st d) (YF l) n = ZP (cnNC st d) l n := by
  induction l with
  | nil => intro n; rw [YF, ZP, ZP]
  | cons c l ih => intro n; obtain ⟨p, m, x⟩ := c; rw [YF, ZP, ZP, ih]; rfl
theorem cnN_keep {st : Int → Int → Bool} {B : Int} (hst : ∀ n d, st n d = false → n ≤ B) (t : Nm) (d n : Int) (h0 : 0 ≤ n) (h : (cnN st d t n).1 = false) : 0 ≤ (cnN st d t n).2 ∧ (cnN st d t n).2 ≤ B := cnT_keep hst _ d n h0 h
theorem cnNC_keep {st : Int → Int → Bool} {B : Int} (hst : ∀ n d, st n d = false → n ≤ B) (c : Pt × List ByteArray × Nm) (d n : Int) (h0 : 0 ≤ n) (h : (cnNC st d c n).1 = false) : 0 ≤ (cnNC st d c n).2 ∧ (cnNC st d c n).2 ≤ B := cnC_keep hst _ d n h0 h
theorem anyN_keep {st : Int → Int → Bool} {B : Int} (hst : ∀ n d, st n d = false → n ≤ B) (l : List Nm) (d n : Int) (h0 : 0 ≤ n) (hB : n ≤ B) (h : (ZP (cnN st d) l n).1 = false) : 0 ≤ (ZP (cnN st d) l n).2 ∧ (ZP (cnN st d) l n).2 ≤ B :=
  Xq (Inv := fun n => 0 ≤ n ∧ n ≤ B) (fun x _ s hs hf => cnN_keep hst x d s hs.1 hf) n ⟨h0, hB⟩ h
theorem cnN_eq (st : Int → Int → Bool) (d : Int) (k m : Int) (r : Sm) (ns : List ByteArray) (kids : List Nm) (cases : List (Pt × List ByteArray × Nm)) (n : Int) :
    cnN st d (.mk k m r ns kids cases) n = if st (n + 1) d = true then (true, n + 1) else if (ZP (cnN st (d + 1)) kids (n + 1)).1 = true then (true, (ZP (cnN st (d + 1)) kids (n + 1)).2) else ZP (cnNC st (d + 1)) cases (ZP (cnN st (d + 1)) kids (n + 1)).2 := by
  rw [cnN, skN, cnT, cnTs_any, cnCs_any, anyS_skNs, anyS_skNCs]
/-! how many names a node has -/
def Ys (k : Int) (c : Nat) : Int := if k = 1 ∨ k = 3 ∨ k = 5 then 1 else if k = 12 ∧ 1 < c then 2 * (c : Int) - 3 else 0
def fitC (c : Pt × List ByteArray × Nm) : Bool := decide (c.2.1.length = binds c.1)
theorem fstS_nil (x : ByteArray) (i : Nat) : YN x [] i = -1 := rfl
theorem fstS_bound (x : ByteArray) (l : List ByteArray) : ∀ i : Nat, YN x l i = -1 ∨ (i : Int) ≤ YN x l i ∧ YN x l i < (i : Int) + l.length := by
  induction l with
  | nil => intro i; exact .inl rfl
  | cons y l ih =>
    intro i
    rw [YN]
    split
    · right; simp only [List.length_cons]; omega
    · have := ih (i + 1); simp only [List.length_cons]; omega
/-- the names of a Kid, and those that are left -/
def inN (k : Int) (i : Nat) (s ns : List ByteArray) : List ByteArray := if 0 < ZB k i ∧ (ZB k i).toNat ≤ ns.length then ZY s (ns.take (ZB k i).toNat) else s
def lfN (k : Int) (i : Nat) (ns : List ByteArray) : List ByteArray := if 0 < ZB k i ∧ (ZB k i).toNat ≤ ns.length then ns.drop (ZB k i).toNat else ns
mutual
def nlT : Nm → List ByteArray → Tm × Int
  | .mk k n r ns kids cases, s =>
    if ¬ (ns.length : Int) = Ys k kids.length ∨ ¬ cases.all fitC = true then (zT, 2)
    else if k = 1 ∧ ¬ n = 0 then (zT, 7)
    else if k = 1 ∧ YN (ns.getD 0 ltr0) s 0 < 0 then (zT, 1)
    else if ¬ (XF k s ns 0 kids).2 = 0 then (zT, (XF k s ns 0 kids).2)
    else if ¬ (nlCs s cases).2 = 0 then (zT, (nlCs s cases).2)
    else (.mk k (if k = 1 then YN (ns.getD 0 ltr0) s 0 else n) r (XF k s ns 0 kids).1 (nlCs s cases).1, 0)
def XF (k : Int) (s : List ByteArray) : List ByteArray → Nat → List Nm → List Tm × Int
  | _, _, [] => ([], 0)
  | ns, i, x :: l =>
    if ¬ (nlT x (inN k i s ns)).2 = 0 then ([], (nlT x (inN k i s ns)).2)
    else ((nlT x (inN k i s ns)).1 :: (XF k s (lfN k i ns) (i + 1) l).1, (XF k s (lfN k i ns) (i + 1) l).2)
def nlCs (s : List ByteArray) : List (Pt × List ByteArray × Nm) → List (Pt × Tm) × Int
  | [] => ([], 0)
  | (p, m, x) :: l =>
    if ¬ (nlT x (ZY s m)).2 = 0 then ([], (nlT x (ZY s m)).2)
    else ((p, (nlT x (ZY s m)).1) :: (nlCs s l).1, (nlCs s l).2)
end
theorem nlKs_cons {k : Int} {s ns : List ByteArray} {i : Nat} {l : List Nm} {j : Nat} (h : j < l.length) : XF k s ns i (l.drop j) =
    if ¬ (nlT l[j] (inN k i s ns)).2 = 0 then ([], (nlT l[j] (inN k i s ns)).2)
    else ((nlT l[j] (inN k i s ns)).1 :: (XF k s (lfN k i ns) (i + 1) (l.drop (j + 1))).1, (XF k s (lfN k i ns) (i + 1) (l.drop (j + 1))).2) := by
  rw [ZU h, XF]
theorem nlCs_cons {s : List ByteArray} {l : List (Pt × List ByteArray × Nm)} {j : Nat} (h : j < l.length) : nlCs s (l.drop j) =
    if ¬ (nlT l[j].2.2 (ZY s l[j].2.1)).2 = 0 then ([], (nlT l[j].2.2 (ZY s l[j].2.1)).2)
    else ((l[j].1, (nlT l[j].2.2 (ZY s l[j].2.1)).1) :: (nlCs s (l.drop (j + 1))).1, (nlCs s (l.drop (j + 1))).2) := by
  rw [ZU h]
  generalize l[j] = c
  obtain ⟨p, m, x⟩ := c
  rw [nlCs]
section
variable {k n : Int} {r : Sm} {ns s : List ByteArray} {kids : List Nm} {cases : List (Pt × List ByteArray × Nm)}
theorem nl_e2a (h : ¬ (ns.length : Int) = Ys k kids.length) : nlT (.mk k n r ns kids cases) s = (zT, 2) := by rw [nlT, if_pos (.inl h)]
theorem nl_e2b (h : cases.all fitC = false) : nlT (.mk k n r ns kids cases) s = (zT, 2) := by rw [nlT, if_pos (.inr (by rw [h]; decide))]
theorem nl_q (h1 : (ns.length : Int) = Ys k kids.length) (h2 : cases.all fitC = true) : ¬ (¬ (ns.length : Int) = Ys k kids.length ∨ ¬ cases.all fitC = true) := by
  rintro (q | q)
  · exact q h1
  · exact q h2
theorem nl_e7 (h1 : (ns.length : Int) = Ys k kids.length) (h2 : cases.all fitC = true) (h : k = 1 ∧ ¬ n = 0) : nlT (.mk k n r ns kids cases) s = (zT, 7) := by
  rw [nlT, if_neg (nl_q h1 h2), if_pos h]
theorem nl_e1 (h1 : (ns.length : Int) = Ys k kids.length) (h2 : cases.all fitC = true) (h3 : ¬ (k = 1 ∧ ¬ n = 0)) (h : k = 1 ∧ YN (ns.getD 0 ltr0) s 0 < 0) : nlT (.mk k n r ns kids cases) s = (zT, 1) := by
  rw [nlT, if_neg (nl_q h1 h2), if_neg h3, if_pos h]
theorem nl_eK (h1 : (ns.length : Int) = Ys k kids.length) (h2 : cases.all fitC = true) (h3 : ¬ (k = 1 ∧ ¬ n = 0)) (h4 : ¬ (k = 1 ∧ YN (ns.getD 0 ltr0) s 0 < 0)) (h : ¬ (XF k s ns 0 kids).2 = 0) : nlT (.mk k n r ns kids cases) s = (zT, (XF k s ns 0 kids).2) := by
  rw [nlT, if_neg (nl_q h1 h2), if_neg h3, if_neg h4, if_pos h]
theorem nl_eC (h1 : (ns.length : Int) = Ys k kids.length) (h2 : cases.all fitC = true) (h3 : ¬ (k = 1 ∧ ¬ n = 0)) (h4 : ¬ (k = 1 ∧ YN (ns.getD 0 ltr0) s 0 < 0)) (h5 : (XF k s ns 0 kids).2 = 0) (h : ¬ (nlCs s cases).2 = 0) : nlT (.mk k n r ns kids cases) s = (zT, (nlCs s cases).2) := by
  rw [nlT, if_neg (nl_q h1 h2), if_neg h3, if_neg h4, if_neg (fun q => q h5), if_pos h]
theorem nl_ok (h1 : (ns.length : Int) = Ys k kids.length) (h2 : cases.all fitC = true) (h3 : ¬ (k = 1 ∧ ¬ n = 0)) (h4 : ¬ (k = 1 ∧ YN (ns.getD 0 ltr0) s 0 < 0)) (h5 : (XF k s ns 0 kids).2 = 0) (h6 : (nlCs s cases).2 = 0) : nlT (.mk k n r ns kids cases) s = (.mk k (if k = 1 then YN (ns.getD 0 ltr0) s 0 else n) r (XF k s ns 0 kids).1 (nlCs s cases).1, 0) := by
  rw [nlT, if_neg (nl_q h1 h2), if_neg h3, if_neg h4, if_neg (fun q => q h5), if_neg (fun q => q h6)]
theorem getD0 {l : List ByteArray} (h : 0 < l.length) : l.getD 0 ltr0 = l[0] := by
  rw [List.getD_eq_getElem?_getD, List.getElem?_eq_getElem h]; rfl
theorem many_one (c : Nat) : Ys 1 c = 1 := by simp [Ys]
theorem fit_mem {l : List (Pt × List ByteArray × Nm)} (h : l.all fitC = true) {c : Pt × List ByteArray × Nm} (hc : c ∈ l) : c.2.1.length = binds c.1 := of_decide_eq_true ((List.all_eq_true.1 h) c hc)
theorem in_pos {i : Nat} (h1 : 0 < ZB k i) (h2 : (ZB k i).toNat ≤ ns.length) : inN k i s ns = ZY s (ns.take (ZB k i).toNat) ∧ lfN k i ns = ns.drop (ZB k i).toNat := by
  rw [inN, lfN, if_pos ⟨h1, h2⟩, if_pos ⟨h1, h2⟩]; exact ⟨rfl, rfl⟩
theorem in_neg {i : Nat} (h : ¬ (0 < ZB k i ∧ (ZB k i).toNat ≤ ns.length)) : inN k i s ns = s ∧ lfN k i ns = ns := by
  rw [inN, lfN, if_neg h, if_neg h]; exact ⟨rfl, rfl⟩
/-- the sizes of Kids and cases -/
theorem sk_len (l : List Nm) : (Y9 l).length = l.length := by
  induction l with
  | nil => rfl
  | cons x l ih => simp [Y9, ih]
theorem skC_len (l : List (Pt × List ByteArray × Nm)) : (YF l).length = l.length := by
  induction l with
  | nil => rfl
  | cons x l ih => obtain ⟨p, m, x⟩ := x; simp [YF, ih]
theorem sk_mem (l : List Nm) : ∀ x ∈ l, sizeT (skN x) ≤ ZH (Y9 l) := by
  induction l with
  | nil => intro x hx; cases hx
  | cons y l ih =>
    intro x hx
    rw [Y9, ZH]
    rcases List.mem_cons.1 hx with rfl | hx
    · omega
    · have := ih x hx; omega
theorem skC_mem (l : List (Pt × List ByteArray × Nm)) : ∀ c ∈ l, sizeP c.1 + sizeT (skN c.2.2) ≤ ZQ (YF l) := by
  induction l with
  | nil => intro x hx; cases hx
  | cons y l ih =>
    intro x hx
    obtain ⟨p, m, y⟩ := y
    rw [YF, ZQ]
    rcases List.mem_cons.1 hx with rfl | hx
    · simp only; omega
    · have := ih x hx; omega
end
/-- Name and Nameless, of the program -/
def emS : ByteArray := ⟨#[]⟩
def YJ (t : Tm) (s : List ByteArray) : Nm × Int :=
  if ¬ ZS [t] = 0 then (zN, ZS [t]) else if s.any (fun y => decide (emS = y)) = true then (zN, 4) else if ¬ s.Nodup then (zN, 5)
  else if (XI t).all (fun n => decide (n < (s.length : Int))) = true then (nmT t s, 0) else (zN, 1)
def Z7 (n : Nm) (s : List ByteArray) : Tm × Int :=
  if 60 < s.length ∨ (cnN stL 1 n 0).1 = true then (zT, 11)
  else if ¬ (nlT n s).2 = 0 then (zT, (nlT n s).2)
  else if ZS [(nlT n s).1] = 0 then ((nlT n s).1, 0) else (zT, ZS [(nlT n s).1])
end Go.Proofs.YtmophpgiaiemhaaGreat.Hs
/-! The examples of the chapter, in Xo Lean. -/
namespace Go.Proofs.YtmophpgiaiemhaaGreat.Hs
open Go Go.Proofs
def eVa (n : Int) : Tm := .mk 1 n zS [] []
def eNu (n : Int) : Tm := .mk 2 n zS [] []
def eLa (t : Tm) : Tm := .mk 3 0 zS [t] []
def eAp (t u : Tm) : Tm := .mk 4 0 zS [t, u] []
def eLam : Tm := eLa (eAp (eVa 0) (eVa 1))
theorem free_lam : freeE eLam = ([0], 0) := by kernel_rfl
theorem five_lam : substP eLam 0 (eNu 5) = (eLa (eAp (eVa 0) (eNu 5)), 0) := by kernel_rfl
theorem three_lam : substP eLam 0 (eVa 3) = (eLa (eAp (eVa 0) (eVa 4)), 0) := by kernel_rfl
theorem up_lam : shiftP eLam 2 0 = (eLa (eAp (eVa 0) (eVa 3)), 0) := by kernel_rfl
theorem down_va : shiftP (eVa 0) (-1) 0 = (zT, 1) := by kernel_rfl
def eLL : Tm := eLa (eLa (eVa 1))
theorem right_ll : ZS [eLL] = 0 := by kernel_rfl
theorem free_ll : freeE eLL = ([], 0) := by kernel_rfl
theorem check_h2 : Xz 0 0 (.mk 12 0 zS [eNu 1, eVa 0] []) = 0 := by kernel_rfl
theorem check_h1 : Xz 0 0 (.mk 12 0 zS [eNu 1] []) = 2 := by kernel_rfl
/-- the cells of the first of two results -/
def tcel : Value → List Value
  | .tuple ⟨[.agg ⟨cs⟩, _]⟩ => cs
  | _ => []
theorem ble_at {P : Program} {f : FuncId} {a : Array Value} {M : List Zj} {H : Heap} {x : Tm × Int} {d : Tm} {e : Int} (h : CT P f a M H (fun v N => ∃ cs k, v = .tuple ⟨[.agg ⟨cs⟩, .int .i64 x.2]⟩ ∧ N = [k] ∧ OT x.1 cs k)) (hx : x = (d, e)) :
    CT P f a M H (fun v N => ∃ cs k, v = .tuple ⟨[.agg ⟨cs⟩, .int .i64 e]⟩ ∧ N = [k] ∧ OT d cs k) := by subst hx; exact h
theorem Y3 {P : Program} {f : FuncId} {a : Array Value} {M : List Zj} {H : Heap} {x r : Bool} (h : CT P f a M H (fun v N => v = .bool x ∧ N = [])) (hr : x = r) : CT P f a M H (fun v N => v = .bool r ∧ N = []) := hr ▸ h
section
variable {c : Cx} {H : Heap} {ρ : Nat → Value} {M : List Zj} {K : Value → List Zj → Prop} {d : Option Nat} {ot : TypeId} {pos : String} {af : Array Edge} {g : Option (Nat × Bool)} {x y : Operand}
/-- the first nothing of a slice -/
theorem Runs_slice0 {T el : TypeId} {sz n cap : Nat} {a : Option Addr} {k : IntKind} (hT : ∀ w, (underlying T).run c.P w = .ok (.slice el) w) (hsz : ∀ w, (sizeOf el).run c.P w = .ok sz w) (hx : ev c.n ρ x = .slice a n cap) (hy : ev c.n ρ y = .int k 0)
    (h : ∀ a' cap', K (.slice a' 0 cap') M) : Runs c H ⟨d, .slice T x none (some y) none, ot, pos, af, g⟩ ρ M K := fun F w m => by
  refine ⟨_, w, M, .inl ?_, m, h (if cap = 0 then a else a.map (·.add (0 * sz))) (cap - 0)⟩
  simp [execOp, Instr.sliceAt, Instr.slice, Instr.sliceBounds, Instr.sliceBound, asIntOf, hx, hy, hT, hsz, Result.andThen]
end
end Go.Proofs.YtmophpgiaiemhaaGreat.Hs
/-! Layer 4, the Xo law, third part: sizes. No program here. -/
namespace Go.Proofs.YtmophpgiaiemhaaGreat.Hs
open Go
theorem great_size {t : Tm} (h : (cnT stG 0 t 0).1 = false) : sizeT t ≤ 400 := by
  have h1 := cnT_size t 0 0 h
  have h2 := cnGT_le t 0 0 h
  omega
end Go.Proofs.YtmophpgiaiemhaaGreat.Hs
/-! Layer 4, the Xo law of moving: maps composed; what is right stays right. No program here. -/
namespace Go.Proofs.YtmophpgiaiemhaaGreat.Hs
open Go
theorem nErr_iff {d m b k n : Int} {r : Sm} {kids : List Tm} {cases : List (Pt × Tm)} : YX d m b (.mk k n r kids cases) = 0 ↔ Xh d m b k n r kids.length cases.length = 0 ∧ pErrRC cases = 0 ∧ Y6 d m b k 0 kids = 0 ∧ Xi d m b cases = 0 := by
  rw [YX]
  constructor
  · intro h
    split at h
    · split at h
      · split at h
        · exact ⟨by assumption, by assumption, by assumption, h⟩
        · rename_i h0; exact absurd h h0
      · rename_i h0; exact absurd h h0
    · rename_i h0; exact absurd h h0
  · rintro ⟨h1, h2, h3, h4⟩
    rw [if_pos h1, if_pos h2, if_pos h3, h4]
theorem nErrK_cons {d m b k : Int} {i : Nat} {t : Tm} {l : List Tm} : Y6 d m b k i (t :: l) = 0 ↔ YX d m (b + ZB k i) t = 0 ∧ Y6 d m b k (i + 1) l = 0 := by
  rw [Y6]
  constructor
  · intro h
    split at h
    · exact ⟨by assumption, h⟩
    · rename_i h0; exact absurd h h0
  · rintro ⟨h1, h2⟩; rw [if_pos h1, h2]
theorem nErrC_cons {d m b : Int} {p : Pt} {t : Tm} {l : List (Pt × Tm)} : Xi d m b ((p, t) :: l) = 0 ↔ YX d m (b + (binds p : Int)) t = 0 ∧ Xi d m b l = 0 := by
  rw [Xi]
  constructor
  · intro h
    split at h
    · exact ⟨by assumption, h⟩
    · rename_i h0; exact absurd h h0
  · rintro ⟨h1, h2⟩; rw [if_pos h1, h2]
/-! what is free -/
mutual
def Xl (Q : Int → Prop) : Int → Tm → Prop
  | b, .mk k n _ kids cases => (k = 1 ∧ b ≤ n → Q (n - b)) ∧ Y7 Q b k 0 kids ∧ XB Q b cases
def Y7 (Q : Int → Prop) : Int → Int → Nat → List Tm → Prop
  | _, _, _, [] => True
  | b, k, i, t :: l => Xl Q (b + ZB k i) t ∧ Y7 Q b k (i + 1) l
def XB (Q : Int → Prop) : Int → List (Pt × Tm) → Prop
  | _, [] => True
  | b, (p, t) :: l => Xl Q (b + (binds p : Int)) t ∧ XB Q b l
end
theorem err_all {d m : Int} (t : Tm) : ∀ b, 0 ≤ b → YX d m b t = 0 → Xl (fun x => 0 ≤ x ∧ x < d) b t := by
  induction t using Tm.ind with
  | h k n r kids cases ih ih' =>
    intro b hb h
    obtain ⟨h1, h2, h3, h4⟩ := nErr_iff.1 h
    have hK : ∀ (l : List Tm), (∀ t ∈ l, ∀ b, 0 ≤ b → YX d m b t = 0 → Xl (fun x => 0 ≤ x ∧ x < d) b t) → ∀ i, Y6 d m b k i l = 0 → Y7 (fun x => 0 ≤ x ∧ x < d) b k i l := by
      intro l
      induction l with
      | nil => intro _ i _; rw [Y7]; trivial
      | cons t l ihl =>
        intro hl i hh
        obtain ⟨a1, a2⟩ := nErrK_cons.1 hh
        have := Xu k i
        rw [Y7]; exact ⟨hl t (by simp) _ (by omega) a1, ihl (fun x hx => hl x (by simp [hx])) _ a2⟩
    have hC : ∀ (l : List (Pt × Tm)), (∀ t ∈ l, ∀ b, 0 ≤ b → YX d m b t.2 = 0 → Xl (fun x => 0 ≤ x ∧ x < d) b t.2) → Xi d m b l = 0 → XB (fun x => 0 ≤ x ∧ x < d) b l := by
      intro l
      induction l with
      | nil => intro _ _; rw [XB]; trivial
      | cons t l ihl =>
        obtain ⟨p, t⟩ := t
        intro hl hh
        obtain ⟨a1, a2⟩ := nErrC_cons.1 hh
        rw [XB]; exact ⟨hl (p, t) (by simp) _ (by omega) a1, ihl (fun x hx => hl x (by simp [hx])) a2⟩
    rw [Xl]
    refine ⟨fun hk => ?_, hK kids ih 0 h3, hC cases ih' h4⟩
    obtain ⟨e, hle⟩ := hk
    subst e
    have := (nHead_var h1).2.2.2
    omega
end Go.Proofs.YtmophpgiaiemhaaGreat.Hs
/-! What is free in a term is among so many names. -/
namespace Go.Proofs.YtmophpgiaiemhaaGreat.Hs
open Go Go.Proofs
set_option maxRecDepth 100000
theorem allV_mono {Q Q' : Int → Prop} (hQ : ∀ x, Q x → Q' x) (t : Tm) : ∀ b, Xl Q b t → Xl Q' b t := by
  induction t using Tm.ind with
  | h k n r kids cases ih ih' =>
    intro b h
    rw [Xl] at h ⊢
    refine ⟨fun q => hQ _ (h.1 q), ?_, ?_⟩
    · have : ∀ (l : List Tm), (∀ x ∈ l, ∀ b, Xl Q b x → Xl Q' b x) → ∀ i, Y7 Q b k i l → Y7 Q' b k i l := by
        intro l
        induction l with
        | nil => intro _ i _; rw [Y7]; trivial
        | cons t l ihl => intro hl i q; rw [Y7] at q ⊢; exact ⟨hl t (by simp) _ q.1, ihl (fun x hx => hl x (by simp [hx])) _ q.2⟩
      exact this kids ih 0 h.2.1
    · have : ∀ (l : List (Pt × Tm)), (∀ x ∈ l, ∀ b, Xl Q b x.2 → Xl Q' b x.2) → XB Q b l → XB Q' b l := by
        intro l
        induction l with
        | nil => intro _ _; rw [XB]; trivial
        | cons t l ihl => obtain ⟨p, t⟩ := t; intro hl q; rw [XB] at q ⊢; exact ⟨hl (p, t) (by simp) _ q.1, ihl (fun x hx => hl x (by simp [hx])) q.2⟩
      exact this cases ih' h.2.2
theorem met_mono (t : Tm) : ∀ b s, ∀ x ∈ s, x ∈ (YD (fun s => s) metV b t s).2 := by
  induction t using Tm.ind with
  | h k n r kids cases ih ih' =>
    intro b s x hx
    have hK : ∀ (l : List Tm), (∀ t ∈ l, ∀ b s, ∀ x ∈ s, x ∈ (YD (fun s => s) metV b t s).2) → ∀ i s, ∀ x ∈ s, x ∈ (Yx (fun s => s) metV b k i l s).2 := by
      intro l
      induction l with
      | nil => intro _ i s x hx; rw [Yx]; exact hx
      | cons t l ihl => intro hl i s x hx; rw [Yx]; exact ihl (fun x hx => hl x (by simp [hx])) _ _ _ (hl t (by simp) _ _ _ hx)
    have hC : ∀ (l : List (Pt × Tm)), (∀ t ∈ l, ∀ b s, ∀ x ∈ s, x ∈ (YD (fun s => s) metV b t.2 s).2) → ∀ s, ∀ x ∈ s, x ∈ (YC (fun s => s) metV b l s).2 := by
      intro l
      induction l with
      | nil => intro _ s x hx; rw [YC]; exact hx
      | cons t l ihl => obtain ⟨p, t⟩ := t; intro hl s x hx; rw [YC]; exact ihl (fun x hx => hl x (by simp [hx])) _ _ (hl (p, t) (by simp) _ _ _ hx)
    rw [YD]
    split
    · simp only [metV, addK]
      split
      · exact hx
      · simp [hx]
    · exact hC cases ih' _ _ (hK kids ih 0 s x hx)
theorem met_in (t : Tm) : tidy t → ∀ b s, Xl (fun x => x ∈ (YD (fun s => s) metV b t s).2) b t := by
  induction t using Tm.ind with
  | h k n r kids cases ih ih' =>
    intro ht b s
    rw [tidy] at ht
    obtain ⟨h1, h2, h3⟩ := ht
    have hK : ∀ (l : List Tm), tidys l → (∀ t ∈ l, tidy t → ∀ b s, Xl (fun x => x ∈ (YD (fun s => s) metV b t s).2) b t) → ∀ i s, Y7 (fun x => x ∈ (Yx (fun s => s) metV b k i l s).2) b k i l := by
      intro l
      induction l with
      | nil => intro _ _ i s; rw [Y7]; trivial
      | cons t l ihl =>
        intro ht hl i s
        rw [tidys] at ht
        rw [Y7]
        have hm : ∀ (l : List Tm) i s, ∀ x ∈ s, x ∈ (Yx (fun s => s) metV b k i l s).2 := by
          intro l
          induction l with
          | nil => intro i s x hx; rw [Yx]; exact hx
          | cons t l ihl => intro i s x hx; rw [Yx]; exact ihl _ _ _ (met_mono t _ _ _ hx)
        refine ⟨?_, ?_⟩
        · refine allV_mono (fun x hx => ?_) t _ (hl t (by simp) ht.1 (b + ZB k i) s)
          rw [Yx]; exact hm _ _ _ _ hx
        · have := ihl ht.2 (fun x hx => hl x (by simp [hx])) (i + 1) (YD (fun s => s) metV (b + ZB k i) t s).2
          rw [Yx]; exact this
    have hC : ∀ (l : List (Pt × Tm)), tidyc l → (∀ t ∈ l, tidy t.2 → ∀ b s, Xl (fun x => x ∈ (YD (fun s => s) metV b t.2 s).2) b t.2) → ∀ s, XB (fun x => x ∈ (YC (fun s => s) metV b l s).2) b l := by
      intro l
      induction l with
      | nil => intro _ _ s; rw [XB]; trivial
      | cons t l ihl =>
        obtain ⟨p, t⟩ := t
        intro ht hl s
        rw [tidyc] at ht
        rw [XB]
        have hm : ∀ (l : List (Pt × Tm)) s, ∀ x ∈ s, x ∈ (YC (fun s => s) metV b l s).2 := by
          intro l
          induction l with
          | nil => intro s x hx; rw [YC]; exact hx
          | cons t l ihl => obtain ⟨p, t⟩ := t; intro s x hx; rw [YC]; exact ihl _ _ (met_mono t _ _ _ hx)
        refine ⟨?_, ?_⟩
        · refine allV_mono (fun x hx => ?_) t _ (hl (p, t) (by simp) ht.1 (b + (binds p : Int)) s)
          rw [YC]; exact hm _ _ _ hx
        · have := ihl ht.2 (fun x hx => hl x (by simp [hx])) (YD (fun s => s) metV (b + (binds p : Int)) t s).2
          rw [YC]; exact this
    have hCm : ∀ (l : List (Pt × Tm)) s, ∀ x ∈ s, x ∈ (YC (fun s => s) metV b l s).2 := by
      intro l
      induction l with
      | nil => intro s x hx; rw [YC]; exact hx
      | cons t l ihl => obtain ⟨p, t⟩ := t; intro s x hx; rw [YC]; exact ihl _ _ (met_mono t _ _ _ hx)
    rw [Xl, YD]
    by_cases hk : k = 1 ∧ b ≤ n
    · rw [if_pos hk]
      obtain ⟨rfl, rfl, rfl⟩ := h1 hk.1
      refine ⟨fun _ => ?_, by rw [Y7]; trivial, by rw [XB]; trivial⟩
      simp only [metV, addK]
      split
      · assumption
      · simp
    · rw [if_neg hk]
      refine ⟨fun q => absurd q hk, ?_, hC cases h3 ih' _⟩
      have : ∀ (l : List Tm) i {Q Q' : Int → Prop}, (∀ x, Q x → Q' x) → Y7 Q b k i l → Y7 Q' b k i l := by
        intro l
        induction l with
        | nil => intro i Q Q' _ _; rw [Y7]; trivial
        | cons t l ihl => intro i Q Q' hq q; rw [Y7] at q ⊢; exact ⟨allV_mono hq _ _ q.1, ihl _ hq q.2⟩
      exact this kids 0 (fun x hx => hCm _ _ _ hx) (hK kids h2 ih 0 s)
theorem free_allV {t : Tm} {p : Int → Bool} (ht : tidy t) (hb : Xl (fun x => 0 ≤ x ∧ x < 60) 0 t) (h : (XI t).all p = true) : Xl (fun x => p x = true) 0 t := by
  have h1 := met_in t ht 0 []
  have : ∀ (t : Tm) b {Q Q' : Int → Prop}, Xl Q b t → Xl Q' b t → Xl (fun x => Q x ∧ Q' x) b t := by
    intro t
    induction t using Tm.ind with
    | h k n r kids cases ih ih' =>
      intro b Q Q' h1 h2
      rw [Xl] at h1 h2 ⊢
      refine ⟨fun q => ⟨h1.1 q, h2.1 q⟩, ?_, ?_⟩
      · have : ∀ (l : List Tm), (∀ x ∈ l, ∀ b {Q Q' : Int → Prop}, Xl Q b x → Xl Q' b x → Xl (fun x => Q x ∧ Q' x) b x) → ∀ i, Y7 Q b k i l → Y7 Q' b k i l → Y7 (fun x => Q x ∧ Q' x) b k i l := by
          intro l
          induction l with
          | nil => intro _ i _ _; rw [Y7]; trivial
          | cons t l ihl => intro hl i q1 q2; rw [Y7] at q1 q2 ⊢; exact ⟨hl t (by simp) _ q1.1 q2.1, ihl (fun x hx => hl x (by simp [hx])) _ q1.2 q2.2⟩
        exact this kids ih 0 h1.2.1 h2.2.1
      · have : ∀ (l : List (Pt × Tm)), (∀ x ∈ l, ∀ b {Q Q' : Int → Prop}, Xl Q b x.2 → Xl Q' b x.2 → Xl (fun x => Q x ∧ Q' x) b x.2) → XB Q b l → XB Q' b l → XB (fun x => Q x ∧ Q' x) b l := by
          intro l
          induction l with
          | nil => intro _ _ _; rw [XB]; trivial
          | cons t l ihl => obtain ⟨p, t⟩ := t; intro hl q1 q2; rw [XB] at q1 q2 ⊢; exact ⟨hl (p, t) (by simp) _ q1.1 q2.1, ihl (fun x hx => hl x (by simp [hx])) q1.2 q2.2⟩
        exact this cases ih' h1.2.2 h2.2.2
  refine allV_mono (fun x hx => ?_) t 0 (this t 0 h1 hb)
  obtain ⟨h1, h2, h3⟩ := hx
  refine (List.all_eq_true.1 h) x ?_
  unfold XI upTo
  refine List.mem_map.2 ⟨x.toNat, List.mem_filter.2 ⟨List.mem_range.2 (by omega), ?_⟩, by omega⟩
  rw [metF_get _ _ (by omega), decide_eq_true_iff, Int.toNat_of_nonneg h2]
  exact h1
theorem sc_of (s : Nat) (t : Tm) : vOK t → ∀ b : Nat, Xl (fun x => x < (s : Int)) (b : Int) t → scT (s + b) t := by
  induction t using Tm.ind with
  | h k n r kids cases ih ih' =>
    intro hv b h
    rw [vOK] at hv
    rw [Xl] at h
    rw [scT]
    refine ⟨fun hk => ?_, ?_, ?_⟩
    · have := hv.1 hk
      refine ⟨this.1, ?_⟩
      by_cases hb : (b : Int) ≤ n
      · have := h.1 ⟨hk, hb⟩; omega
      · omega
    · have : ∀ (l : List Tm), vOKs l → (∀ x ∈ l, vOK x → ∀ b : Nat, Xl (fun x => x < (s : Int)) (b : Int) x → scT (s + b) x) → ∀ i, Y7 (fun x => x < (s : Int)) (b : Int) k i l → scKs (s + b) k i l := by
        intro l
        induction l with
        | nil => intro _ _ i _; rw [scKs]; trivial
        | cons t l ihl =>
          intro hv hl i q
          rw [vOKs] at hv
          rw [Y7] at q
          rw [scKs]
          refine ⟨?_, ihl hv.2 (fun x hx => hl x (by simp [hx])) _ q.2⟩
          have hm := Xu k i
          have := hl t (by simp) hv.1 (b + (ZB k i).toNat) (by rw [show ((b + (ZB k i).toNat : Nat) : Int) = (b : Int) + ZB k i from by omega]; exact q.1)
          rwa [Nat.add_assoc]
      exact this kids hv.2.1 ih 0 h.2.1
    · have : ∀ (l : List (Pt × Tm)), vOKc l → (∀ x ∈ l, vOK x.2 → ∀ b : Nat, Xl (fun x => x < (s : Int)) (b : Int) x.2 → scT (s + b) x.2) → XB (fun x => x < (s : Int)) (b : Int) l → scCs (s + b) l := by
        intro l
        induction l with
        | nil => intro _ _ _; rw [scCs]; trivial
        | cons t l ihl =>
          obtain ⟨p, t⟩ := t
          intro hv hl q
          rw [vOKc] at hv
          rw [XB] at q
          rw [scCs]
          refine ⟨?_, ihl hv.2 (fun x hx => hl x (by simp [hx])) q.2⟩
          have := hl (p, t) (by simp) hv.1 (b + binds p) (by rw [show ((b + binds p : Nat) : Int) = (b : Int) + (binds p : Int) from by omega]; exact q.1)
          rwa [Nat.add_assoc]
      exact this cases hv.2.2 ih' h.2.2
theorem right_err {t : Tm} (h : ZS [t] = 0) : YX 60 8 0 t = 0 := by
  rw [rightT_one] at h
  unfold YB at h
  split at h
  · omega
  · exact h
/-- all that is free has a name: so have all variables -/
theorem free_sc {t : Tm} {n : Nat} (hr : ZS [t] = 0) (h : (XI t).all (fun x => decide (x < (n : Int))) = true) : scT n t := by
  have hc := Yz (rightT1 hr)
  have h1 := free_allV hc.2.2.1 (err_all t 0 (by omega) (right_err hr)) h
  have h2 := allV_mono (Q' := fun x => x < (n : Int)) (fun x hx => of_decide_eq_true hx) t 0 h1
  exact sc_of n t hc.2.1 0 h2
end Go.Proofs.YtmophpgiaiemhaaGreat.Hs
/-! A term with names leads back to the term, whatever its bound names are. -/
namespace Go.Proofs.YtmophpgiaiemhaaGreat.Hs
open Go Go.Proofs
set_option maxRecDepth 100000
/-! what is chosen is new, and no two are the same -/
theorem mkS_keep {x : ByteArray} {l : List Bool} {i : Nat} (h : l[i]? = some true) : (mkS x l)[i]? = some true := by
  unfold mkS
  split
  · rw [List.getElem?_set]
    split
    · split
      · rfl
      · rename_i h1 h2; rw [← h1, List.getElem?_eq_none (by omega)] at h; cases h
    · exact h
  · exact h
theorem mkA_keep (s : List ByteArray) : ∀ {l : List Bool} {i : Nat}, l[i]? = some true → (mkA s l)[i]? = some true := by
  induction s with
  | nil => intro l i h; exact h
  | cons x s ih => intro l i h; rw [mkA]; exact ih (mkS_keep h)
theorem mkA_mem (s : List ByteArray) : ∀ {l : List Bool} {x : ByteArray} {i : Nat}, x ∈ s → numS x = (i : Int) → i < l.length → (mkA s l)[i]? = some true := by
  induction s with
  | nil => intro l x i h; cases h
  | cons y s ih =>
    intro l x i h hn hi
    rw [mkA]
    rcases List.mem_cons.1 h with rfl | h
    · refine mkA_keep s ?_
      unfold mkS
      rw [if_pos (by omega), hn, Int.toNat_natCast, List.getElem?_set_self hi]
    · exact ih h hn (by rw [mkS_len]; exact hi)
section
variable {X : ByteArray → ByteArray} {F : List ByteArray} (hX : ∀ a b, X a = X b → a = b) (hF : ∀ f ∈ F, ∀ y, y ∉ F → f ≠ X y)
include hX hF
end
end Go.Proofs.YtmophpgiaiemhaaGreat.Hs
/-! Names as the reference has them, in Xo Lean: their numbers, those that are chosen, those in front. -/
namespace Go.Proofs.YtmophpgiaiemhaaGreat.Hs
open Go
section
variable {P : Program} {e : Operand → Value} {d : Option Nat} {ot : TypeId} {pos : String} {af : Array Edge} {g : Option (Nat × Bool)} {T : TypeId} {x y z : Operand}
/-- a part of a string -/
theorem Pu.cutS {s : ByteArray} {k k' : IntKind} {i j : Int} (lo hi : Nat) (hT : ∀ w, (underlying T).run P w = .ok .string w) (hx : e x = .string s) (hy : e y = .int k i) (hz : e z = .int k' j) (h1 : i = (lo : Int)) (h2 : j = (hi : Int)) (h3 : lo ≤ hi ∧ hi ≤ s.size) :
    Pu P e ⟨d, .slice T x (some y) (some z) none, ot, pos, af, g⟩ (.string (s.extract lo hi)) := fun w => by
  subst h1 h2
  simp [execOp, Instr.sliceAt, Instr.slice, Instr.sliceBounds, Instr.sliceBound, asIntOf, hx, hy, hz, hT, Result.andThen, h3.1, h3.2]
end
def abcS : ByteArray := ⟨#[97, 98, 99, 100, 101, 102, 103, 104, 105, 106, 107, 108, 109, 110, 111, 112, 113, 114, 115, 116, 117, 118, 119, 120, 121, 122]⟩
theorem abc_cut : ∀ k, k < 26 → abcS.extract k (k + 1) = ltr k := by decide +kernel
theorem abc_size : abcS.size = 26 := rfl
/-- what is left of a name's number, in front -/
def nmB : Nat → ByteArray
  | 0 => ⟨#[]⟩
  | m + 1 => YG m
theorem nmB_step {m : Nat} (h : 0 < m) (s : ByteArray) : nmB ((m - 1) / 26) ++ (ltr ((m - 1) % 26) ++ s) = nmB m ++ s := by
  obtain ⟨q, rfl⟩ : ∃ q, m = q + 1 := ⟨m - 1, by omega⟩
  rw [← ByteArray.append_assoc]
  congr 1
  show nmB (q / 26) ++ ltr (q % 26) = YG q
  by_cases hq : q < 26
  · rw [nameS_lt hq, show q / 26 = 0 from by omega, show q % 26 = q from by omega]
    show (⟨#[]⟩ : ByteArray) ++ ltr q = ltr q
    apply ByteArray.ext
    simp [ByteArray.data_append]
  · rw [nameS_ge hq]
    obtain ⟨p, hp⟩ : ∃ p, q / 26 = p + 1 := ⟨q / 26 - 1, by omega⟩
    rw [hp]; rfl
theorem nmB_size {m : Nat} {s u : ByteArray} (h : nmB m ++ s = u) : s.size ≤ u.size := by
  rw [← h, ByteArray.size_append]; omega
theorem nmB_zero {s u : ByteArray} (h : nmB 0 ++ s = u) : s = u := by
  rw [← h]
  apply ByteArray.ext
  simp [nmB, ByteArray.data_append]
/-- whether a name is in a list -/
def hasN (s : List ByteArray) (x : ByteArray) : Bool := s.any (fun y => decide (y = x))
theorem mkS_get {x : ByteArray} {l : List Bool} {i : Nat} (h : (mkS x l)[i]? = some true) : l[i]? = some true ∨ numS x = (i : Int) := by
  unfold mkS at h
  split at h
  · rename_i h1
    by_cases e : (numS x).toNat = i
    · right; omega
    · left; rwa [List.getElem?_set_ne e] at h
  · exact .inl h
theorem mkA_get (s : List ByteArray) : ∀ {l : List Bool} {i : Nat}, (mkA s l)[i]? = some true → l[i]? = some true ∨ ∃ x ∈ s, numS x = (i : Int) := by
  induction s with
  | nil => intro l i h; exact .inl h
  | cons x s ih =>
    intro l i h
    rw [mkA] at h
    rcases ih h with h | ⟨y, hy, h⟩
    · rcases mkS_get h with h | h
      · exact .inl h
      · exact .inr ⟨x, List.mem_cons_self, h⟩
    · exact .inr ⟨y, List.mem_cons_of_mem _ hy, h⟩
theorem mark_iff {s : List ByteArray} {N n : Nat} (hn : n < N) (hN : N ≤ 1000000) : (mkA s (List.replicate N false))[n]? = some (hasN s (YG n)) := by
  have hl : n < (mkA s (List.replicate N false)).length := by rw [mkA_len, List.length_replicate]; exact hn
  rw [List.getElem?_eq_getElem hl]
  congr 1
  rw [Bool.eq_iff_iff]
  constructor
  · intro h
    rcases mkA_get s (show (mkA s (List.replicate N false))[n]? = some true by rw [List.getElem?_eq_getElem hl, h]) with h | ⟨x, hx, h⟩
    · rw [List.getElem?_replicate, if_pos hn] at h; cases h
    · unfold hasN
      rw [List.any_eq_true]
      refine ⟨x, hx, decide_eq_true ?_⟩
      have := nameS_num (s := x) (by omega)
      rw [h, Int.toNat_natCast] at this
      exact this.symm
  · intro h
    unfold hasN at h
    rw [List.any_eq_true] at h
    obtain ⟨x, hx, h⟩ := h
    have h := of_decide_eq_true h
    subst h
    have := mkA_mem s (l := List.replicate N false) hx (num_name n (by omega)) (by rw [List.length_replicate]; exact hn)
    rw [List.getElem?_eq_getElem hl] at this
    exact Option.some.inj this
theorem ff_at : ∀ {l : List Bool} {n : Nat}, (∀ i, i < n → l[i]? = some true) → l[n]? = some false → ffN l = n
  | [], n, _, h => by simp at h
  | b :: l, n, h, h' => by
    cases n with
    | zero => simp at h'; subst h'; rfl
    | succ n =>
      have h0 := h 0 (by omega)
      simp at h0
      subst h0
      rw [ffN, ff_at (l := l) (n := n) (fun i hi => by have := h (i + 1) (by omega); simpa using this) (by simpa using h')]
theorem ff_ge : ∀ {l : List Bool} {n : Nat}, (∀ i, i < n → l[i]? = some true) → n ≤ ffN l
  | _, 0, _ => Nat.zero_le _
  | [], n + 1, h => by have := h 0 (by omega); simp at this
  | b :: l, n + 1, h => by
    have h0 := h 0 (by omega)
    simp at h0
    subst h0
    have := ff_ge (l := l) (n := n) (fun i hi => by have := h (i + 1) (by omega); simpa using this)
    rw [ffN]; omega
theorem seen_step {l : List Bool} {n : Nat} (h : ∀ i, i < n → l[i]? = some true) (h' : l[n]? = some true) : ∀ i, i < n + 1 → l[i]? = some true := fun i hi => by
  by_cases e : i = n
  · subst e; exact h'
  · exact h i (by omega)
theorem seen_set {l : List Bool} {n : Nat} (h : ∀ i, i < n → l[i]? = some true) (h' : n < l.length) : ∀ i, i < n + 1 → (l.set n true)[i]? = some true := fun i hi => by
  by_cases e : i = n
  · subst e; exact List.getElem?_set_self h'
  · rw [List.getElem?_set_ne (fun q => e q.symm)]; exact h i (by omega)
/-- how many names a node must have, as the reference says it -/
theorem many_max {k : Int} {c : Nat} (h : k = 12) : max (0 : Int) (1 + 2 * ((c : Int) - 2)) = Ys k c := by
  subst h
  unfold Ys
  rw [if_neg (by omega)]
  split <;> omega
noncomputable instance : DecidableEq Nm := fun _ _ => Classical.propDecidable _
/-! how many nodes a term with names has, and names -/
mutual
def wnN : Nm → Nat
  | .mk _ _ _ ns kids cases => 1 + ns.length + wnNs kids + Xf cases
def wnNs : List Nm → Nat
  | [] => 0
  | x :: l => wnN x + wnNs l
def Xf : List (Pt × List ByteArray × Nm) → Nat
  | [] => 0
  | (p, m, x) :: l => sizeP p + m.length + wnN x + Xf l
end
theorem wnN_pos (n : Nm) : 1 ≤ wnN n := by cases n; rw [wnN]; omega
theorem wnNs_mem (l : List Nm) : ∀ x ∈ l, wnN x ≤ wnNs l := by
  induction l with
  | nil => intro x h; cases h
  | cons y l ih =>
    intro x h
    rw [wnNs]
    rcases List.mem_cons.1 h with rfl | h
    · omega
    · have := ih x h; omega
theorem wnNCs_mem (l : List (Pt × List ByteArray × Nm)) : ∀ c ∈ l, sizeP c.1 + c.2.1.length + wnN c.2.2 ≤ Xf l := by
  induction l with
  | nil => intro x h; cases h
  | cons y l ih =>
    intro x h
    obtain ⟨p, m, t⟩ := y
    rw [Xf]
    rcases List.mem_cons.1 h with rfl | h
    · simp only; omega
    · have := ih x h; omega
theorem wnNs_len (l : List Nm) : l.length ≤ wnNs l := by
  induction l with
  | nil => simp [wnNs]
  | cons y l ih => rw [wnNs, List.length_cons]; have := wnN_pos y; omega
theorem wnNCs_len (l : List (Pt × List ByteArray × Nm)) : l.length ≤ Xf l := by
  induction l with
  | nil => simp [Xf]
  | cons y l ih => obtain ⟨p, m, t⟩ := y; rw [Xf, List.length_cons]; have := wnN_pos t; omega
theorem eqL_iff {α : Type} {l m : List α} : eqL l m = true ↔ l = m := by unfold eqL; simp
end Go.Proofs.YtmophpgiaiemhaaGreat.Hs
/-! What TermChecks asks beside, in Xo Lean; readings of a match. -/
namespace Go.Proofs.YtmophpgiaiemhaaGreat.Hs
open Go Go.Proofs
def ofP (p : Pt) : Tm := .mk 9 0 zS [eNu 0] [(p, eNu 0)]
theorem size_of (p : Pt) : sizeT (ofP p) = sizeP p + 3 := by
  simp only [ofP, eNu, sizeT, ZH, ZQ]; omega
theorem Own.rdC1 {T : TypeId} {v : Value} {a b : List Value} {k : Zj} {h : Heap} {p : Pt} {t : Tm} (o : Own T 71 v [a ++ b] k) (hk : Has k h) (hp : RP h a p) (ht : RT h b t) : Hs.rdS RC 71 h v [(p, t)] :=
  o.rdS rfl (by simp) hk fun i h1 _ => by
    have : i = 0 := by simpa using h1
    subst this; exact ⟨a, b, rfl, hp, ht⟩
theorem RT_of {h : Heap} {v u : Value} {t : Tm} {l : List (Pt × Tm)} (hv : Hs.rdS RT 36 h v [t]) (hu : Hs.rdS RC 71 h u l) : RT h (pkT 9 0 zS v u) (.mk 9 0 zS [t] l) :=
  RT_mk.2 ⟨_, _, rfl, by unfold inI; omega, by unfold inI; omega, hv, hu⟩
section
variable {P : Program} {e : Operand → Value} {i : Oper}
theorem Pu.to {v v' : Value} (h : Pu P e i v) (q : v = v') : Pu P e i v' := q ▸ h
theorem Pu.decT {p : Prop} {_ : Decidable p} (h : Pu P e i (.bool (decide p))) (q : p) : Pu P e i (.bool true) := h.to (congrArg Value.bool (decide_eq_true q))
end
end Go.Proofs.YtmophpgiaiemhaaGreat.Hs
/-! How the law counts a term with names. -/
namespace Go.Proofs.YtmophpgiaiemhaaGreat.Hs
open Go Go.Proofs
def Xt (x : ByteArray) : Bool := decide ((40 : Int) < (x.size : Int))

def gtW (p : Pt) : Bool := (cnT stG 0 (ofP p) 0).1
mutual
def wdN : Nm → Int → Bool × Int
  | .mk _ _ _ ns kids cases, n =>
    if 900 < n + (1 + (ns.length : Int)) then (true, n + (1 + (ns.length : Int)))
    else if ns.any Xt = true then (true, n + (1 + (ns.length : Int)))
    else if (wdNs kids (n + (1 + (ns.length : Int)))).1 = true then (true, (wdNs kids (n + (1 + (ns.length : Int)))).2)
    else wdCs cases (wdNs kids (n + (1 + (ns.length : Int)))).2
def wdNs : List Nm → Int → Bool × Int
  | [], n => (false, n)
  | x :: l, n => if (wdN x n).1 = true then (true, (wdN x n).2) else wdNs l (wdN x n).2
def wdCs : List (Pt × List ByteArray × Nm) → Int → Bool × Int
  | [], n => (false, n)
  | (p, m, x) :: l, n =>
    if gtW p = true ∨ m.any Xt = true then (true, n + (m.length : Int))
    else if (wdN x (n + (m.length : Int))).1 = true then (true, (wdN x (n + (m.length : Int))).2) else wdCs l (wdN x (n + (m.length : Int))).2
end
def wdC (c : Pt × List ByteArray × Nm) (n : Int) : Bool × Int := if gtW c.1 = true ∨ c.2.1.any Xt = true then (true, n + (c.2.1.length : Int)) else wdN c.2.2 (n + (c.2.1.length : Int))
theorem wdNs_any (l : List Nm) : ∀ n, wdNs l n = ZP wdN l n := by
  induction l with
  | nil => intro n; rw [wdNs, ZP]
  | cons x l ih => intro n; rw [wdNs, ZP, ih]
theorem wdCs_any (l : List (Pt × List ByteArray × Nm)) : ∀ n, wdCs l n = ZP wdC l n := by
  induction l with
  | nil => intro n; rw [wdCs, ZP]
  | cons c l ih =>
    intro n
    obtain ⟨p, m, x⟩ := c
    rw [wdCs, ZP]
    by_cases h : gtW p = true ∨ m.any Xt = true
    · rw [if_pos h, wdC, if_pos h, if_pos rfl]
    · rw [if_neg h, wdC, if_neg h, ih]
theorem wdN_eq (k m : Int) (r : Sm) (ns : List ByteArray) (kids : List Nm) (cases : List (Pt × List ByteArray × Nm)) (n : Int) :
    wdN (.mk k m r ns kids cases) n = if 900 < n + (1 + (ns.length : Int)) then (true, n + (1 + (ns.length : Int)))
    else if ns.any Xt = true then (true, n + (1 + (ns.length : Int)))
    else if (ZP wdN kids (n + (1 + (ns.length : Int)))).1 = true then (true, (ZP wdN kids (n + (1 + (ns.length : Int)))).2)
    else ZP wdC cases (ZP wdN kids (n + (1 + (ns.length : Int)))).2 := by
  rw [wdN, wdNs_any, wdCs_any]
theorem wdN_keep (t : Nm) : ∀ n, 0 ≤ n → (wdN t n).1 = false → 0 ≤ (wdN t n).2 ∧ (wdN t n).2 ≤ 900 := by
  induction t using Nm.ind with
  | h k m r ns kids cases ih ih' =>
    intro n h0 h
    rw [wdN_eq] at h ⊢
    by_cases h1 : 900 < n + (1 + (ns.length : Int))
    · rw [if_pos h1] at h; cases h
    · rw [if_neg h1] at h ⊢
      by_cases h2 : ns.any Xt = true
      · rw [if_pos h2] at h; cases h
      · rw [if_neg h2] at h ⊢
        by_cases h3 : (ZP wdN kids (n + (1 + (ns.length : Int)))).1 = true
        · rw [if_pos h3] at h; cases h
        · rw [if_neg h3] at h ⊢
          have q := Xq (step := wdN) (l := kids) (Inv := fun n => 0 ≤ n ∧ n ≤ 900) (fun x hx s hs hf => ih x hx s hs.1 hf) (n + (1 + (ns.length : Int))) ⟨by omega, by omega⟩ (Bool.eq_false_iff.2 h3)
          exact Xq (step := wdC) (l := cases) (Inv := fun n => 0 ≤ n ∧ n ≤ 900) (fun c hc s hs hf => by
            unfold wdC at hf ⊢
            by_cases h4 : gtW c.1 = true ∨ c.2.1.any Xt = true
            · rw [if_pos h4] at hf; cases hf
            · rw [if_neg h4] at hf ⊢; exact ih' c hc _ (by omega) hf) _ q h
theorem wdC_keep (c : Pt × List ByteArray × Nm) (n : Int) (h0 : 0 ≤ n) (hf : (wdC c n).1 = false) : 0 ≤ (wdC c n).2 ∧ (wdC c n).2 ≤ 900 := by
  unfold wdC at hf ⊢
  by_cases h4 : gtW c.1 = true ∨ c.2.1.any Xt = true
  · rw [if_pos h4] at hf; cases hf
  · rw [if_neg h4] at hf ⊢; exact wdN_keep _ _ (by omega) hf
theorem anyW_keep (l : List Nm) (n : Int) (h0 : 0 ≤ n) (hB : n ≤ 900) (h : (ZP wdN l n).1 = false) : 0 ≤ (ZP wdN l n).2 ∧ (ZP wdN l n).2 ≤ 900 :=
  Xq (step := wdN) (l := l) (Inv := fun n => 0 ≤ n ∧ n ≤ 900) (fun x _ s hs hf => wdN_keep x s hs.1 hf) n ⟨h0, hB⟩ h
end Go.Proofs.YtmophpgiaiemhaaGreat.Hs
