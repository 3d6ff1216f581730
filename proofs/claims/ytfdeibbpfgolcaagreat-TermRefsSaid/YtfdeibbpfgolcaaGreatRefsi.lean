import Derived.Test.YtfdeibbpfgolcaaGreatRefsh
import Derived.Laws.RangeString
/-! Strings: rows of them, ranges over them, names of one letter. -/
namespace Go.Proofs.YtfdeibbpfgolcaaGreat.Hs
open Go
/-- the name of one letter -/
def ltr (i : Nat) : ByteArray := ⟨#[UInt8.ofNat (97 + i)]⟩
def Yu (l : List ByteArray) : List (List Value) := l.map fun n => [.string n]
theorem YO (l : List ByteArray) : (Yu l).length = l.length := by simp [Yu]
theorem strs_snoc (l : List ByteArray) (n : ByteArray) : Yu (l ++ [n]) = Yu l ++ [[.string n]] := by simp [Yu]
theorem strs_app (l m : List ByteArray) : Yu (l ++ m) = Yu l ++ Yu m := by simp [Yu]
theorem strs_get (l : List ByteArray) (j : Nat) (h : j < l.length) : (Yu l)[j]'(by rw [YO]; exact h) = [.string l[j]] := by simp [Yu]
theorem strs_len1 (l : List ByteArray) : ∀ e ∈ Yu l, e.length = 1 := by
  intro e he; obtain ⟨n, _, rfl⟩ := List.mem_map.1 he; rfl
theorem strs_ok (l : List ByteArray) : ∀ e ∈ Yu l, okc e := by
  intro e he; obtain ⟨n, _, rfl⟩ := List.mem_map.1 he; exact Zi rfl Zp
def RS (_ : Heap) (cs : List Value) (n : ByteArray) : Prop := cs = [.string n]
theorem RSs.mono {h h' : Heap} (hh : Hle h h') {v : Value} {l : List ByteArray} (q : Hs.rdS RS 1 h v l) : Hs.rdS RS 1 h' v l := rdS.mono q hh fun _ _ _ e => e
theorem Y6 {T : TypeId} {v : Value} {l : List ByteArray} {k : Zh} {h : Heap} (o : Own T 1 v (Yu l) k) (hn : l.length ≤ 9223372036854775807) (hk : Has k h) : Hs.rdS RS 1 h v l :=
  o.rdS (YO l).symm hn hk fun i _ h2 => strs_get l i h2
theorem rdS.none {α : Type} {E : Heap → List Value → α → Prop} {sz : Nat} {h : Heap} {a : Option Addr} {cap : Nat} : Hs.rdS E sz h (.slice a 0 cap) [] := ⟨a, cap, rfl, by simp, .inl rfl⟩
/-- What a row of strings gives to append. -/
theorem strs_src {P : Program} {H : Heap} {v : Value} {l : List ByteArray} (h : Hs.rdS RS 1 H v l) : ∀ w L, Mem w L H → Src P 1 w v l.length (Yu l).flatten := by
  obtain ⟨es, e1, e2, e3, e4⟩ := rdS.src (P := P) h
  have : es = Yu l := by
    apply List.ext_getElem
    · rw [e1, YO]
    · intro i h1 h2
      have := e2 i h1 (by omega)
      rw [strs_get l i (by omega)]; exact this
  subst this
  intro w L m
  exact e4 w L H (Hle.refl _) m
theorem own_src {P : Program} {H : Heap} {T : TypeId} {v : Value} {l : List ByteArray} {k : Zh} {M : List Zh} {i : Nat} (o : Own T 1 v (Yu l) k) (hi : M[i]? = some k) : ∀ F w, Mem w (M.flatten ++ F) H → Src P 1 w v l.length (Yu l).flatten := by
  intro F w m
  rcases o.2 with ⟨e, e2, e3⟩ | ⟨b, cap, sp, e, e2, e3, e4⟩
  · have : l = [] := by have := YO l; rw [e2] at this; exact List.eq_nil_of_length_eq_zero this.symm
    subst this
    rw [e]; exact Src.nil
  · subst e
    have hb : w.heap[b]? = some (.cells ⟨(Yu l).flatten ++ sp⟩ T (0, 0)) := (At.k (M := M) (H := H) i hi (by rw [e2]; simp)).heap m
    have := Src.row (P := P) (cap := cap) (n := l.length) hb (by have := sub_flat (sp := sp) o.1; rwa [YO] at this)
    rw [YO]; exact this

/-- the place of a string in a row -/
def fstS (x : ByteArray) : List ByteArray → Nat → Int
  | [], _ => -1
  | y :: l, i => if x = y then (i : Int) else fstS x l (i + 1)
theorem fstS_mem (x : ByteArray) (l : List ByteArray) : ∀ i, decide (0 ≤ fstS x l i) = l.any (fun y => decide (x = y)) := by
  induction l with
  | nil => intro i; simp [fstS]
  | cons y l ih =>
    intro i
    rw [fstS]
    by_cases h : x = y
    · rw [if_pos h, List.any_cons, decide_eq_true h]; simp
    · rw [if_neg h, ih, List.any_cons, decide_eq_false h]; rfl
/-- the place of a bool in a row -/
def fstB (x : Bool) : List Bool → Nat → Int
  | [], _ => -1
  | y :: l, i => if x = y then (i : Int) else fstB x l (i + 1)

def itC (r : Nat) (s : ByteArray) (p : Nat) : Zh := [(r, .stringIter s p)]
section
variable {c : Cx} {H : Heap} {ρ : Nat → Value} {M : List Zh} {K : Value → List Zh → Prop} {d : Option Nat} {ot : TypeId} {pos : String} {af : Array Edge} {g : Option (Nat × Bool)} {x y z : Operand}
theorem Runs_rangeS {T : TypeId} {s : ByteArray} (hT : c.P.underlying T = some .string) (hx : ev c.n ρ x = .string s) (h : ∀ r, K (.pointer (some ⟨r, 0, none⟩)) (itC r s 0 :: M)) : Runs c H ⟨d, .range T x, ot, pos, af, g⟩ ρ M K := fun F w m => by
  refine ⟨.pointer (some ⟨w.heap.size, 0, none⟩), { w with heap := w.heap.push (.stringIter s 0) }, [(w.heap.size, .stringIter s 0)] :: M, .inl ?_, m.push (w' := { w with heap := w.heap.push (.stringIter s 0) }) rfl, h _⟩
  simp [execOp, Instr.range, hx, run_underlying hT, Result.andThen]
theorem Runs_nextA {i r p : Nat} {s : ByteArray} (hx : ev c.n ρ x = .pointer (some ⟨r, 0, none⟩)) (hi : M[i]? = some (itC r s p)) (hp : p < s.size) (ha : (s[p]'hp).toNat < 128)
    (h : K (.tuple ⟨[.bool true, .int .i64 p, .int .i32 ((s[p]'hp).toNat : Int)]⟩) (M.set i (itC r s (p + 1)))) : Runs c H ⟨d, .next x true, ot, pos, af, g⟩ ρ M K := fun F w m => by
  have hb : w.heap[r]? = some (.stringIter s p) := (m.perm ((Yc hi).append_right F)).own r _ (List.mem_cons_self ..)
  refine ⟨_, _, _, .inl ?_, m.put (o' := .stringIter s (p + 1)) hi, h⟩
  have hg : (getObj r).run c.P w = .ok (.stringIter s p) w := by simp [getObj, Sem.run, hb]
  have hs : (setObj r (.stringIter s (p + 1))).run c.P w = .ok () { w with heap := w.heap.setIfInBounds r (.stringIter s (p + 1)) } := by simp [setObj, Sem.run, hb]
  simp only [execOp, Instr.next, hx, Sem.run_bind, hg, Result.andThen, hp, if_true, decode_ascii s p hp ha, hs]
  simp [goInt]
theorem Runs_nextE {i r p : Nat} {s : ByteArray} (hx : ev c.n ρ x = .pointer (some ⟨r, 0, none⟩)) (hi : M[i]? = some (itC r s p)) (hp : ¬ p < s.size)
    (h : K (.tuple ⟨[.bool false]⟩) M) : Runs c H ⟨d, .next x true, ot, pos, af, g⟩ ρ M K := fun F w m => by
  have hb : w.heap[r]? = some (.stringIter s p) := (m.perm ((Yc hi).append_right F)).own r _ (List.mem_cons_self ..)
  refine ⟨_, _, _, .inl ?_, m, h⟩
  have hg : (getObj r).run c.P w = .ok (.stringIter s p) w := by simp [getObj, Sem.run, hb]
  simp [execOp, Instr.next, hx, hg, Result.andThen, hp]
end
theorem w32 {a : Int} (h : -2147483648 ≤ a ∧ a ≤ 2147483647) : IntKind.i32.wrap a = a := by
  exact IntWalk.i32_in a h
section
variable {P : Program} {e : Operand → Value} {T T' : TypeId} {x : Operand} {k : IntKind} {a : Int} {d : Option Nat} {ot : TypeId} {pos : String} {af : Array Edge} {g : Option (Nat × Bool)}
theorem Pu.convS {s : ByteArray} {t : TypeDesc} (hs : ∀ w, (underlying T).run P w = .ok t w) (hT : ∀ w, (underlying T').run P w = .ok .string w) (hx : e x = .int k a) (hv : Utf8.encode a = s) : Pu P e ⟨d, .convert T T' x, ot, pos, af, g⟩ (.string s) := fun w => by
  subst hv
  simp [execOp, convert, hs, hT, hx, Result.andThen, Conv.intToString]
end
theorem ltr_size (i : Nat) : (ltr i).size = 1 := rfl
theorem ltr_get (i : Nat) (h : i < 26) : ((ltr i)[0]'(by rw [ltr_size]; decide)).toNat = 97 + i := by
  show (UInt8.ofNat (97 + i)).toNat = 97 + i
  simp; omega
theorem ltr_enc : ∀ i : Nat, i < 26 → Utf8.encode ((97 + i : Nat) : Int) = ltr i := by decide
theorem ltr_enc' (i : Nat) (h : i < 26) : Utf8.encode (97 + (i : Int)) = ltr i := by have := ltr_enc i h; simpa using this
section
variable {c : Cx} {H : Heap} {ρ : Nat → Value} {M : List Zh} {K : Value → List Zh → Prop} {d : Option Nat} {ot : TypeId} {pos : String} {af : Array Edge} {g : Option (Nat × Bool)} {x : Operand}
theorem Runs_nextL {i r k : Nat} (hx : ev c.n ρ x = .pointer (some ⟨r, 0, none⟩)) (hi : M[i]? = some (itC r (ltr k) 0)) (hk : k < 26)
    (h : K (.tuple ⟨[.bool true, .int .i64 0, .int .i32 (97 + (k : Int))]⟩) (M.set i (itC r (ltr k) 1))) : Runs c H ⟨d, .next x true, ot, pos, af, g⟩ ρ M K := by
  have hg := ltr_get k hk
  refine Runs_nextA hx hi (by rw [ltr_size]; decide) (by omega) ?_
  rw [hg]
  simpa using h
end
def markL (i : Nat) (l : List Bool) : List Bool := if i < l.length then l.set i true else l
/-- What is known of a term with names: the names on the way down, one Kid after the other. -/
def NC : List (List ByteArray) → List Value → Zh → Prop
  | [], cs, _ => cs.length = 37 ∧ okc cs
  | x :: xs, cs, c => ∃ k n r ns ks cv e k1 k2 k3, cs = pkT k n r ns ks ++ [cv] ∧ cv.oneCell' = true ∧ Own 9 1 ns (Yu x) k1 ∧ Own 83 37 ks [e] k2 ∧ NC xs e k3 ∧ c = k1 ++ (k2 ++ k3)
theorem NC.len : ∀ {xs : List (List ByteArray)} {cs : List Value} {c : Zh}, NC xs cs c → cs.length = 37
  | [], _, _, h => h.1
  | _ :: _, _, _, ⟨_, _, _, _, _, _, _, _, _, _, h, _⟩ => by rw [h]; rfl
theorem NC.ok : ∀ {xs : List (List ByteArray)} {cs : List Value} {c : Zh}, NC xs cs c → okc cs
  | [], _, _, h => h.2
  | _ :: _, _, _, ⟨_, _, _, _, _, _, _, _, _, _, h, h1, h2, h3, _⟩ => by rw [h]; exact Z6 (Z2 h2.one h3.one) (Zi h1 Zp)
theorem spl_l {a b a' vs : List Value} {off : Nat} (h : spl a off vs = some a') : spl (a ++ b) off vs = some (a' ++ b) := by
  obtain ⟨h1, h2⟩ := spl_some h
  rw [spl_mk (by rw [List.length_append]; omega), h2, List.take_append_of_le_length (by omega), List.drop_append_of_le_length (by omega)]
  simp
theorem markL_len (i : Nat) (l : List Bool) : (markL i l).length = l.length := by unfold markL; split <;> simp
theorem int_r {P : Program} {f : FuncId} {a : Array Value} {M : List Zh} {H : Heap} {x r : Int} (h : CT P f a M H (fun v N => v = .int .i64 x ∧ N = [])) (hr : x = r) : CT P f a M H (fun v N => v = .int .i64 r ∧ N = []) := hr ▸ h
noncomputable def eqL {α : Type} (l m : List α) : Bool := @decide (l = m) (Classical.propDecidable _)
theorem eqL_true {α : Type} {l m : List α} (h : l = m) : eqL l m = true := by unfold eqL; simp [h]
theorem eqL_false {α : Type} {l m : List α} (h : ¬ l = m) : eqL l m = false := by unfold eqL; simp [h]
end Go.Proofs.YtfdeibbpfgolcaaGreat.Hs
/-! The examples of the chapter, in plain Lean. -/
namespace Go.Proofs.YtfdeibbpfgolcaaGreat.Hs
open Go Go.Proofs
def eVa (n : Int) : Tm := .mk 1 n zS [] []
def eNu (n : Int) : Tm := .mk 2 n zS [] []
def eLa (t : Tm) : Tm := .mk 3 0 zS [t] []
def eAp (t u : Tm) : Tm := .mk 4 0 zS [t, u] []
def eLam : Tm := eLa (eAp (eVa 0) (eVa 1))
theorem free_lam : freeE eLam = ([0], 0) := by kernel_rfl
theorem five_lam : substP eLam 0 (eNu 5) = (eLa (eAp (eVa 0) (eNu 5)), 0) := by kernel_rfl
theorem three_lam : substP eLam 0 (eVa 3) = (eLa (eAp (eVa 0) (eVa 4)), 0) := by kernel_rfl
theorem up_lam : shiftP eLam 2 0 = (eLa (eAp (eVa 0) (eVa 3)), 0) := by kernel_rfl
theorem down_va : shiftP (eVa 0) (-1) 0 = (zT, 1) := by kernel_rfl
def eLL : Tm := eLa (eLa (eVa 1))
theorem right_ll : ZN [eLL] = 0 := by kernel_rfl
theorem free_ll : freeE eLL = ([], 0) := by kernel_rfl
theorem check_h2 : YZ 0 0 (.mk 12 0 zS [eNu 1, eVa 0] []) = 0 := by kernel_rfl
theorem check_h1 : YZ 0 0 (.mk 12 0 zS [eNu 1] []) = 2 := by kernel_rfl
/-- the cells of the first of two results -/
def tcel : Value → List Value
  | .tuple ⟨[.agg ⟨cs⟩, _]⟩ => cs
  | _ => []
theorem ble_at {P : Program} {f : FuncId} {a : Array Value} {M : List Zh} {H : Heap} {x : Tm × Int} {d : Tm} {e : Int} (h : CT P f a M H (fun v N => ∃ cs k, v = .tuple ⟨[.agg ⟨cs⟩, .int .i64 x.2]⟩ ∧ N = [k] ∧ OT x.1 cs k)) (hx : x = (d, e)) :
    CT P f a M H (fun v N => ∃ cs k, v = .tuple ⟨[.agg ⟨cs⟩, .int .i64 e]⟩ ∧ N = [k] ∧ OT d cs k) := by subst hx; exact h
theorem YF {P : Program} {f : FuncId} {a : Array Value} {M : List Zh} {H : Heap} {x r : Bool} (h : CT P f a M H (fun v N => v = .bool x ∧ N = [])) (hr : x = r) : CT P f a M H (fun v N => v = .bool r ∧ N = []) := hr ▸ h
section
variable {c : Cx} {H : Heap} {ρ : Nat → Value} {M : List Zh} {K : Value → List Zh → Prop} {d : Option Nat} {ot : TypeId} {pos : String} {af : Array Edge} {g : Option (Nat × Bool)} {x y : Operand}
/-- the first nothing of a slice -/
theorem Runs_slice0 {T el : TypeId} {sz n cap : Nat} {a : Option Addr} {k : IntKind} (hT : ∀ w, (underlying T).run c.P w = .ok (.slice el) w) (hsz : ∀ w, (sizeOf el).run c.P w = .ok sz w) (hx : ev c.n ρ x = .slice a n cap) (hy : ev c.n ρ y = .int k 0)
    (h : ∀ a' cap', K (.slice a' 0 cap') M) : Runs c H ⟨d, .slice T x none (some y) none, ot, pos, af, g⟩ ρ M K := fun F w m => by
  refine ⟨_, w, M, .inl ?_, m, h (if cap = 0 then a else a.map (·.add (0 * sz))) (cap - 0)⟩
  simp [execOp, Instr.sliceAt, Instr.slice, Instr.sliceBounds, Instr.sliceBound, asIntOf, hx, hy, hT, hsz, Result.andThen]
end
end Go.Proofs.YtfdeibbpfgolcaaGreat.Hs
/-! Layer 4, the plain law, third part: sizes. No program here. -/
namespace Go.Proofs.YtfdeibbpfgolcaaGreat.Hs
open Go
theorem great_size {t : Tm} (h : (cnT stG 0 t 0).1 = false) : sizeT t ≤ 400 := by
  have h1 := cnT_size t 0 0 h
  have h2 := cnGT_le t 0 0 h
  omega
theorem RT_zero {h : Heap} : RT h (pkT 0 0 zS (.slice none 0 0) (.slice none 0 0)) zT := OT_zero.rd Has.nil
end Go.Proofs.YtfdeibbpfgolcaaGreat.Hs
/-! Layer 4, the plain law of moving: maps composed; what is right stays right. No program here. -/
namespace Go.Proofs.YtfdeibbpfgolcaaGreat.Hs
open Go
end Go.Proofs.YtfdeibbpfgolcaaGreat.Hs
/-! What holds of all that is free. -/
namespace Go.Proofs.YtfdeibbpfgolcaaGreat.Hs
open Go Go.Proofs
set_option maxRecDepth 100000
end Go.Proofs.YtfdeibbpfgolcaaGreat.Hs
/-! The part of a term at a path, and another term put there, in plain Lean; one element of an owned row exchanged. -/
namespace Go.Proofs.YtfdeibbpfgolcaaGreat.Hs
open Go Go.Proofs
def partT (t : Tm) (k : Int) : Option Tm :=
  if k < 0 then none else if k < (t.kids.length : Int) then t.kids[k.toNat]? else (t.cases[(k - t.kids.length).toNat]?).map (·.2)
def atT (t : Tm) : List Int → Option Tm
  | [] => some t
  | k :: l => (partT t k).bind fun x => atT x l
theorem mvT_id (t : Tm) : ∀ b fr, mvT 0 fr b t = t := by
  induction t using Tm.ind with
  | h k n r kids cases ih ih' =>
    intro b fr
    have h1 : ∀ (l : List Tm), (∀ x ∈ l, ∀ b fr, mvT 0 fr b x = x) → ∀ i, mvTs 0 fr b k i l = l := by
      intro l
      induction l with
      | nil => intro _ i; rw [mvTs]
      | cons x l ih2 => intro hl i; rw [mvTs, hl x (by simp), ih2 (fun y hy => hl y (by simp [hy]))]
    have h2 : ∀ (l : List (Pt × Tm)), (∀ x ∈ l, ∀ b fr, mvT 0 fr b x.2 = x.2) → mvCs 0 fr b l = l := by
      intro l
      induction l with
      | nil => intro _; rw [mvCs]
      | cons x l ih2 => obtain ⟨p, x⟩ := x; intro hl; rw [mvCs, hl (p, x) (by simp), ih2 (fun y hy => hl y (by simp [hy]))]
    rw [mvT, h1 kids ih, h2 cases ih']
    simp
def stayV (n b : Int) : Tm := .mk 1 (n + b) zS [] []
def ownQ (t : Tm) : Tm := mapQ (fun s => s) stayV 0 t
theorem own_eq {t : Tm} (h : tidy t) : ownQ t = t := by
  have : stayV = shv 0 0 := by funext n b; simp [stayV, shv]
  rw [ownQ, this]
  exact (shT_eq (Int.le_refl 0) h).trans (mvT_id t 0 0)
def atR (t : Tm) (l : List Int) : Tm × Int := match atT t l with | some x => (x, 0) | none => (zT, 1)
theorem OTs.pick {l : List Tm} : ∀ {es : List (List Value)} {c : Zh} {j : Nat} (_ : OTs l es c) (hj : j < l.length),
    ∃ e k c', es[j]? = some e ∧ OT l[j] e k ∧ c.Perm (k ++ c') ∧ ∀ x e' k', OT x e' k' → ∃ c'', OTs (l.set j x) (es.set j e') c'' ∧ (k' ++ c').Perm c'' := by
  induction l with
  | nil => intro es c j _ hj; exact absurd hj (by simp)
  | cons y l ih =>
    intro es c j h hj
    rw [OTs] at h
    obtain ⟨e, es', k, c1, rfl, ho, hs, rfl⟩ := h
    cases j with
    | zero =>
      refine ⟨e, k, c1, rfl, ho, List.Perm.refl _, fun x e' k' hx => ⟨k' ++ c1, ?_, List.Perm.refl _⟩⟩
      simp only [List.set_cons_zero]; rw [OTs]; exact ⟨e', es', k', c1, rfl, hx, hs, rfl⟩
    | succ j =>
      obtain ⟨e2, k2, c2, h1, h2, h3, h4⟩ := ih hs (by simpa using hj)
      refine ⟨e2, k2, k ++ c2, by simpa using h1, h2, ?_, fun x e' k' hx => ?_⟩
      · refine (List.Perm.append_left k h3).trans ?_
        rw [← List.append_assoc, ← List.append_assoc]; exact List.perm_append_comm.append_right c2
      · obtain ⟨c3, h5, h6⟩ := h4 x e' k' hx
        refine ⟨k ++ c3, ?_, ?_⟩
        · simp only [List.set_cons_succ]; rw [OTs]; exact ⟨e, _, k, c3, rfl, ho, h5, rfl⟩
        · refine List.Perm.trans ?_ (List.Perm.append_left k h6)
          rw [← List.append_assoc, ← List.append_assoc]; exact List.perm_append_comm.append_right c2
theorem OCs.pick {l : List (Pt × Tm)} : ∀ {es : List (List Value)} {c : Zh} {j : Nat} (_ : OCs l es c) (hj : j < l.length),
    ∃ a b k c', es[j]? = some (a ++ b) ∧ a.length = 35 ∧ okc a ∧ OT l[j].2 b k ∧ c.Perm (k ++ c') ∧ ∀ x b' k', OT x b' k' → ∃ c'', OCs (l.set j (l[j].1, x)) (es.set j (a ++ b')) c'' ∧ (k' ++ c').Perm c'' := by
  induction l with
  | nil => intro es c j _ hj; exact absurd hj (by simp)
  | cons y l ih =>
    obtain ⟨p, y⟩ := y
    intro es c j h hj
    rw [OCs] at h
    obtain ⟨a, b, es', ka, kb, c1, rfl, hp, ho, hs, rfl⟩ := h
    cases j with
    | zero =>
      refine ⟨a, b, kb, ka ++ c1, rfl, hp.len, hp.ok, ho, ?_, fun x e' k' hx => ⟨ka ++ (k' ++ c1), ?_, ?_⟩⟩
      · rw [← List.append_assoc, ← List.append_assoc]; exact List.perm_append_comm.append_right c1
      · simp only [List.set_cons_zero]; rw [OCs]; exact ⟨a, e', es', ka, k', c1, rfl, hp, hx, hs, rfl⟩
      · rw [← List.append_assoc, ← List.append_assoc]; exact List.perm_append_comm.append_right c1
    | succ j =>
      obtain ⟨a2, b2, k2, c2, h1, ha, hb, h2, h3, h4⟩ := ih hs (by simpa using hj)
      refine ⟨a2, b2, k2, (ka ++ kb) ++ c2, by simpa using h1, ha, hb, h2, ?_, fun x e' k' hx => ?_⟩
      · rw [← List.append_assoc ka]
        refine (List.Perm.append_left (ka ++ kb) h3).trans ?_
        rw [← List.append_assoc, ← List.append_assoc k2]; exact List.perm_append_comm.append_right c2
      · obtain ⟨c3, h5, h6⟩ := h4 x e' k' hx
        refine ⟨ka ++ (kb ++ c3), ?_, ?_⟩
        · simp only [List.set_cons_succ]; rw [OCs]; exact ⟨a, b, _, ka, kb, c3, rfl, hp, ho, h5, rfl⟩
        · rw [← List.append_assoc ka kb c3]
          refine List.Perm.trans ?_ (List.Perm.append_left (ka ++ kb) h6)
          rw [← List.append_assoc, ← List.append_assoc (ka ++ kb)]; exact List.perm_append_comm.append_right c2
/-! paths -/
def pathR (H : Heap) (v : Value) (l : List Int) : Prop := ∃ a cap, v = .slice a l.length cap ∧ l.length ≤ cap ∧ l.length ≤ 9223372036854775807 ∧ (l.length = 0 ∨ ∃ b o row T fr, a = some ⟨b, o, none⟩ ∧ H b = some (.cells ⟨row⟩ T fr) ∧ rows (RI H) 1 row o l)
theorem pathR.rd {H : Heap} {v : Value} {l : List Int} (h : pathR H v l) : Hs.rdS RI 1 H v l := by
  obtain ⟨a, cap, rfl, _, h2, h3⟩ := h
  exact ⟨a, cap, rfl, h2, h3⟩
theorem pathR.mono {H H' : Heap} {v : Value} {l : List Int} (hh : Hle H H') (h : pathR H v l) : pathR H' v l := by
  obtain ⟨a, cap, rfl, h1, h2, h3⟩ := h
  refine ⟨a, cap, rfl, h1, h2, h3.imp id ?_⟩
  rintro ⟨b, o, row, T, fr, e1, e2, e3⟩
  exact ⟨b, o, row, T, fr, e1, hh _ _ e2, e3⟩
theorem pathR.own {T : TypeId} {v : Value} {l : List Int} {k : Zh} {h : Heap} (o : Own T 1 v (ints l) k) (hn : l.length ≤ 9223372036854775807) (hk : Has k h) : pathR h v l := by
  have hr := own_ints o hn hk
  rcases o.2 with ⟨rfl, h1, _⟩ | ⟨b, cap, sp, rfl, rfl, h3, h4⟩
  · have : l = [] := by cases l; rfl; simp [ints] at h1
    subst this; exact ⟨none, 0, rfl, by simp, by simp, .inl rfl⟩
  · rw [ints_len] at hr h4 ⊢
    obtain ⟨a, c, e, q1, q2⟩ := hr
    cases e
    exact ⟨_, _, rfl, h4, q1, q2⟩
theorem pathR.tail {H : Heap} {v : Value} {l : List Int} (h : pathR H v l) (hl : 0 < l.length) {a : Option Addr} {n cap : Nat} (hv : v = .slice a n cap) :
    1 ≤ n ∧ pathR H (.slice (if cap = 1 then a else a.map (·.add (1 * 1))) (n - 1) (cap - 1)) l.tail := by
  obtain ⟨a', cap', e, h1, h2, h3⟩ := h
  rw [hv] at e; cases e
  refine ⟨hl, _, _, by rw [List.length_tail], by rw [List.length_tail]; omega, by rw [List.length_tail]; omega, ?_⟩
  cases l with
  | nil => exact absurd hl (by simp)
  | cons x l =>
    simp only [List.tail_cons]
    by_cases h0 : l.length = 0
    · exact .inl h0
    right
    have hc : ¬ cap = 1 := by intro e; subst e; simp only [List.length_cons] at h1; omega
    rcases h3 with h3 | ⟨b, o, row, T, fr, rfl, e2, e3⟩
    · simp at h3
    · refine ⟨b, o + 1, row, T, fr, ?_, e2, e3.2⟩
      rw [if_neg hc]; simp [Addr.add]
theorem Sub.mid {M : List Zh} {a b c d : Zh} (h : Sub [a ++ (b ++ d)] M) (e : b.Perm c) : Sub [a ++ (c ++ d)] M := h.perm (by
  simp only [List.flatten_cons, List.flatten_nil, List.append_nil]
  exact (e.append_right d).append_left a)
section
variable {c : Cx} {H : Heap} {ρ : Nat → Value} {M : List Zh} {K : Value → List Zh → Prop} {d : Option Nat} {ot : TypeId} {pos : String} {af : Array Edge} {g : Option (Nat × Bool)} {x y : Operand}
end
section
variable {c : Cx} {H : Heap} {ρ : Nat → Value} {M : List Zh} {K : Value → List Zh → Prop} {d : Option Nat} {ot : TypeId} {pos : String} {af : Array Edge} {g : Option (Nat × Bool)} {x y : Operand}
end
end Go.Proofs.YtfdeibbpfgolcaaGreat.Hs
