import Derived.Test.YtkjafeejpmcnkaaGreatItemsh
import Derived.Laws.RangeString
/-! Strings: rows of them, ranges over them, names of one letter. -/
namespace Go.Proofs.YtkjafeejpmcnkaaGreat.Hs
open Go
/-- the name of one letter -/
def ltr (i : Nat) : ByteArray := ⟨#[UInt8.ofNat (97 + i)]⟩
def YG (l : List ByteArray) : List (List Value) := l.map fun n => [.string n]
theorem Y3 (l : List ByteArray) : (YG l).length = l.length := by simp [YG]
theorem strs_snoc (l : List ByteArray) (n : ByteArray) : YG (l ++ [n]) = YG l ++ [[.string n]] := by simp [YG]
theorem strs_app (l m : List ByteArray) : YG (l ++ m) = YG l ++ YG m := by simp [YG]
theorem strs_get (l : List ByteArray) (j : Nat) (h : j < l.length) : (YG l)[j]'(by rw [Y3]; exact h) = [.string l[j]] := by simp [YG]
theorem strs_len1 (l : List ByteArray) : ∀ e ∈ YG l, e.length = 1 := by
  intro e he; obtain ⟨n, _, rfl⟩ := List.mem_map.1 he; rfl
theorem strs_ok (l : List ByteArray) : ∀ e ∈ YG l, okc e := by
  intro e he; obtain ⟨n, _, rfl⟩ := List.mem_map.1 he; exact Zf rfl Zo
def RS (_ : Heap) (cs : List Value) (n : ByteArray) : Prop := cs = [.string n]
theorem RSs.mono {h h' : Heap} (hh : Hle h h') {v : Value} {l : List ByteArray} (q : Hs.rdS RS 1 h v l) : Hs.rdS RS 1 h' v l := rdS.mono q hh fun _ _ _ e => e
theorem Xz {T : TypeId} {v : Value} {l : List ByteArray} {k : Zi} {h : Heap} (o : Own T 1 v (YG l) k) (hn : l.length ≤ 9223372036854775807) (hk : Has k h) : Hs.rdS RS 1 h v l :=
  o.rdS (Y3 l).symm hn hk fun i _ h2 => strs_get l i h2
theorem rdS.none {α : Type} {E : Heap → List Value → α → Prop} {sz : Nat} {h : Heap} {a : Option Addr} {cap : Nat} : Hs.rdS E sz h (.slice a 0 cap) [] := ⟨a, cap, rfl, by simp, .inl rfl⟩
/-- What a row of strings gives to append. -/
theorem strs_src {P : Program} {H : Heap} {v : Value} {l : List ByteArray} (h : Hs.rdS RS 1 H v l) : ∀ w L, Mem w L H → Src P 1 w v l.length (YG l).flatten := by
  obtain ⟨es, e1, e2, e3, e4⟩ := rdS.src (P := P) h
  have : es = YG l := by
    apply List.ext_getElem
    · rw [e1, Y3]
    · intro i h1 h2
      have := e2 i h1 (by omega)
      rw [strs_get l i (by omega)]; exact this
  subst this
  intro w L m
  exact e4 w L H (Hle.refl _) m
theorem own_src {P : Program} {H : Heap} {T : TypeId} {v : Value} {l : List ByteArray} {k : Zi} {M : List Zi} {i : Nat} (o : Own T 1 v (YG l) k) (hi : M[i]? = some k) : ∀ F w, Mem w (M.flatten ++ F) H → Src P 1 w v l.length (YG l).flatten := by
  intro F w m
  rcases o.2 with ⟨e, e2, e3⟩ | ⟨b, cap, sp, e, e2, e3, e4⟩
  · have : l = [] := by have := Y3 l; rw [e2] at this; exact List.eq_nil_of_length_eq_zero this.symm
    subst this
    rw [e]; exact Src.nil
  · subst e
    have hb : w.heap[b]? = some (.cells ⟨(YG l).flatten ++ sp⟩ T (0, 0)) := (At.k (M := M) (H := H) i hi (by rw [e2]; simp)).heap m
    have := Src.row (P := P) (cap := cap) (n := l.length) hb (by have := sub_flat (sp := sp) o.1; rwa [Y3] at this)
    rw [Y3]; exact this

/-- the place of a string in a row -/
def fstS (x : ByteArray) : List ByteArray → Nat → Int
  | [], _ => -1
  | y :: l, i => if x = y then (i : Int) else fstS x l (i + 1)
theorem fstS_mem (x : ByteArray) (l : List ByteArray) : ∀ i, decide (0 ≤ fstS x l i) = l.any (fun y => decide (x = y)) := by
  induction l with
  | nil => intro i; simp [fstS]
  | cons y l ih =>
    intro i
    rw [fstS]
    by_cases h : x = y
    · rw [if_pos h, List.any_cons, decide_eq_true h]; simp
    · rw [if_neg h, ih, List.any_cons, decide_eq_false h]; rfl
/-- the place of a bool in a row -/
def fstB (x : Bool) : List Bool → Nat → Int
  | [], _ => -1
  | y :: l, i => if x = y then (i : Int) else fstB x l (i + 1)

def itC (r : Nat) (s : ByteArray) (p : Nat) : Zi := [(r, .stringIter s p)]
section
variable {c : Cx} {H : Heap} {ρ : Nat → Value} {M : List Zi} {K : Value → List Zi → Prop} {d : Option Nat} {ot : TypeId} {pos : String} {af : Array Edge} {g : Option (Nat × Bool)} {x y z : Operand}
theorem Runs_rangeS {T : TypeId} {s : ByteArray} (hT : c.P.underlying T = some .string) (hx : ev c.n ρ x = .string s) (h : ∀ r, K (.pointer (some ⟨r, 0, none⟩)) (itC r s 0 :: M)) : Runs c H ⟨d, .range T x, ot, pos, af, g⟩ ρ M K := fun F w m => by
  refine ⟨.pointer (some ⟨w.heap.size, 0, none⟩), { w with heap := w.heap.push (.stringIter s 0) }, [(w.heap.size, .stringIter s 0)] :: M, .inl ?_, m.push (w' := { w with heap := w.heap.push (.stringIter s 0) }) rfl, h _⟩
  simp [execOp, Instr.range, hx, run_underlying hT, Result.andThen]
theorem Runs_nextA {i r p : Nat} {s : ByteArray} (hx : ev c.n ρ x = .pointer (some ⟨r, 0, none⟩)) (hi : M[i]? = some (itC r s p)) (hp : p < s.size) (ha : (s[p]'hp).toNat < 128)
    (h : K (.tuple ⟨[.bool true, .int .i64 p, .int .i32 ((s[p]'hp).toNat : Int)]⟩) (M.set i (itC r s (p + 1)))) : Runs c H ⟨d, .next x true, ot, pos, af, g⟩ ρ M K := fun F w m => by
  have hb : w.heap[r]? = some (.stringIter s p) := (m.perm ((Yn hi).append_right F)).own r _ (List.mem_cons_self ..)
  refine ⟨_, _, _, .inl ?_, m.put (o' := .stringIter s (p + 1)) hi, h⟩
  have hg : (getObj r).run c.P w = .ok (.stringIter s p) w := by simp [getObj, Sem.run, hb]
  have hs : (setObj r (.stringIter s (p + 1))).run c.P w = .ok () { w with heap := w.heap.setIfInBounds r (.stringIter s (p + 1)) } := by simp [setObj, Sem.run, hb]
  simp only [execOp, Instr.next, hx, Sem.run_bind, hg, Result.andThen, hp, if_true, decode_ascii s p hp ha, hs]
  simp [goInt]
theorem Runs_nextE {i r p : Nat} {s : ByteArray} (hx : ev c.n ρ x = .pointer (some ⟨r, 0, none⟩)) (hi : M[i]? = some (itC r s p)) (hp : ¬ p < s.size)
    (h : K (.tuple ⟨[.bool false]⟩) M) : Runs c H ⟨d, .next x true, ot, pos, af, g⟩ ρ M K := fun F w m => by
  have hb : w.heap[r]? = some (.stringIter s p) := (m.perm ((Yn hi).append_right F)).own r _ (List.mem_cons_self ..)
  refine ⟨_, _, _, .inl ?_, m, h⟩
  have hg : (getObj r).run c.P w = .ok (.stringIter s p) w := by simp [getObj, Sem.run, hb]
  simp [execOp, Instr.next, hx, hg, Result.andThen, hp]
end
theorem w32 {a : Int} (h : -2147483648 ≤ a ∧ a ≤ 2147483647) : IntKind.i32.wrap a = a := by
  exact IntWalk.i32_in a h
section
variable {P : Program} {e : Operand → Value} {T T' : TypeId} {x : Operand} {k : IntKind} {a : Int} {d : Option Nat} {ot : TypeId} {pos : String} {af : Array Edge} {g : Option (Nat × Bool)}
theorem Pu.convS {s : ByteArray} {t : TypeDesc} (hs : ∀ w, (underlying T).run P w = .ok t w) (hT : ∀ w, (underlying T').run P w = .ok .string w) (hx : e x = .int k a) (hv : Utf8.encode a = s) : Pu P e ⟨d, .convert T T' x, ot, pos, af, g⟩ (.string s) := fun w => by
  subst hv
  simp [execOp, convert, hs, hT, hx, Result.andThen, Conv.intToString]
end
theorem ltr_size (i : Nat) : (ltr i).size = 1 := rfl
theorem ltr_get (i : Nat) (h : i < 26) : ((ltr i)[0]'(by rw [ltr_size]; decide)).toNat = 97 + i := by
  show (UInt8.ofNat (97 + i)).toNat = 97 + i
  simp; omega
theorem ltr_enc : ∀ i : Nat, i < 26 → Utf8.encode ((97 + i : Nat) : Int) = ltr i := by decide
theorem ltr_enc' (i : Nat) (h : i < 26) : Utf8.encode (97 + (i : Int)) = ltr i := by have := ltr_enc i h; simpa using this
section
variable {c : Cx} {H : Heap} {ρ : Nat → Value} {M : List Zi} {K : Value → List Zi → Prop} {d : Option Nat} {ot : TypeId} {pos : String} {af : Array Edge} {g : Option (Nat × Bool)} {x : Operand}
theorem Runs_nextL {i r k : Nat} (hx : ev c.n ρ x = .pointer (some ⟨r, 0, none⟩)) (hi : M[i]? = some (itC r (ltr k) 0)) (hk : k < 26)
    (h : K (.tuple ⟨[.bool true, .int .i64 0, .int .i32 (97 + (k : Int))]⟩) (M.set i (itC r (ltr k) 1))) : Runs c H ⟨d, .next x true, ot, pos, af, g⟩ ρ M K := by
  have hg := ltr_get k hk
  refine Runs_nextA hx hi (by rw [ltr_size]; decide) (by omega) ?_
  rw [hg]
  simpa using h
end
def markL (i : Nat) (l : List Bool) : List Bool := if i < l.length then l.set i true else l
/-- What is known of a term with names: the names on the way down, one Kid after the other. -/
def NC : List (List ByteArray) → List Value → Zi → Prop
  | [], cs, _ => cs.length = 37 ∧ okc cs
  | x :: xs, cs, c => ∃ k n r ns ks cv e k1 k2 k3, cs = pkT k n r ns ks ++ [cv] ∧ cv.oneCell' = true ∧ Own 9 1 ns (YG x) k1 ∧ Own 68 37 ks [e] k2 ∧ NC xs e k3 ∧ c = k1 ++ (k2 ++ k3)
theorem NC.len : ∀ {xs : List (List ByteArray)} {cs : List Value} {c : Zi}, NC xs cs c → cs.length = 37
  | [], _, _, h => h.1
  | _ :: _, _, _, ⟨_, _, _, _, _, _, _, _, _, _, h, _⟩ => by rw [h]; rfl
theorem NC.ok : ∀ {xs : List (List ByteArray)} {cs : List Value} {c : Zi}, NC xs cs c → okc cs
  | [], _, _, h => h.2
  | _ :: _, _, _, ⟨_, _, _, _, _, _, _, _, _, _, h, h1, h2, h3, _⟩ => by rw [h]; exact Yg (ZS h2.one h3.one) (Zf h1 Zo)
theorem spl_l {a b a' vs : List Value} {off : Nat} (h : spl a off vs = some a') : spl (a ++ b) off vs = some (a' ++ b) := by
  obtain ⟨h1, h2⟩ := spl_some h
  rw [spl_mk (by rw [List.length_append]; omega), h2, List.take_append_of_le_length (by omega), List.drop_append_of_le_length (by omega)]
  simp
theorem markL_len (i : Nat) (l : List Bool) : (markL i l).length = l.length := by unfold markL; split <;> simp
theorem int_r {P : Program} {f : FuncId} {a : Array Value} {M : List Zi} {H : Heap} {x r : Int} (h : CT P f a M H (fun v N => v = .int .i64 x ∧ N = [])) (hr : x = r) : CT P f a M H (fun v N => v = .int .i64 r ∧ N = []) := hr ▸ h
noncomputable def eqL {α : Type} (l m : List α) : Bool := @decide (l = m) (Classical.propDecidable _)
theorem eqL_true {α : Type} {l m : List α} (h : l = m) : eqL l m = true := by unfold eqL; simp [h]
theorem eqL_false {α : Type} {l m : List α} (h : ¬ l = m) : eqL l m = false := by unfold eqL; simp [h]
end Go.Proofs.YtkjafeejpmcnkaaGreat.Hs
/-! The examples of the chapter, in Xx Lean. -/
namespace Go.Proofs.YtkjafeejpmcnkaaGreat.Hs
open Go Go.Proofs
def eVa (n : Int) : Tm := .mk 1 n zS [] []
def eNu (n : Int) : Tm := .mk 2 n zS [] []
def eLa (t : Tm) : Tm := .mk 3 0 zS [t] []
def eAp (t u : Tm) : Tm := .mk 4 0 zS [t, u] []
def eLam : Tm := eLa (eAp (eVa 0) (eVa 1))
theorem free_lam : freeE eLam = ([0], 0) := by kernel_rfl
theorem five_lam : substP eLam 0 (eNu 5) = (eLa (eAp (eVa 0) (eNu 5)), 0) := by kernel_rfl
theorem three_lam : substP eLam 0 (eVa 3) = (eLa (eAp (eVa 0) (eVa 4)), 0) := by kernel_rfl
theorem up_lam : shiftP eLam 2 0 = (eLa (eAp (eVa 0) (eVa 3)), 0) := by kernel_rfl
theorem down_va : shiftP (eVa 0) (-1) 0 = (zT, 1) := by kernel_rfl
def eLL : Tm := eLa (eLa (eVa 1))
theorem right_ll : ZO [eLL] = 0 := by kernel_rfl
theorem free_ll : freeE eLL = ([], 0) := by kernel_rfl
theorem check_h2 : Xj 0 0 (.mk 12 0 zS [eNu 1, eVa 0] []) = 0 := by kernel_rfl
theorem check_h1 : Xj 0 0 (.mk 12 0 zS [eNu 1] []) = 2 := by kernel_rfl
/-- the cells of the first of two results -/
def tcel : Value → List Value
  | .tuple ⟨[.agg ⟨cs⟩, _]⟩ => cs
  | _ => []
theorem ble_at {P : Program} {f : FuncId} {a : Array Value} {M : List Zi} {H : Heap} {x : Tm × Int} {d : Tm} {e : Int} (h : CT P f a M H (fun v N => ∃ cs k, v = .tuple ⟨[.agg ⟨cs⟩, .int .i64 x.2]⟩ ∧ N = [k] ∧ OT x.1 cs k)) (hx : x = (d, e)) :
    CT P f a M H (fun v N => ∃ cs k, v = .tuple ⟨[.agg ⟨cs⟩, .int .i64 e]⟩ ∧ N = [k] ∧ OT d cs k) := by subst hx; exact h
theorem bool_r {P : Program} {f : FuncId} {a : Array Value} {M : List Zi} {H : Heap} {x r : Bool} (h : CT P f a M H (fun v N => v = .bool x ∧ N = [])) (hr : x = r) : CT P f a M H (fun v N => v = .bool r ∧ N = []) := hr ▸ h
section
variable {c : Cx} {H : Heap} {ρ : Nat → Value} {M : List Zi} {K : Value → List Zi → Prop} {d : Option Nat} {ot : TypeId} {pos : String} {af : Array Edge} {g : Option (Nat × Bool)} {x y : Operand}
/-- the first nothing of a slice -/
theorem Runs_slice0 {T el : TypeId} {sz n cap : Nat} {a : Option Addr} {k : IntKind} (hT : ∀ w, (underlying T).run c.P w = .ok (.slice el) w) (hsz : ∀ w, (sizeOf el).run c.P w = .ok sz w) (hx : ev c.n ρ x = .slice a n cap) (hy : ev c.n ρ y = .int k 0)
    (h : ∀ a' cap', K (.slice a' 0 cap') M) : Runs c H ⟨d, .slice T x none (some y) none, ot, pos, af, g⟩ ρ M K := fun F w m => by
  refine ⟨_, w, M, .inl ?_, m, h (if cap = 0 then a else a.map (·.add (0 * sz))) (cap - 0)⟩
  simp [execOp, Instr.sliceAt, Instr.slice, Instr.sliceBounds, Instr.sliceBound, asIntOf, hx, hy, hT, hsz, Result.andThen]
end
end Go.Proofs.YtkjafeejpmcnkaaGreat.Hs
/-! Layer 4, the Xx law, third part: sizes. No program here. -/
namespace Go.Proofs.YtkjafeejpmcnkaaGreat.Hs
open Go
theorem great_size {t : Tm} (h : (cnT stG 0 t 0).1 = false) : sizeT t ≤ 400 := by
  have h1 := cnT_size t 0 0 h
  have h2 := cnGT_le t 0 0 h
  omega
theorem checkR_ok {t : Tm} (h : ZX 60 8 t = 0) : sizeT t ≤ 300 ∧ vOK t ∧ tidy t := by
  have := Yv (by rw [check_eq]; exact h : Xj 60 8 t = 0)
  exact ⟨this.1, this.2.1, this.2.2.1⟩
end Go.Proofs.YtkjafeejpmcnkaaGreat.Hs
/-! Layer 4, the Xx law of moving: maps composed; what is right stays right. No program here. -/
namespace Go.Proofs.YtkjafeejpmcnkaaGreat.Hs
open Go
theorem nErr_iff {d m b k n : Int} {r : Sm} {kids : List Tm} {cases : List (Pt × Tm)} : YP d m b (.mk k n r kids cases) = 0 ↔ Y7 d m b k n r kids.length cases.length = 0 ∧ Y6 cases = 0 ∧ Xf d m b k 0 kids = 0 ∧ Xs d m b cases = 0 := by
  rw [YP]
  constructor
  · intro h
    split at h
    · split at h
      · split at h
        · exact ⟨by assumption, by assumption, by assumption, h⟩
        · rename_i h0; exact absurd h h0
      · rename_i h0; exact absurd h h0
    · rename_i h0; exact absurd h h0
  · rintro ⟨h1, h2, h3, h4⟩
    rw [if_pos h1, if_pos h2, if_pos h3, h4]
theorem checkR_iff {d m : Int} {t : Tm} : ZX d m t = 0 ↔ Xt t = false ∧ YP d m 0 t = 0 := by
  unfold ZX
  cases Xt t <;> simp
end Go.Proofs.YtkjafeejpmcnkaaGreat.Hs
/-! What is right fits. -/
namespace Go.Proofs.YtkjafeejpmcnkaaGreat.Hs
open Go Go.Proofs
theorem depP_ge (p : Pt) : 1 ≤ depP p := by
  cases p with
  | mk k n r kids =>
    rw [depP]
    have : 0 ≤ XF kids := by
      induction kids with
      | nil => rw [XF]; omega
      | cons x l ih => rw [XF]; omega
    omega
theorem pt_fit (p : Pt) : ∀ d : Int, YY p = 0 → d + depP p ≤ 63 → fitP p d := by
  induction p using Pt.ind with
  | h k n r kids ih =>
    intro d h hd
    have hge := depP_ge (.mk k n r kids)
    rw [YY] at h
    rw [depP] at hd hge
    split at h
    · rename_i hh
      have hK : ∀ (l : List Pt) (d : Int), (∀ x ∈ l, ∀ d : Int, YY x = 0 → d + depP x ≤ 63 → fitP x d) → Xy l = 0 → d + XF l ≤ 63 → fitPs l d := by
        intro l
        induction l with
        | nil => intro d _ _ _; rw [fitPs]; trivial
        | cons x l ihl =>
          intro d hl h hd
          rw [Xy] at h
          rw [XF] at hd
          split at h
          · rename_i hx
            rw [fitPs]
            exact ⟨hl x (by simp) d hx (by omega), ihl d (fun y hy => hl y (by simp [hy])) h (by omega)⟩
          · rename_i hx; exact absurd h hx
      rw [fitP]
      unfold pHead at hh
      split at hh
      · cases hh
      · split at hh
        · cases hh
        · rename_i q1 q2
          refine ⟨by omega, by omega, fun z => Classical.byContradiction fun z2 => q2 (.inr ⟨z, z2⟩), hK kids _ ih h (by omega)⟩
    · rename_i hh; exact absurd h hh
theorem tm_fit {D M : Int} (t : Tm) : ∀ d b : Int, YP D M b t = 0 → d + depT t ≤ 63 → fitT t d := by
  induction t using Tm.ind with
  | h k n r kids cases ih ih' =>
    intro d b h hd
    obtain ⟨h1, h2, h3, h4⟩ := nErr_iff.1 h
    rw [depT] at hd
    have hns := depTs_nn kids
    have hK : ∀ (l : List Tm) (i : Nat) (d : Int), (∀ x ∈ l, ∀ d b : Int, YP D M b x = 0 → d + depT x ≤ 63 → fitT x d) → Xf D M b k i l = 0 → d + depTs l ≤ 63 → fitTs l d := by
      intro l
      induction l with
      | nil => intro i d _ _ _; rw [fitTs]; trivial
      | cons x l ihl =>
        intro i d hl h hd
        rw [Xf] at h
        rw [depTs] at hd
        split at h
        · rename_i hx
          rw [fitTs]
          exact ⟨hl x (by simp) d _ hx (by omega), ihl (i + 1) d (fun y hy => hl y (by simp [hy])) h (by omega)⟩
        · rename_i hx; exact absurd h hx
    have hC : ∀ (l : List (Pt × Tm)) (d : Int), (∀ c ∈ l, ∀ d b : Int, YP D M b c.2 = 0 → d + depT c.2 ≤ 63 → fitT c.2 d) → Y6 l = 0 → Xs D M b l = 0 → d + depCs l ≤ 63 → fitCs l d := by
      intro l
      induction l with
      | nil => intro d _ _ _ _; rw [fitCs]; trivial
      | cons c l ihl =>
        intro d hl hp h hd
        obtain ⟨p, x⟩ := c
        rw [Xs] at h
        rw [Y6] at hp
        rw [depCs] at hd
        split at hp
        · rename_i hpx
          split at h
          · rename_i hx
            rw [fitCs]
            exact ⟨⟨pt_fit p d hpx (by omega), hl (p, x) (by simp) d _ hx (by simp only; omega)⟩, ihl d (fun y hy => hl y (by simp [hy])) hp h (by omega)⟩
          · rename_i hx; exact absurd h hx
        · rename_i hpx; exact absurd hp hpx
    rw [fitT]
    unfold Y7 at h1
    split at h1
    · cases h1
    · split at h1
      · cases h1
      · rename_i q1 q2
        refine ⟨by omega, by omega, fun z => Classical.byContradiction fun z2 => q2 (.inl (.inr ⟨z, z2⟩)), hK kids 0 _ ih h3 (by omega), hC cases _ ih' h2 h4 (by omega)⟩
theorem rd_right {t : Tm} (h : ZX 60 8 t = 0) : tmG (itT t) 1 (0, false) = (t, ((sizeT t : Int), false)) := by
  obtain ⟨h1, h2⟩ := checkR_iff.1 h
  have h3 : ¬ (300 < sizeT t ∨ 60 < depT t) := fun z => by rw [(longB_eq t).2 z] at h1; cases h1
  have := tm_back t 1 0 (tm_fit t 1 0 h2 (by omega)) (by omega)
  rw [this]
  simp
/-- what FromItem of the program answers -/
noncomputable def fromP (x : It) : Tm × Int := if (tmG x 1 (0, false)).2.2 = true ∨ ¬ ZX 60 8 (tmG x 1 (0, false)).1 = 0 then (zT, 4) else ((tmG x 1 (0, false)).1, 0)
theorem from_right {t : Tm} (h : ZX 60 8 t = 0) : fromP (itT t) = (t, 0) := by
  unfold fromP
  rw [rd_right h, if_neg]
  rintro (z | z)
  · cases z
  · exact z h
theorem from_is {x : It} (hk : okI x) (h : (fromP x).2 = 0) : itT (fromP x).1 = x ∧ ZX 60 8 (fromP x).1 = 0 := by
  unfold fromP at h ⊢
  split at h
  · cases h
  · rename_i hh
    rw [if_neg hh]
    refine ⟨tmG_is x 1 (0, false) (Bool.eq_false_iff.2 (fun z => hh (.inl z))) hk, Classical.byContradiction fun z => hh (.inr z)⟩
end Go.Proofs.YtkjafeejpmcnkaaGreat.Hs
/-! Structs of which a part is given. -/
namespace Go.Proofs.YtkjafeejpmcnkaaGreat.Hs
open Go Go.Proofs
set_option maxRecDepth 100000
end Go.Proofs.YtkjafeejpmcnkaaGreat.Hs
/-! An item read from bytes: what holds on the way. -/
namespace Go.Proofs.YtkjafeejpmcnkaaGreat.Hs
open Go Go.Proofs
/-! the item -/
section
variable {l : List Int} {f a c : Nat} {n : Int} {t : ByteArray} {a' c' w e w0 : Int} {x : It}
end
end Go.Proofs.YtkjafeejpmcnkaaGreat.Hs
/-! An item read from bytes, as the program reads it; both answers. -/
namespace Go.Proofs.YtkjafeejpmcnkaaGreat.Hs
open Go Go.Proofs
section
variable {l : List Int} {f a c : Nat} {n : Int} {t : ByteArray} {a' c' e : Int} {x : It} {ok : Bool}
variable {w w0 : Int}
end
end Go.Proofs.YtkjafeejpmcnkaaGreat.Hs
/-! What TermChecks asks beside, in Xx Lean; readings of a match. -/
namespace Go.Proofs.YtkjafeejpmcnkaaGreat.Hs
open Go Go.Proofs
section
variable {P : Program} {e : Operand → Value} {i : Oper}
theorem Pu.to {v v' : Value} (h : Pu P e i v) (q : v = v') : Pu P e i v' := q ▸ h
end
end Go.Proofs.YtkjafeejpmcnkaaGreat.Hs
/-! Copies of slices of numbers. -/
namespace Go.Proofs.YtkjafeejpmcnkaaGreat.Hs
open Go Go.Proofs
set_option maxRecDepth 100000
/-- A slice of bytes, as cells read. -/
def RB (_ : Heap) (cs : List Value) (n : Int) : Prop := cs = [.int .u8 n]
theorem RBs.mono {h h' : Heap} (hh : Hle h h') {v : Value} {l : List Int} (q : Hs.rdS RB 1 h v l) : Hs.rdS RB 1 h' v l := rdS.mono q hh fun _ _ _ e => e
def Yd (l : List Int) : List (List Value) := l.map fun n => [.int .u8 n]
theorem Yh (l : List Int) : (Yd l).length = l.length := by simp [Yd]
theorem byts_len1 (l : List Int) : ∀ e ∈ Yd l, e.length = 1 := by
  intro e he; obtain ⟨x, _, rfl⟩ := List.mem_map.1 he; rfl
theorem byts_ok (l : List Int) : ∀ e ∈ Yd l, okc e := by
  intro e he v hv; obtain ⟨x, _, rfl⟩ := List.mem_map.1 he; simp only [List.mem_singleton] at hv; subst hv; rfl
theorem num_src {P : Program} {H : Heap} {v : Value} {l : List Int} {E : Heap → List Value → Int → Prop} {f : Int → Value} (hE : ∀ h cs x, E h cs x → cs = [f x]) (h : Hs.rdS E 1 H v l) : ∀ w L, Mem w L H → Src P 1 w v l.length (l.map fun n => [f n]).flatten := by
  obtain ⟨es, e1, e2, e3, e4⟩ := rdS.src (P := P) h
  have : es = l.map fun n => [f n] := by
    apply List.ext_getElem
    · rw [e1, List.length_map]
    · intro i h1 h2
      have := hE _ _ _ (e2 i h1 (by omega))
      rw [this, List.getElem_map]
  subst this
  intro w L m
  exact e4 w L H (Hle.refl _) m
theorem byts_src {P : Program} {H : Heap} {v : Value} {l : List Int} (h : Hs.rdS RB 1 H v l) : ∀ w L, Mem w L H → Src P 1 w v l.length (Yd l).flatten := num_src (fun _ _ _ e => e) h
theorem own_byts {T : TypeId} {v : Value} {l : List Int} {k : Zi} {h : Heap} (o : Own T 1 v (Yd l) k) (hn : l.length ≤ 9223372036854775807) (hk : Has k h) : Hs.rdS RB 1 h v l :=
  o.rdS (Yh l).symm hn hk fun i h1 h2 => by simp [Yd, RB]
section
variable {P : Program} {e : Operand → Value} {d : Option Nat} {ot : TypeId} {pos : String} {af : Array Edge} {g : Option (Nat × Bool)} {T T' : TypeId} {x y z : Operand}
end
end Go.Proofs.YtkjafeejpmcnkaaGreat.Hs
/-! Walks, printed by a program of this session's own (gen.py). -/
namespace Go.Proofs.YtkjafeejpmcnkaaGreat.Hs
open Go Go.Proofs
set_option maxRecDepth 100000
set_option linter.unusedVariables false
set_option linter.unusedSimpArgs false
attribute [local irreducible] JL J CT wlo DT
end Go.Proofs.YtkjafeejpmcnkaaGreat.Hs
/-! Walks, printed by a program of this session's own (gen.py). -/
namespace Go.Proofs.YtkjafeejpmcnkaaGreat.Hs
open Go Go.Proofs
set_option maxRecDepth 100000
set_option linter.unusedVariables false
set_option linter.unusedSimpArgs false
attribute [local irreducible] JL J CT wlo DT
end Go.Proofs.YtkjafeejpmcnkaaGreat.Hs
/-! Walks, printed by a program of this session's own (gen.py). -/
namespace Go.Proofs.YtkjafeejpmcnkaaGreat.Hs
open Go Go.Proofs
set_option maxRecDepth 100000
set_option linter.unusedVariables false
set_option linter.unusedSimpArgs false
attribute [local irreducible] JL J CT wlo DT
end Go.Proofs.YtkjafeejpmcnkaaGreat.Hs
/-! Walks, printed by a program of this session's own (gen.py). -/
namespace Go.Proofs.YtkjafeejpmcnkaaGreat.Hs
open Go Go.Proofs
set_option maxRecDepth 100000
set_option linter.unusedVariables false
set_option linter.unusedSimpArgs false
attribute [local irreducible] JL J CT wlo DT
end Go.Proofs.YtkjafeejpmcnkaaGreat.Hs
/-! Walks, printed by a program of this session's own (gen.py). -/
namespace Go.Proofs.YtkjafeejpmcnkaaGreat.Hs
open Go Go.Proofs
set_option maxRecDepth 100000
set_option linter.unusedVariables false
set_option linter.unusedSimpArgs false
attribute [local irreducible] JL J CT wlo DT
theorem far_ct (H : Heap) (bG : Nat) (n d : Int) (w : Bool) (hn : 0 ≤ n) (hn1 : n ≤ 1000000000) : CT Tryz.prog 98 ⟨[pp bG 0, iv d]⟩ [(BX bG [iv n, .bool w] 104)] H (fun r N => r = .bool (w || decide (600 < n + 1) || decide (62 < d)) ∧ N = [(BX bG [iv (n + 1), .bool (w || decide (600 < n + 1) || decide (62 < d))] 104)]) := by
 refine Zm Tryz.func98 rfl rfl <| Zc <| Za <| JLA rfl <| Zb <| Zc <| Za <| JLM rfl <| JLq (pp bG 0) (Pu.nilCheck rfl) <| JLq (pp bG 0) (fa104_0 rfl rfl) <| JLq (pp bG 0) (fa102_0 rfl rfl) <| JLr (Zd ty3 rfl (At.bx 0 rfl) rfl <| JLn (Pu.add64 rfl rfl (by first | omega | (constructor <;> omega))) ?_)
 refine JLq (pp bG 0) (Pu.nilCheck rfl) <| JLq (pp bG 0) (fa104_0 rfl rfl) <| JLq (pp bG 0) (fa102_0 rfl rfl) <| JLr (Ze 0 (vs := [iv (n + 1)]) (l := [iv (n + 1), .bool w]) ty3 rfl rfl rfl rfl rfl (Zf rfl Zo) rfl <| Zb <| Zc <| Za <| JLM rfl <| JLM rfl <| JLq (pp bG 0) (Pu.nilCheck rfl) <| JLq (pp bG 1) (YZ rfl rfl) <| JLr (Zd ty4 rfl (At.bx 0 rfl) rfl <| JLM rfl ?_))
 cases h1 : w with
 | true =>
  iterate 6 refine ZD rfl ?_
  refine JLq (.bool true) (Pu.pickT rfl rfl) <| JLM rfl ?_
  iterate 2 refine ZD rfl ?_
  refine JLq (.bool true) (Pu.pickT rfl rfl) <| JLq (pp bG 0) (Pu.nilCheck rfl) <| JLq (pp bG 1) (YZ rfl rfl) <| JLr (Ze 0 (vs := [.bool true]) (l := [iv (n + 1), .bool true]) ty4 rfl rfl rfl rfl rfl (Zf rfl Zo) rfl <| Zb <| Zc <| Za <| JLM rfl <| JLq (pp bG 0) (Pu.nilCheck rfl) <| JLq (pp bG 1) (YZ rfl rfl) <| JLr (Zd ty4 rfl (At.bx 0 rfl) rfl <| JLA rfl <| Zb ?_))
  refine Zl <| ⟨.bool true, [(BX bG [iv (n + 1), .bool true] 104)], Ret.one rfl (RV.tmp rfl), (Sk Sub.nil), ?_⟩
  exact ⟨rfl, rfl⟩
 | false =>
  refine JLM rfl <| JLq (pp bG 0) (Pu.nilCheck rfl) <| JLq (pp bG 0) (fa104_0 rfl rfl) <| JLq (pp bG 0) (fa102_0 rfl rfl) <| JLr (Zd ty3 rfl (At.bx 0 rfl) rfl <| JLn (Pu.gtr rfl rfl) <| JLq (.bool (decide (600 < n + 1))) (Pu.pickF rfl rfl) <| JLM rfl ?_)
  cases h2 : (decide (600 < n + 1)) with
  | true =>
   replace h2 := dt h2
   iterate 2 refine ZD rfl ?_
   refine JLq (.bool true) (Pu.pickT rfl rfl) <| JLq (pp bG 0) (Pu.nilCheck rfl) <| JLq (pp bG 1) (YZ rfl rfl) <| JLr (Ze 0 (vs := [.bool true]) (l := [iv (n + 1), .bool true]) ty4 rfl rfl rfl rfl rfl (Zf rfl Zo) rfl <| Zb <| Zc <| Za <| JLM rfl <| JLq (pp bG 0) (Pu.nilCheck rfl) <| JLq (pp bG 1) (YZ rfl rfl) <| JLr (Zd ty4 rfl (At.bx 0 rfl) rfl <| JLA rfl <| Zb ?_))
   refine Zl <| ⟨.bool true, [(BX bG [iv (n + 1), .bool true] 104)], Ret.one rfl (RV.tmp rfl), (Sk Sub.nil), ?_⟩
   exact ⟨rfl, rfl⟩
  | false =>
   replace h2 := df h2
   refine JLM rfl <| JLn (Pu.gtr rfl rfl) <| JLq (.bool (decide (62 < d))) (Pu.pickF rfl rfl) <| JLq (pp bG 0) (Pu.nilCheck rfl) <| JLq (pp bG 1) (YZ rfl rfl) <| JLr (Ze 0 (vs := [.bool (decide (62 < d))]) (l := [iv (n + 1), .bool (decide (62 < d))]) ty4 rfl rfl rfl rfl rfl (Zf rfl Zo) rfl <| Zb <| Zc <| Za <| JLM rfl <| JLq (pp bG 0) (Pu.nilCheck rfl) <| JLq (pp bG 1) (YZ rfl rfl) <| JLr (Zd ty4 rfl (At.bx 0 rfl) rfl ?_))
   refine JLA rfl <| Zb <| Zl <| ⟨.bool (decide (62 < d)), [(BX bG [iv (n + 1), .bool (decide (62 < d))] 104)], Ret.one rfl (RV.tmp rfl), (Sk Sub.nil), ?_⟩
   exact ⟨rfl, rfl⟩
end Go.Proofs.YtkjafeejpmcnkaaGreat.Hs
/-! Walks, printed by a program of this session's own (gen.py). -/
namespace Go.Proofs.YtkjafeejpmcnkaaGreat.Hs
open Go Go.Proofs
set_option maxRecDepth 100000
set_option linter.unusedVariables false
set_option linter.unusedSimpArgs false
attribute [local irreducible] JL J CT wlo DT
theorem more_ct (k j : Int) (H : Heap) : CT Tryz.prog 105 ⟨[iv k, iv j]⟩ [] H (fun v N => v = iv (Z8 k j) ∧ N = []) := by
 refine Zm Tryz.func105 rfl rfl <| Zc <| Za <| JLA rfl <| Zb <| Zc <| Zn <| Zc <| Zc <| Za <| JLM rfl <| JLn (Pu.eql rfl rfl) <| JLA rfl ?_
 refine Zb <| Zg rfl (fun h1 => ?_) (fun h1 => ?_)
 ·replace h1 := dt h1
  refine Zj <| Zg rfl (fun _ => ?_) (fun h2 => absurd h1 (df h2))
  refine Zc <| Za <| JLA rfl <| Zb <| Zl <| ⟨iv 1, [], Ret.one rfl (RV.tmp rfl), Sub.nil, ?_⟩
  exact ⟨by first | (simp_all [Z8]; done) | (congr 1; unfold Z8; simp_all; try omega), rfl⟩
 replace h1 := df h1
 refine Zc <| Za <| JLM rfl <| JLn (Pu.eql rfl rfl) <| JLM rfl <| Zv 2 [11, 12] [(12, cond (decide (k = 5)) (.bool (decide (j = 1))) undef)] ?_ fun f4 => ?_
 ·cases h3 : (decide (k = 5)) with
  | true =>
   replace h3 := dt h3
   refine JLM rfl <| JLn (Pu.eql rfl rfl) ?_
   exact Zb ⟨⟨rfl, trivial⟩, rfl⟩
  | false =>
   exact Zy rfl ⟨rfl, trivial⟩
 refine JLn (Pu.pickAnd rfl rfl rfl) <| JLA rfl <| Zb <| Zg rfl (fun h5 => ?_) (fun h5 => ?_)
 ·obtain ⟨h5a, h5b⟩ := YC h5
  replace h5a := dt h5a
  replace h5b := dt h5b
  refine Zj <| Zg rfl (fun h6 => ?_) (fun h6 => ?_)
  ·obtain ⟨h6a, h6b⟩ := YC h6
   replace h6a := dt h6a
   replace h6b := dt h6b
   refine Zc <| Za <| JLA rfl <| Zb <| Zl <| ⟨iv 1, [], Ret.one rfl (RV.tmp rfl), Sub.nil, ?_⟩
   exact ⟨by first | (simp_all [Z8]; done) | (congr 1; unfold Z8; simp_all; try omega), rfl⟩
  refine Zc <| Za <| JLM rfl <| JLn (Pu.eql rfl rfl) <| JLM rfl <| Zv 2 [24, 25] [(25, cond (decide (k = 12)) (.bool (decide (1 < j))) undef)] ?_ fun f8 => ?_
  ·cases h7 : (decide (k = 12)) with
   | true =>
    replace h7 := dt h7
    refine JLM rfl <| JLn (Pu.gtr rfl rfl) ?_
    exact Zb ⟨⟨rfl, trivial⟩, rfl⟩
   | false =>
    exact Zy rfl ⟨rfl, trivial⟩
  refine JLn (Pu.pickAnd rfl rfl rfl) <| JLA rfl <| Zb <| Zg rfl (fun h9 => ?_) (fun h9 => ?_)
  ·obtain ⟨h9a, h9b⟩ := YC h9
   replace h9a := dt h9a
   replace h9b := dt h9b
   refine Zc <| Za <| JLA rfl <| Zb <| Zl <| ⟨iv 2, [], Ret.one rfl (RV.tmp rfl), Sub.nil, ?_⟩
   exact ⟨by first | (simp_all [Z8]; done) | (congr 1; unfold Z8; simp_all; try omega), rfl⟩
  refine Zj <| Zc <| Za <| JLA rfl <| Zb <| Zl <| ⟨iv 0, [], Ret.one rfl (RV.tmp rfl), Sub.nil, ?_⟩
  exact ⟨by first | (simp_all [Z8]; done) | (congr 1; unfold Z8; simp_all; try omega), rfl⟩
 refine Za <| JLM rfl <| JLn (Pu.eql rfl rfl) <| JLM rfl <| Zv 2 [17, 18] [(18, cond (decide (k = 12)) (.bool (decide (j = 1))) undef)] ?_ fun f11 => ?_
 ·cases h10 : (decide (k = 12)) with
  | true =>
   replace h10 := dt h10
   refine JLM rfl <| JLn (Pu.eql rfl rfl) ?_
   exact Zb ⟨⟨rfl, trivial⟩, rfl⟩
  | false =>
   exact Zy rfl ⟨rfl, trivial⟩
 refine JLn (Pu.pickAnd rfl rfl rfl) <| JLA rfl <| Zb <| Zg rfl (fun h12 => ?_) (fun h12 => ?_)
 ·obtain ⟨h12a, h12b⟩ := YC h12
  replace h12a := dt h12a
  replace h12b := dt h12b
  refine Zc <| Za <| JLA rfl <| Zb <| Zl <| ⟨iv 1, [], Ret.one rfl (RV.tmp rfl), Sub.nil, ?_⟩
  exact ⟨by first | (simp_all [Z8]; done) | (congr 1; unfold Z8; simp_all; try omega), rfl⟩
 refine Zc <| Za <| JLM rfl <| JLn (Pu.eql rfl rfl) <| JLM rfl <| Zv 2 [24, 25] [(25, cond (decide (k = 12)) (.bool (decide (1 < j))) undef)] ?_ fun f14 => ?_
 ·cases h13 : (decide (k = 12)) with
  | true =>
   replace h13 := dt h13
   refine JLM rfl <| JLn (Pu.gtr rfl rfl) ?_
   exact Zb ⟨⟨rfl, trivial⟩, rfl⟩
  | false =>
   exact Zy rfl ⟨rfl, trivial⟩
 refine JLn (Pu.pickAnd rfl rfl rfl) <| JLA rfl <| Zb <| Zg rfl (fun h15 => ?_) (fun h15 => ?_)
 ·obtain ⟨h15a, h15b⟩ := YC h15
  replace h15a := dt h15a
  replace h15b := dt h15b
  refine Zc <| Za <| JLA rfl <| Zb <| Zl <| ⟨iv 2, [], Ret.one rfl (RV.tmp rfl), Sub.nil, ?_⟩
  exact ⟨by first | (simp_all [Z8]; done) | (congr 1; unfold Z8; simp_all; try omega), rfl⟩
 refine Zj <| Zc <| Za <| JLA rfl <| Zb <| Zl <| ⟨iv 0, [], Ret.one rfl (RV.tmp rfl), Sub.nil, ?_⟩
 exact ⟨by first | (simp_all [Z8]; done) | (congr 1; unfold Z8; simp_all; try omega), rfl⟩
theorem YO (n lo hi : Int) (H : Heap) : CT Tryz.prog 65 ⟨[iv n, iv lo, iv hi]⟩ [] H (fun v N => v = .bool (decide (n < lo ∨ hi < n)) ∧ N = []) := by
 refine Zm Tryz.func65 rfl rfl <| Zc <| Za <| JLA rfl <| Zb <| Zc <| Za <| JLM rfl <| JLM rfl <| JLn (Pu.lss rfl rfl) <| JLM rfl <| Zv 3 [11, 12, 13] [(13, cond (decide (n < lo)) undef (.bool (decide (hi < n))))] ?_ fun f2 => ?_
 ·cases h1 : (decide (n < lo)) with
  | false =>
   replace h1 := df h1
   refine JLM rfl <| JLM rfl <| JLn (Pu.gtr rfl rfl) ?_
   exact Zb ⟨⟨rfl, trivial⟩, rfl⟩
  | true =>
   exact Zy rfl ⟨rfl, trivial⟩
 refine JLn (Pu.pickOr rfl rfl rfl) <| JLA rfl <| Zb <| Zl <| ⟨.bool ((decide (n < lo)) || (decide (hi < n))), [], Ret.one rfl (RV.tmp rfl), Sub.nil, ?_⟩
 exact ⟨by simp, rfl⟩
theorem binds_ct : ∀ (p : Pt) (cs : List Value) (H : Heap), RP H cs p → binds p ≤ 1000000 → CT Tryz.prog 107 ⟨[.agg ⟨cs⟩]⟩ [] H (fun v N => v = iv (binds p : Int) ∧ N = []) := by
 intro p
 induction p using Pt.ind with
 | h kind num ref kids ih =>
 intro cs H hp hb
 obtain ⟨ks, rfl, hk, hn, hks⟩ := RP_mk.1 hp
 rw [binds] at hb ⊢
 refine Zm Tryz.func107 rfl rfl <| Zc <| Za <| JLr (Zq (l := pkP kind num ref ks) rfl rfl fun b1 => JLA rfl <| Zb <| Zc <| Zc <| Za <| JLq (pp b1 0) (Yl rfl rfl) <| JLr (Zd ty3 rfl (At.bx 0 rfl) (YK ..) <| JLn (Pu.eql rfl rfl) <| Zb ?_))
 refine Zg rfl (fun h2 => ?_) (fun h2 => ?_)
 ·replace h2 := dt h2
  refine Zc <| Za <| JLA rfl <| Zb <| Zl <| ⟨iv 1, [], Ret.one rfl (RV.tmp rfl), Sub.nil, ?_⟩
  exact ⟨by rw [if_pos (by assumption)]; rfl, rfl⟩
 replace h2 := df h2
 refine Zj <| Zc <| Za <| JLA rfl <| Zb <| Zc <| Zc <| Za <| JLq (pp b1 34) (Z5 rfl rfl) <| JLr (Zd Xa rfl (At.bx 0 rfl) (Yf ..) ?_)
 obtain ⟨a3, cap3, hv3⟩ := hks.sl
 have hle3 := hks.le
 refine JLn (Pu.lenSl Tryz.runUnderlying79 hv3) <| JLM rfl <| Zb <| Zn <| ZB (fun k ρ M => ∃ (j : Nat), ρ 2 = iv 0 ∧ ρ 3 = iv ((YH (kids.take j) : Int)) ∧ ρ 10 = ks ∧ ρ 11 = iv ((kids.length : Int)) ∧ ρ 12 = iv ((j : Int)) ∧ Sub [(BX b1 (pkP kind num ref ks) 81)] M ∧ j ≤ kids.length ∧ k = kids.length - j) _ ⟨0, rfl, rfl, rfl, rfl, rfl, (Sk Sub.nil), Nat.zero_le _, rfl⟩ ?_
 rintro _ ρ4 _ ⟨j, e5, e6, e7, e8, e9, hm10, hj, rfl⟩
 obtain ⟨ρ11, rfl⟩ := Zr (uc e5 (uc e6 (uc e7 (uc e8 (uc e9 un)))))
 clear e5 e6 e7 e8 e9
 refine ZG hm10 ?_
 have hlen := hks.le
 refine Zc <| Za <| JLn (Pu.lss rfl rfl) <| Zb <| Zc <| Zg rfl (fun h12 => ?_) (fun h12 => ?_)
 ·replace h12 := dt h12
  have h12n : j < kids.length := by omega
  have hm1 := binds_mem kids _ (List.getElem_mem h12n)
  have hm2 := bindsL_take kids _ h12n
  have hm3 := bindsL_take_le kids (j + 1)
  rw [if_neg (by assumption)] at hb
  refine Zj <| Zc <| Zn <| Zc <| Za ?_
  obtain ⟨b13, o13, cap13, row13, T13, fr13, cs13, hv13, hb13, hs13, hE13⟩ := hks.get j (by first | assumption | omega | decide | simp)
  refine JLq (pp b13 (o13 + j * 35)) (Pu.idx j Tryz.runUnderlying79 Z1 hv13 rfl rfl (by first | assumption | omega | decide | simp)) <| JLr (Zh Z1 rfl (At.im hb13) hs13 <| JLr (Zk (l := pkP 0 0 zS nS) Tryz.zeroValue81 rfl fun b14 => JLr (Ze 0 (vs := cs13) (l := cs13) Z1 rfl rfl rfl rfl (ZC hE13) (RP_ok hE13) (ZK (n := 35) rfl (ZC hE13)) <| Zb <| Za <| JLM rfl <| JLr (Zh Z1 rfl (At.bx 0 rfl) (Zs (ZC hE13)) <| Jc Tryz.call107 rfl (fun hin => ih _ (List.getElem_mem h12n) _ _ (RP.mono (Hle.hu _ _) hE13) (by omega)) rfl ?_))))
  rintro _ _ ⟨rfl, rfl⟩
  refine JLn (Pu.add64 rfl rfl (by first | omega | (constructor <;> omega))) <| JLA rfl <| Zb <| Za <| JLn (Pu.inc rfl rfl (by omega)) <| JLM rfl <| Zb <| ⟨_, ?_, (j + 1), rfl, (ieq rfl (by omega)), rfl, rfl, rfl, (Sd (Sk Sub.nil)), ?_, rfl⟩
  ·omega
  omega
 replace h12 := df h12
 have h12n : kids.length ≤ j := by omega
 refine Zz _ rfl <| Zc <| Za <| JLM rfl <| JLA rfl <| Zb <| Zl <| ⟨iv ((YH (kids.take j) : Int)), [], Ret.one rfl (RV.tmp rfl), Sub.nil, ?_⟩
 exact ⟨by rw [if_neg (by assumption), List.take_of_length_le h12n], rfl⟩
end Go.Proofs.YtkjafeejpmcnkaaGreat.Hs
/-! Walks, printed by a program of this session's own (gen.py). -/
namespace Go.Proofs.YtkjafeejpmcnkaaGreat.Hs
open Go Go.Proofs
set_option maxRecDepth 100000
set_option linter.unusedVariables false
set_option linter.unusedSimpArgs false
attribute [local irreducible] JL J CT wlo
theorem moreR_ct (k j : Int) (H : Heap) : CT Tryz.prog 149 ⟨[iv k, iv j]⟩ [] H (fun v N => v = iv (Z8 k j) ∧ N = []) := by
 refine Zm Tryz.func149 rfl rfl <| Zc <| Za <| JLA rfl <| Zb <| Zc <| Zn <| Zc <| Zc <| Za <| JLM rfl <| JLn (Pu.eql rfl rfl) <| JLA rfl ?_
 refine Zb <| Zg rfl (fun h1 => ?_) (fun h1 => ?_)
 ·replace h1 := dt h1
  refine Zj <| Zg rfl (fun _ => ?_) (fun h2 => absurd h1 (df h2))
  refine Zc <| Za <| JLA rfl <| Zb <| Zl <| ⟨iv 1, [], Ret.one rfl (RV.tmp rfl), Sub.nil, ?_⟩
  exact ⟨by first | (simp_all [Z8]; done) | (congr 1; unfold Z8; simp_all; try omega), rfl⟩
 replace h1 := df h1
 refine J_cut (fun ρ M => ρ 0 = iv k ∧ ρ 1 = iv j ∧ ρ 4 = iv 0 ∧ ρ 5 = .bool ((decide (k = 5)) && (decide (j = 1))) ∧ M = []) ?_ ?_
 ·refine Za <| JLM rfl <| JLn (Pu.eql rfl rfl) <| JLM rfl ?_
  cases h3 : (decide (k = 5)) with
  | true =>
   replace h3 := dt h3
   refine JLM rfl <| JLn (Pu.eql rfl rfl) <| JLq (.bool (decide (j = 1))) (Pu.pickT rfl rfl) <| JLA rfl <| Zb ?_
   first | exact ⟨rfl, rfl, rfl, rfl, rfl⟩ | (exfalso; omega)
  | false =>
   replace h3 := df h3
   iterate 2 refine ZD rfl ?_
   refine JLq (.bool false) (Pu.pickF rfl rfl) <| JLA rfl <| Zb ?_
   first | exact ⟨rfl, rfl, rfl, rfl, rfl⟩ | (exfalso; omega)
 rintro ρ4 _ ⟨e5, e6, e7, e8, rfl⟩
 obtain ⟨ρ9, rfl⟩ := Zr (uc e5 (uc e6 (uc e7 (uc e8 un))))
 clear e5 e6 e7 e8
 refine Zg rfl (fun h10 => ?_) (fun h10 => ?_)
 ·obtain ⟨h10a, h10b⟩ := YC h10
  replace h10a := dt h10a
  replace h10b := dt h10b
  refine Zj <| Zg rfl (fun h11 => ?_) (fun h11 => ?_)
  ·obtain ⟨h11a, h11b⟩ := YC h11
   replace h11a := dt h11a
   replace h11b := dt h11b
   refine Zc <| Za <| JLA rfl <| Zb <| Zl <| ⟨iv 1, [], Ret.one rfl (RV.tmp rfl), Sub.nil, ?_⟩
   exact ⟨by first | (simp_all [Z8]; done) | (congr 1; unfold Z8; simp_all; try omega), rfl⟩
  refine J_cut (fun ρ M => ρ 4 = iv 0 ∧ ρ 20 = .bool ((decide (k = 12)) && (decide (1 < j))) ∧ M = []) ?_ ?_
  ·refine Za <| JLM rfl <| JLn (Pu.eql rfl rfl) <| JLM rfl ?_
   cases h12 : (decide (k = 12)) with
   | true =>
    replace h12 := dt h12
    refine JLM rfl <| JLn (Pu.gtr rfl rfl) <| JLq (.bool (decide (1 < j))) (Pu.pickT rfl rfl) <| JLA rfl <| Zb ?_
    first | exact ⟨rfl, rfl, rfl⟩ | (exfalso; omega)
   | false =>
    replace h12 := df h12
    iterate 2 refine ZD rfl ?_
    refine JLq (.bool false) (Pu.pickF rfl rfl) <| JLA rfl <| Zb ?_
    first | exact ⟨rfl, rfl, rfl⟩ | (exfalso; omega)
  rintro ρ13 _ ⟨e14, e15, rfl⟩
  obtain ⟨ρ16, rfl⟩ := Zr (uc e14 (uc e15 un))
  clear e14 e15
  refine Zg rfl (fun h17 => ?_) (fun h17 => ?_)
  ·obtain ⟨h17a, h17b⟩ := YC h17
   replace h17a := dt h17a
   replace h17b := dt h17b
   refine Zc <| Za <| JLA rfl <| Zb <| Zl <| ⟨iv 2, [], Ret.one rfl (RV.tmp rfl), Sub.nil, ?_⟩
   exact ⟨by first | (simp_all [Z8]; done) | (congr 1; unfold Z8; simp_all; try omega), rfl⟩
  refine Zj <| Zc <| Za <| JLA rfl <| Zb <| Zl <| ⟨iv 0, [], Ret.one rfl (RV.tmp rfl), Sub.nil, ?_⟩
  exact ⟨by first | (simp_all [Z8]; done) | (congr 1; unfold Z8; simp_all; try omega), rfl⟩
 refine Xq (N := fun ρ M => ρ 0 = iv k ∧ ρ 1 = iv j ∧ ρ 4 = iv 0 ∧ ρ 5 = .bool ((decide (k = 12)) && (decide (j = 1))) ∧ M = []) ?_ ?_
 ·refine Za <| JLM rfl <| JLn (Pu.eql rfl rfl) <| JLM rfl ?_
  cases h18 : (decide (k = 12)) with
  | true =>
   replace h18 := dt h18
   refine JLM rfl <| JLn (Pu.eql rfl rfl) <| JLq (.bool (decide (j = 1))) (Pu.pickT rfl rfl) <| JLA rfl <| Zb ?_
   first | exact ⟨rfl, rfl, rfl, rfl, rfl⟩ | (exfalso; omega)
  | false =>
   replace h18 := df h18
   iterate 2 refine ZD rfl ?_
   refine JLq (.bool false) (Pu.pickF rfl rfl) <| JLA rfl <| Zb ?_
   first | exact ⟨rfl, rfl, rfl, rfl, rfl⟩ | (exfalso; omega)
 rintro ρ19 _ ⟨e20, e21, e22, e23, rfl⟩
 obtain ⟨ρ24, rfl⟩ := Zr (uc e20 (uc e21 (uc e22 (uc e23 un))))
 clear e20 e21 e22 e23
 refine Zg rfl (fun h25 => ?_) (fun h25 => ?_)
 ·obtain ⟨h25a, h25b⟩ := YC h25
  replace h25a := dt h25a
  replace h25b := dt h25b
  refine Zc <| Za <| JLA rfl <| Zb <| Zl <| ⟨iv 1, [], Ret.one rfl (RV.tmp rfl), Sub.nil, ?_⟩
  exact ⟨by first | (simp_all [Z8]; done) | (congr 1; unfold Z8; simp_all; try omega), rfl⟩
 refine J_cut (fun ρ M => ρ 4 = iv 0 ∧ ρ 20 = .bool ((decide (k = 12)) && (decide (1 < j))) ∧ M = []) ?_ ?_
 ·refine Za <| JLM rfl <| JLn (Pu.eql rfl rfl) <| JLM rfl ?_
  cases h26 : (decide (k = 12)) with
  | true =>
   replace h26 := dt h26
   refine JLM rfl <| JLn (Pu.gtr rfl rfl) <| JLq (.bool (decide (1 < j))) (Pu.pickT rfl rfl) <| JLA rfl <| Zb ?_
   first | exact ⟨rfl, rfl, rfl⟩ | (exfalso; omega)
  | false =>
   replace h26 := df h26
   iterate 2 refine ZD rfl ?_
   refine JLq (.bool false) (Pu.pickF rfl rfl) <| JLA rfl <| Zb ?_
   first | exact ⟨rfl, rfl, rfl⟩ | (exfalso; omega)
 rintro ρ27 _ ⟨e28, e29, rfl⟩
 obtain ⟨ρ30, rfl⟩ := Zr (uc e28 (uc e29 un))
 clear e28 e29
 refine Zg rfl (fun h31 => ?_) (fun h31 => ?_)
 ·obtain ⟨h31a, h31b⟩ := YC h31
  replace h31a := dt h31a
  replace h31b := dt h31b
  refine Zc <| Za <| JLA rfl <| Zb <| Zl <| ⟨iv 2, [], Ret.one rfl (RV.tmp rfl), Sub.nil, ?_⟩
  exact ⟨by first | (simp_all [Z8]; done) | (congr 1; unfold Z8; simp_all; try omega), rfl⟩
 refine Zj <| Zc <| Za <| JLA rfl <| Zb <| Zl <| ⟨iv 0, [], Ret.one rfl (RV.tmp rfl), Sub.nil, ?_⟩
 exact ⟨by first | (simp_all [Z8]; done) | (congr 1; unfold Z8; simp_all; try omega), rfl⟩
theorem offR_ct (n lo hi : Int) (H : Heap) : CT Tryz.prog 145 ⟨[iv n, iv lo, iv hi]⟩ [] H (fun v N => v = .bool (decide (n < lo ∨ hi < n)) ∧ N = []) := by
 refine Zm Tryz.func145 rfl rfl <| Zc <| Za <| JLA rfl <| Zb <| J_cut (fun ρ M => ρ 6 = .bool ((decide (n < lo)) || (decide (hi < n))) ∧ M = []) ?_ ?_
 ·refine Za <| JLM rfl <| JLM rfl <| JLn (Pu.lss rfl rfl) <| JLM rfl ?_
  cases h1 : (decide (n < lo)) with
  | true =>
   replace h1 := dt h1
   iterate 3 refine ZD rfl ?_
   refine JLq (.bool true) (Pu.pickT rfl rfl) <| JLA rfl <| Zb ?_
   first | exact ⟨rfl, rfl⟩ | (exfalso; omega)
  | false =>
   replace h1 := df h1
   refine JLM rfl <| JLM rfl <| JLn (Pu.gtr rfl rfl) <| JLq (.bool (decide (hi < n))) (Pu.pickF rfl rfl) <| JLA rfl <| Zb ?_
   first | exact ⟨rfl, rfl⟩ | (exfalso; omega)
 rintro ρ2 _ ⟨e3, rfl⟩
 obtain ⟨ρ4, rfl⟩ := Zr (uc e3 un)
 clear e3
 refine Zl <| ⟨.bool ((decide (n < lo)) || (decide (hi < n))), [], Ret.one rfl (RV.tmp rfl), Sub.nil, ?_⟩
 exact ⟨by simp, rfl⟩
theorem bindsR_ct : ∀ (p : Pt) (cs : List Value) (H : Heap), RP H cs p → binds p ≤ 1000000 → CT Tryz.prog 150 ⟨[.agg ⟨cs⟩]⟩ [] H (fun v N => v = iv (binds p : Int) ∧ N = []) := by
 intro p
 induction p using Pt.ind with
 | h kind num ref kids ih =>
 intro cs H hp hb
 obtain ⟨ks, rfl, hk, hn, hks⟩ := RP_mk.1 hp
 rw [binds] at hb ⊢
 refine Zm Tryz.func150 rfl rfl <| Zc <| Za <| JLr (Zq (l := pkP kind num ref ks) rfl rfl fun b1 => JLA rfl <| Zb <| Zc <| Zc <| Za <| JLq (pp b1 0) (Yl rfl rfl) <| JLr (Zd ty3 rfl (At.bx 0 rfl) (YK ..) <| JLn (Pu.eql rfl rfl) <| Zb ?_))
 refine Zg rfl (fun h2 => ?_) (fun h2 => ?_)
 ·replace h2 := dt h2
  refine Zc <| Za <| JLA rfl <| Zb <| Zl <| ⟨iv 1, [], Ret.one rfl (RV.tmp rfl), Sub.nil, ?_⟩
  exact ⟨by rw [if_pos (by assumption)]; rfl, rfl⟩
 replace h2 := df h2
 refine Zj <| Zc <| Za <| JLA rfl <| Zb <| Zc <| Zc <| Za <| JLA rfl <| Zb <| Zn <| ZB (fun k ρ M => ∃ (j : Nat), ρ 1 = pp b1 0 ∧ ρ 2 = iv 0 ∧ ρ 3 = iv ((YH (kids.take j) : Int)) ∧ ρ 4 = iv ((j : Int)) ∧ Sub [(BX b1 (pkP kind num ref ks) 81)] M ∧ j ≤ kids.length ∧ k = kids.length - j) _ ⟨0, rfl, rfl, rfl, rfl, (Sk Sub.nil), Nat.zero_le _, rfl⟩ ?_
 rintro _ ρ3 _ ⟨j, e4, e5, e6, e7, hm8, hj, rfl⟩
 obtain ⟨ρ9, rfl⟩ := Zr (uc e4 (uc e5 (uc e6 (uc e7 un))))
 clear e4 e5 e6 e7
 refine ZG hm8 ?_
 have hlen := hks.le
 refine Zc <| Zc <| Za <| JLM rfl <| JLq (pp b1 34) (Z5 rfl rfl) <| JLr (Zd Xa rfl (At.bx 0 rfl) (Yf ..) ?_)
 obtain ⟨a10, cap10, hv10⟩ := hks.sl
 have hle10 := hks.le
 refine JLn (Pu.lenSl Tryz.runUnderlying79 hv10) <| JLn (Pu.lss rfl rfl) <| Zb <| Zg rfl (fun h11 => ?_) (fun h11 => ?_)
 ·replace h11 := dt h11
  have h11n : j < kids.length := by omega
  have hm1 := binds_mem kids _ (List.getElem_mem h11n)
  have hm2 := bindsL_take kids _ h11n
  have hm3 := bindsL_take_le kids (j + 1)
  rw [if_neg (by assumption)] at hb
  refine Zj <| Zc <| Zn <| Za <| JLM rfl <| JLq (pp b1 34) (Z5 rfl rfl) <| JLr (Zd Xa rfl (At.bx 0 rfl) (Yf ..) <| JLM rfl ?_)
  obtain ⟨b12, o12, cap12, row12, T12, fr12, cs12, hv12, hb12, hs12, hE12⟩ := hks.get j (by first | assumption | omega | decide | simp)
  refine JLq (pp b12 (o12 + j * 35)) (Pu.idx j Tryz.runUnderlying79 Z1 hv12 rfl rfl (by first | assumption | omega | decide | simp)) <| JLr (Zh Z1 rfl (At.im hb12) hs12 <| Jc Tryz.call150 rfl (fun hin => ih _ (List.getElem_mem h11n) _ _ (RP.mono (Hle.hu _ _) hE12) (by omega)) rfl ?_)
  rintro _ _ ⟨rfl, rfl⟩
  refine JLn (Pu.add64 rfl rfl (by first | omega | (constructor <;> omega))) <| JLA rfl <| Zb <| Za <| JLM rfl <| JLn (Pu.inc rfl rfl (by omega)) <| JLA rfl <| Zb <| ⟨_, ?_, (j + 1), rfl, rfl, (ieq rfl (by omega)), rfl, (Sk Sub.nil), ?_, rfl⟩
  ·omega
  omega
 replace h11 := df h11
 have h11n : kids.length ≤ j := by omega
 refine Zz _ rfl <| Zc <| Za <| JLM rfl <| JLA rfl <| Zb <| Zl <| ⟨iv ((YH (kids.take j) : Int)), [], Ret.one rfl (RV.tmp rfl), Sub.nil, ?_⟩
 exact ⟨by rw [if_neg (by assumption), List.take_of_length_le h11n], rfl⟩
theorem hasNum_ct (k : Int) (H : Heap) : CT Tryz.prog 146 ⟨[iv k]⟩ [] H (fun v N => v = .bool (Xd k) ∧ N = []) := by
 refine Zm Tryz.func146 rfl rfl <| Zc <| Za <| JLA rfl <| Zb <| J_cut (fun ρ M => ρ 2 = .bool ((((((decide (k = 1)) || (decide (k = 2))) || (decide (k = 7))) || (decide (k = 8))) || (decide (k = 10))) || (decide (k = 11))) ∧ M = []) ?_ ?_
 ·refine Za <| JLM rfl <| JLn (Pu.eql rfl rfl) <| JLM rfl ?_
  cases h1 : (decide (k = 1)) with
  | true =>
   replace h1 := dt h1
   iterate 2 refine ZD rfl ?_
   refine JLq (.bool true) (Pu.pickT rfl rfl) <| JLM rfl ?_
   iterate 2 refine ZD rfl ?_
   refine JLq (.bool true) (Pu.pickT rfl rfl) <| JLM rfl ?_
   iterate 2 refine ZD rfl ?_
   refine JLq (.bool true) (Pu.pickT rfl rfl) <| JLM rfl ?_
   iterate 2 refine ZD rfl ?_
   refine JLq (.bool true) (Pu.pickT rfl rfl) <| JLM rfl ?_
   iterate 2 refine ZD rfl ?_
   refine JLq (.bool true) (Pu.pickT rfl rfl) <| JLA rfl <| Zb ?_
   first | exact ⟨rfl, rfl⟩ | (exfalso; omega)
  | false =>
   replace h1 := df h1
   refine JLM rfl <| JLn (Pu.eql rfl rfl) <| JLq (.bool (decide (k = 2))) (Pu.pickF rfl rfl) <| JLM rfl ?_
   cases h2 : (decide (k = 2)) with
   | true =>
    replace h2 := dt h2
    iterate 2 refine ZD rfl ?_
    refine JLq (.bool true) (Pu.pickT rfl rfl) <| JLM rfl ?_
    iterate 2 refine ZD rfl ?_
    refine JLq (.bool true) (Pu.pickT rfl rfl) <| JLM rfl ?_
    iterate 2 refine ZD rfl ?_
    refine JLq (.bool true) (Pu.pickT rfl rfl) <| JLM rfl ?_
    iterate 2 refine ZD rfl ?_
    refine JLq (.bool true) (Pu.pickT rfl rfl) <| JLA rfl <| Zb ?_
    first | exact ⟨rfl, rfl⟩ | (exfalso; omega)
   | false =>
    replace h2 := df h2
    refine JLM rfl <| JLn (Pu.eql rfl rfl) <| JLq (.bool (decide (k = 7))) (Pu.pickF rfl rfl) <| JLM rfl ?_
    cases h3 : (decide (k = 7)) with
    | true =>
     replace h3 := dt h3
     iterate 2 refine ZD rfl ?_
     refine JLq (.bool true) (Pu.pickT rfl rfl) <| JLM rfl ?_
     iterate 2 refine ZD rfl ?_
     refine JLq (.bool true) (Pu.pickT rfl rfl) <| JLM rfl ?_
     iterate 2 refine ZD rfl ?_
     refine JLq (.bool true) (Pu.pickT rfl rfl) <| JLA rfl <| Zb ?_
     first | exact ⟨rfl, rfl⟩ | (exfalso; omega)
    | false =>
     replace h3 := df h3
     refine JLM rfl <| JLn (Pu.eql rfl rfl) <| JLq (.bool (decide (k = 8))) (Pu.pickF rfl rfl) <| JLM rfl ?_
     cases h4 : (decide (k = 8)) with
     | true =>
      replace h4 := dt h4
      iterate 2 refine ZD rfl ?_
      refine JLq (.bool true) (Pu.pickT rfl rfl) <| JLM rfl ?_
      iterate 2 refine ZD rfl ?_
      refine JLq (.bool true) (Pu.pickT rfl rfl) <| JLA rfl <| Zb ?_
      first | exact ⟨rfl, rfl⟩ | (exfalso; omega)
     | false =>
      replace h4 := df h4
      refine JLM rfl <| JLn (Pu.eql rfl rfl) <| JLq (.bool (decide (k = 10))) (Pu.pickF rfl rfl) <| JLM rfl ?_
      cases h5 : (decide (k = 10)) with
      | true =>
       replace h5 := dt h5
       iterate 2 refine ZD rfl ?_
       refine JLq (.bool true) (Pu.pickT rfl rfl) <| JLA rfl <| Zb ?_
       first | exact ⟨rfl, rfl⟩ | (exfalso; omega)
      | false =>
       replace h5 := df h5
       refine JLM rfl <| JLn (Pu.eql rfl rfl) <| JLq (.bool (decide (k = 11))) (Pu.pickF rfl rfl) <| JLA rfl <| Zb ?_
       first | exact ⟨rfl, rfl⟩ | (exfalso; omega)
 rintro ρ6 _ ⟨e7, rfl⟩
 obtain ⟨ρ8, rfl⟩ := Zr (uc e7 un)
 clear e7
 refine Zl <| ⟨.bool ((((((decide (k = 1)) || (decide (k = 2))) || (decide (k = 7))) || (decide (k = 8))) || (decide (k = 10))) || (decide (k = 11))), [], Ret.one rfl (RV.tmp rfl), Sub.nil, ?_⟩
 exact ⟨by simp_all [Xd], rfl⟩
theorem hasRef_ct (k : Int) (H : Heap) : CT Tryz.prog 49 ⟨[iv k]⟩ [] H (fun v N => v = .bool (ZF k) ∧ N = []) := by
 refine Zm Tryz.func49 rfl rfl <| Zc <| Za <| JLA rfl <| Zb <| J_cut (fun ρ M => ρ 2 = .bool ((((decide (k = 6)) || (decide (k = 8))) || (decide (k = 11))) || (decide (k = 12))) ∧ M = []) ?_ ?_
 ·refine Za <| JLM rfl <| JLn (Pu.eql rfl rfl) <| JLM rfl ?_
  cases h1 : (decide (k = 6)) with
  | true =>
   replace h1 := dt h1
   iterate 2 refine ZD rfl ?_
   refine JLq (.bool true) (Pu.pickT rfl rfl) <| JLM rfl ?_
   iterate 2 refine ZD rfl ?_
   refine JLq (.bool true) (Pu.pickT rfl rfl) <| JLM rfl ?_
   iterate 2 refine ZD rfl ?_
   refine JLq (.bool true) (Pu.pickT rfl rfl) <| JLA rfl <| Zb ?_
   first | exact ⟨rfl, rfl⟩ | (exfalso; omega)
  | false =>
   replace h1 := df h1
   refine JLM rfl <| JLn (Pu.eql rfl rfl) <| JLq (.bool (decide (k = 8))) (Pu.pickF rfl rfl) <| JLM rfl ?_
   cases h2 : (decide (k = 8)) with
   | true =>
    replace h2 := dt h2
    iterate 2 refine ZD rfl ?_
    refine JLq (.bool true) (Pu.pickT rfl rfl) <| JLM rfl ?_
    iterate 2 refine ZD rfl ?_
    refine JLq (.bool true) (Pu.pickT rfl rfl) <| JLA rfl <| Zb ?_
    first | exact ⟨rfl, rfl⟩ | (exfalso; omega)
   | false =>
    replace h2 := df h2
    refine JLM rfl <| JLn (Pu.eql rfl rfl) <| JLq (.bool (decide (k = 11))) (Pu.pickF rfl rfl) <| JLM rfl ?_
    cases h3 : (decide (k = 11)) with
    | true =>
     replace h3 := dt h3
     iterate 2 refine ZD rfl ?_
     refine JLq (.bool true) (Pu.pickT rfl rfl) <| JLA rfl <| Zb ?_
     first | exact ⟨rfl, rfl⟩ | (exfalso; omega)
    | false =>
     replace h3 := df h3
     refine JLM rfl <| JLn (Pu.eql rfl rfl) <| JLq (.bool (decide (k = 12))) (Pu.pickF rfl rfl) <| JLA rfl <| Zb ?_
     first | exact ⟨rfl, rfl⟩ | (exfalso; omega)
 rintro ρ4 _ ⟨e5, rfl⟩
 obtain ⟨ρ6, rfl⟩ := Zr (uc e5 un)
 clear e5
 refine Zl <| ⟨.bool ((((decide (k = 6)) || (decide (k = 8))) || (decide (k = 11))) || (decide (k = 12))), [], Ret.one rfl (RV.tmp rfl), Sub.nil, ?_⟩
 exact ⟨by simp_all [ZF], rfl⟩
theorem kidsR_ct (k : Int) (H : Heap) : CT Tryz.prog 147 ⟨[iv k]⟩ [] H (fun v N => v = .tuple ⟨[iv (loK k), iv (hiK k)]⟩ ∧ N = []) := by
 refine Zm Tryz.func147 rfl rfl <| Zc <| Za <| JLA rfl <| JLA rfl <| Zb <| Zc <| Zc <| Za <| JLM rfl <| Zb <| Zn <| Zc ?_
 refine Zc <| Za <| JLn (Pu.eql rfl rfl) <| JLA rfl <| Zb <| Zg rfl (fun h1 => ?_) (fun h1 => ?_)
 ·replace h1 := dt h1
  refine Zj <| Zg rfl (fun _ => ?_) (fun h2 => absurd h1 (df h2))
  refine Zc <| Za <| JLA rfl <| JLA rfl <| Zb <| Zl <| ⟨.tuple ⟨[iv 1, iv 1]⟩, [], Ret.two rfl (RV.tmp rfl) (RV.tmp rfl), Sub.nil, ?_⟩
  exact ⟨by simp_all [loK, hiK], rfl⟩
 replace h1 := df h1
 refine Zc <| Za <| JLn (Pu.eql rfl rfl) <| JLA rfl <| Zb <| Zg rfl (fun h3 => ?_) (fun h3 => ?_)
 ·replace h3 := dt h3
  refine Zj <| Zg rfl (fun _ => ?_) (fun h4 => absurd h3 (df h4))
  refine Zc <| Za <| JLA rfl <| JLA rfl <| Zb <| Zl <| ⟨.tuple ⟨[iv 1, iv 1]⟩, [], Ret.two rfl (RV.tmp rfl) (RV.tmp rfl), Sub.nil, ?_⟩
  exact ⟨by simp_all [loK, hiK], rfl⟩
 replace h3 := df h3
 refine Za <| JLn (Pu.eql rfl rfl) <| JLA rfl <| Zb <| Zg rfl (fun h5 => ?_) (fun h5 => ?_)
 ·replace h5 := dt h5
  refine Zc <| Za <| JLA rfl <| JLA rfl <| Zb <| Zl <| ⟨.tuple ⟨[iv 1, iv 1]⟩, [], Ret.two rfl (RV.tmp rfl) (RV.tmp rfl), Sub.nil, ?_⟩
  exact ⟨by simp_all [loK, hiK], rfl⟩
 replace h5 := df h5
 refine Zc <| Zc <| Za <| JLn (Pu.eql rfl rfl) <| JLA rfl <| Zb <| Zg rfl (fun h6 => ?_) (fun h6 => ?_)
 ·replace h6 := dt h6
  refine Zj <| Zg rfl (fun _ => ?_) (fun h7 => absurd h6 (df h7))
  refine Zc <| Za <| JLA rfl <| JLA rfl <| Zb <| Zl <| ⟨.tuple ⟨[iv 2, iv 2]⟩, [], Ret.two rfl (RV.tmp rfl) (RV.tmp rfl), Sub.nil, ?_⟩
  exact ⟨by simp_all [loK, hiK], rfl⟩
 replace h6 := df h6
 refine Zc <| Za <| JLn (Pu.eql rfl rfl) <| JLA rfl <| Zb <| Zg rfl (fun h8 => ?_) (fun h8 => ?_)
 ·replace h8 := dt h8
  refine Zj <| Zg rfl (fun _ => ?_) (fun h9 => absurd h8 (df h9))
  refine Zc <| Za <| JLA rfl <| JLA rfl <| Zb <| Zl <| ⟨.tuple ⟨[iv 2, iv 2]⟩, [], Ret.two rfl (RV.tmp rfl) (RV.tmp rfl), Sub.nil, ?_⟩
  exact ⟨by simp_all [loK, hiK], rfl⟩
 replace h8 := df h8
 refine Za <| JLn (Pu.eql rfl rfl) <| JLA rfl <| Zb <| Zg rfl (fun h10 => ?_) (fun h10 => ?_)
 ·replace h10 := dt h10
  refine Zc <| Za <| JLA rfl <| JLA rfl <| Zb <| Zl <| ⟨.tuple ⟨[iv 2, iv 2]⟩, [], Ret.two rfl (RV.tmp rfl) (RV.tmp rfl), Sub.nil, ?_⟩
  exact ⟨by simp_all [loK, hiK], rfl⟩
 replace h10 := df h10
 refine Zc <| Za <| JLn (Pu.eql rfl rfl) <| JLA rfl <| Zb <| Zg rfl (fun h11 => ?_) (fun h11 => ?_)
 ·replace h11 := dt h11
  refine Zc <| Za <| JLA rfl <| JLA rfl <| Zb <| Zl <| ⟨.tuple ⟨[iv 0, iv 4]⟩, [], Ret.two rfl (RV.tmp rfl) (RV.tmp rfl), Sub.nil, ?_⟩
  exact ⟨by simp_all [loK, hiK], rfl⟩
 replace h11 := df h11
 refine Zc <| Za <| JLn (Pu.eql rfl rfl) <| JLA rfl <| Zb <| Zg rfl (fun h12 => ?_) (fun h12 => ?_)
 ·replace h12 := dt h12
  refine Zc <| Za <| JLA rfl <| JLA rfl <| Zb <| Zl <| ⟨.tuple ⟨[iv 2, iv 10]⟩, [], Ret.two rfl (RV.tmp rfl) (RV.tmp rfl), Sub.nil, ?_⟩
  exact ⟨by simp_all [loK, hiK], rfl⟩
 replace h12 := df h12
 refine Zj <| Zc <| Za <| JLA rfl <| JLA rfl <| Zb <| Zl <| ⟨.tuple ⟨[iv 0, iv 0]⟩, [], Ret.two rfl (RV.tmp rfl) (RV.tmp rfl), Sub.nil, ?_⟩
 exact ⟨by simp_all [loK, hiK], rfl⟩
theorem fields_ct (k : Int) (H : Heap) : CT Tryz.prog 93 ⟨[iv k]⟩ [] H (fun v N => v = .agg ⟨[.bool (fN k), .bool (fR k), .bool (fC k)]⟩ ∧ N = []) := by
 refine Zm Tryz.func93 rfl rfl <| Zc <| Za <| JLr (Zk (l := [.bool false, .bool false, .bool false]) Tryz.zeroValue152 rfl fun b1 => Zb <| Zc <| Za <| JLr (Zk (l := [.bool false, .bool false, .bool false]) Tryz.zeroValue152 rfl fun b2 => Zb <| Zc <| Zc <| Za <| JLM rfl ?_))
 refine Zb <| Zn <| Zc <| Zc <| Za <| JLn (Pu.eql rfl rfl) <| JLA rfl <| Zb <| Zg rfl (fun h3 => ?_) (fun h3 => ?_)
 ·replace h3 := dt h3
  refine Zj <| Zg rfl (fun _ => ?_) (fun h4 => absurd h3 (df h4))
  refine Za <| JLq (pp b2 0) (Pu.idxA 0 Tryz.runUnderlying152 ty4 rfl rfl (by decide) (by decide)) <| JLr (Ze 0 (vs := [.bool true]) (l := [.bool true, .bool false, .bool false]) ty4 rfl rfl rfl rfl rfl (Zf rfl Zo) rfl <| Zb <| Zc <| Za <| JLr (Zh Ya rfl (At.bx 0 rfl) rfl <| JLr (Ze 1 (vs := [.bool true, .bool false, .bool false]) (l := [.bool true, .bool false, .bool false]) Ya rfl rfl rfl rfl rfl (Zf rfl (Zf rfl (Zf rfl Zo))) rfl <| Zb <| Zl <| ⟨.agg ⟨[.bool true, .bool false, .bool false]⟩, [], Ret.one rfl (RV.cell Ya rfl (At.bx 1 rfl) rfl), Sub.nil, ?_⟩)))
  exact ⟨by simp_all [fN, fR, fC], rfl⟩
 replace h3 := df h3
 refine Zc <| Za <| JLn (Pu.eql rfl rfl) <| JLA rfl <| Zb <| Zg rfl (fun h5 => ?_) (fun h5 => ?_)
 ·replace h5 := dt h5
  refine Zj <| Zg rfl (fun _ => ?_) (fun h6 => absurd h5 (df h6))
  refine Za <| JLq (pp b2 0) (Pu.idxA 0 Tryz.runUnderlying152 ty4 rfl rfl (by decide) (by decide)) <| JLr (Ze 0 (vs := [.bool true]) (l := [.bool true, .bool false, .bool false]) ty4 rfl rfl rfl rfl rfl (Zf rfl Zo) rfl <| Zb <| Zc <| Za <| JLr (Zh Ya rfl (At.bx 0 rfl) rfl <| JLr (Ze 1 (vs := [.bool true, .bool false, .bool false]) (l := [.bool true, .bool false, .bool false]) Ya rfl rfl rfl rfl rfl (Zf rfl (Zf rfl (Zf rfl Zo))) rfl <| Zb <| Zl <| ⟨.agg ⟨[.bool true, .bool false, .bool false]⟩, [], Ret.one rfl (RV.cell Ya rfl (At.bx 1 rfl) rfl), Sub.nil, ?_⟩)))
  exact ⟨by simp_all [fN, fR, fC], rfl⟩
 replace h5 := df h5
 refine Zc <| Za <| JLn (Pu.eql rfl rfl) <| JLA rfl <| Zb <| Zg rfl (fun h7 => ?_) (fun h7 => ?_)
 ·replace h7 := dt h7
  refine Zj <| Zg rfl (fun _ => ?_) (fun h8 => absurd h7 (df h8))
  refine Za <| JLq (pp b2 0) (Pu.idxA 0 Tryz.runUnderlying152 ty4 rfl rfl (by decide) (by decide)) <| JLr (Ze 0 (vs := [.bool true]) (l := [.bool true, .bool false, .bool false]) ty4 rfl rfl rfl rfl rfl (Zf rfl Zo) rfl <| Zb <| Zc <| Za <| JLr (Zh Ya rfl (At.bx 0 rfl) rfl <| JLr (Ze 1 (vs := [.bool true, .bool false, .bool false]) (l := [.bool true, .bool false, .bool false]) Ya rfl rfl rfl rfl rfl (Zf rfl (Zf rfl (Zf rfl Zo))) rfl <| Zb <| Zl <| ⟨.agg ⟨[.bool true, .bool false, .bool false]⟩, [], Ret.one rfl (RV.cell Ya rfl (At.bx 1 rfl) rfl), Sub.nil, ?_⟩)))
  exact ⟨by simp_all [fN, fR, fC], rfl⟩
 replace h7 := df h7
 refine Za <| JLn (Pu.eql rfl rfl) <| JLA rfl <| Zb <| Zg rfl (fun h9 => ?_) (fun h9 => ?_)
 ·replace h9 := dt h9
  refine Za <| JLq (pp b2 0) (Pu.idxA 0 Tryz.runUnderlying152 ty4 rfl rfl (by decide) (by decide)) <| JLr (Ze 0 (vs := [.bool true]) (l := [.bool true, .bool false, .bool false]) ty4 rfl rfl rfl rfl rfl (Zf rfl Zo) rfl <| Zb <| Zc <| Za <| JLr (Zh Ya rfl (At.bx 0 rfl) rfl <| JLr (Ze 1 (vs := [.bool true, .bool false, .bool false]) (l := [.bool true, .bool false, .bool false]) Ya rfl rfl rfl rfl rfl (Zf rfl (Zf rfl (Zf rfl Zo))) rfl <| Zb <| Zl <| ⟨.agg ⟨[.bool true, .bool false, .bool false]⟩, [], Ret.one rfl (RV.cell Ya rfl (At.bx 1 rfl) rfl), Sub.nil, ?_⟩)))
  exact ⟨by simp_all [fN, fR, fC], rfl⟩
 replace h9 := df h9
 refine Zc <| Zc <| Za <| JLn (Pu.eql rfl rfl) <| JLA rfl <| Zb <| Zg rfl (fun h10 => ?_) (fun h10 => ?_)
 ·replace h10 := dt h10
  refine Zj <| Zg rfl (fun _ => ?_) (fun h11 => absurd h10 (df h11))
  refine Za <| JLq (pp b2 0) (Pu.idxA 0 Tryz.runUnderlying152 ty4 rfl rfl (by decide) (by decide)) <| JLr (Ze 0 (vs := [.bool true]) (l := [.bool true, .bool false, .bool false]) ty4 rfl rfl rfl rfl rfl (Zf rfl Zo) rfl <| JLq (pp b2 1) (Pu.idxA 1 Tryz.runUnderlying152 ty4 rfl rfl (by decide) (by decide)) <| JLr (Ze 0 (vs := [.bool true]) (l := [.bool true, .bool true, .bool false]) ty4 rfl rfl rfl rfl rfl (Zf rfl Zo) rfl <| Zb <| Zc <| Za <| JLr (Zh Ya rfl (At.bx 0 rfl) rfl <| JLr (Ze 1 (vs := [.bool true, .bool true, .bool false]) (l := [.bool true, .bool true, .bool false]) Ya rfl rfl rfl rfl rfl (Zf rfl (Zf rfl (Zf rfl Zo))) rfl <| Zb <| Zl <| ⟨.agg ⟨[.bool true, .bool true, .bool false]⟩, [], Ret.one rfl (RV.cell Ya rfl (At.bx 1 rfl) rfl), Sub.nil, ?_⟩))))
  exact ⟨by simp_all [fN, fR, fC], rfl⟩
 replace h10 := df h10
 refine Za <| JLn (Pu.eql rfl rfl) <| JLA rfl <| Zb <| Zg rfl (fun h12 => ?_) (fun h12 => ?_)
 ·replace h12 := dt h12
  refine Za <| JLq (pp b2 0) (Pu.idxA 0 Tryz.runUnderlying152 ty4 rfl rfl (by decide) (by decide)) <| JLr (Ze 0 (vs := [.bool true]) (l := [.bool true, .bool false, .bool false]) ty4 rfl rfl rfl rfl rfl (Zf rfl Zo) rfl <| JLq (pp b2 1) (Pu.idxA 1 Tryz.runUnderlying152 ty4 rfl rfl (by decide) (by decide)) <| JLr (Ze 0 (vs := [.bool true]) (l := [.bool true, .bool true, .bool false]) ty4 rfl rfl rfl rfl rfl (Zf rfl Zo) rfl <| Zb <| Zc <| Za <| JLr (Zh Ya rfl (At.bx 0 rfl) rfl <| JLr (Ze 1 (vs := [.bool true, .bool true, .bool false]) (l := [.bool true, .bool true, .bool false]) Ya rfl rfl rfl rfl rfl (Zf rfl (Zf rfl (Zf rfl Zo))) rfl <| Zb <| Zl <| ⟨.agg ⟨[.bool true, .bool true, .bool false]⟩, [], Ret.one rfl (RV.cell Ya rfl (At.bx 1 rfl) rfl), Sub.nil, ?_⟩))))
  exact ⟨by simp_all [fN, fR, fC], rfl⟩
 replace h12 := df h12
 refine Zc <| Zc <| Za <| JLn (Pu.eql rfl rfl) <| JLA rfl <| Zb <| Zg rfl (fun h13 => ?_) (fun h13 => ?_)
 ·replace h13 := dt h13
  refine Zj <| Zg rfl (fun _ => ?_) (fun h14 => absurd h13 (df h14))
  refine Za <| JLq (pp b2 1) (Pu.idxA 1 Tryz.runUnderlying152 ty4 rfl rfl (by decide) (by decide)) <| JLr (Ze 0 (vs := [.bool true]) (l := [.bool false, .bool true, .bool false]) ty4 rfl rfl rfl rfl rfl (Zf rfl Zo) rfl <| Zb <| Zc <| Za <| JLr (Zh Ya rfl (At.bx 0 rfl) rfl <| JLr (Ze 1 (vs := [.bool false, .bool true, .bool false]) (l := [.bool false, .bool true, .bool false]) Ya rfl rfl rfl rfl rfl (Zf rfl (Zf rfl (Zf rfl Zo))) rfl <| Zb <| Zl <| ⟨.agg ⟨[.bool false, .bool true, .bool false]⟩, [], Ret.one rfl (RV.cell Ya rfl (At.bx 1 rfl) rfl), Sub.nil, ?_⟩)))
  exact ⟨by simp_all [fN, fR, fC], rfl⟩
 replace h13 := df h13
 refine Za <| JLn (Pu.eql rfl rfl) <| JLA rfl <| Zb <| Zg rfl (fun h15 => ?_) (fun h15 => ?_)
 ·replace h15 := dt h15
  refine Za <| JLq (pp b2 1) (Pu.idxA 1 Tryz.runUnderlying152 ty4 rfl rfl (by decide) (by decide)) <| JLr (Ze 0 (vs := [.bool true]) (l := [.bool false, .bool true, .bool false]) ty4 rfl rfl rfl rfl rfl (Zf rfl Zo) rfl <| Zb <| Zc <| Za <| JLr (Zh Ya rfl (At.bx 0 rfl) rfl <| JLr (Ze 1 (vs := [.bool false, .bool true, .bool false]) (l := [.bool false, .bool true, .bool false]) Ya rfl rfl rfl rfl rfl (Zf rfl (Zf rfl (Zf rfl Zo))) rfl <| Zb <| Zl <| ⟨.agg ⟨[.bool false, .bool true, .bool false]⟩, [], Ret.one rfl (RV.cell Ya rfl (At.bx 1 rfl) rfl), Sub.nil, ?_⟩)))
  exact ⟨by simp_all [fN, fR, fC], rfl⟩
 replace h15 := df h15
 refine Zc <| Za <| JLn (Pu.eql rfl rfl) <| JLA rfl <| Zb <| Zg rfl (fun h16 => ?_) (fun h16 => ?_)
 ·replace h16 := dt h16
  refine Za <| JLq (pp b2 2) (Pu.idxA 2 Tryz.runUnderlying152 ty4 rfl rfl (by decide) (by decide)) <| JLr (Ze 0 (vs := [.bool true]) (l := [.bool false, .bool false, .bool true]) ty4 rfl rfl rfl rfl rfl (Zf rfl Zo) rfl <| Zb <| Zc <| Za <| JLr (Zh Ya rfl (At.bx 0 rfl) rfl <| JLr (Ze 1 (vs := [.bool false, .bool false, .bool true]) (l := [.bool false, .bool false, .bool true]) Ya rfl rfl rfl rfl rfl (Zf rfl (Zf rfl (Zf rfl Zo))) rfl <| Zb <| Zl <| ⟨.agg ⟨[.bool false, .bool false, .bool true]⟩, [], Ret.one rfl (RV.cell Ya rfl (At.bx 1 rfl) rfl), Sub.nil, ?_⟩)))
  exact ⟨by simp_all [fN, fR, fC], rfl⟩
 replace h16 := df h16
 refine Zj <| Zc <| Za <| JLr (Zh Ya rfl (At.bx 0 rfl) rfl <| JLr (Ze 1 (vs := [.bool false, .bool false, .bool false]) (l := [.bool false, .bool false, .bool false]) Ya rfl rfl rfl rfl rfl (Zf rfl (Zf rfl (Zf rfl Zo))) rfl <| Zb <| Zl <| ⟨.agg ⟨[.bool false, .bool false, .bool false]⟩, [], Ret.one rfl (RV.cell Ya rfl (At.bx 1 rfl) rfl), Sub.nil, ?_⟩))
 exact ⟨by simp_all [fN, fR, fC], rfl⟩
theorem patternFields_ct (k : Int) (H : Heap) : CT Tryz.prog 158 ⟨[iv k]⟩ [] H (fun v N => v = .agg ⟨[.bool (pfN k), .bool (pfR k), .bool false]⟩ ∧ N = []) := by
 refine Zm Tryz.func158 rfl rfl <| Zc <| Za <| JLr (Zk (l := [.bool false, .bool false, .bool false]) Tryz.zeroValue152 rfl fun b1 => Zb <| Zc <| Zc <| Za <| JLM rfl <| Zb <| Zn <| Zc <| Za ?_)
 refine JLn (Pu.eql rfl rfl) <| JLA rfl <| Zb <| Zg rfl (fun h2 => ?_) (fun h2 => ?_)
 ·replace h2 := dt h2
  refine Zc <| Za <| JLq (.agg ⟨[.bool true, .bool false, .bool false]⟩) (Pu.build (pv := [(0, .bool true), (1, .bool false), (2, .bool false)]) (l := [.bool true, .bool false, .bool false]) rfl (bld152_0_1_2 _ _ _)) <| JLr (Ze 0 (vs := [.bool true, .bool false, .bool false]) (l := [.bool true, .bool false, .bool false]) Ya rfl rfl rfl rfl rfl (Zf rfl (Zf rfl (Zf rfl Zo))) rfl <| Zb <| Zl <| ⟨.agg ⟨[.bool true, .bool false, .bool false]⟩, [], Ret.one rfl (RV.cell Ya rfl (At.bx 0 rfl) rfl), Sub.nil, ?_⟩)
  exact ⟨by simp_all [pfN, pfR], rfl⟩
 replace h2 := df h2
 refine Zc <| Za <| JLn (Pu.eql rfl rfl) <| JLA rfl <| Zb <| Zg rfl (fun h3 => ?_) (fun h3 => ?_)
 ·replace h3 := dt h3
  refine Zc <| Za <| JLq (.agg ⟨[.bool true, .bool true, .bool false]⟩) (Pu.build (pv := [(0, .bool true), (1, .bool true), (2, .bool false)]) (l := [.bool true, .bool true, .bool false]) rfl (bld152_0_1_2 _ _ _)) <| JLr (Ze 0 (vs := [.bool true, .bool true, .bool false]) (l := [.bool true, .bool true, .bool false]) Ya rfl rfl rfl rfl rfl (Zf rfl (Zf rfl (Zf rfl Zo))) rfl <| Zb <| Zl <| ⟨.agg ⟨[.bool true, .bool true, .bool false]⟩, [], Ret.one rfl (RV.cell Ya rfl (At.bx 0 rfl) rfl), Sub.nil, ?_⟩)
  exact ⟨by simp_all [pfN, pfR], rfl⟩
 replace h3 := df h3
 refine Zj <| Zc <| Za <| JLq (.agg ⟨[.bool false, .bool false, .bool false]⟩) (Pu.build (pv := []) (l := [.bool false, .bool false, .bool false]) rfl bld152_) <| JLr (Ze 0 (vs := [.bool false, .bool false, .bool false]) (l := [.bool false, .bool false, .bool false]) Ya rfl rfl rfl rfl rfl (Zf rfl (Zf rfl (Zf rfl Zo))) rfl <| Zb <| Zl <| ⟨.agg ⟨[.bool false, .bool false, .bool false]⟩, [], Ret.one rfl (RV.cell Ya rfl (At.bx 0 rfl) rfl), Sub.nil, ?_⟩)
 exact ⟨by simp_all [pfN, pfR], rfl⟩
theorem clash_ct (a b c : Bool) (n : Int) (r : Sm) (m : Int) (H : Heap) : CT Tryz.prog 136 ⟨[.agg ⟨[.bool a, .bool b, .bool c]⟩, iv n, .agg ⟨sC r⟩, iv m]⟩ [] H (fun v N => v = .bool (clashB a b c n r m) ∧ N = []) := by
 refine Zm Tryz.func136 rfl rfl <| Zc <| Za <| JLr (Zq (l := [.bool a, .bool b, .bool c]) rfl rfl fun b1 => JLr (Zq (l := sC r) rfl rfl fun b2 => JLA rfl <| Zb <| Zc <| Za <| JLM rfl <| JLn (Pu.neq rfl rfl) <| JLr (Zh YM rfl (At.bx 0 rfl) (Zs rfl) <| JLq (.agg ⟨sC zS⟩) (Pu.build (pv := []) (l := sC zS) rfl bld26_) ?_)))
 refine JLn (neqS rfl rfl) <| JLM rfl <| JLn (Pu.gtr rfl rfl) <| JLq (.agg ⟨[.bool (!decide (n = 0)), .bool (!decide (r = zS)), .bool (decide (0 < m))]⟩) (Pu.build (pv := [(0, .bool (!decide (n = 0))), (1, .bool (!decide (r = zS))), (2, .bool (decide (0 < m)))]) (l := [.bool (!decide (n = 0)), .bool (!decide (r = zS)), .bool (decide (0 < m))]) rfl (bld152_0_1_2 _ _ _)) <| JLr (Zk (l := [.bool false, .bool false, .bool false]) Tryz.zeroValue152 rfl fun b3 => JLr (Ze 0 (vs := [.bool (!decide (n = 0)), .bool (!decide (r = zS)), .bool (decide (0 < m))]) (l := [.bool (!decide (n = 0)), .bool (!decide (r = zS)), .bool (decide (0 < m))]) Ya rfl rfl rfl rfl rfl (Zf rfl (Zf rfl (Zf rfl Zo))) rfl <| Zb <| Zc <| Za <| JLr (Zh Ya rfl (At.bx 0 rfl) rfl <| JLr (Zk (l := [.bool false, .bool false, .bool false]) Tryz.zeroValue152 rfl fun b4 => JLr (Ze 0 (vs := [.bool (!decide (n = 0)), .bool (!decide (r = zS)), .bool (decide (0 < m))]) (l := [.bool (!decide (n = 0)), .bool (!decide (r = zS)), .bool (decide (0 < m))]) Ya rfl rfl rfl rfl rfl (Zf rfl (Zf rfl (Zf rfl Zo))) rfl <| Zb ?_)))))
 refine Zc <| Zc <| Za <| JLM rfl <| Zb <| Zn <| Yu 4 <| Z0 <| Zc <| Za <| JLq (.bool true) (show Pu _ _ _ (.bool (decide ((0 : Int) < 3))) from Pu.lss rfl rfl) <| Zb <| Zc ?_
 refine Zg (b := true) rfl (fun _ => ?_) (fun h => absurd h (by simp))
 refine Zj <| Zc <| Zn <| Zc <| Za <| JLM rfl <| JLA rfl <| Zb <| Xq (N := fun ρ M => ρ 4 = pp b1 0 ∧ ρ 8 = .bool false ∧ ρ 9 = pp b3 0 ∧ ρ 10 = pp b4 0 ∧ ρ 21 = iv 0 ∧ M = [(BX b4 [.bool ((!decide (n = 0)) && a), .bool (!decide (r = zS)), .bool (decide (0 < m))] 152), (BX b3 [.bool (!decide (n = 0)), .bool (!decide (r = zS)), .bool (decide (0 < m))] 152), (BX b2 (sC r) 26), (BX b1 [.bool a, .bool b, .bool c] 152)]) ?_ ?_
 ·refine Za <| JLM rfl <| JLM rfl <| JLq (pp b3 0) (Pu.idxA 0 Tryz.runUnderlying152 ty4 rfl rfl (by decide) (by decide)) <| JLr (Zd ty4 rfl (At.bx 1 rfl) rfl <| JLM rfl ?_)
  cases h5 : (!decide (n = 0)) with
  | true =>
   replace h5 := nt h5
   replace h5 := df h5
   refine JLM rfl <| JLq (pp b1 0) (Pu.idxA 0 Tryz.runUnderlying152 ty4 rfl rfl (by decide) (by decide)) <| JLr (Zd ty4 rfl (At.bx 3 rfl) rfl <| JLq (.bool a) (Pu.pickT rfl rfl) <| JLq (pp b4 0) (Pu.idxA 0 Tryz.runUnderlying152 ty4 rfl rfl (by decide) (by decide)) <| JLr (Ze 0 (vs := [.bool a]) (l := [.bool a, .bool (!decide (r = zS)), .bool (decide (0 < m))]) ty4 rfl rfl rfl rfl rfl (Zf rfl Zo) rfl <| Zb ?_))
   first | exact ⟨rfl, rfl, rfl, rfl, rfl, rfl⟩ | (exfalso; omega)
  | false =>
   replace h5 := nf h5
   replace h5 := dt h5
   iterate 3 refine ZD rfl ?_
   refine JLq (.bool false) (Pu.pickF rfl rfl) <| JLq (pp b4 0) (Pu.idxA 0 Tryz.runUnderlying152 ty4 rfl rfl (by decide) (by decide)) <| JLr (Ze 0 (vs := [.bool false]) (l := [.bool false, .bool (!decide (r = zS)), .bool (decide (0 < m))]) ty4 rfl rfl rfl rfl rfl (Zf rfl Zo) rfl <| Zb ?_)
   first | exact ⟨rfl, rfl, rfl, rfl, rfl, rfl⟩ | (exfalso; omega)
 rintro ρ6 _ ⟨e7, e8, e9, e10, e11, rfl⟩
 obtain ⟨ρ12, rfl⟩ := Zr (uc e7 (uc e8 (uc e9 (uc e10 (uc e11 un)))))
 clear e7 e8 e9 e10 e11
 refine Za <| JLq (iv 1) (Pu.arith rfl rfl rfl) <| JLM rfl <| Zb <| Z0 <| Zc <| Za <| JLq (.bool true) (show Pu _ _ _ (.bool (decide ((1 : Int) < 3))) from Pu.lss rfl rfl) <| Zb <| Zc <| Zg (b := true) rfl (fun _ => ?_) (fun h => absurd h (by simp))
 refine Zj <| Zc <| Zn <| Zc <| Za <| JLM rfl <| JLA rfl <| Zb <| Xq (N := fun ρ M => ρ 4 = pp b1 0 ∧ ρ 8 = .bool false ∧ ρ 9 = pp b3 0 ∧ ρ 10 = pp b4 0 ∧ ρ 21 = iv 1 ∧ M = [(BX b4 [.bool ((!decide (n = 0)) && a), .bool ((!decide (r = zS)) && b), .bool (decide (0 < m))] 152), (BX b3 [.bool (!decide (n = 0)), .bool (!decide (r = zS)), .bool (decide (0 < m))] 152), (BX b2 (sC r) 26), (BX b1 [.bool a, .bool b, .bool c] 152)]) ?_ ?_
 ·refine Za <| JLM rfl <| JLM rfl <| JLq (pp b3 1) (Pu.idxA 1 Tryz.runUnderlying152 ty4 rfl rfl (by decide) (by decide)) <| JLr (Zd ty4 rfl (At.bx 1 rfl) rfl <| JLM rfl ?_)
  cases h13 : (!decide (r = zS)) with
  | true =>
   replace h13 := nt h13
   replace h13 := df h13
   refine JLM rfl <| JLq (pp b1 1) (Pu.idxA 1 Tryz.runUnderlying152 ty4 rfl rfl (by decide) (by decide)) <| JLr (Zd ty4 rfl (At.bx 3 rfl) rfl <| JLq (.bool b) (Pu.pickT rfl rfl) <| JLq (pp b4 1) (Pu.idxA 1 Tryz.runUnderlying152 ty4 rfl rfl (by decide) (by decide)) <| JLr (Ze 0 (vs := [.bool b]) (l := [.bool ((!decide (n = 0)) && a), .bool b, .bool (decide (0 < m))]) ty4 rfl rfl rfl rfl rfl (Zf rfl Zo) rfl <| Zb ?_))
   first | exact ⟨rfl, rfl, rfl, rfl, rfl, rfl⟩ | (exfalso; omega)
  | false =>
   replace h13 := nf h13
   replace h13 := dt h13
   iterate 3 refine ZD rfl ?_
   refine JLq (.bool false) (Pu.pickF rfl rfl) <| JLq (pp b4 1) (Pu.idxA 1 Tryz.runUnderlying152 ty4 rfl rfl (by decide) (by decide)) <| JLr (Ze 0 (vs := [.bool false]) (l := [.bool ((!decide (n = 0)) && a), .bool false, .bool (decide (0 < m))]) ty4 rfl rfl rfl rfl rfl (Zf rfl Zo) rfl <| Zb ?_)
   first | exact ⟨rfl, rfl, rfl, rfl, rfl, rfl⟩ | (exfalso; omega)
 rintro ρ14 _ ⟨e15, e16, e17, e18, e19, rfl⟩
 obtain ⟨ρ20, rfl⟩ := Zr (uc e15 (uc e16 (uc e17 (uc e18 (uc e19 un)))))
 clear e15 e16 e17 e18 e19
 refine Za <| JLq (iv 2) (Pu.arith rfl rfl rfl) <| JLM rfl <| Zb <| Z0 <| Zc <| Za <| JLq (.bool true) (show Pu _ _ _ (.bool (decide ((2 : Int) < 3))) from Pu.lss rfl rfl) <| Zb <| Zc <| Zg (b := true) rfl (fun _ => ?_) (fun h => absurd h (by simp))
 refine Zj <| Zc <| Zn <| Zc <| Za <| JLM rfl <| JLA rfl <| Zb <| Xq (N := fun ρ M => ρ 4 = pp b1 0 ∧ ρ 8 = .bool false ∧ ρ 9 = pp b3 0 ∧ ρ 10 = pp b4 0 ∧ ρ 21 = iv 2 ∧ M = [(BX b4 [.bool ((!decide (n = 0)) && a), .bool ((!decide (r = zS)) && b), .bool ((decide (0 < m)) && c)] 152), (BX b3 [.bool (!decide (n = 0)), .bool (!decide (r = zS)), .bool (decide (0 < m))] 152), (BX b2 (sC r) 26), (BX b1 [.bool a, .bool b, .bool c] 152)]) ?_ ?_
 ·refine Za <| JLM rfl <| JLM rfl <| JLq (pp b3 2) (Pu.idxA 2 Tryz.runUnderlying152 ty4 rfl rfl (by decide) (by decide)) <| JLr (Zd ty4 rfl (At.bx 1 rfl) rfl <| JLM rfl ?_)
  cases h21 : (decide (0 < m)) with
  | true =>
   replace h21 := dt h21
   refine JLM rfl <| JLq (pp b1 2) (Pu.idxA 2 Tryz.runUnderlying152 ty4 rfl rfl (by decide) (by decide)) <| JLr (Zd ty4 rfl (At.bx 3 rfl) rfl <| JLq (.bool c) (Pu.pickT rfl rfl) <| JLq (pp b4 2) (Pu.idxA 2 Tryz.runUnderlying152 ty4 rfl rfl (by decide) (by decide)) <| JLr (Ze 0 (vs := [.bool c]) (l := [.bool ((!decide (n = 0)) && a), .bool ((!decide (r = zS)) && b), .bool c]) ty4 rfl rfl rfl rfl rfl (Zf rfl Zo) rfl <| Zb ?_))
   first | exact ⟨rfl, rfl, rfl, rfl, rfl, rfl⟩ | (exfalso; omega)
  | false =>
   replace h21 := df h21
   iterate 3 refine ZD rfl ?_
   refine JLq (.bool false) (Pu.pickF rfl rfl) <| JLq (pp b4 2) (Pu.idxA 2 Tryz.runUnderlying152 ty4 rfl rfl (by decide) (by decide)) <| JLr (Ze 0 (vs := [.bool false]) (l := [.bool ((!decide (n = 0)) && a), .bool ((!decide (r = zS)) && b), .bool false]) ty4 rfl rfl rfl rfl rfl (Zf rfl Zo) rfl <| Zb ?_)
   first | exact ⟨rfl, rfl, rfl, rfl, rfl, rfl⟩ | (exfalso; omega)
 rintro ρ22 _ ⟨e23, e24, e25, e26, e27, rfl⟩
 obtain ⟨ρ28, rfl⟩ := Zr (uc e23 (uc e24 (uc e25 (uc e26 (uc e27 un)))))
 clear e23 e24 e25 e26 e27
 refine Za <| JLq (iv 3) (Pu.arith rfl rfl rfl) <| JLM rfl <| Zb <| Z0 <| Zc <| Za <| JLq (.bool false) (show Pu _ _ _ (.bool (decide ((3 : Int) < 3))) from Pu.lss rfl rfl) <| Zb <| Zc <| Zg (b := false) rfl (fun h => absurd h (by simp)) (fun _ => Zz _ rfl <| Zc ?_)
 refine Za <| JLr (Zh Ya rfl (At.bx 0 rfl) rfl <| JLr (Zh Ya rfl (At.bx 1 rfl) rfl <| JLq (.bool (!((((!decide (n = 0)) && a) == (!decide (n = 0))) && ((((!decide (r = zS)) && b) == (!decide (r = zS))) && (((decide (0 < m)) && c) == (decide (0 < m))))))) (neqB3 rfl rfl) <| JLA rfl <| Zb <| Zl <| ⟨.bool (!((((!decide (n = 0)) && a) == (!decide (n = 0))) && ((((!decide (r = zS)) && b) == (!decide (r = zS))) && (((decide (0 < m)) && c) == (decide (0 < m)))))), [], Ret.one rfl (RV.tmp rfl), Sub.nil, ?_⟩))
 exact ⟨by unfold clashB; congr 1; cases a <;> cases b <;> cases c <;> simp, rfl⟩
theorem kidsT_ct (k n : Int) (H : Heap) : CT Tryz.prog 137 ⟨[iv k, iv n]⟩ [] H (fun v N => v = .bool (kidsB k n) ∧ N = []) := by
 refine Zm Tryz.func137 rfl rfl <| Zc <| Za <| JLA rfl <| Zb <| Zc <| Zc <| Za <| JLM rfl <| Zb <| Zn <| Zc <| Zc ?_
 refine Za <| JLn (Pu.eql rfl rfl) <| JLA rfl <| Zb <| Zg rfl (fun h1 => ?_) (fun h1 => ?_)
 ·replace h1 := dt h1
  refine Zj <| Zg rfl (fun _ => ?_) (fun h2 => absurd h1 (df h2))
  refine Zc <| Za <| JLM rfl <| JLn (Pu.eql rfl rfl) <| JLA rfl <| Zb <| Zl <| ⟨.bool (decide (n = 1)), [], Ret.one rfl (RV.tmp rfl), Sub.nil, ?_⟩
  exact ⟨by simp_all [kidsB], rfl⟩
 replace h1 := df h1
 refine Zc <| Za <| JLn (Pu.eql rfl rfl) <| JLA rfl <| Zb <| Zg rfl (fun h3 => ?_) (fun h3 => ?_)
 ·replace h3 := dt h3
  refine Zj <| Zg rfl (fun _ => ?_) (fun h4 => absurd h3 (df h4))
  refine Zc <| Za <| JLM rfl <| JLn (Pu.eql rfl rfl) <| JLA rfl <| Zb <| Zl <| ⟨.bool (decide (n = 1)), [], Ret.one rfl (RV.tmp rfl), Sub.nil, ?_⟩
  exact ⟨by simp_all [kidsB], rfl⟩
 replace h3 := df h3
 refine Za <| JLn (Pu.eql rfl rfl) <| JLA rfl <| Zb <| Zg rfl (fun h5 => ?_) (fun h5 => ?_)
 ·replace h5 := dt h5
  refine Zc <| Za <| JLM rfl <| JLn (Pu.eql rfl rfl) <| JLA rfl <| Zb <| Zl <| ⟨.bool (decide (n = 1)), [], Ret.one rfl (RV.tmp rfl), Sub.nil, ?_⟩
  exact ⟨by simp_all [kidsB], rfl⟩
 replace h5 := df h5
 refine Zc <| Zc <| Za <| JLn (Pu.eql rfl rfl) <| JLA rfl <| Zb <| Zg rfl (fun h6 => ?_) (fun h6 => ?_)
 ·replace h6 := dt h6
  refine Zj <| Zg rfl (fun _ => ?_) (fun h7 => absurd h6 (df h7))
  refine Zc <| Za <| JLM rfl <| JLn (Pu.eql rfl rfl) <| JLA rfl <| Zb <| Zl <| ⟨.bool (decide (n = 2)), [], Ret.one rfl (RV.tmp rfl), Sub.nil, ?_⟩
  exact ⟨by simp_all [kidsB], rfl⟩
 replace h6 := df h6
 refine Zc <| Za <| JLn (Pu.eql rfl rfl) <| JLA rfl <| Zb <| Zg rfl (fun h8 => ?_) (fun h8 => ?_)
 ·replace h8 := dt h8
  refine Zj <| Zg rfl (fun _ => ?_) (fun h9 => absurd h8 (df h9))
  refine Zc <| Za <| JLM rfl <| JLn (Pu.eql rfl rfl) <| JLA rfl <| Zb <| Zl <| ⟨.bool (decide (n = 2)), [], Ret.one rfl (RV.tmp rfl), Sub.nil, ?_⟩
  exact ⟨by simp_all [kidsB], rfl⟩
 replace h8 := df h8
 refine Za <| JLn (Pu.eql rfl rfl) <| JLA rfl <| Zb <| Zg rfl (fun h10 => ?_) (fun h10 => ?_)
 ·replace h10 := dt h10
  refine Zc <| Za <| JLM rfl <| JLn (Pu.eql rfl rfl) <| JLA rfl <| Zb <| Zl <| ⟨.bool (decide (n = 2)), [], Ret.one rfl (RV.tmp rfl), Sub.nil, ?_⟩
  exact ⟨by simp_all [kidsB], rfl⟩
 replace h10 := df h10
 refine Zc <| Za <| JLn (Pu.eql rfl rfl) <| JLA rfl <| Zb <| Zg rfl (fun h11 => ?_) (fun h11 => ?_)
 ·replace h11 := dt h11
  refine Zc <| Za <| JLM rfl <| JLn (Pu.leq rfl rfl) <| JLA rfl <| Zb <| Zl <| ⟨.bool (decide (n ≤ 4)), [], Ret.one rfl (RV.tmp rfl), Sub.nil, ?_⟩
  exact ⟨by simp_all [kidsB], rfl⟩
 replace h11 := df h11
 refine Zc <| Za <| JLn (Pu.eql rfl rfl) <| JLA rfl <| Zb <| Zg rfl (fun h12 => ?_) (fun h12 => ?_)
 ·replace h12 := dt h12
  refine Zc <| Za <| JLM rfl <| Jc Tryz.call65 rfl (fun hin => YO _ _ _ _) rfl ?_
  rintro _ _ ⟨rfl, rfl⟩
  refine JLn (Pu.not rfl) <| JLA rfl <| Zb <| Zl <| ⟨.bool (!(decide (n < 2 ∨ 10 < n))), [], Ret.one rfl (RV.tmp rfl), Sub.nil, ?_⟩
  exact ⟨by simp_all [kidsB], rfl⟩
 replace h12 := df h12
 refine Zj <| Zc <| Za <| JLM rfl <| JLn (Pu.eql rfl rfl) <| JLA rfl <| Zb <| Zl <| ⟨.bool (decide (n = 0)), [], Ret.one rfl (RV.tmp rfl), Sub.nil, ?_⟩
 exact ⟨by simp_all [kidsB], rfl⟩
end Go.Proofs.YtkjafeejpmcnkaaGreat.Hs
/-! Walks, printed by a program of this session's own (gen.py). -/
namespace Go.Proofs.YtkjafeejpmcnkaaGreat.Hs
open Go Go.Proofs
set_option maxRecDepth 100000
set_option linter.unusedVariables false
set_option linter.unusedSimpArgs false
attribute [local irreducible] JL J CT wlo DT
theorem patternError_ct (kind num : Int) (ref : Sm) (ks : Value) (kids : List Pt) (H : Heap) (hks : rdS RP 35 H ks kids) : CT Tryz.prog 138 ⟨[.agg ⟨pkP kind num ref ks⟩]⟩ [] H (fun v N => v = iv (pErr kind num ref kids.length) ∧ N = []) := by
 refine Zm Tryz.func138 rfl rfl <| Zc <| Za <| JLr (Zq (l := pkP kind num ref ks) rfl rfl fun b1 => JLA rfl <| Zb <| Zc <| Za <| JLA rfl <| Zb <| Zc <| Zc <| Za ?_)
 refine JLq (pp b1 0) (Yl rfl rfl) <| JLr (Zd ty3 rfl (At.bx 0 rfl) (YK ..) <| JLn (Pu.eql rfl rfl) <| Zb <| Zg rfl (fun h2 => ?_) (fun h2 => ?_))
 ·replace h2 := dt h2
  refine Za <| JLA rfl <| Zb <| Zc <| Zn <| Zc <| Za <| JLq (pp b1 0) (Yl rfl rfl) <| JLr (Zd ty3 rfl (At.bx 0 rfl) (YK ..) <| Jc Tryz.call65 rfl (fun hin => YO _ _ _ _) rfl ?_)
  rintro _ _ ⟨rfl, rfl⟩
  refine JLA rfl <| Zb <| Zg rfl (fun h3 => ?_) (fun h3 => ?_)
  ·replace h3 := dt h3
   refine Zc <| Za <| JLA rfl <| Zb <| Zl <| ⟨iv 3, [], Ret.one rfl (RV.tmp rfl), Sub.nil, ?_⟩
   exact ⟨by refine congrArg (Value.int .i64) ?_; simp only [pErr]; (repeat' split) <;> first | rfl | omega | (exfalso; simp_all; done) | (exfalso; simp_all; omega) | grind, rfl⟩
  replace h3 := df h3
  refine Zc <| ZJ mixed #[0, 1, 3, 0, 8, 0, 32, 127, 255] 7 [some 12, some 13, some 14, some 15, some 16, some 17, some 18] [] [(2, fun _ _ vw qw => vw = .agg ⟨[.bool (pfN kind), .bool (pfR kind), .bool false]⟩ ∧ qw = [])] rfl (by kernel_rfl) rfl (by kernel_rfl) <| Dq (pp b1 0) (fun _ => Yl rfl rfl) <| Dl1 ty3 (At.bx 0 rfl) (YK ..) <| Dc rfl Tryz.call158 (fun _ => rfl) (fun hin => patternFields_ct _ _) ?_
  rintro _ _ ⟨rfl, rfl⟩
  refine Dq (pp b1 1) (fun _ => XA rfl rfl) <| Dl1 ty3 (At.bx 0 rfl) (pkP_1 ..) <| Dq (pp b1 2) (fun _ => fa81_2 rfl rfl) <| Dl YM (At.bx 0 rfl) (pkP_2 ..) <| ZV (M' := [(BX b1 (pkP kind num ref ks) 81)]) rfl ?_
  show JL _ _ _ [_, _] _ _ _
  refine Jc Tryz.call136 rfl (fun hin => clash_ct _ _ _ _ _ _ _) rfl ?_
  rintro _ _ ⟨rfl, rfl⟩
  refine JLA rfl <| Zb <| Zg rfl (fun h4 => ?_) (fun h4 => ?_)
  ·refine Zc <| Za <| JLA rfl <| Zb <| Zl <| ⟨iv 7, [], Ret.one rfl (RV.tmp rfl), Sub.nil, ?_⟩
   exact ⟨by refine congrArg (Value.int .i64) ?_; simp only [pErr]; (repeat' split) <;> first | rfl | omega | (exfalso; simp_all; done) | (exfalso; simp_all; omega) | grind, rfl⟩
  refine Zc <| Za <| JLq (pp b1 34) (Z5 rfl rfl) <| JLr (Zd Xa rfl (At.bx 0 rfl) (Yf ..) ?_)
  obtain ⟨a5, cap5, hv5⟩ := hks.sl
  have hle5 := hks.le
  refine JLn (Pu.lenSl Tryz.runUnderlying79 hv5) <| JLM rfl <| JLn (Pu.gtr rfl rfl) <| JLA rfl <| Zb <| Zg rfl (fun h6 => ?_) (fun h6 => ?_)
  ·replace h6 := dt h6
   refine Zc <| Za <| JLA rfl <| Zb <| Zl <| ⟨iv 2, [], Ret.one rfl (RV.tmp rfl), Sub.nil, ?_⟩
   exact ⟨by refine congrArg (Value.int .i64) ?_; simp only [pErr]; (repeat' split) <;> first | rfl | omega | (exfalso; simp_all; done) | (exfalso; simp_all; omega) | grind, rfl⟩
  replace h6 := df h6
  refine Zc <| Zc <| Za <| JLq (pp b1 0) (Yl rfl rfl) <| JLr (Zd ty3 rfl (At.bx 0 rfl) (YK ..) <| JLn (Pu.eql rfl rfl) <| JLM rfl <| Zv 3 [31, 32, 33] [(33, cond (decide (kind = 2)) (.bool (decide (num < 0 ∨ 1073741824 < num))) undef)] ?_ fun f8 => ?_)
  ·cases h7 : (decide (kind = 2)) with
   | true =>
    replace h7 := dt h7
    refine JLq (pp b1 1) (XA rfl rfl) <| JLr (Zd ty3 rfl (At.bx 0 rfl) (pkP_1 ..) <| Jc Tryz.call65 rfl (fun hin => YO _ _ _ _) rfl ?_)
    rintro _ _ ⟨rfl, rfl⟩
    exact Zb ⟨⟨rfl, trivial⟩, rfl⟩
   | false =>
    exact Zy rfl ⟨rfl, trivial⟩
  refine JLn (Pu.pickAnd rfl rfl rfl) <| JLA rfl <| Zb <| Zg rfl (fun h9 => ?_) (fun h9 => ?_)
  ·obtain ⟨h9a, h9b⟩ := YC h9
   replace h9a := dt h9a
   replace h9b := dt h9b
   refine Zj <| Zg rfl (fun h10 => ?_) (fun h10 => ?_)
   ·obtain ⟨h10a, h10b⟩ := YC h10
    replace h10a := dt h10a
    replace h10b := dt h10b
    refine Zc <| Za <| JLA rfl <| Zb <| Zl <| ⟨iv 3, [], Ret.one rfl (RV.tmp rfl), Sub.nil, ?_⟩
    exact ⟨by refine congrArg (Value.int .i64) ?_; simp only [pErr]; (repeat' split) <;> first | rfl | omega | (exfalso; simp_all; done) | (exfalso; simp_all; omega) | grind, rfl⟩
   refine Zj <| Zc <| Za <| JLA rfl <| Zb <| Zl <| ⟨iv 0, [], Ret.one rfl (RV.tmp rfl), Sub.nil, ?_⟩
   exact ⟨by refine congrArg (Value.int .i64) ?_; simp only [pErr]; (repeat' split) <;> first | rfl | omega | (exfalso; simp_all; done) | (exfalso; simp_all; omega) | grind, rfl⟩
  refine Za <| JLq (pp b1 0) (Yl rfl rfl) <| JLr (Zd ty3 rfl (At.bx 0 rfl) (YK ..) <| JLn (Pu.eql rfl rfl) <| JLM rfl <| Zv 3 [39, 40, 41] [(41, cond (decide (kind = 3)) (.bool (decide (num < 0 ∨ 7 < num))) undef)] ?_ fun f12 => ?_)
  ·cases h11 : (decide (kind = 3)) with
   | true =>
    replace h11 := dt h11
    refine JLq (pp b1 1) (XA rfl rfl) <| JLr (Zd ty3 rfl (At.bx 0 rfl) (pkP_1 ..) <| Jc Tryz.call65 rfl (fun hin => YO _ _ _ _) rfl ?_)
    rintro _ _ ⟨rfl, rfl⟩
    exact Zb ⟨⟨rfl, trivial⟩, rfl⟩
   | false =>
    exact Zy rfl ⟨rfl, trivial⟩
  refine JLn (Pu.pickAnd rfl rfl rfl) <| JLA rfl <| Zb <| Zg rfl (fun h13 => ?_) (fun h13 => ?_)
  ·obtain ⟨h13a, h13b⟩ := YC h13
   replace h13a := dt h13a
   replace h13b := dt h13b
   refine Zc <| Za <| JLA rfl <| Zb <| Zl <| ⟨iv 3, [], Ret.one rfl (RV.tmp rfl), Sub.nil, ?_⟩
   exact ⟨by refine congrArg (Value.int .i64) ?_; simp only [pErr]; (repeat' split) <;> first | rfl | omega | (exfalso; simp_all; done) | (exfalso; simp_all; omega) | grind, rfl⟩
  refine Zj <| Zc <| Za <| JLA rfl <| Zb <| Zl <| ⟨iv 0, [], Ret.one rfl (RV.tmp rfl), Sub.nil, ?_⟩
  exact ⟨by refine congrArg (Value.int .i64) ?_; simp only [pErr]; (repeat' split) <;> first | rfl | omega | (exfalso; simp_all; done) | (exfalso; simp_all; omega) | grind, rfl⟩
 replace h2 := df h2
 refine Zj <| Zc <| Zn <| Zc <| Za <| JLq (pp b1 0) (Yl rfl rfl) <| JLr (Zd ty3 rfl (At.bx 0 rfl) (YK ..) <| Jc Tryz.call65 rfl (fun hin => YO _ _ _ _) rfl ?_)
 rintro _ _ ⟨rfl, rfl⟩
 refine JLA rfl <| Zb <| Zg rfl (fun h14 => ?_) (fun h14 => ?_)
 ·replace h14 := dt h14
  refine Zc <| Za <| JLA rfl <| Zb <| Zl <| ⟨iv 3, [], Ret.one rfl (RV.tmp rfl), Sub.nil, ?_⟩
  exact ⟨by refine congrArg (Value.int .i64) ?_; simp only [pErr]; (repeat' split) <;> first | rfl | omega | (exfalso; simp_all; done) | (exfalso; simp_all; omega) | grind, rfl⟩
 replace h14 := df h14
 refine Zc <| ZJ mixed #[0, 1, 3, 0, 8, 0, 32, 127, 255] 7 [some 12, some 13, some 14, some 15, some 16, some 17, some 18] [] [(2, fun _ _ vw qw => vw = .agg ⟨[.bool (pfN kind), .bool (pfR kind), .bool false]⟩ ∧ qw = [])] rfl (by kernel_rfl) rfl (by kernel_rfl) <| Dq (pp b1 0) (fun _ => Yl rfl rfl) <| Dl1 ty3 (At.bx 0 rfl) (YK ..) <| Dc rfl Tryz.call158 (fun _ => rfl) (fun hin => patternFields_ct _ _) ?_
 rintro _ _ ⟨rfl, rfl⟩
 refine Dq (pp b1 1) (fun _ => XA rfl rfl) <| Dl1 ty3 (At.bx 0 rfl) (pkP_1 ..) <| Dq (pp b1 2) (fun _ => fa81_2 rfl rfl) <| Dl YM (At.bx 0 rfl) (pkP_2 ..) <| ZV (M' := [(BX b1 (pkP kind num ref ks) 81)]) rfl ?_
 show JL _ _ _ [_, _] _ _ _
 refine Jc Tryz.call136 rfl (fun hin => clash_ct _ _ _ _ _ _ _) rfl ?_
 rintro _ _ ⟨rfl, rfl⟩
 refine JLA rfl <| Zb <| Zg rfl (fun h15 => ?_) (fun h15 => ?_)
 ·refine Zc <| Za <| JLA rfl <| Zb <| Zl <| ⟨iv 7, [], Ret.one rfl (RV.tmp rfl), Sub.nil, ?_⟩
  exact ⟨by refine congrArg (Value.int .i64) ?_; simp only [pErr]; (repeat' split) <;> first | rfl | omega | (exfalso; simp_all; done) | (exfalso; simp_all; omega) | grind, rfl⟩
 refine Zc <| Za <| JLq (pp b1 34) (Z5 rfl rfl) <| JLr (Zd Xa rfl (At.bx 0 rfl) (Yf ..) ?_)
 obtain ⟨a16, cap16, hv16⟩ := hks.sl
 have hle16 := hks.le
 refine JLn (Pu.lenSl Tryz.runUnderlying79 hv16) <| JLM rfl <| JLn (Pu.gtr rfl rfl) <| JLA rfl <| Zb <| Zg rfl (fun h17 => ?_) (fun h17 => ?_)
 ·replace h17 := dt h17
  refine Zc <| Za <| JLA rfl <| Zb <| Zl <| ⟨iv 2, [], Ret.one rfl (RV.tmp rfl), Sub.nil, ?_⟩
  exact ⟨by refine congrArg (Value.int .i64) ?_; simp only [pErr]; (repeat' split) <;> first | rfl | omega | (exfalso; simp_all; done) | (exfalso; simp_all; omega) | grind, rfl⟩
 replace h17 := df h17
 refine Zc <| Zc <| Za <| JLq (pp b1 0) (Yl rfl rfl) <| JLr (Zd ty3 rfl (At.bx 0 rfl) (YK ..) <| JLn (Pu.eql rfl rfl) <| JLM rfl <| Zv 3 [31, 32, 33] [(33, cond (decide (kind = 2)) (.bool (decide (num < 0 ∨ 1073741824 < num))) undef)] ?_ fun f19 => ?_)
 ·cases h18 : (decide (kind = 2)) with
  | true =>
   replace h18 := dt h18
   refine JLq (pp b1 1) (XA rfl rfl) <| JLr (Zd ty3 rfl (At.bx 0 rfl) (pkP_1 ..) <| Jc Tryz.call65 rfl (fun hin => YO _ _ _ _) rfl ?_)
   rintro _ _ ⟨rfl, rfl⟩
   exact Zb ⟨⟨rfl, trivial⟩, rfl⟩
  | false =>
   exact Zy rfl ⟨rfl, trivial⟩
 refine JLn (Pu.pickAnd rfl rfl rfl) <| JLA rfl <| Zb <| Zg rfl (fun h20 => ?_) (fun h20 => ?_)
 ·obtain ⟨h20a, h20b⟩ := YC h20
  replace h20a := dt h20a
  replace h20b := dt h20b
  refine Zj <| Zg rfl (fun h21 => ?_) (fun h21 => ?_)
  ·obtain ⟨h21a, h21b⟩ := YC h21
   replace h21a := dt h21a
   replace h21b := dt h21b
   refine Zc <| Za <| JLA rfl <| Zb <| Zl <| ⟨iv 3, [], Ret.one rfl (RV.tmp rfl), Sub.nil, ?_⟩
   exact ⟨by refine congrArg (Value.int .i64) ?_; simp only [pErr]; (repeat' split) <;> first | rfl | omega | (exfalso; simp_all; done) | (exfalso; simp_all; omega) | grind, rfl⟩
  refine Zj <| Zc <| Za <| JLA rfl <| Zb <| Zl <| ⟨iv 0, [], Ret.one rfl (RV.tmp rfl), Sub.nil, ?_⟩
  exact ⟨by refine congrArg (Value.int .i64) ?_; simp only [pErr]; (repeat' split) <;> first | rfl | omega | (exfalso; simp_all; done) | (exfalso; simp_all; omega) | grind, rfl⟩
 refine Za <| JLq (pp b1 0) (Yl rfl rfl) <| JLr (Zd ty3 rfl (At.bx 0 rfl) (YK ..) <| JLn (Pu.eql rfl rfl) <| JLM rfl <| Zv 3 [39, 40, 41] [(41, cond (decide (kind = 3)) (.bool (decide (num < 0 ∨ 7 < num))) undef)] ?_ fun f23 => ?_)
 ·cases h22 : (decide (kind = 3)) with
  | true =>
   replace h22 := dt h22
   refine JLq (pp b1 1) (XA rfl rfl) <| JLr (Zd ty3 rfl (At.bx 0 rfl) (pkP_1 ..) <| Jc Tryz.call65 rfl (fun hin => YO _ _ _ _) rfl ?_)
   rintro _ _ ⟨rfl, rfl⟩
   exact Zb ⟨⟨rfl, trivial⟩, rfl⟩
  | false =>
   exact Zy rfl ⟨rfl, trivial⟩
 refine JLn (Pu.pickAnd rfl rfl rfl) <| JLA rfl <| Zb <| Zg rfl (fun h24 => ?_) (fun h24 => ?_)
 ·obtain ⟨h24a, h24b⟩ := YC h24
  replace h24a := dt h24a
  replace h24b := dt h24b
  refine Zc <| Za <| JLA rfl <| Zb <| Zl <| ⟨iv 3, [], Ret.one rfl (RV.tmp rfl), Sub.nil, ?_⟩
  exact ⟨by refine congrArg (Value.int .i64) ?_; simp only [pErr]; (repeat' split) <;> first | rfl | omega | (exfalso; simp_all; done) | (exfalso; simp_all; omega) | grind, rfl⟩
 refine Zj <| Zc <| Za <| JLA rfl <| Zb <| Zl <| ⟨iv 0, [], Ret.one rfl (RV.tmp rfl), Sub.nil, ?_⟩
 exact ⟨by refine congrArg (Value.int .i64) ?_; simp only [pErr]; (repeat' split) <;> first | rfl | omega | (exfalso; simp_all; done) | (exfalso; simp_all; omega) | grind, rfl⟩
theorem patternsError_ct : ∀ (p : Pt) (cs : List Value) (H : Heap), RP H cs p → CT Tryz.prog 116 ⟨[.agg ⟨cs⟩]⟩ [] H (fun v N => v = iv (pErrs p) ∧ N = []) := by
 intro p
 induction p using Pt.ind with
 | h kind num ref kids ih =>
 intro cs H hp
 obtain ⟨ks, rfl, hk, hn, hks⟩ := RP_mk.1 hp
 refine Zm Tryz.func116 rfl rfl <| Zc <| Za <| JLr (Zq (l := pkP kind num ref ks) rfl rfl fun b1 => JLA rfl <| Zb <| Zc <| Za <| JLr (Zh Z1 rfl (At.bx 0 rfl) (pkP_a ..) <| Jc Tryz.call138 rfl (fun hin => patternError_ct _ _ _ _ _ _ (RPs.mono (Hle.hu _ _) hks)) rfl ?_))
 rintro _ _ ⟨rfl, rfl⟩
 refine JLA rfl <| Zb <| Zc <| Zc <| Za <| JLA rfl <| Zb <| Zn <| ZB (fun k ρ M => ∃ (j : Nat) (e : Int), ρ 1 = pp b1 0 ∧ ρ 2 = iv 0 ∧ ρ 3 = iv e ∧ ρ 4 = iv ((j : Int)) ∧ Sub [(BX b1 (pkP kind num ref ks) 81)] M ∧ j ≤ kids.length ∧ (if e = 0 then pErrsL (kids.drop j) else e) = pErrs (.mk kind num ref kids) ∧ k = kids.length - j) _ ⟨0, (pErr kind num ref kids.length), rfl, rfl, rfl, rfl, (Sk Sub.nil), Nat.zero_le _, (by rw [pErrs]; rfl), rfl⟩ ?_
 rintro _ ρ2 _ ⟨j, e, e3, e4, e5, e6, hm7, hj, hinv, rfl⟩
 obtain ⟨ρ8, rfl⟩ := Zr (uc e3 (uc e4 (uc e5 (uc e6 un))))
 clear e3 e4 e5 e6
 refine ZG hm7 ?_
 have hlen := hks.le
 refine Zc <| Zc <| Za <| JLM rfl <| JLq (pp b1 34) (Z5 rfl rfl) <| JLr (Zd Xa rfl (At.bx 0 rfl) (Yf ..) ?_)
 obtain ⟨a9, cap9, hv9⟩ := hks.sl
 have hle9 := hks.le
 refine JLn (Pu.lenSl Tryz.runUnderlying79 hv9) <| JLn (Pu.lss rfl rfl) <| JLM rfl <| Zv 2 [13, 14] [(14, cond (decide ((j : Int) < (kids.length : Int))) (.bool (decide (e = 0))) undef)] ?_ fun f11 => ?_
 ·cases h10 : (decide ((j : Int) < (kids.length : Int))) with
  | true =>
   replace h10 := dt h10
   have h10n : j < kids.length := by omega
   refine JLM rfl <| JLn (Pu.eql rfl rfl) ?_
   exact Zb ⟨⟨rfl, trivial⟩, rfl⟩
  | false =>
   exact Zy rfl ⟨rfl, trivial⟩
 refine JLn (Pu.pickAnd rfl rfl rfl) <| Zb <| Zg rfl (fun h12 => ?_) (fun h12 => ?_)
 ·obtain ⟨h12a, h12b⟩ := YC h12
  replace h12a := dt h12a
  have h12an : j < kids.length := by omega
  replace h12b := dt h12b
  refine Zj <| Zc <| Zn <| Za <| JLq (pp b1 34) (Z5 rfl rfl) <| JLr (Zd Xa rfl (At.bx 0 rfl) (Yf ..) <| JLM rfl ?_)
  obtain ⟨b13, o13, cap13, row13, T13, fr13, cs13, hv13, hb13, hs13, hE13⟩ := hks.get j (by first | assumption | omega | decide | simp)
  refine JLq (pp b13 (o13 + j * 35)) (Pu.idx j Tryz.runUnderlying79 Z1 hv13 rfl rfl (by first | assumption | omega | decide | simp)) <| JLr (Zh Z1 rfl (At.im hb13) hs13 <| Jc Tryz.call116 rfl (fun hin => ih _ (List.getElem_mem h12an) _ _ (RP.mono (Hle.hu _ _) hE13)) rfl ?_)
  rintro _ _ ⟨rfl, rfl⟩
  refine JLA rfl <| Zb <| Za <| JLM rfl <| JLn (Pu.inc rfl rfl (by omega)) <| JLA rfl <| Zb <| ⟨_, ?_, (j + 1), (pErrs (kids[j])), rfl, rfl, rfl, rfl, (Sk Sub.nil), ?_, ?_, rfl⟩
  ·omega
  ·omega
  rw [if_pos (by assumption), ZW h12an, pErrsL] at hinv; exact hinv
 refine Zz _ rfl <| Zc <| Za <| JLM rfl <| JLA rfl <| Zb <| Zl <| ⟨iv e, [], Ret.one rfl (RV.tmp rfl), Sub.nil, ?_⟩
 refine ⟨?_, rfl⟩
 rw [← hinv]; by_cases he : e = 0
 ·have hj2 : kids.length ≤ j := by
   apply Nat.le_of_not_lt; intro hlt; have : (j : Int) < (kids.length : Int) := by omega
   simp_all
  rw [if_pos he, YL hj2, he]; rfl
 rw [if_neg he]
theorem patternErrorR_ct : ∀ (p : Pt) (cs : List Value) (H : Heap), RP H cs p → CT Tryz.prog 148 ⟨[.agg ⟨cs⟩]⟩ [] H (fun v N => v = iv (YY p) ∧ N = []) := by
 intro p
 induction p using Pt.ind with
 | h kind num ref kids ih =>
 intro cs H hp
 obtain ⟨ks, rfl, hk, hn, hks⟩ := RP_mk.1 hp
 refine Zm Tryz.func148 rfl rfl <| Zc <| Za <| JLr (Zq (l := pkP kind num ref ks) rfl rfl fun b1 => JLA rfl <| Zb <| Zc <| Zc <| Za <| JLq (pp b1 0) (Yl rfl rfl) <| JLr (Zd ty3 rfl (At.bx 0 rfl) (YK ..) <| Jc Tryz.call145 rfl (fun hin => offR_ct _ _ _ _) rfl ?_))
 rintro _ _ ⟨rfl, rfl⟩
 refine Zb <| Zg rfl (fun h2 => ?_) (fun h2 => ?_)
 ·replace h2 := dt h2
  refine Zc <| Za <| JLA rfl <| Zb <| Zl <| ⟨iv 3, [], Ret.one rfl (RV.tmp rfl), Sub.nil, ?_⟩
  have hx : pHead kind num ref kids.length = 3 := by simp only [pHead]; (repeat' split) <;> first | rfl | omega | (exfalso; simp_all; done) | (exfalso; simp_all; omega) | grind
  exact ⟨by rw [YY, hx]; rfl, rfl⟩
 replace h2 := df h2
 refine Zj <| Zc <| Zc <| Za <| JLq (pp b1 0) (Yl rfl rfl) <| JLr (Zd ty3 rfl (At.bx 0 rfl) (YK ..) <| JLn (Pu.eql rfl rfl) <| JLM rfl <| Zv 3 [12, 13, 14] [(14, cond (decide (kind = 1)) (.bool (!decide (num = 0))) undef)] ?_ fun f4 => ?_)
 ·cases h3 : (decide (kind = 1)) with
  | true =>
   replace h3 := dt h3
   refine JLq (pp b1 1) (XA rfl rfl) <| JLr (Zd ty3 rfl (At.bx 0 rfl) (pkP_1 ..) <| JLn (Pu.neq rfl rfl) ?_)
   exact Zb ⟨⟨rfl, trivial⟩, rfl⟩
  | false =>
   exact Zy rfl ⟨rfl, trivial⟩
 refine JLn (Pu.pickAnd rfl rfl rfl) <| JLM rfl <| Zv 9 [17, 18, 19, 20, 21, 22, 23, 24, 25] [(25, cond ((decide (kind = 1)) && (!decide (num = 0))) undef (.bool ((!decide (kind = 3)) && (!decide (ref = zS)))))] ?_ fun f8 => ?_
 ·cases h5 : ((decide (kind = 1)) && (!decide (num = 0))) with
  | false =>
   refine JLq (pp b1 0) (Yl rfl rfl) <| JLr (Zd ty3 rfl (At.bx 0 rfl) (YK ..) <| JLn (Pu.neq rfl rfl) <| JLM rfl <| Zv 4 [21, 22, 23, 24] [(24, cond (!decide (kind = 3)) (.bool (!decide (ref = zS))) undef)] ?_ fun f7 => ?_)
   ·cases h6 : (!decide (kind = 3)) with
    | true =>
     replace h6 := nt h6
     replace h6 := df h6
     refine JLq (pp b1 2) (fa81_2 rfl rfl) <| JLr (Zh YM rfl (At.bx 0 rfl) (pkP_2 ..) <| JLq (.agg ⟨sC zS⟩) (Pu.build (pv := []) (l := sC zS) rfl bld26_) <| JLn (neqS rfl rfl) ?_)
     exact Zb ⟨⟨rfl, trivial⟩, rfl⟩
    | false =>
     exact Zy rfl ⟨rfl, trivial⟩
   refine JLn (Pu.pickAnd rfl rfl rfl) ?_
   exact Zb ⟨⟨rfl, trivial⟩, rfl⟩
  | true =>
   exact Zy rfl ⟨rfl, trivial⟩
 refine JLn (Pu.pickOr rfl rfl rfl) <| Zb <| Zg rfl (fun h9 => ?_) (fun h9 => ?_)
 ·refine Zc <| Za <| JLA rfl <| Zb <| Zl <| ⟨iv 7, [], Ret.one rfl (RV.tmp rfl), Sub.nil, ?_⟩
  have hx : pHead kind num ref kids.length = 7 := by simp only [pHead]; (repeat' split) <;> first | rfl | omega | (exfalso; simp_all; done) | (exfalso; simp_all; omega) | grind
  exact ⟨by rw [YY, hx]; rfl, rfl⟩
 obtain ⟨h9a, h9b⟩ := orF h9
 refine Zj <| Zc <| Zc <| Za <| JLq (pp b1 0) (Yl rfl rfl) <| JLr (Zd ty3 rfl (At.bx 0 rfl) (YK ..) <| JLn (Pu.neq rfl rfl) <| JLM rfl <| Zv 4 [31, 32, 33, 34] [(34, cond (!decide (kind = 3)) (.bool (decide (0 < (kids.length : Int)))) undef)] ?_ fun f12 => ?_)
 ·cases h10 : (!decide (kind = 3)) with
  | true =>
   replace h10 := nt h10
   replace h10 := df h10
   refine JLq (pp b1 34) (Z5 rfl rfl) <| JLr (Zd Xa rfl (At.bx 0 rfl) (Yf ..) ?_)
   obtain ⟨a11, cap11, hv11⟩ := hks.sl
   have hle11 := hks.le
   refine JLn (Pu.lenSl Tryz.runUnderlying79 hv11) <| JLn (Pu.gtr rfl rfl) ?_
   exact Zb ⟨⟨rfl, trivial⟩, rfl⟩
  | false =>
   exact Zy rfl ⟨rfl, trivial⟩
 refine JLn (Pu.pickAnd rfl rfl rfl) <| JLM rfl <| Zv 4 [37, 38, 39, 40] [(40, cond ((!decide (kind = 3)) && (decide (0 < (kids.length : Int)))) undef (.bool (decide (4 < (kids.length : Int)))))] ?_ fun f15 => ?_
 ·cases h13 : ((!decide (kind = 3)) && (decide (0 < (kids.length : Int)))) with
  | false =>
   refine JLq (pp b1 34) (Z5 rfl rfl) <| JLr (Zd Xa rfl (At.bx 0 rfl) (Yf ..) ?_)
   obtain ⟨a14, cap14, hv14⟩ := hks.sl
   have hle14 := hks.le
   refine JLn (Pu.lenSl Tryz.runUnderlying79 hv14) <| JLn (Pu.gtr rfl rfl) ?_
   exact Zb ⟨⟨rfl, trivial⟩, rfl⟩
  | true =>
   exact Zy rfl ⟨rfl, trivial⟩
 refine JLn (Pu.pickOr rfl rfl rfl) <| Zb <| Zg rfl (fun h16 => ?_) (fun h16 => ?_)
 ·refine Zc <| Za <| JLA rfl <| Zb <| Zl <| ⟨iv 2, [], Ret.one rfl (RV.tmp rfl), Sub.nil, ?_⟩
  have hx : pHead kind num ref kids.length = 2 := by simp only [pHead]; (repeat' split) <;> first | rfl | omega | (exfalso; simp_all; done) | (exfalso; simp_all; omega) | grind
  exact ⟨by rw [YY, hx]; rfl, rfl⟩
 obtain ⟨h16a, h16b⟩ := orF h16
 replace h16b := df h16b
 refine Zj <| Zc <| Zc <| Za <| JLq (pp b1 0) (Yl rfl rfl) <| JLr (Zd ty3 rfl (At.bx 0 rfl) (YK ..) <| JLn (Pu.eql rfl rfl) <| JLM rfl <| Zv 3 [46, 47, 48] [(48, cond (decide (kind = 2)) (.bool (decide (num < 0 ∨ 1073741824 < num))) undef)] ?_ fun f18 => ?_)
 ·cases h17 : (decide (kind = 2)) with
  | true =>
   replace h17 := dt h17
   refine JLq (pp b1 1) (XA rfl rfl) <| JLr (Zd ty3 rfl (At.bx 0 rfl) (pkP_1 ..) <| Jc Tryz.call145 rfl (fun hin => offR_ct _ _ _ _) rfl ?_)
   rintro _ _ ⟨rfl, rfl⟩
   exact Zb ⟨⟨rfl, trivial⟩, rfl⟩
  | false =>
   exact Zy rfl ⟨rfl, trivial⟩
 refine JLn (Pu.pickAnd rfl rfl rfl) <| JLM rfl <| Zv 8 [51, 52, 53, 54, 55, 56, 57, 58] [(58, cond ((decide (kind = 2)) && (decide (num < 0 ∨ 1073741824 < num))) undef (.bool ((decide (kind = 3)) && (decide (num < 0 ∨ 7 < num)))))] ?_ fun f22 => ?_
 ·cases h19 : ((decide (kind = 2)) && (decide (num < 0 ∨ 1073741824 < num))) with
  | false =>
   refine JLq (pp b1 0) (Yl rfl rfl) <| JLr (Zd ty3 rfl (At.bx 0 rfl) (YK ..) <| JLn (Pu.eql rfl rfl) <| JLM rfl <| Zv 3 [55, 56, 57] [(57, cond (decide (kind = 3)) (.bool (decide (num < 0 ∨ 7 < num))) undef)] ?_ fun f21 => ?_)
   ·cases h20 : (decide (kind = 3)) with
    | true =>
     replace h20 := dt h20
     refine JLq (pp b1 1) (XA rfl rfl) <| JLr (Zd ty3 rfl (At.bx 0 rfl) (pkP_1 ..) <| Jc Tryz.call145 rfl (fun hin => offR_ct _ _ _ _) rfl ?_)
     rintro _ _ ⟨rfl, rfl⟩
     exact Zb ⟨⟨rfl, trivial⟩, rfl⟩
    | false =>
     exact Zy rfl ⟨rfl, trivial⟩
   refine JLn (Pu.pickAnd rfl rfl rfl) ?_
   exact Zb ⟨⟨rfl, trivial⟩, rfl⟩
  | true =>
   exact Zy rfl ⟨rfl, trivial⟩
 refine JLn (Pu.pickOr rfl rfl rfl) <| Zb <| Zg rfl (fun h23 => ?_) (fun h23 => ?_)
 ·refine Zc <| Za <| JLA rfl <| Zb <| Zl <| ⟨iv 3, [], Ret.one rfl (RV.tmp rfl), Sub.nil, ?_⟩
  have hx : pHead kind num ref kids.length = 3 := by simp only [pHead]; (repeat' split) <;> first | rfl | omega | (exfalso; simp_all; done) | (exfalso; simp_all; omega) | grind
  exact ⟨by rw [YY, hx]; rfl, rfl⟩
 obtain ⟨h23a, h23b⟩ := orF h23
 refine Zj <| Zc <| Zc <| Za <| JLA rfl <| Zb <| Zn <| ZB (fun k ρ M => ∃ (j : Nat), ρ 1 = pp b1 0 ∧ ρ 2 = iv 0 ∧ ρ 3 = iv ((j : Int)) ∧ Sub [(BX b1 (pkP kind num ref ks) 81)] M ∧ j ≤ kids.length ∧ pHead kind num ref kids.length = 0 ∧ Xy (kids.drop j) = Xy kids ∧ k = kids.length - j) _ ⟨0, rfl, rfl, rfl, (Sk Sub.nil), Nat.zero_le _, (by simp only [pHead]; (repeat' split) <;> first | rfl | omega | (exfalso; simp_all; done) | (exfalso; simp_all; omega) | grind), rfl, rfl⟩ ?_
 rintro _ ρ24 _ ⟨j, e25, e26, e27, hm28, hj, hh, hinv, rfl⟩
 obtain ⟨ρ29, rfl⟩ := Zr (uc e25 (uc e26 (uc e27 un)))
 clear e25 e26 e27
 refine ZG hm28 ?_
 have hlen := hks.le
 refine Zc <| Zc <| Za <| JLM rfl <| JLq (pp b1 34) (Z5 rfl rfl) <| JLr (Zd Xa rfl (At.bx 0 rfl) (Yf ..) ?_)
 obtain ⟨a30, cap30, hv30⟩ := hks.sl
 have hle30 := hks.le
 refine JLn (Pu.lenSl Tryz.runUnderlying79 hv30) <| JLn (Pu.lss rfl rfl) <| Zb <| Zg rfl (fun h31 => ?_) (fun h31 => ?_)
 ·replace h31 := dt h31
  have h31n : j < kids.length := by omega
  refine Zj <| Zc <| Zn <| Zc <| Za <| JLq (pp b1 34) (Z5 rfl rfl) <| JLr (Zd Xa rfl (At.bx 0 rfl) (Yf ..) <| JLM rfl ?_)
  obtain ⟨b32, o32, cap32, row32, T32, fr32, cs32, hv32, hb32, hs32, hE32⟩ := hks.get j (by first | assumption | omega | decide | simp)
  refine JLq (pp b32 (o32 + j * 35)) (Pu.idx j Tryz.runUnderlying79 Z1 hv32 rfl rfl (by first | assumption | omega | decide | simp)) <| JLr (Zh Z1 rfl (At.im hb32) hs32 <| Jc Tryz.call148 rfl (fun hin => ih _ (List.getElem_mem h31n) _ _ (RP.mono (Hle.hu _ _) hE32)) rfl ?_)
  rintro _ _ ⟨rfl, rfl⟩
  refine JLA rfl <| Zb <| Zc <| Za <| JLM rfl <| JLn (Pu.neq rfl rfl) <| Zb <| Zg rfl (fun h33 => ?_) (fun h33 => ?_)
  ·replace h33 := nt h33
   replace h33 := df h33
   refine Zc <| Za <| JLM rfl <| JLA rfl <| Zb <| Zl <| ⟨iv (YY (kids[j])), [], Ret.one rfl (RV.tmp rfl), Sub.nil, ?_⟩
   exact ⟨by rw [YY, if_pos hh, ← hinv, ZW h31n, Xy, if_neg h33], rfl⟩
  replace h33 := nf h33
  replace h33 := dt h33
  refine Zj <| Za <| JLM rfl <| JLn (Pu.inc rfl rfl (by omega)) <| JLA rfl <| Zb <| ⟨_, ?_, (j + 1), rfl, rfl, rfl, (Sk Sub.nil), ?_, ?_, ?_, rfl⟩
  ·omega
  ·omega
  ·assumption
  rw [ZW h31n, Xy, if_pos h33] at hinv; exact hinv
 replace h31 := df h31
 have h31n : kids.length ≤ j := by omega
 refine Zz _ rfl <| Zc <| Za <| JLA rfl <| Zb <| Zl <| ⟨iv 0, [], Ret.one rfl (RV.tmp rfl), Sub.nil, ?_⟩
 exact ⟨by rw [YY, if_pos hh, ← hinv, YL h31n]; rfl, rfl⟩
theorem nodeError_ct : ∀ (t : Tm) (d m b : Int) (cs : List Value) (H : Heap), RT H cs t → 0 ≤ b → b + 2 * sizeT t ≤ 1000000 → CT Tryz.prog 124 ⟨[.agg ⟨cs⟩, iv d, iv m, iv b]⟩ [] H (fun v N => v = iv (YP d m b t) ∧ N = []) := by
 intro t
 induction t using Tm.ind with
 | h kind num ref kids cases ih ih' =>
 intro d m b cs H ht hb0 hb
 obtain ⟨ks, cv, rfl, hk, hn, hks, hcv⟩ := RT_mk.1 ht
 rw [sizeT] at hb
 have hn1 : -9223372036854775808 ≤ num := hn.1
 have hn2 : num ≤ 9223372036854775807 := hn.2
 refine Zm Tryz.func124 rfl rfl <| Zc <| Za <| JLr (Zq (l := pkT kind num ref ks cv) rfl rfl fun b1 => JLA rfl <| Zb <| Zc <| Zc <| Za <| JLq (pp b1 0) (ZI rfl rfl) <| JLr (Zd ty3 rfl (At.bx 0 rfl) (ZZ ..) <| Jc Tryz.call145 rfl (fun hin => offR_ct _ _ _ _) rfl ?_))
 rintro _ _ ⟨rfl, rfl⟩
 refine Zb <| Zg rfl (fun h2 => ?_) (fun h2 => ?_)
 ·replace h2 := dt h2
  refine Zc <| Za <| JLA rfl <| Zb <| Zl <| ⟨iv 3, [], Ret.one rfl (RV.tmp rfl), Sub.nil, ?_⟩
  have hx : Y7 d m b kind num ref kids.length cases.length = 3 := by simp only [Y7]; (repeat' split) <;> first | rfl | omega | (exfalso; simp_all; done) | (exfalso; simp_all; omega) | grind
  exact ⟨by rw [YP, hx]; rfl, rfl⟩
 replace h2 := df h2
 refine Zj <| Zc <| Zc <| Za <| JLq (pp b1 0) (ZI rfl rfl) <| JLr (Zd ty3 rfl (At.bx 0 rfl) (ZZ ..) <| Jc Tryz.call146 rfl (fun hin => hasNum_ct _ _) rfl ?_)
 rintro _ _ ⟨rfl, rfl⟩
 refine JLn (Pu.not rfl) <| JLM rfl <| Zv 3 [25, 26, 27] [(27, cond (!(Xd kind)) (.bool (!decide (num = 0))) undef)] ?_ fun f4 => ?_
 ·cases h3 : (!(Xd kind)) with
  | true =>
   replace h3 := nt h3
   refine JLq (pp b1 1) (Z9 rfl rfl) <| JLr (Zd ty3 rfl (At.bx 0 rfl) (Yt ..) <| JLn (Pu.neq rfl rfl) ?_)
   exact Zb ⟨⟨rfl, trivial⟩, rfl⟩
  | false =>
   exact Zy rfl ⟨rfl, trivial⟩
 refine JLn (Pu.pickAnd rfl rfl rfl) <| JLM rfl <| Zv 10 [30, 31, 32, 33, 34, 35, 36, 37, 38, 39] [(39, cond ((!(Xd kind)) && (!decide (num = 0))) undef (.bool ((!(ZF kind)) && (!decide (ref = zS)))))] ?_ fun f8 => ?_
 ·cases h5 : ((!(Xd kind)) && (!decide (num = 0))) with
  | false =>
   refine JLq (pp b1 0) (ZI rfl rfl) <| JLr (Zd ty3 rfl (At.bx 0 rfl) (ZZ ..) <| Jc Tryz.call49 rfl (fun hin => hasRef_ct _ _) rfl ?_)
   rintro _ _ ⟨rfl, rfl⟩
   refine JLn (Pu.not rfl) <| JLM rfl <| Zv 4 [35, 36, 37, 38] [(38, cond (!(ZF kind)) (.bool (!decide (ref = zS))) undef)] ?_ fun f7 => ?_
   ·cases h6 : (!(ZF kind)) with
    | true =>
     replace h6 := nt h6
     refine JLq (pp b1 2) (fa30_2 rfl rfl) <| JLr (Zh YM rfl (At.bx 0 rfl) (pkT_2 ..) <| JLq (.agg ⟨sC zS⟩) (Pu.build (pv := []) (l := sC zS) rfl bld26_) <| JLn (neqS rfl rfl) ?_)
     exact Zb ⟨⟨rfl, trivial⟩, rfl⟩
    | false =>
     exact Zy rfl ⟨rfl, trivial⟩
   refine JLn (Pu.pickAnd rfl rfl rfl) ?_
   exact Zb ⟨⟨rfl, trivial⟩, rfl⟩
  | true =>
   exact Zy rfl ⟨rfl, trivial⟩
 refine JLn (Pu.pickOr rfl rfl rfl) <| JLM rfl <| Zv 9 [42, 43, 44, 45, 46, 47, 48, 49, 50] [(50, cond (((!(Xd kind)) && (!decide (num = 0))) || ((!(ZF kind)) && (!decide (ref = zS)))) undef (.bool ((!decide (kind = 9)) && (decide (0 < (cases.length : Int))))))] ?_ fun f13 => ?_
 ·cases h9 : (((!(Xd kind)) && (!decide (num = 0))) || ((!(ZF kind)) && (!decide (ref = zS)))) with
  | false =>
   obtain ⟨h9a, h9b⟩ := orF h9
   refine JLq (pp b1 0) (ZI rfl rfl) <| JLr (Zd ty3 rfl (At.bx 0 rfl) (ZZ ..) <| JLn (Pu.neq rfl rfl) <| JLM rfl <| Zv 4 [46, 47, 48, 49] [(49, cond (!decide (kind = 9)) (.bool (decide (0 < (cases.length : Int)))) undef)] ?_ fun f12 => ?_)
   ·cases h10 : (!decide (kind = 9)) with
    | true =>
     replace h10 := nt h10
     replace h10 := df h10
     refine JLq (pp b1 35) (ZR rfl rfl) <| JLr (Zd YA rfl (At.bx 0 rfl) (ZT ..) ?_)
     obtain ⟨a11, cap11, hv11⟩ := hcv.sl
     have hle11 := hcv.le
     refine JLn (Pu.lenSl Tryz.runUnderlying28 hv11) <| JLn (Pu.gtr rfl rfl) ?_
     exact Zb ⟨⟨rfl, trivial⟩, rfl⟩
    | false =>
     exact Zy rfl ⟨rfl, trivial⟩
   refine JLn (Pu.pickAnd rfl rfl rfl) ?_
   exact Zb ⟨⟨rfl, trivial⟩, rfl⟩
  | true =>
   exact Zy rfl ⟨rfl, trivial⟩
 refine JLn (Pu.pickOr rfl rfl rfl) <| Zb <| Zg rfl (fun h14 => ?_) (fun h14 => ?_)
 ·refine Zc <| Za <| JLA rfl <| Zb <| Zl <| ⟨iv 7, [], Ret.one rfl (RV.tmp rfl), Sub.nil, ?_⟩
  have hx : Y7 d m b kind num ref kids.length cases.length = 7 := by simp only [Y7]; (repeat' split) <;> first | rfl | omega | (exfalso; simp_all; done) | (exfalso; simp_all; omega) | grind
  exact ⟨by rw [YP, hx]; rfl, rfl⟩
 obtain ⟨h14a, h14b⟩ := orF h14
 obtain ⟨h14aa, h14ab⟩ := orF h14a
 refine Zj <| Zc <| Za <| JLq (pp b1 0) (ZI rfl rfl) <| JLr (Zd ty3 rfl (At.bx 0 rfl) (ZZ ..) <| Jc Tryz.call147 rfl (fun hin => kidsR_ct _ _) rfl ?_)
 rintro _ _ ⟨rfl, rfl⟩
 refine JLM rfl <| JLn (Pu.extract rfl rfl) <| JLn (Pu.extract rfl rfl) <| JLA rfl <| JLA rfl <| Zb <| Zc <| Zc <| Za <| JLq (pp b1 34) (Z3 rfl rfl) <| JLr (Zd Y0 rfl (At.bx 0 rfl) (Z4 ..) ?_)
 obtain ⟨a15, cap15, hv15⟩ := hks.sl
 have hle15 := hks.le
 refine JLn (Pu.lenSl Tryz.runUnderlying27 hv15) <| JLM rfl <| JLM rfl <| Jc Tryz.call145 rfl (fun hin => offR_ct _ _ _ _) rfl ?_
 rintro _ _ ⟨rfl, rfl⟩
 refine JLM rfl <| Zv 4 [65, 66, 67, 68] [(68, cond (decide ((kids.length : Int) < loK kind ∨ hiK kind < (kids.length : Int))) undef (.bool (decide (8 < (cases.length : Int)))))] ?_ fun f18 => ?_
 ·cases h16 : (decide ((kids.length : Int) < loK kind ∨ hiK kind < (kids.length : Int))) with
  | false =>
   replace h16 := df h16
   refine JLq (pp b1 35) (ZR rfl rfl) <| JLr (Zd YA rfl (At.bx 0 rfl) (ZT ..) ?_)
   obtain ⟨a17, cap17, hv17⟩ := hcv.sl
   have hle17 := hcv.le
   refine JLn (Pu.lenSl Tryz.runUnderlying28 hv17) <| JLn (Pu.gtr rfl rfl) ?_
   exact Zb ⟨⟨rfl, trivial⟩, rfl⟩
  | true =>
   exact Zy rfl ⟨rfl, trivial⟩
 refine JLn (Pu.pickOr rfl rfl rfl) <| Zb <| Zg rfl (fun h19 => ?_) (fun h19 => ?_)
 ·refine Zc <| Za <| JLA rfl <| Zb <| Zl <| ⟨iv 2, [], Ret.one rfl (RV.tmp rfl), Sub.nil, ?_⟩
  have hx : Y7 d m b kind num ref kids.length cases.length = 2 := by simp only [Y7]; (repeat' split) <;> first | rfl | omega | (exfalso; simp_all; done) | (exfalso; simp_all; omega) | grind
  exact ⟨by rw [YP, hx]; rfl, rfl⟩
 obtain ⟨h19a, h19b⟩ := orF h19
 replace h19a := df h19a
 replace h19b := df h19b
 refine Zj <| Zc <| Zc <| Za <| JLq (pp b1 0) (ZI rfl rfl) <| JLr (Zd ty3 rfl (At.bx 0 rfl) (ZZ ..) <| JLn (Pu.eql rfl rfl) <| JLM rfl <| Zv 3 [74, 75, 76] [(76, cond (decide (kind = 2)) (.bool (decide (num < 0 ∨ 1073741824 < num))) undef)] ?_ fun f21 => ?_)
 ·cases h20 : (decide (kind = 2)) with
  | true =>
   replace h20 := dt h20
   refine JLq (pp b1 1) (Z9 rfl rfl) <| JLr (Zd ty3 rfl (At.bx 0 rfl) (Yt ..) <| Jc Tryz.call145 rfl (fun hin => offR_ct _ _ _ _) rfl ?_)
   rintro _ _ ⟨rfl, rfl⟩
   exact Zb ⟨⟨rfl, trivial⟩, rfl⟩
  | false =>
   exact Zy rfl ⟨rfl, trivial⟩
 refine JLn (Pu.pickAnd rfl rfl rfl) <| JLM rfl <| Zv 8 [79, 80, 81, 82, 83, 84, 85, 86] [(86, cond ((decide (kind = 2)) && (decide (num < 0 ∨ 1073741824 < num))) undef (.bool ((decide (kind = 10)) && (decide (num < 1 ∨ 5 < num)))))] ?_ fun f25 => ?_
 ·cases h22 : ((decide (kind = 2)) && (decide (num < 0 ∨ 1073741824 < num))) with
  | false =>
   refine JLq (pp b1 0) (ZI rfl rfl) <| JLr (Zd ty3 rfl (At.bx 0 rfl) (ZZ ..) <| JLn (Pu.eql rfl rfl) <| JLM rfl <| Zv 3 [83, 84, 85] [(85, cond (decide (kind = 10)) (.bool (decide (num < 1 ∨ 5 < num))) undef)] ?_ fun f24 => ?_)
   ·cases h23 : (decide (kind = 10)) with
    | true =>
     replace h23 := dt h23
     refine JLq (pp b1 1) (Z9 rfl rfl) <| JLr (Zd ty3 rfl (At.bx 0 rfl) (Yt ..) <| Jc Tryz.call145 rfl (fun hin => offR_ct _ _ _ _) rfl ?_)
     rintro _ _ ⟨rfl, rfl⟩
     exact Zb ⟨⟨rfl, trivial⟩, rfl⟩
    | false =>
     exact Zy rfl ⟨rfl, trivial⟩
   refine JLn (Pu.pickAnd rfl rfl rfl) ?_
   exact Zb ⟨⟨rfl, trivial⟩, rfl⟩
  | true =>
   exact Zy rfl ⟨rfl, trivial⟩
 refine JLn (Pu.pickOr rfl rfl rfl) <| JLM rfl <| Zv 13 [89, 90, 91, 92, 93, 94, 95, 96, 97, 98, 99, 100, 101] [(101, cond (((decide (kind = 2)) && (decide (num < 0 ∨ 1073741824 < num))) || ((decide (kind = 10)) && (decide (num < 1 ∨ 5 < num)))) undef (.bool (((decide (kind = 8)) || (decide (kind = 11))) && (decide (num < 0 ∨ 7 < num)))))] ?_ fun f31 => ?_
 ·cases h26 : (((decide (kind = 2)) && (decide (num < 0 ∨ 1073741824 < num))) || ((decide (kind = 10)) && (decide (num < 1 ∨ 5 < num)))) with
  | false =>
   obtain ⟨h26a, h26b⟩ := orF h26
   refine JLq (pp b1 0) (ZI rfl rfl) <| JLr (Zd ty3 rfl (At.bx 0 rfl) (ZZ ..) <| JLn (Pu.eql rfl rfl) <| JLM rfl <| Zv 3 [93, 94, 95] [(95, cond (decide (kind = 8)) undef (.bool (decide (kind = 11))))] ?_ fun f28 => ?_)
   ·cases h27 : (decide (kind = 8)) with
    | false =>
     replace h27 := df h27
     refine JLq (pp b1 0) (ZI rfl rfl) <| JLr (Zd ty3 rfl (At.bx 0 rfl) (ZZ ..) <| JLn (Pu.eql rfl rfl) ?_)
     exact Zb ⟨⟨rfl, trivial⟩, rfl⟩
    | true =>
     exact Zy rfl ⟨rfl, trivial⟩
   refine JLn (Pu.pickOr rfl rfl rfl) <| JLM rfl <| Zv 3 [98, 99, 100] [(100, cond ((decide (kind = 8)) || (decide (kind = 11))) (.bool (decide (num < 0 ∨ 7 < num))) undef)] ?_ fun f30 => ?_
   ·cases h29 : ((decide (kind = 8)) || (decide (kind = 11))) with
    | true =>
     refine JLq (pp b1 1) (Z9 rfl rfl) <| JLr (Zd ty3 rfl (At.bx 0 rfl) (Yt ..) <| Jc Tryz.call145 rfl (fun hin => offR_ct _ _ _ _) rfl ?_)
     rintro _ _ ⟨rfl, rfl⟩
     exact Zb ⟨⟨rfl, trivial⟩, rfl⟩
    | false =>
     exact Zy rfl ⟨rfl, trivial⟩
   refine JLn (Pu.pickAnd rfl rfl rfl) ?_
   exact Zb ⟨⟨rfl, trivial⟩, rfl⟩
  | true =>
   exact Zy rfl ⟨rfl, trivial⟩
 refine JLn (Pu.pickOr rfl rfl rfl) <| Zb <| Zg rfl (fun h32 => ?_) (fun h32 => ?_)
 ·refine Zc <| Za <| JLA rfl <| Zb <| Zl <| ⟨iv 3, [], Ret.one rfl (RV.tmp rfl), Sub.nil, ?_⟩
  have hx : Y7 d m b kind num ref kids.length cases.length = 3 := by simp only [Y7]; (repeat' split) <;> first | rfl | omega | (exfalso; simp_all; done) | (exfalso; simp_all; omega) | grind
  exact ⟨by rw [YP, hx]; rfl, rfl⟩
 obtain ⟨h32a, h32b⟩ := orF h32
 obtain ⟨h32aa, h32ab⟩ := orF h32a
 refine Zj <| Zc <| Zc <| Za <| JLq (pp b1 0) (ZI rfl rfl) <| JLr (Zd ty3 rfl (At.bx 0 rfl) (ZZ ..) <| JLn (Pu.eql rfl rfl) <| JLM rfl <| Zv 17 [107, 108, 109, 110, 111, 112, 113, 114, 115, 116, 117, 118, 119, 120, 121, 122, 123] [(123, cond (decide (kind = 1)) (.bool ((decide (num < 0)) || ((decide (b ≤ num)) && (decide (d ≤ num - b))))) undef)] ?_ fun f38 => ?_)
 ·cases h33 : (decide (kind = 1)) with
  | true =>
   replace h33 := dt h33
   refine JLq (pp b1 1) (Z9 rfl rfl) <| JLr (Zd ty3 rfl (At.bx 0 rfl) (Yt ..) <| JLn (Pu.lss rfl rfl) <| JLM rfl <| Zv 12 [111, 112, 113, 114, 115, 116, 117, 118, 119, 120, 121, 122] [(122, cond (decide (num < 0)) undef (.bool ((decide (b ≤ num)) && (decide (d ≤ num - b)))))] ?_ fun f37 => ?_)
   ·cases h34 : (decide (num < 0)) with
    | false =>
     replace h34 := df h34
     refine JLq (pp b1 1) (Z9 rfl rfl) <| JLr (Zd ty3 rfl (At.bx 0 rfl) (Yt ..) <| JLM rfl <| JLn (Pu.geq rfl rfl) <| JLM rfl <| Zv 6 [116, 117, 118, 119, 120, 121] [(121, cond (decide (b ≤ num)) (.bool (decide (d ≤ num - b))) undef)] ?_ fun f36 => ?_)
     ·cases h35 : (decide (b ≤ num)) with
      | true =>
       replace h35 := dt h35
       refine JLq (pp b1 1) (Z9 rfl rfl) <| JLr (Zd ty3 rfl (At.bx 0 rfl) (Yt ..) <| JLM rfl <| JLn (Pu.sub64 rfl rfl (by first | omega | (constructor <;> omega))) <| JLM rfl <| JLn (Pu.geq rfl rfl) ?_)
       exact Zb ⟨⟨rfl, trivial⟩, rfl⟩
      | false =>
       exact Zy rfl ⟨rfl, trivial⟩
     refine JLn (Pu.pickAnd rfl rfl rfl) ?_
     exact Zb ⟨⟨rfl, trivial⟩, rfl⟩
    | true =>
     exact Zy rfl ⟨rfl, trivial⟩
   refine JLn (Pu.pickOr rfl rfl rfl) ?_
   exact Zb ⟨⟨rfl, trivial⟩, rfl⟩
  | false =>
   exact Zy rfl ⟨rfl, trivial⟩
 refine JLn (Pu.pickAnd rfl rfl rfl) <| JLM rfl <| Zv 14 [126, 127, 128, 129, 130, 131, 132, 133, 134, 135, 136, 137, 138, 139] [(139, cond ((decide (kind = 1)) && ((decide (num < 0)) || ((decide (b ≤ num)) && (decide (d ≤ num - b))))) undef (.bool ((decide (kind = 7)) && ((decide (num < 0)) || (decide (m ≤ num))))))] ?_ fun f44 => ?_
 ·cases h39 : ((decide (kind = 1)) && ((decide (num < 0)) || ((decide (b ≤ num)) && (decide (d ≤ num - b))))) with
  | false =>
   refine JLq (pp b1 0) (ZI rfl rfl) <| JLr (Zd ty3 rfl (At.bx 0 rfl) (ZZ ..) <| JLn (Pu.eql rfl rfl) <| JLM rfl <| Zv 9 [130, 131, 132, 133, 134, 135, 136, 137, 138] [(138, cond (decide (kind = 7)) (.bool ((decide (num < 0)) || (decide (m ≤ num)))) undef)] ?_ fun f43 => ?_)
   ·cases h40 : (decide (kind = 7)) with
    | true =>
     replace h40 := dt h40
     refine JLq (pp b1 1) (Z9 rfl rfl) <| JLr (Zd ty3 rfl (At.bx 0 rfl) (Yt ..) <| JLn (Pu.lss rfl rfl) <| JLM rfl <| Zv 4 [134, 135, 136, 137] [(137, cond (decide (num < 0)) undef (.bool (decide (m ≤ num))))] ?_ fun f42 => ?_)
     ·cases h41 : (decide (num < 0)) with
      | false =>
       replace h41 := df h41
       refine JLq (pp b1 1) (Z9 rfl rfl) <| JLr (Zd ty3 rfl (At.bx 0 rfl) (Yt ..) <| JLM rfl <| JLn (Pu.geq rfl rfl) ?_)
       exact Zb ⟨⟨rfl, trivial⟩, rfl⟩
      | true =>
       exact Zy rfl ⟨rfl, trivial⟩
     refine JLn (Pu.pickOr rfl rfl rfl) ?_
     exact Zb ⟨⟨rfl, trivial⟩, rfl⟩
    | false =>
     exact Zy rfl ⟨rfl, trivial⟩
   refine JLn (Pu.pickAnd rfl rfl rfl) ?_
   exact Zb ⟨⟨rfl, trivial⟩, rfl⟩
  | true =>
   exact Zy rfl ⟨rfl, trivial⟩
 refine JLn (Pu.pickOr rfl rfl rfl) <| Zb <| Zg rfl (fun h45 => ?_) (fun h45 => ?_)
 ·refine Zc <| Za <| JLA rfl <| Zb <| Zl <| ⟨iv 1, [], Ret.one rfl (RV.tmp rfl), Sub.nil, ?_⟩
  have hx : Y7 d m b kind num ref kids.length cases.length = 1 := by simp only [Y7]; (repeat' split) <;> first | rfl | omega | (exfalso; simp_all; done) | (exfalso; simp_all; omega) | grind
  exact ⟨by rw [YP, hx]; rfl, rfl⟩
 obtain ⟨h45a, h45b⟩ := orF h45
 refine Zj <| Zc <| Zc <| Za <| JLA rfl <| Zb <| Zn <| ZB (fun k ρ M => ∃ (j : Nat), ρ 1 = iv d ∧ ρ 2 = iv m ∧ ρ 3 = iv b ∧ ρ 4 = pp b1 0 ∧ ρ 8 = iv 0 ∧ ρ 11 = iv ((j : Int)) ∧ Sub [(BX b1 (pkT kind num ref ks cv) 30)] M ∧ j ≤ cases.length ∧ Y7 d m b kind num ref kids.length cases.length = 0 ∧ Y6 (cases.drop j) = Y6 cases ∧ k = cases.length - j) _ ⟨0, rfl, rfl, rfl, rfl, rfl, rfl, (Sk Sub.nil), Nat.zero_le _, (by simp only [Y7]; (repeat' split) <;> first | rfl | omega | (exfalso; simp_all; done) | (exfalso; simp_all; omega) | grind), rfl, rfl⟩ ?_
 rintro _ ρ46 _ ⟨j, e47, e48, e49, e50, e51, e52, hm53, hj, hh, hinv, rfl⟩
 obtain ⟨ρ54, rfl⟩ := Zr (uc e47 (uc e48 (uc e49 (uc e50 (uc e51 (uc e52 un))))))
 clear e47 e48 e49 e50 e51 e52
 refine ZG hm53 ?_
 have hlen := hcv.le
 refine Zc <| Zc <| Za <| JLM rfl <| JLq (pp b1 35) (ZR rfl rfl) <| JLr (Zd YA rfl (At.bx 0 rfl) (ZT ..) ?_)
 obtain ⟨a55, cap55, hv55⟩ := hcv.sl
 have hle55 := hcv.le
 refine JLn (Pu.lenSl Tryz.runUnderlying28 hv55) <| JLn (Pu.lss rfl rfl) <| Zb <| Zg rfl (fun h56 => ?_) (fun h56 => ?_)
 ·replace h56 := dt h56
  have h56n : j < cases.length := by omega
  refine Zj <| Zc <| Zn <| Zc <| Za <| JLq (pp b1 35) (ZR rfl rfl) <| JLr (Zd YA rfl (At.bx 0 rfl) (ZT ..) <| JLM rfl ?_)
  obtain ⟨b57, o57, cap57, row57, T57, fr57, cs57, hv57, hb57, hs57, hE57⟩ := hcv.get j (by first | assumption | omega | decide | simp)
  obtain ⟨ca57, cb57, rfl, hA57, hB57⟩ := hE57
  refine JLq (pp b57 (o57 + j * 71)) (Pu.idx j Tryz.runUnderlying28 YV hv57 rfl rfl (by first | assumption | omega | decide | simp)) <| JLq (pp b57 (o57 + j * 71)) (Xi rfl rfl) <| JLr (Zh Z1 rfl (At.im hb57) (sub_sub0 hs57 (sub_l (ZC hA57))) <| Jc Tryz.call148 rfl (fun hin => patternErrorR_ct _ _ _ (RP.mono (Hle.hu _ _) hA57)) rfl ?_)
  rintro _ _ ⟨rfl, rfl⟩
  refine JLA rfl <| Zb <| Zc <| Za <| JLM rfl <| JLn (Pu.neq rfl rfl) <| Zb <| Zg rfl (fun h58 => ?_) (fun h58 => ?_)
  ·replace h58 := nt h58
   replace h58 := df h58
   refine Zc <| Za <| JLM rfl <| JLA rfl <| Zb <| Zl <| ⟨iv (YY (cases[j].1)), [], Ret.one rfl (RV.tmp rfl), Sub.nil, ?_⟩
   exact ⟨by rw [YP, if_pos hh, ← hinv, ZW h56n, Y6, if_neg h58, if_neg h58], rfl⟩
  replace h58 := nf h58
  replace h58 := dt h58
  refine Zj <| Za <| JLM rfl <| JLn (Pu.inc rfl rfl (by omega)) <| JLA rfl <| Zb <| ⟨_, ?_, (j + 1), rfl, rfl, rfl, rfl, rfl, rfl, (Sk Sub.nil), ?_, ?_, ?_, rfl⟩
  ·omega
  ·omega
  ·assumption
  rw [ZW h56n, Y6, if_pos h58] at hinv; exact hinv
 replace h56 := df h56
 have h56n : cases.length ≤ j := by omega
 refine Zz _ rfl <| Zc <| Zc <| Za <| JLA rfl <| Zb <| Zn <| ZB (fun k ρ M => ∃ (j : Nat), ρ 1 = iv d ∧ ρ 2 = iv m ∧ ρ 3 = iv b ∧ ρ 4 = pp b1 0 ∧ ρ 8 = iv 0 ∧ ρ 13 = iv ((j : Int)) ∧ Sub [(BX b1 (pkT kind num ref ks cv) 30)] M ∧ j ≤ kids.length ∧ Y6 cases = 0 ∧ Xf d m b kind j (kids.drop j) = Xf d m b kind 0 kids ∧ k = kids.length - j) _ ⟨0, rfl, rfl, rfl, rfl, rfl, rfl, (Sk Sub.nil), Nat.zero_le _, (by rw [← hinv, YL h56n]; rfl), rfl, rfl⟩ ?_
 rintro _ ρ59 _ ⟨j, e60, e61, e62, e63, e64, e65, hm66, hj, h1, hinv, rfl⟩
 obtain ⟨ρ67, rfl⟩ := Zr (uc e60 (uc e61 (uc e62 (uc e63 (uc e64 (uc e65 un))))))
 clear e60 e61 e62 e63 e64 e65
 refine ZG hm66 ?_
 have hlen := hks.le
 refine Zc <| Zc <| Za <| JLM rfl <| JLq (pp b1 34) (Z3 rfl rfl) <| JLr (Zd Y0 rfl (At.bx 0 rfl) (Z4 ..) ?_)
 obtain ⟨a68, cap68, hv68⟩ := hks.sl
 have hle68 := hks.le
 refine JLn (Pu.lenSl Tryz.runUnderlying27 hv68) <| JLn (Pu.lss rfl rfl) <| Zb <| Zg rfl (fun h69 => ?_) (fun h69 => ?_)
 ·replace h69 := dt h69
  have h69n : j < kids.length := by omega
  have hs1 := Y4 _ (List.getElem_mem h69n)
  have hm1 := more_le kind j
  refine Zj <| Zc <| Zn <| Zc <| ZJ mixed #[0, 1, 0, 7, 15, 0, 0, 0, 0, 256, 0, 1792, 3968, 8191, 16383] 13 [some 165, some 166, some 167, some 168, some 169, some 170, some 171, some 172, some 173, some 174, some 175, some 176, some 177] [] [(11, fun _ _ vw qw => vw = iv (Z8 kind ((j : Int))) ∧ qw = [])] rfl (by kernel_rfl) rfl (by kernel_rfl) <| Dq (pp b1 34) (fun _ => Z3 rfl rfl) <| Dl1 Y0 (At.bx 0 rfl) (Z4 ..) <| DM (fun _ => rfl) ?_
  obtain ⟨b71, o71, cap71, row71, T71, fr71, cs71, hv71, hb71, hs71, hE71⟩ := hks.get j (by first | assumption | omega | decide | simp)
  refine Dq (pp b71 (o71 + j * 36)) (fun _ => Pu.idx j Tryz.runUnderlying27 Zt hv71 rfl rfl (by first | assumption | omega | decide | simp)) <| Dl Zt (At.im hb71) hs71 <| DM (fun _ => rfl) <| DM (fun _ => rfl) <| DM (fun _ => rfl) <| Dq (pp b1 0) (fun _ => ZI rfl rfl) <| Dl1 ty3 (At.bx 0 rfl) (ZZ ..) <| DM (fun _ => rfl) <| Dc rfl Tryz.call149 (fun _ => rfl) (fun hin => moreR_ct _ _ _) ?_
  rintro _ _ ⟨rfl, rfl⟩
  refine Dn (fun _ => Pu.add64 rfl rfl (by first | omega | (constructor <;> omega))) <| ZV (M' := [(BX b1 (pkT kind num ref ks cv) 30)]) rfl ?_
  show JL _ _ _ [_, _] _ _ _
  refine Jc Tryz.call124 rfl (fun hin => ih _ (List.getElem_mem h69n) _ _ _ _ _ (RT.mono (Hle.hu _ _) hE71) (by omega) (by omega)) rfl ?_
  rintro _ _ ⟨rfl, rfl⟩
  refine JLA rfl <| Zb <| Zc <| Za <| JLM rfl <| JLn (Pu.neq rfl rfl) <| Zb <| Zg rfl (fun h72 => ?_) (fun h72 => ?_)
  ·replace h72 := nt h72
   replace h72 := df h72
   refine Zc <| Za <| JLM rfl <| JLA rfl <| Zb <| Zl <| ⟨iv (YP d m (b + (Z8 kind ((j : Int)))) (kids[j])), [], Ret.one rfl (RV.tmp rfl), Sub.nil, ?_⟩
   exact ⟨by rw [YP, if_pos hh, if_pos h1, ← hinv, ZW h69n, Xf, if_neg h72, if_neg h72], rfl⟩
  replace h72 := nf h72
  replace h72 := dt h72
  refine Zj <| Za <| JLM rfl <| JLn (Pu.inc rfl rfl (by omega)) <| JLA rfl <| Zb <| ⟨_, ?_, (j + 1), rfl, rfl, rfl, rfl, rfl, rfl, (Sk Sub.nil), ?_, ?_, ?_, rfl⟩
  ·omega
  ·omega
  ·assumption
  rw [ZW h69n, Xf, if_pos h72] at hinv; exact hinv
 replace h69 := df h69
 have h69n : kids.length ≤ j := by omega
 refine Zz _ rfl <| Zc <| Zc <| Za <| JLA rfl <| Zb <| Zn <| ZB (fun k ρ M => ∃ (j : Nat), ρ 1 = iv d ∧ ρ 2 = iv m ∧ ρ 3 = iv b ∧ ρ 4 = pp b1 0 ∧ ρ 8 = iv 0 ∧ ρ 15 = iv ((j : Int)) ∧ Sub [(BX b1 (pkT kind num ref ks cv) 30)] M ∧ j ≤ cases.length ∧ Xf d m b kind 0 kids = 0 ∧ Xs d m b (cases.drop j) = Xs d m b cases ∧ k = cases.length - j) _ ⟨0, rfl, rfl, rfl, rfl, rfl, rfl, (Sk Sub.nil), Nat.zero_le _, (by rw [← hinv, YL h69n]; rfl), rfl, rfl⟩ ?_
 rintro _ ρ73 _ ⟨j, e74, e75, e76, e77, e78, e79, hm80, hj, h2, hinv, rfl⟩
 obtain ⟨ρ81, rfl⟩ := Zr (uc e74 (uc e75 (uc e76 (uc e77 (uc e78 (uc e79 un))))))
 clear e74 e75 e76 e77 e78 e79
 refine ZG hm80 ?_
 have hlen := hcv.le
 refine Zc <| Zc <| Za <| JLM rfl <| JLq (pp b1 35) (ZR rfl rfl) <| JLr (Zd YA rfl (At.bx 0 rfl) (ZT ..) ?_)
 obtain ⟨a82, cap82, hv82⟩ := hcv.sl
 have hle82 := hcv.le
 refine JLn (Pu.lenSl Tryz.runUnderlying28 hv82) <| JLn (Pu.lss rfl rfl) <| Zb <| Zg rfl (fun h83 => ?_) (fun h83 => ?_)
 ·replace h83 := dt h83
  have h83n : j < cases.length := by omega
  have hs1 := YN _ (List.getElem_mem h83n)
  have hm1 := binds_le (cases[j]).1
  refine Zj <| Zc <| Zn <| Zc <| ZJ mixed #[0, 1, 0, 7, 15, 31, 0, 0, 0, 0, 512, 0, 3584, 7680, 15872, 32256, 65280, 131071, 262143] 17 [some 189, some 190, some 191, some 192, some 193, some 194, some 195, some 196, some 197, some 198, some 199, some 200, some 201, some 202, some 203, some 204, some 205] [] [(15, fun _ _ vw qw => vw = iv ((binds (cases[j].1) : Int)) ∧ qw = [])] rfl (by kernel_rfl) rfl (by kernel_rfl) <| Dq (pp b1 35) (fun _ => ZR rfl rfl) <| Dl1 YA (At.bx 0 rfl) (ZT ..) <| DM (fun _ => rfl) ?_
  obtain ⟨b86, o86, cap86, row86, T86, fr86, cs86, hv86, hb86, hs86, hE86⟩ := hcv.get j (by first | assumption | omega | decide | simp)
  obtain ⟨ca86, cb86, rfl, hA86, hB86⟩ := hE86
  refine Dq (pp b86 (o86 + j * 71)) (fun _ => Pu.idx j Tryz.runUnderlying28 YV hv86 rfl rfl (by first | assumption | omega | decide | simp)) <| Dq (pp b86 (o86 + j * 71 + 35)) (fun _ => fa86_1 rfl rfl) <| Dl Zt (At.im hb86) (sub_sub hs86 (sub_r (ZC hA86) (Zu hB86))) <| DM (fun _ => rfl) <| DM (fun _ => rfl) <| DM (fun _ => rfl) <| Dq (pp b1 35) (fun _ => ZR rfl rfl) <| Dl1 YA (At.bx 0 rfl) (ZT ..) <| DM (fun _ => rfl) ?_
  obtain ⟨b87, o87, cap87, row87, T87, fr87, cs87, hv87, hb87, hs87, hE87⟩ := hcv.get j (by first | assumption | omega | decide | simp)
  obtain ⟨ca87, cb87, rfl, hA87, hB87⟩ := hE87
  refine Dq (pp b87 (o87 + j * 71)) (fun _ => Pu.idx j Tryz.runUnderlying28 YV hv87 rfl rfl (by first | assumption | omega | decide | simp)) <| Dq (pp b87 (o87 + j * 71)) (fun _ => Xi rfl rfl) <| Dl Z1 (At.im hb87) (sub_sub0 hs87 (sub_l (ZC hA87))) ?_
  refine Dc rfl Tryz.call150 (fun _ => rfl) (fun hin => bindsR_ct _ _ _ (RP.mono (Hle.hu _ _) hA87) (by omega)) ?_
  rintro _ _ ⟨rfl, rfl⟩
  refine Dn (fun _ => Pu.add64 rfl rfl (by first | omega | (constructor <;> omega))) <| ZV (M' := [(BX b1 (pkT kind num ref ks cv) 30)]) rfl ?_
  show JL _ _ _ [_, _] _ _ _
  refine Jc Tryz.call124 rfl (fun hin => ih' _ (List.getElem_mem h83n) _ _ _ _ _ (RT.mono (Hle.hu _ _) hB86) (by omega) (by omega)) rfl ?_
  rintro _ _ ⟨rfl, rfl⟩
  refine JLA rfl <| Zb <| Zc <| Za <| JLM rfl <| JLn (Pu.neq rfl rfl) <| Zb <| Zg rfl (fun h88 => ?_) (fun h88 => ?_)
  ·replace h88 := nt h88
   replace h88 := df h88
   refine Zc <| Za <| JLM rfl <| JLA rfl <| Zb <| Zl <| ⟨iv (YP d m (b + ((binds (cases[j].1) : Int))) (cases[j].2)), [], Ret.one rfl (RV.tmp rfl), Sub.nil, ?_⟩
   exact ⟨by rw [YP, if_pos hh, if_pos h1, if_pos h2, ← hinv, ZW h83n, Xs, if_neg h88], rfl⟩
  replace h88 := nf h88
  replace h88 := dt h88
  refine Zj <| Za <| JLM rfl <| JLn (Pu.inc rfl rfl (by omega)) <| JLA rfl <| Zb <| ⟨_, ?_, (j + 1), rfl, rfl, rfl, rfl, rfl, rfl, (Sk Sub.nil), ?_, ?_, ?_, rfl⟩
  ·omega
  ·omega
  ·assumption
  rw [ZW h83n, Xs, if_pos h88] at hinv; exact hinv
 replace h83 := df h83
 have h83n : cases.length ≤ j := by omega
 refine Zz _ rfl <| Zc <| Za <| JLA rfl <| Zb <| Zl <| ⟨iv 0, [], Ret.one rfl (RV.tmp rfl), Sub.nil, ?_⟩
 exact ⟨by rw [YP, if_pos hh, if_pos h1, if_pos h2, ← hinv, YL h83n]; rfl, rfl⟩
end Go.Proofs.YtkjafeejpmcnkaaGreat.Hs
/-! Walks, printed by a program of this session's own (gen.py). -/
namespace Go.Proofs.YtkjafeejpmcnkaaGreat.Hs
open Go Go.Proofs
set_option maxRecDepth 100000
set_option linter.unusedVariables false
set_option linter.unusedSimpArgs false
attribute [local irreducible] JL J CT wlo DT
theorem patternSize_ct : ∀ (p : Pt) (m : Int) (cs : List Value) (H : Heap), RP H cs p → sizeP p ≤ 1000000000 → sizeP p ≤ m + 2000000000 → m ≤ 2000000000 → CT Tryz.prog 159 ⟨[.agg ⟨cs⟩, iv m]⟩ [] H (fun v N => v = .tuple ⟨[iv (XD m p).1, iv (XD m p).2]⟩ ∧ N = []) := by
 intro p
 induction p using Pt.ind with
 | h kind num ref kids ih =>
 intro m cs H hp hz1 hz2 hz3
 obtain ⟨ks, rfl, hk, hn, hks⟩ := RP_mk.1 hp
 rw [sizeP] at hz1 hz2
 refine Zm Tryz.func159 rfl rfl <| Zc <| Za <| JLr (Zq (l := pkP kind num ref ks) rfl rfl fun b1 => JLA rfl <| JLA rfl <| Zb <| Zc <| Za <| JLA rfl <| JLA rfl <| Zb <| Zc ?_)
 refine Zc <| Za <| JLA rfl <| Zb <| Zn <| ZB (fun k ρ M => ∃ (j : Nat) (n d : Int), ρ 1 = iv m ∧ ρ 2 = pp b1 0 ∧ ρ 4 = iv 0 ∧ ρ 5 = iv 0 ∧ ρ 6 = iv n ∧ ρ 7 = iv d ∧ ρ 8 = iv ((j : Int)) ∧ Sub [(BX b1 (pkP kind num ref ks) 81)] M ∧ j ≤ kids.length ∧ XC m (kids.drop j) n d = XC m kids 1 0 ∧ 0 ≤ d ∧ d < n ∧ n + ZQ (kids.drop j) ≤ 1 + ZQ kids ∧ k = kids.length - j) _ ⟨0, 1, 0, rfl, rfl, rfl, rfl, rfl, rfl, rfl, (Sk Sub.nil), Nat.zero_le _, rfl, (by omega), (by omega), (by simp), rfl⟩ ?_
 rintro _ ρ2 _ ⟨j, n, d, e3, e4, e5, e6, e7, e8, e9, hm10, hj, hinv, hd0, hdn, hnn, rfl⟩
 obtain ⟨ρ11, rfl⟩ := Zr (uc e3 (uc e4 (uc e5 (uc e6 (uc e7 (uc e8 (uc e9 un)))))))
 clear e3 e4 e5 e6 e7 e8 e9
 refine ZG hm10 ?_
 have hlen := hks.le
 refine Zc <| Zc <| Za <| JLM rfl <| JLq (pp b1 34) (Z5 rfl rfl) <| JLr (Zd Xa rfl (At.bx 0 rfl) (Yf ..) ?_)
 obtain ⟨a12, cap12, hv12⟩ := hks.sl
 have hle12 := hks.le
 refine JLn (Pu.lenSl Tryz.runUnderlying79 hv12) <| JLn (Pu.lss rfl rfl) <| JLM rfl <| Zv 3 [17, 18, 19] [(19, cond (decide ((j : Int) < (kids.length : Int))) (.bool (decide (n ≤ m))) undef)] ?_ fun f14 => ?_
 ·cases h13 : (decide ((j : Int) < (kids.length : Int))) with
  | true =>
   replace h13 := dt h13
   have h13n : j < kids.length := by omega
   have hs1 := sizePs_mem _ (List.getElem_mem h13n)
   have hs2 : ZQ (kids.drop j) = sizeP kids[j] + ZQ (kids.drop (j + 1)) := by rw [ZW h13n, ZQ]
   have hs3 := extP_le kids[j] (m - 1)
   refine JLM rfl <| JLM rfl <| JLn (Pu.leq rfl rfl) ?_
   exact Zb ⟨⟨rfl, trivial⟩, rfl⟩
  | false =>
   exact Zy rfl ⟨rfl, trivial⟩
 refine JLn (Pu.pickAnd rfl rfl rfl) <| Zb <| Zg rfl (fun h15 => ?_) (fun h15 => ?_)
 ·obtain ⟨h15a, h15b⟩ := YC h15
  replace h15a := dt h15a
  have h15an : j < kids.length := by omega
  have hs1 := sizePs_mem _ (List.getElem_mem h15an)
  have hs2 : ZQ (kids.drop j) = sizeP kids[j] + ZQ (kids.drop (j + 1)) := by rw [ZW h15an, ZQ]
  have hs3 := extP_le kids[j] (m - 1)
  replace h15b := dt h15b
  refine Zj <| Zc <| Zn <| Zc <| Za <| JLq (pp b1 34) (Z5 rfl rfl) <| JLr (Zd Xa rfl (At.bx 0 rfl) (Yf ..) <| JLM rfl ?_)
  obtain ⟨b16, o16, cap16, row16, T16, fr16, cs16, hv16, hb16, hs16, hE16⟩ := hks.get j (by first | assumption | omega | decide | simp)
  refine JLq (pp b16 (o16 + j * 35)) (Pu.idx j Tryz.runUnderlying79 Z1 hv16 rfl rfl (by first | assumption | omega | decide | simp)) <| JLr (Zh Z1 rfl (At.im hb16) hs16 <| JLM rfl <| JLn (Pu.sub64 rfl rfl (by first | omega | (constructor <;> omega))) <| Jc Tryz.call159 rfl (fun hin => ih _ (List.getElem_mem h15an) _ _ _ (RP.mono (Hle.hu _ _) hE16) (by omega) (by omega) (by omega)) rfl ?_)
  rintro _ _ ⟨rfl, rfl⟩
  refine JLM rfl <| JLn (Pu.extract rfl rfl) <| JLn (Pu.extract rfl rfl) <| JLA rfl <| JLA rfl <| Zb <| Za <| JLM rfl <| JLM rfl <| JLn (Pu.add64 rfl rfl (by first | omega | (constructor <;> omega))) <| JLM rfl <| JLM rfl <| JLq (iv (max d ((XD (m - 1) (kids[j])).2))) (Pu.max2 rfl rfl) ?_
  refine JLA rfl <| JLA rfl <| Zb <| Za <| JLM rfl <| JLn (Pu.inc rfl rfl (by omega)) <| JLA rfl <| Zb <| ⟨_, ?_, (j + 1), (n + ((XD (m - 1) (kids[j])).1)), (max d ((XD (m - 1) (kids[j])).2)), rfl, rfl, rfl, rfl, rfl, rfl, rfl, (Sk Sub.nil), ?_, ?_, ?_, ?_, ?_, rfl⟩
  ·omega
  ·omega
  ·rw [ZW h15an, XC, if_pos (by omega)] at hinv; exact hinv
  ·omega
  ·omega
  omega
 refine Zz _ rfl <| Zc <| Za <| JLM rfl <| JLM rfl <| JLn (Pu.add64 rfl rfl (by first | omega | (constructor <;> omega))) <| JLA rfl <| JLA rfl <| Zb <| Zl <| ⟨.tuple ⟨[iv n, iv (d + 1)]⟩, [], Ret.two rfl (RV.tmp rfl) (RV.tmp rfl), Sub.nil, ?_⟩
 have hf : ¬ ((j : Int) < (kids.length : Int) ∧ n ≤ m) := by
  intro ⟨hx1, hx2⟩
  have := h15
  simp [hx1, hx2] at this
  try omega
 have hr : XC m kids 1 0 = (n, d) := by
  rw [← hinv]; rcases Nat.lt_or_ge j kids.length with hl | hl
  ·have hnm : ¬ n ≤ m := fun hle => hf ⟨by omega, hle⟩
   rw [ZW hl, XC, if_neg hnm]
  ·rw [YL hl, XC]
 exact ⟨by rw [XD, hr], rfl⟩
theorem extent_ct : ∀ (t : Tm) (m : Int) (cs : List Value) (H : Heap), RT H cs t → sizeT t ≤ 1000000000 → sizeT t ≤ m + 2000000000 → m ≤ 2000000000 → CT Tryz.prog 144 ⟨[.agg ⟨cs⟩, iv m]⟩ [] H (fun v N => v = .tuple ⟨[iv (YJ m t).1, iv (YJ m t).2]⟩ ∧ N = []) := by
 intro t
 induction t using Tm.ind with
 | h kind num ref kids cases ih ih' =>
 intro m cs H ht hz1 hz2 hz3
 obtain ⟨ks, cv, rfl, hk, hn, hks, hcv⟩ := RT_mk.1 ht
 rw [sizeT] at hz1 hz2
 refine Zm Tryz.func144 rfl rfl <| Zc <| Za <| JLr (Zq (l := pkT kind num ref ks cv) rfl rfl fun b1 => JLA rfl <| JLA rfl <| Zb <| Zc <| Za <| JLA rfl <| JLA rfl <| Zb <| Zc ?_)
 refine Zc <| Za <| JLA rfl <| Zb <| Zn <| ZB (fun k ρ M => ∃ (j : Nat) (n d : Int), ρ 1 = iv m ∧ ρ 2 = pp b1 0 ∧ ρ 4 = iv 0 ∧ ρ 5 = iv 0 ∧ ρ 6 = iv n ∧ ρ 7 = iv d ∧ ρ 8 = iv ((j : Int)) ∧ Sub [(BX b1 (pkT kind num ref ks cv) 30)] M ∧ j ≤ kids.length ∧ YD m (kids.drop j) n d = YD m kids 1 0 ∧ 0 ≤ d ∧ d < n ∧ n + ZE (kids.drop j) ≤ 1 + ZE kids ∧ k = kids.length - j) _ ⟨0, 1, 0, rfl, rfl, rfl, rfl, rfl, rfl, rfl, (Sk Sub.nil), Nat.zero_le _, rfl, (by omega), (by omega), (by simp), rfl⟩ ?_
 rintro _ ρ2 _ ⟨j, n, d, e3, e4, e5, e6, e7, e8, e9, hm10, hj, hinv, hd0, hdn, hnn, rfl⟩
 obtain ⟨ρ11, rfl⟩ := Zr (uc e3 (uc e4 (uc e5 (uc e6 (uc e7 (uc e8 (uc e9 un)))))))
 clear e3 e4 e5 e6 e7 e8 e9
 refine ZG hm10 ?_
 have hlen := hks.le
 refine Zc <| Zc <| Za <| JLM rfl <| JLq (pp b1 34) (Z3 rfl rfl) <| JLr (Zd Y0 rfl (At.bx 0 rfl) (Z4 ..) ?_)
 obtain ⟨a12, cap12, hv12⟩ := hks.sl
 have hle12 := hks.le
 refine JLn (Pu.lenSl Tryz.runUnderlying27 hv12) <| JLn (Pu.lss rfl rfl) <| JLM rfl <| Zv 3 [22, 23, 24] [(24, cond (decide ((j : Int) < (kids.length : Int))) (.bool (decide (n ≤ m))) undef)] ?_ fun f14 => ?_
 ·cases h13 : (decide ((j : Int) < (kids.length : Int))) with
  | true =>
   replace h13 := dt h13
   have h13n : j < kids.length := by omega
   have hs1 := Y4 _ (List.getElem_mem h13n)
   have hs2 : ZE (kids.drop j) = sizeT kids[j] + ZE (kids.drop (j + 1)) := by rw [ZW h13n, ZE]
   have hs3 := extT_le kids[j] (m - 1)
   refine JLM rfl <| JLM rfl <| JLn (Pu.leq rfl rfl) ?_
   exact Zb ⟨⟨rfl, trivial⟩, rfl⟩
  | false =>
   exact Zy rfl ⟨rfl, trivial⟩
 refine JLn (Pu.pickAnd rfl rfl rfl) <| Zb <| Zg rfl (fun h15 => ?_) (fun h15 => ?_)
 ·obtain ⟨h15a, h15b⟩ := YC h15
  replace h15a := dt h15a
  have h15an : j < kids.length := by omega
  have hs1 := Y4 _ (List.getElem_mem h15an)
  have hs2 : ZE (kids.drop j) = sizeT kids[j] + ZE (kids.drop (j + 1)) := by rw [ZW h15an, ZE]
  have hs3 := extT_le kids[j] (m - 1)
  replace h15b := dt h15b
  refine Zj <| Zc <| Zn <| Zc <| Za <| JLq (pp b1 34) (Z3 rfl rfl) <| JLr (Zd Y0 rfl (At.bx 0 rfl) (Z4 ..) <| JLM rfl ?_)
  obtain ⟨b16, o16, cap16, row16, T16, fr16, cs16, hv16, hb16, hs16, hE16⟩ := hks.get j (by first | assumption | omega | decide | simp)
  refine JLq (pp b16 (o16 + j * 36)) (Pu.idx j Tryz.runUnderlying27 Zt hv16 rfl rfl (by first | assumption | omega | decide | simp)) <| JLr (Zh Zt rfl (At.im hb16) hs16 <| JLM rfl <| JLn (Pu.sub64 rfl rfl (by first | omega | (constructor <;> omega))) <| Jc Tryz.call144 rfl (fun hin => ih _ (List.getElem_mem h15an) _ _ _ (RT.mono (Hle.hu _ _) hE16) (by omega) (by omega) (by omega)) rfl ?_)
  rintro _ _ ⟨rfl, rfl⟩
  refine JLM rfl <| JLn (Pu.extract rfl rfl) <| JLn (Pu.extract rfl rfl) <| JLA rfl <| JLA rfl <| Zb <| Za <| JLM rfl <| JLM rfl <| JLn (Pu.add64 rfl rfl (by first | omega | (constructor <;> omega))) <| JLM rfl <| JLM rfl <| JLq (iv (max d ((YJ (m - 1) (kids[j])).2))) (Pu.max2 rfl rfl) ?_
  refine JLA rfl <| JLA rfl <| Zb <| Za <| JLM rfl <| JLn (Pu.inc rfl rfl (by omega)) <| JLA rfl <| Zb <| ⟨_, ?_, (j + 1), (n + ((YJ (m - 1) (kids[j])).1)), (max d ((YJ (m - 1) (kids[j])).2)), rfl, rfl, rfl, rfl, rfl, rfl, rfl, (Sk Sub.nil), ?_, ?_, ?_, ?_, ?_, rfl⟩
  ·omega
  ·omega
  ·rw [ZW h15an, YD, if_pos (by omega)] at hinv; exact hinv
  ·omega
  ·omega
  omega
 refine Zz _ rfl <| Zc <| Zc <| Za <| JLA rfl <| Zb <| Zn ?_
 have hf : ¬ ((j : Int) < (kids.length : Int) ∧ n ≤ m) := by
  intro ⟨hx1, hx2⟩
  have := h15
  simp [hx1, hx2] at this
  try omega
 have hr : YD m kids 1 0 = (n, d) := by
  rw [← hinv]; rcases Nat.lt_or_ge j kids.length with hl | hl
  ·have hnm : ¬ n ≤ m := fun hle => hf ⟨by omega, hle⟩
   rw [ZW hl, YD, if_neg hnm]
  ·rw [YL hl, YD]
 refine ZB (fun k ρ M => ∃ (j : Nat) (n d : Int), ρ 1 = iv m ∧ ρ 2 = pp b1 0 ∧ ρ 4 = iv 0 ∧ ρ 5 = iv 0 ∧ ρ 6 = iv n ∧ ρ 7 = iv d ∧ ρ 11 = iv ((j : Int)) ∧ Sub [(BX b1 (pkT kind num ref ks cv) 30)] M ∧ j ≤ cases.length ∧ XE m (cases.drop j) n d = XE m cases (YD m kids 1 0).1 (YD m kids 1 0).2 ∧ 0 ≤ d ∧ d < n ∧ n + ZL (cases.drop j) ≤ 1 + ZE kids + ZL cases ∧ k = cases.length - j) _ ⟨0, n, d, rfl, rfl, rfl, rfl, rfl, rfl, rfl, (Sk Sub.nil), Nat.zero_le _, (by rw [hr]; rfl), (by omega), (by omega), (by simp only [List.drop_zero]; omega), rfl⟩ ?_
 rintro _ ρ17 _ ⟨j, n, d, e18, e19, e20, e21, e22, e23, e24, hm25, hj, hinv, hd0, hdn, hnn, rfl⟩
 obtain ⟨ρ26, rfl⟩ := Zr (uc e18 (uc e19 (uc e20 (uc e21 (uc e22 (uc e23 (uc e24 un)))))))
 clear e18 e19 e20 e21 e22 e23 e24
 refine ZG hm25 ?_
 have hlen := hcv.le
 refine Zc <| Zc <| Za <| JLM rfl <| JLq (pp b1 35) (ZR rfl rfl) <| JLr (Zd YA rfl (At.bx 0 rfl) (ZT ..) ?_)
 obtain ⟨a27, cap27, hv27⟩ := hcv.sl
 have hle27 := hcv.le
 refine JLn (Pu.lenSl Tryz.runUnderlying28 hv27) <| JLn (Pu.lss rfl rfl) <| JLM rfl <| Zv 3 [51, 52, 53] [(53, cond (decide ((j : Int) < (cases.length : Int))) (.bool (decide (n ≤ m))) undef)] ?_ fun f29 => ?_
 ·cases h28 : (decide ((j : Int) < (cases.length : Int))) with
  | true =>
   replace h28 := dt h28
   have h28n : j < cases.length := by omega
   have hs1 := YN _ (List.getElem_mem h28n)
   have hs2 : ZL (cases.drop j) = sizeP cases[j].1 + sizeT cases[j].2 + ZL (cases.drop (j + 1)) := by rw [ZW h28n, ZL]
   have hs3 := extT_le cases[j].2 (m - 1)
   have hs4 := extP_le cases[j].1 (m - 1)
   refine JLM rfl <| JLM rfl <| JLn (Pu.leq rfl rfl) ?_
   exact Zb ⟨⟨rfl, trivial⟩, rfl⟩
  | false =>
   exact Zy rfl ⟨rfl, trivial⟩
 refine JLn (Pu.pickAnd rfl rfl rfl) <| Zb <| Zg rfl (fun h30 => ?_) (fun h30 => ?_)
 ·obtain ⟨h30a, h30b⟩ := YC h30
  replace h30a := dt h30a
  have h30an : j < cases.length := by omega
  have hs1 := YN _ (List.getElem_mem h30an)
  have hs2 : ZL (cases.drop j) = sizeP cases[j].1 + sizeT cases[j].2 + ZL (cases.drop (j + 1)) := by rw [ZW h30an, ZL]
  have hs3 := extT_le cases[j].2 (m - 1)
  have hs4 := extP_le cases[j].1 (m - 1)
  replace h30b := dt h30b
  refine Zj <| Zc <| Zn <| Zc <| Za <| JLq (pp b1 35) (ZR rfl rfl) <| JLr (Zd YA rfl (At.bx 0 rfl) (ZT ..) <| JLM rfl ?_)
  obtain ⟨b31, o31, cap31, row31, T31, fr31, cs31, hv31, hb31, hs31, hE31⟩ := hcv.get j (by first | assumption | omega | decide | simp)
  obtain ⟨ca31, cb31, rfl, hA31, hB31⟩ := hE31
  refine JLq (pp b31 (o31 + j * 71)) (Pu.idx j Tryz.runUnderlying28 YV hv31 rfl rfl (by first | assumption | omega | decide | simp)) <| JLq (pp b31 (o31 + j * 71)) (Xi rfl rfl) <| JLr (Zh Z1 rfl (At.im hb31) (sub_sub0 hs31 (sub_l (ZC hA31))) <| JLM rfl <| JLn (Pu.sub64 rfl rfl (by first | omega | (constructor <;> omega))) <| Jc Tryz.call159 rfl (fun hin => patternSize_ct _ _ _ _ (RP.mono (Hle.hu _ _) hA31) (by omega) (by omega) (by omega)) rfl ?_)
  rintro _ _ ⟨rfl, rfl⟩
  refine JLM rfl <| JLn (Pu.extract rfl rfl) <| JLn (Pu.extract rfl rfl) <| JLA rfl <| JLA rfl <| Zb <| Zc <| Za <| JLq (pp b1 35) (ZR rfl rfl) <| JLr (Zd YA rfl (At.bx 0 rfl) (ZT ..) <| JLM rfl ?_)
  obtain ⟨b32, o32, cap32, row32, T32, fr32, cs32, hv32, hb32, hs32, hE32⟩ := hcv.get j (by first | assumption | omega | decide | simp)
  obtain ⟨ca32, cb32, rfl, hA32, hB32⟩ := hE32
  refine JLq (pp b32 (o32 + j * 71)) (Pu.idx j Tryz.runUnderlying28 YV hv32 rfl rfl (by first | assumption | omega | decide | simp)) <| JLq (pp b32 (o32 + j * 71 + 35)) (fa86_1 rfl rfl) <| JLr (Zh Zt rfl (At.im hb32) (sub_sub hs32 (sub_r (ZC hA32) (Zu hB32))) <| JLM rfl <| JLn (Pu.sub64 rfl rfl (by first | omega | (constructor <;> omega))) <| Jc Tryz.call144 rfl (fun hin => ih' _ (List.getElem_mem h30an) _ _ _ (RT.mono (Hle.hu _ _) hB32) (by omega) (by omega) (by omega)) rfl ?_)
  rintro _ _ ⟨rfl, rfl⟩
  refine JLM rfl <| JLn (Pu.extract rfl rfl) <| JLn (Pu.extract rfl rfl) <| JLA rfl <| JLA rfl <| Zb <| Za <| JLM rfl <| JLM rfl <| JLn (Pu.add64 rfl rfl (by first | omega | (constructor <;> omega))) <| JLM rfl <| JLn (Pu.add64 rfl rfl (by first | omega | (constructor <;> omega))) <| JLM rfl ?_
  refine JLM rfl <| JLM rfl <| JLq (iv (max (max d ((XD (m - 1) (cases[j].1)).2)) ((YJ (m - 1) (cases[j].2)).2))) (Pu.max3 rfl rfl rfl) <| JLA rfl <| JLA rfl <| Zb <| Za <| JLM rfl <| JLn (Pu.inc rfl rfl (by omega)) <| JLA rfl <| Zb <| ⟨_, ?_, (j + 1), (n + ((XD (m - 1) (cases[j].1)).1) + ((YJ (m - 1) (cases[j].2)).1)), (max (max d ((XD (m - 1) (cases[j].1)).2)) ((YJ (m - 1) (cases[j].2)).2)), rfl, rfl, rfl, rfl, rfl, rfl, rfl, (Sk Sub.nil), ?_, ?_, ?_, ?_, ?_, rfl⟩
  ·omega
  ·omega
  ·rw [ZW h30an, XE, if_pos (by omega)] at hinv; exact hinv
  ·omega
  ·omega
  omega
 refine Zz _ rfl <| Zc <| Za <| JLM rfl <| JLM rfl <| JLn (Pu.add64 rfl rfl (by first | omega | (constructor <;> omega))) <| JLA rfl <| JLA rfl <| Zb <| Zl <| ⟨.tuple ⟨[iv n, iv (d + 1)]⟩, [], Ret.two rfl (RV.tmp rfl) (RV.tmp rfl), Sub.nil, ?_⟩
 have hf : ¬ ((j : Int) < (cases.length : Int) ∧ n ≤ m) := by
  intro ⟨hx1, hx2⟩
  have := h30
  simp [hx1, hx2] at this
  try omega
 have hr : XE m cases (YD m kids 1 0).1 (YD m kids 1 0).2 = (n, d) := by
  rw [← hinv]; rcases Nat.lt_or_ge j cases.length with hl | hl
  ·have hnm : ¬ n ≤ m := fun hle => hf ⟨by omega, hle⟩
   rw [ZW hl, XE, if_neg hnm]
  ·rw [YL hl, XE]
 exact ⟨by rw [YJ, hr], rfl⟩
theorem longR_ct (t : Tm) (cs : List Value) (H : Heap) (ht : RT H cs t) (hz : sizeT t ≤ 1000000000) : CT Tryz.prog 123 ⟨[.agg ⟨cs⟩]⟩ [] H (fun v N => v = .bool (Xt t) ∧ N = []) := by
 refine Zm Tryz.func123 rfl rfl <| Zc <| Za <| JLr (Zq (l := cs) rfl rfl fun b1 => JLA rfl <| Zb <| Zc <| Za <| JLr (Zh Zt rfl (At.bx 0 rfl) (Zs (Zu ht)) <| Jc Tryz.call144 rfl (fun hin => extent_ct _ _ _ _ (RT.mono (Hle.hu _ _) ht) (by omega) (by omega) (by omega)) rfl ?_))
 rintro _ _ ⟨rfl, rfl⟩
 refine JLM rfl <| JLn (Pu.extract rfl rfl) <| JLn (Pu.extract rfl rfl) <| JLA rfl <| JLA rfl <| Zb <| Zc <| Za <| JLM rfl <| JLn (Pu.gtr rfl rfl) <| JLM rfl <| Zv 2 [13, 14] [(14, cond (decide (300 < (YJ 400 t).1)) undef (.bool (decide (60 < (YJ 400 t).2))))] ?_ fun f3 => ?_
 ·cases h2 : (decide (300 < (YJ 400 t).1)) with
  | false =>
   replace h2 := df h2
   refine JLM rfl <| JLn (Pu.gtr rfl rfl) ?_
   exact Zb ⟨⟨rfl, trivial⟩, rfl⟩
  | true =>
   exact Zy rfl ⟨rfl, trivial⟩
 refine JLn (Pu.pickOr rfl rfl rfl) <| JLA rfl <| Zb <| Zl <| ⟨.bool ((decide (300 < (YJ 400 t).1)) || (decide (60 < (YJ 400 t).2))), [], Ret.one rfl (RV.tmp rfl), Sub.nil, ?_⟩
 exact ⟨rfl, rfl⟩
theorem checkR_ct (t : Tm) (d m : Int) (cs : List Value) (H : Heap) (ht : RT H cs t) (hz : sizeT t ≤ 400000) : CT Tryz.prog 88 ⟨[.agg ⟨cs⟩, iv d, iv m]⟩ [] H (fun v N => v = iv (ZX d m t) ∧ N = []) := by
 refine Zm Tryz.func88 rfl rfl <| Zc <| Za <| JLr (Zq (l := cs) rfl rfl fun b1 => JLA rfl <| Zb <| Zc <| Zc <| Za <| JLr (Zh Zt rfl (At.bx 0 rfl) (Zs (Zu ht)) <| Jc Tryz.call123 rfl (fun hin => longR_ct _ _ _ (RT.mono (Hle.hu _ _) ht) (by omega)) rfl ?_))
 rintro _ _ ⟨rfl, rfl⟩
 refine Zb <| Zg rfl (fun h2 => ?_) (fun h2 => ?_)
 ·refine Zc <| Za <| JLA rfl <| Zb <| Zl <| ⟨iv 11, [], Ret.one rfl (RV.tmp rfl), Sub.nil, ?_⟩
  exact ⟨by rw [ZX, if_pos (by simp [h2])], rfl⟩
 refine Zj <| Zc <| Za <| JLr (Zh Zt rfl (At.bx 0 rfl) (Zs (Zu ht)) <| JLM rfl <| JLM rfl <| Jc Tryz.call124 rfl (fun hin => nodeError_ct _ _ _ _ _ _ (RT.mono (Hle.hu _ _) ht) (by omega) (by omega)) rfl ?_)
 rintro _ _ ⟨rfl, rfl⟩
 refine JLA rfl <| Zb <| Zl <| ⟨iv (YP d m 0 t), [], Ret.one rfl (RV.tmp rfl), Sub.nil, ?_⟩
 exact ⟨by rw [ZX, if_neg (by simp [h2])], rfl⟩
theorem rightR_ct (t : Tm) (cs : List Value) (H : Heap) (ht : RT H cs t) (hz : sizeT t ≤ 400000) : CT Tryz.prog 48 ⟨[.agg ⟨cs⟩]⟩ [] H (fun v N => v = iv (ZX 60 8 t) ∧ N = []) := by
 refine Zm Tryz.func48 rfl rfl <| Zc <| Za <| JLr (Zq (l := cs) rfl rfl fun b1 => JLA rfl <| Zb <| Zc <| Za <| JLr (Zh Zt rfl (At.bx 0 rfl) (Zs (Zu ht)) <| Jc Tryz.call88 rfl (fun hin => checkR_ct _ _ _ _ _ (RT.mono (Hle.hu _ _) ht) (by omega)) rfl ?_))
 rintro _ _ ⟨rfl, rfl⟩
 refine JLA rfl <| Zb <| Zl <| ⟨iv (ZX 60 8 t), [], Ret.one rfl (RV.tmp rfl), Sub.nil, ?_⟩
 exact ⟨rfl, rfl⟩
theorem rightL_ct (t : Tm) (cs : List Value) (H : Heap) (ht : RT H cs t) (hz : sizeT t ≤ 400000) : CT Tryz.prog 14 ⟨[.agg ⟨cs⟩]⟩ [] H (fun v N => v = .tuple ⟨[.bool (decide (ZX 60 8 t = 0)), iv (ZX 60 8 t)]⟩ ∧ N = []) := by
 refine Zm Tryz.func14 rfl rfl <| Zc <| Za <| JLr (Zq (l := cs) rfl rfl fun b1 => JLA rfl <| JLA rfl <| Zb <| Zc <| Za <| JLr (Zh Zt rfl (At.bx 0 rfl) (Zs (Zu ht)) <| Jc Tryz.call48 rfl (fun hin => rightR_ct _ _ _ (RT.mono (Hle.hu _ _) ht) (by omega)) rfl ?_))
 rintro _ _ ⟨rfl, rfl⟩
 refine JLA rfl <| Zb <| Zc <| Za <| JLM rfl <| JLn (Pu.eql rfl rfl) <| JLM rfl <| JLA rfl <| JLA rfl <| Zb <| Zl <| ⟨.tuple ⟨[.bool (decide (ZX 60 8 t = 0)), iv (ZX 60 8 t)]⟩, [], Ret.two rfl (RV.tmp rfl) (RV.tmp rfl), Sub.nil, ?_⟩
 exact ⟨rfl, rfl⟩
end Go.Proofs.YtkjafeejpmcnkaaGreat.Hs
/-! Walks, printed by a program of this session's own (gen.py). -/
namespace Go.Proofs.YtkjafeejpmcnkaaGreat.Hs
open Go Go.Proofs
set_option maxRecDepth 100000
set_option linter.unusedVariables false
set_option linter.unusedSimpArgs false
attribute [local irreducible] JL J CT wlo DT
theorem eqFuncP_ct (g : Nat) (fs cv : List Value) (hcall : ∀ args w, (callFunc g args).run Tryz.prog w = .ok (.enter g args) w) (l m : List Pt) (v u : Value) (H : Heap) (hl : rdS RP 35 H v l) (hm : rdS RP 35 H u m) (hg : ∀ x ∈ l, ∀ y ∈ m, ∀ a b h, Hle H h → RP h a x → RP h b y → CT Tryz.prog g ⟨fs ++ [.agg ⟨a⟩, .agg ⟨b⟩] ++ cv⟩ [] h (fun v N => v = .bool (decide (x = y)) ∧ N = [])) : CT Tryz.prog 102 ⟨[v, u, .func (.func g) ⟨fs⟩ ⟨cv⟩]⟩ [] H (fun v N => v = .bool (decide (l = m)) ∧ N = []) := by
 refine Zm Tryz.func102 rfl rfl <| Zc <| Za <| JLA rfl <| Zb <| Zc <| Zc <| Za <| JLm v ?_
 obtain ⟨a1, cap1, hv1⟩ := hl.sl
 have hle1 := hl.le
 refine JLn (Pu.lenSl Tryz.runUnderlying79 hv1) <| JLm u ?_
 obtain ⟨a2, cap2, hv2⟩ := hm.sl
 have hle2 := hm.le
 refine JLn (Pu.lenSl Tryz.runUnderlying79 hv2) <| JLn (Pu.neq rfl rfl) <| Zb <| Zg rfl (fun h3 => ?_) (fun h3 => ?_)
 ·replace h3 := nt h3
  replace h3 := df h3
  refine Zc <| Za <| JLA rfl <| Zb <| Zl <| ⟨.bool false, [], Ret.one rfl (RV.tmp rfl), Sub.nil, ?_⟩
  exact ⟨by rw [decide_eq_false]; intro e; subst e; exact h3 rfl, rfl⟩
 replace h3 := nf h3
 replace h3 := dt h3
 refine Zj <| Zc <| Zc <| Za <| JLm v ?_
 obtain ⟨a4, cap4, hv4⟩ := hl.sl
 have hle4 := hl.le
 refine JLn (Pu.lenSl Tryz.runUnderlying79 hv4) <| JLM rfl <| Zb <| Zn <| ZB (fun k ρ M => ∃ (j : Nat), ρ 1 = u ∧ ρ 2 = .func (.func g) ⟨fs⟩ ⟨cv⟩ ∧ ρ 6 = .bool false ∧ ρ 15 = v ∧ ρ 16 = iv ((l.length : Int)) ∧ ρ 17 = iv ((j : Int)) ∧ Sub [] M ∧ j ≤ l.length ∧ l.length = m.length ∧ l.take j = m.take j ∧ k = l.length - j) _ ⟨0, rfl, rfl, rfl, rfl, rfl, rfl, Sub.nil, Nat.zero_le _, (by omega), rfl, rfl⟩ ?_
 rintro _ ρ5 _ ⟨j, e6, e7, e8, e9, e10, e11, hm12, hj, hlen, htake, rfl⟩
 obtain ⟨ρ13, rfl⟩ := Zr (uc e6 (uc e7 (uc e8 (uc e9 (uc e10 (uc e11 un))))))
 clear e6 e7 e8 e9 e10 e11
 refine ZG hm12 <| Zc <| Za <| JLn (Pu.lss rfl rfl) <| Zb <| Zc <| Zg rfl (fun h14 => ?_) (fun h14 => ?_)
 ·replace h14 := dt h14
  have h14n : j < l.length := by omega
  have hlenl := hl.le
  have hltm : j < m.length := by omega
  refine Zj <| Zc <| Zn <| Zc <| Za <| JLM rfl ?_
  obtain ⟨b15, o15, cap15, row15, T15, fr15, cs15, hv15, hb15, hs15, hE15⟩ := hl.get j (by first | assumption | omega | decide | simp)
  refine JLq (pp b15 (o15 + j * 35)) (Pu.idx j Tryz.runUnderlying79 Z1 hv15 rfl rfl (by first | assumption | omega | decide | simp)) <| JLr (Zh Z1 rfl (At.im hb15) hs15 <| JLr (Zk (l := pkP 0 0 zS nS) Tryz.zeroValue81 rfl fun b16 => JLA rfl <| JLr (Ze 0 (vs := cs15) (l := cs15) Z1 rfl rfl rfl rfl (ZC hE15) (RP_ok hE15) (ZK (n := 35) rfl (ZC hE15)) <| Zb <| Zc <| Za <| JLm u <| JLM rfl ?_)))
  obtain ⟨b17, o17, cap17, row17, T17, fr17, cs17, hv17, hb17, hs17, hE17⟩ := hm.get j (by first | assumption | omega | decide | simp)
  refine JLq (pp b17 (o17 + j * 35)) (Pu.idx j Tryz.runUnderlying79 Z1 hv17 rfl rfl (by first | assumption | omega | decide | simp)) <| JLr (Zh Z1 rfl (At.im hb17) hs17 <| JLr (Zk (l := pkP 0 0 zS nS) Tryz.zeroValue81 rfl fun b18 => JLr (Ze 0 (vs := cs17) (l := cs17) Z1 rfl rfl rfl rfl (ZC hE17) (RP_ok hE17) (ZK (n := 35) rfl (ZC hE17)) <| Zb <| Zc <| Za <| JLM rfl <| JLr (Zh Z1 rfl (At.bx 1 rfl) (Zs (ZC hE15)) <| JLr (Zh Z1 rfl (At.bx 0 rfl) (Zs (ZC hE17)) <| Jc hcall rfl (fun hin => hg _ (List.getElem_mem h14n) _ (List.getElem_mem (by omega)) _ _ _ (Hle.hu _ _) (RP.mono (Hle.hu _ _) hE15) (RP.mono (Hle.hu _ _) hE17)) rfl ?_)))))
  rintro _ _ ⟨rfl, rfl⟩
  refine JLn (Pu.not rfl) <| Zb <| Zg rfl (fun h19 => ?_) (fun h19 => ?_)
  ·replace h19 := nt h19
   replace h19 := df h19
   refine Zc <| Za <| JLA rfl <| Zb <| Zl <| ⟨.bool false, [], Ret.one rfl (RV.tmp rfl), Sub.nil, ?_⟩
   exact ⟨by rw [decide_eq_false]; intro e; subst e; exact h19 rfl, rfl⟩
  replace h19 := nf h19
  replace h19 := dt h19
  refine Zj <| Za <| JLn (Pu.inc rfl rfl (by omega)) <| JLM rfl <| Zb <| ⟨_, ?_, (j + 1), rfl, rfl, rfl, rfl, rfl, rfl, Sub.nil, ?_, ?_, ?_, rfl⟩
  ·omega
  ·omega
  ·assumption
  rw [List.take_succ_eq_append_getElem h14n, List.take_succ_eq_append_getElem (by omega), htake, h19]
 replace h14 := df h14
 have h14n : l.length ≤ j := by omega
 refine Zz _ rfl <| Zc <| Za <| JLA rfl <| Zb <| Zl <| ⟨.bool true, [], Ret.one rfl (RV.tmp rfl), Sub.nil, ?_⟩
 exact ⟨by rw [decide_eq_true]; have e := htake; rw [List.take_of_length_le h14n, List.take_of_length_le (by omega)] at e; exact e, rfl⟩
theorem eqFuncT_ct (g : Nat) (fs cv : List Value) (hcall : ∀ args w, (callFunc g args).run Tryz.prog w = .ok (.enter g args) w) (l m : List Tm) (v u : Value) (H : Heap) (hl : rdS RT 36 H v l) (hm : rdS RT 36 H u m) (hg : ∀ x ∈ l, ∀ y ∈ m, ∀ a b h, Hle H h → RT h a x → RT h b y → CT Tryz.prog g ⟨fs ++ [.agg ⟨a⟩, .agg ⟨b⟩] ++ cv⟩ [] h (fun v N => v = .bool (decide (x = y)) ∧ N = [])) : CT Tryz.prog 101 ⟨[v, u, .func (.func g) ⟨fs⟩ ⟨cv⟩]⟩ [] H (fun v N => v = .bool (decide (l = m)) ∧ N = []) := by
 refine Zm Tryz.func101 rfl rfl <| Zc <| Za <| JLA rfl <| Zb <| Zc <| Zc <| Za <| JLm v ?_
 obtain ⟨a1, cap1, hv1⟩ := hl.sl
 have hle1 := hl.le
 refine JLn (Pu.lenSl Tryz.runUnderlying27 hv1) <| JLm u ?_
 obtain ⟨a2, cap2, hv2⟩ := hm.sl
 have hle2 := hm.le
 refine JLn (Pu.lenSl Tryz.runUnderlying27 hv2) <| JLn (Pu.neq rfl rfl) <| Zb <| Zg rfl (fun h3 => ?_) (fun h3 => ?_)
 ·replace h3 := nt h3
  replace h3 := df h3
  refine Zc <| Za <| JLA rfl <| Zb <| Zl <| ⟨.bool false, [], Ret.one rfl (RV.tmp rfl), Sub.nil, ?_⟩
  exact ⟨by rw [decide_eq_false]; intro e; subst e; exact h3 rfl, rfl⟩
 replace h3 := nf h3
 replace h3 := dt h3
 refine Zj <| Zc <| Zc <| Za <| JLm v ?_
 obtain ⟨a4, cap4, hv4⟩ := hl.sl
 have hle4 := hl.le
 refine JLn (Pu.lenSl Tryz.runUnderlying27 hv4) <| JLM rfl <| Zb <| Zn <| ZB (fun k ρ M => ∃ (j : Nat), ρ 1 = u ∧ ρ 2 = .func (.func g) ⟨fs⟩ ⟨cv⟩ ∧ ρ 6 = .bool false ∧ ρ 15 = v ∧ ρ 16 = iv ((l.length : Int)) ∧ ρ 17 = iv ((j : Int)) ∧ Sub [] M ∧ j ≤ l.length ∧ l.length = m.length ∧ l.take j = m.take j ∧ k = l.length - j) _ ⟨0, rfl, rfl, rfl, rfl, rfl, rfl, Sub.nil, Nat.zero_le _, (by omega), rfl, rfl⟩ ?_
 rintro _ ρ5 _ ⟨j, e6, e7, e8, e9, e10, e11, hm12, hj, hlen, htake, rfl⟩
 obtain ⟨ρ13, rfl⟩ := Zr (uc e6 (uc e7 (uc e8 (uc e9 (uc e10 (uc e11 un))))))
 clear e6 e7 e8 e9 e10 e11
 refine ZG hm12 <| Zc <| Za <| JLn (Pu.lss rfl rfl) <| Zb <| Zc <| Zg rfl (fun h14 => ?_) (fun h14 => ?_)
 ·replace h14 := dt h14
  have h14n : j < l.length := by omega
  have hlenl := hl.le
  have hltm : j < m.length := by omega
  refine Zj <| Zc <| Zn <| Zc <| Za <| JLM rfl ?_
  obtain ⟨b15, o15, cap15, row15, T15, fr15, cs15, hv15, hb15, hs15, hE15⟩ := hl.get j (by first | assumption | omega | decide | simp)
  refine JLq (pp b15 (o15 + j * 36)) (Pu.idx j Tryz.runUnderlying27 Zt hv15 rfl rfl (by first | assumption | omega | decide | simp)) <| JLr (Zh Zt rfl (At.im hb15) hs15 <| JLr (Zk (l := pkT 0 0 zS nS nS) Tryz.zeroValue30 rfl fun b16 => JLA rfl <| JLr (Ze 0 (vs := cs15) (l := cs15) Zt rfl rfl rfl rfl (Zu hE15) (XG hE15) (ZK (n := 36) rfl (Zu hE15)) <| Zb <| Zc <| Za <| JLm u <| JLM rfl ?_)))
  obtain ⟨b17, o17, cap17, row17, T17, fr17, cs17, hv17, hb17, hs17, hE17⟩ := hm.get j (by first | assumption | omega | decide | simp)
  refine JLq (pp b17 (o17 + j * 36)) (Pu.idx j Tryz.runUnderlying27 Zt hv17 rfl rfl (by first | assumption | omega | decide | simp)) <| JLr (Zh Zt rfl (At.im hb17) hs17 <| JLr (Zk (l := pkT 0 0 zS nS nS) Tryz.zeroValue30 rfl fun b18 => JLr (Ze 0 (vs := cs17) (l := cs17) Zt rfl rfl rfl rfl (Zu hE17) (XG hE17) (ZK (n := 36) rfl (Zu hE17)) <| Zb <| Zc <| Za <| JLM rfl <| JLr (Zh Zt rfl (At.bx 1 rfl) (Zs (Zu hE15)) <| JLr (Zh Zt rfl (At.bx 0 rfl) (Zs (Zu hE17)) <| Jc hcall rfl (fun hin => hg _ (List.getElem_mem h14n) _ (List.getElem_mem (by omega)) _ _ _ (Hle.hu _ _) (RT.mono (Hle.hu _ _) hE15) (RT.mono (Hle.hu _ _) hE17)) rfl ?_)))))
  rintro _ _ ⟨rfl, rfl⟩
  refine JLn (Pu.not rfl) <| Zb <| Zg rfl (fun h19 => ?_) (fun h19 => ?_)
  ·replace h19 := nt h19
   replace h19 := df h19
   refine Zc <| Za <| JLA rfl <| Zb <| Zl <| ⟨.bool false, [], Ret.one rfl (RV.tmp rfl), Sub.nil, ?_⟩
   exact ⟨by rw [decide_eq_false]; intro e; subst e; exact h19 rfl, rfl⟩
  replace h19 := nf h19
  replace h19 := dt h19
  refine Zj <| Za <| JLn (Pu.inc rfl rfl (by omega)) <| JLM rfl <| Zb <| ⟨_, ?_, (j + 1), rfl, rfl, rfl, rfl, rfl, rfl, Sub.nil, ?_, ?_, ?_, rfl⟩
  ·omega
  ·omega
  ·assumption
  rw [List.take_succ_eq_append_getElem h14n, List.take_succ_eq_append_getElem (by omega), htake, h19]
 replace h14 := df h14
 have h14n : l.length ≤ j := by omega
 refine Zz _ rfl <| Zc <| Za <| JLA rfl <| Zb <| Zl <| ⟨.bool true, [], Ret.one rfl (RV.tmp rfl), Sub.nil, ?_⟩
 exact ⟨by rw [decide_eq_true]; have e := htake; rw [List.take_of_length_le h14n, List.take_of_length_le (by omega)] at e; exact e, rfl⟩
theorem eqFuncC_ct (g : Nat) (fs cv : List Value) (hcall : ∀ args w, (callFunc g args).run Tryz.prog w = .ok (.enter g args) w) (l m : List (Pt × Tm)) (v u : Value) (H : Heap) (hl : rdS RC 71 H v l) (hm : rdS RC 71 H u m) (hg : ∀ x ∈ l, ∀ y ∈ m, ∀ a b h, Hle H h → RC h a x → RC h b y → CT Tryz.prog g ⟨fs ++ [.agg ⟨a⟩, .agg ⟨b⟩] ++ cv⟩ [] h (fun v N => v = .bool (decide (x = y)) ∧ N = [])) : CT Tryz.prog 61 ⟨[v, u, .func (.func g) ⟨fs⟩ ⟨cv⟩]⟩ [] H (fun v N => v = .bool (decide (l = m)) ∧ N = []) := by
 refine Zm Tryz.func61 rfl rfl <| Zc <| Za <| JLA rfl <| Zb <| Zc <| Zc <| Za <| JLm v ?_
 obtain ⟨a1, cap1, hv1⟩ := hl.sl
 have hle1 := hl.le
 refine JLn (Pu.lenSl Tryz.runUnderlying28 hv1) <| JLm u ?_
 obtain ⟨a2, cap2, hv2⟩ := hm.sl
 have hle2 := hm.le
 refine JLn (Pu.lenSl Tryz.runUnderlying28 hv2) <| JLn (Pu.neq rfl rfl) <| Zb <| Zg rfl (fun h3 => ?_) (fun h3 => ?_)
 ·replace h3 := nt h3
  replace h3 := df h3
  refine Zc <| Za <| JLA rfl <| Zb <| Zl <| ⟨.bool false, [], Ret.one rfl (RV.tmp rfl), Sub.nil, ?_⟩
  exact ⟨by rw [decide_eq_false]; intro e; subst e; exact h3 rfl, rfl⟩
 replace h3 := nf h3
 replace h3 := dt h3
 refine Zj <| Zc <| Zc <| Za <| JLm v ?_
 obtain ⟨a4, cap4, hv4⟩ := hl.sl
 have hle4 := hl.le
 refine JLn (Pu.lenSl Tryz.runUnderlying28 hv4) <| JLM rfl <| Zb <| Zn <| ZB (fun k ρ M => ∃ (j : Nat), ρ 1 = u ∧ ρ 2 = .func (.func g) ⟨fs⟩ ⟨cv⟩ ∧ ρ 6 = .bool false ∧ ρ 15 = v ∧ ρ 16 = iv ((l.length : Int)) ∧ ρ 17 = iv ((j : Int)) ∧ Sub [] M ∧ j ≤ l.length ∧ l.length = m.length ∧ l.take j = m.take j ∧ k = l.length - j) _ ⟨0, rfl, rfl, rfl, rfl, rfl, rfl, Sub.nil, Nat.zero_le _, (by omega), rfl, rfl⟩ ?_
 rintro _ ρ5 _ ⟨j, e6, e7, e8, e9, e10, e11, hm12, hj, hlen, htake, rfl⟩
 obtain ⟨ρ13, rfl⟩ := Zr (uc e6 (uc e7 (uc e8 (uc e9 (uc e10 (uc e11 un))))))
 clear e6 e7 e8 e9 e10 e11
 refine ZG hm12 <| Zc <| Za <| JLn (Pu.lss rfl rfl) <| Zb <| Zc <| Zg rfl (fun h14 => ?_) (fun h14 => ?_)
 ·replace h14 := dt h14
  have h14n : j < l.length := by omega
  have hlenl := hl.le
  have hltm : j < m.length := by omega
  refine Zj <| Zc <| Zn <| Zc <| Za <| JLM rfl ?_
  obtain ⟨b15, o15, cap15, row15, T15, fr15, cs15, hv15, hb15, hs15, hE15⟩ := hl.get j (by first | assumption | omega | decide | simp)
  obtain ⟨ca15, cb15, rfl, hA15, hB15⟩ := hE15
  refine JLq (pp b15 (o15 + j * 71)) (Pu.idx j Tryz.runUnderlying28 YV hv15 rfl rfl (by first | assumption | omega | decide | simp)) <| JLr (Zh YV rfl (At.im hb15) hs15 <| JLr (Zk (l := (pkP 0 0 zS nS) ++ (pkT 0 0 zS nS nS)) Tryz.zeroValue86 rfl fun b16 => JLA rfl <| JLr (Ze 0 (vs := ca15 ++ cb15) (l := ca15 ++ cb15) YV rfl rfl rfl rfl (Z6 (ZC hA15) (Zu hB15)) (Yg (RP_ok hA15) (XG hB15)) (ZK (n := 71) rfl (Z6 (ZC hA15) (Zu hB15))) <| Zb <| Zc <| Za <| JLm u <| JLM rfl ?_)))
  obtain ⟨b17, o17, cap17, row17, T17, fr17, cs17, hv17, hb17, hs17, hE17⟩ := hm.get j (by first | assumption | omega | decide | simp)
  obtain ⟨ca17, cb17, rfl, hA17, hB17⟩ := hE17
  refine JLq (pp b17 (o17 + j * 71)) (Pu.idx j Tryz.runUnderlying28 YV hv17 rfl rfl (by first | assumption | omega | decide | simp)) <| JLr (Zh YV rfl (At.im hb17) hs17 <| JLr (Zk (l := (pkP 0 0 zS nS) ++ (pkT 0 0 zS nS nS)) Tryz.zeroValue86 rfl fun b18 => JLr (Ze 0 (vs := ca17 ++ cb17) (l := ca17 ++ cb17) YV rfl rfl rfl rfl (Z6 (ZC hA17) (Zu hB17)) (Yg (RP_ok hA17) (XG hB17)) (ZK (n := 71) rfl (Z6 (ZC hA17) (Zu hB17))) <| Zb <| Zc <| Za <| JLM rfl <| JLr (Zh YV rfl (At.bx 1 rfl) (Zs (Z6 (ZC hA15) (Zu hB15))) <| JLr (Zh YV rfl (At.bx 0 rfl) (Zs (Z6 (ZC hA17) (Zu hB17))) <| Jc hcall rfl (fun hin => hg _ (List.getElem_mem h14n) _ (List.getElem_mem (by omega)) _ _ _ (Hle.hu _ _) (RC.mono (Hle.hu _ _) (RC_mk hA15 hB15)) (RC.mono (Hle.hu _ _) (RC_mk hA17 hB17))) rfl ?_)))))
  rintro _ _ ⟨rfl, rfl⟩
  refine JLn (Pu.not rfl) <| Zb <| Zg rfl (fun h19 => ?_) (fun h19 => ?_)
  ·replace h19 := nt h19
   replace h19 := df h19
   refine Zc <| Za <| JLA rfl <| Zb <| Zl <| ⟨.bool false, [], Ret.one rfl (RV.tmp rfl), Sub.nil, ?_⟩
   exact ⟨by rw [decide_eq_false]; intro e; subst e; exact h19 rfl, rfl⟩
  replace h19 := nf h19
  replace h19 := dt h19
  refine Zj <| Za <| JLn (Pu.inc rfl rfl (by omega)) <| JLM rfl <| Zb <| ⟨_, ?_, (j + 1), rfl, rfl, rfl, rfl, rfl, rfl, Sub.nil, ?_, ?_, ?_, rfl⟩
  ·omega
  ·omega
  ·assumption
  rw [List.take_succ_eq_append_getElem h14n, List.take_succ_eq_append_getElem (by omega), htake, h19]
 replace h14 := df h14
 have h14n : l.length ≤ j := by omega
 refine Zz _ rfl <| Zc <| Za <| JLA rfl <| Zb <| Zl <| ⟨.bool true, [], Ret.one rfl (RV.tmp rfl), Sub.nil, ?_⟩
 exact ⟨by rw [decide_eq_true]; have e := htake; rw [List.take_of_length_le h14n, List.take_of_length_le (by omega)] at e; exact e, rfl⟩
theorem samePattern_ct : ∀ (p q : Pt) (cs ds : List Value) (H : Heap), RP H cs p → RP H ds q → CT Tryz.prog 63 ⟨[.agg ⟨cs⟩, .agg ⟨ds⟩]⟩ [] H (fun v N => v = .bool (decide (p = q)) ∧ N = []) := by
 intro p
 induction p using Pt.ind with
 | h kind num ref kids ih =>
 intro q cs ds H hp hq
 obtain ⟨ks, rfl, hk, hn, hks⟩ := RP_mk.1 hp
 obtain ⟨ksq, rfl, hkq, hnq, hksq⟩ := RP_open hq
 refine Zm Tryz.func63 rfl rfl <| Zc <| Za <| JLr (Zq (l := pkP kind num ref ks) rfl rfl fun b1 => JLr (Zq (l := pkP (q.kind) (q.num) (q.ref) ksq) rfl rfl fun b2 => JLA rfl <| Zb <| Zc <| Za <| JLq (pp b1 0) (Yl rfl rfl) <| JLr (Zd ty3 rfl (At.bx 1 rfl) (YK ..) <| JLq (pp b2 0) (Yl rfl rfl) <| JLr (Zd ty3 rfl (At.bx 0 rfl) (YK ..) ?_))))
 refine JLn (Pu.eql rfl rfl) <| JLM rfl <| Zv 5 [11, 12, 13, 14, 15] [(15, cond (decide (kind = q.kind)) (.bool (decide (num = q.num))) undef)] ?_ fun f4 => ?_
 ·cases h3 : (decide (kind = q.kind)) with
  | true =>
   replace h3 := dt h3
   refine JLq (pp b1 1) (XA rfl rfl) <| JLr (Zd ty3 rfl (At.bx 1 rfl) (pkP_1 ..) <| JLq (pp b2 1) (XA rfl rfl) <| JLr (Zd ty3 rfl (At.bx 0 rfl) (pkP_1 ..) <| JLn (Pu.eql rfl rfl) ?_))
   exact Zb ⟨⟨rfl, trivial⟩, rfl⟩
  | false =>
   exact Zy rfl ⟨rfl, trivial⟩
 refine JLn (Pu.pickAnd rfl rfl rfl) <| JLM rfl <| Zv 5 [18, 19, 20, 21, 22] [(22, cond ((decide (kind = q.kind)) && (decide (num = q.num))) (.bool (decide (ref = q.ref))) undef)] ?_ fun f6 => ?_
 ·cases h5 : ((decide (kind = q.kind)) && (decide (num = q.num))) with
  | true =>
   obtain ⟨h5a, h5b⟩ := YC h5
   replace h5a := dt h5a
   replace h5b := dt h5b
   refine JLq (pp b1 2) (fa81_2 rfl rfl) <| JLr (Zh YM rfl (At.bx 1 rfl) (pkP_2 ..) <| JLq (pp b2 2) (fa81_2 rfl rfl) <| JLr (Zh YM rfl (At.bx 0 rfl) (pkP_2 ..) <| JLn (eqS rfl rfl) ?_))
   exact Zb ⟨⟨rfl, trivial⟩, rfl⟩
  | false =>
   exact Zy rfl ⟨rfl, trivial⟩
 refine JLn (Pu.pickAnd rfl rfl rfl) <| JLM rfl <| Zv 5 [25, 26, 27, 28, 29] [(29, cond (((decide (kind = q.kind)) && (decide (num = q.num))) && (decide (ref = q.ref))) (.bool (decide (kids = (q.kids)))) undef)] ?_ fun f8 => ?_
 ·cases h7 : (((decide (kind = q.kind)) && (decide (num = q.num))) && (decide (ref = q.ref))) with
  | true =>
   obtain ⟨h7a, h7b⟩ := YC h7
   obtain ⟨h7aa, h7ab⟩ := YC h7a
   replace h7aa := dt h7aa
   replace h7ab := dt h7ab
   replace h7b := dt h7b
   refine JLq (pp b1 34) (Z5 rfl rfl) <| JLr (Zd Xa rfl (At.bx 1 rfl) (Yf ..) <| JLq (pp b2 34) (Z5 rfl rfl) <| JLr (Zd Xa rfl (At.bx 0 rfl) (Yf ..) <| Jc Tryz.call102 rfl (fun hin => eqFuncP_ct 63 [] [] (fun _ _ => rfl) _ _ _ _ _ (RPs.mono (Hle.hu _ _) hks) (RPs.mono (Hle.hu _ _) hksq) (fun x hx y hy a b h hh ra rb => ih x hx y a b h ra rb)) rfl ?_))
   rintro _ _ ⟨rfl, rfl⟩
   exact Zb ⟨⟨rfl, trivial⟩, rfl⟩
  | false =>
   exact Zy rfl ⟨rfl, trivial⟩
 refine JLn (Pu.pickAnd rfl rfl rfl) <| JLA rfl <| Zb <| Zl <| ⟨.bool ((((decide (kind = q.kind)) && (decide (num = q.num))) && (decide (ref = q.ref))) && (decide (kids = (q.kids)))), [], Ret.one rfl (RV.tmp rfl), Sub.nil, ?_⟩
 exact ⟨congrArg Value.bool (eqPd ..), rfl⟩
theorem sameCase_ct : ∀ (c d : Pt × Tm) (a b : List Value) (H : Heap), RC H a c → RC H b d → (∀ h a b, Hle H h → RT h a c.2 → RT h b d.2 → CT Tryz.prog 23 ⟨[.agg ⟨a⟩, .agg ⟨b⟩]⟩ [] h (fun v N => v = .bool (decide (c.2 = d.2)) ∧ N = [])) → CT Tryz.prog 62 ⟨[.agg ⟨a⟩, .agg ⟨b⟩]⟩ [] H (fun v N => v = .bool (decide (c = d)) ∧ N = []) := by
 intro c d a b H ⟨ca, cb, e1, ra1, ra2⟩ ⟨da, db, e2, rb1, rb2⟩ hg
 subst e1 e2
 refine Zm Tryz.func62 rfl rfl <| Zc <| Za <| JLr (Zq (l := ca ++ cb) rfl rfl fun b1 => JLr (Zq (l := da ++ db) rfl rfl fun b2 => JLA rfl <| Zb <| Zc <| Za <| JLq (pp b1 0) (Xi rfl rfl) <| JLr (Zh Z1 rfl (At.bx 1 rfl) (sub_l (ZC ra1)) <| JLq (pp b2 0) (Xi rfl rfl) <| JLr (Zh Z1 rfl (At.bx 0 rfl) (sub_l (ZC rb1)) ?_))))
 refine Jc Tryz.call63 rfl (fun hin => samePattern_ct _ _ _ _ _ (RP.mono (Hle.hu _ _) ra1) (RP.mono (Hle.hu _ _) rb1)) rfl ?_
 rintro _ _ ⟨rfl, rfl⟩
 refine JLM rfl <| Zv 5 [11, 12, 13, 14, 15] [(15, cond (decide ((c.1) = (d.1))) (.bool (decide ((c.2) = (d.2)))) undef)] ?_ fun f4 => ?_
 ·cases h3 : (decide ((c.1) = (d.1))) with
  | true =>
   replace h3 := dt h3
   refine JLq (pp b1 35) (fa86_1 rfl rfl) <| JLr (Zh Zt rfl (At.bx 1 rfl) (sub_r (ZC ra1) (Zu ra2)) <| JLq (pp b2 35) (fa86_1 rfl rfl) <| JLr (Zh Zt rfl (At.bx 0 rfl) (sub_r (ZC rb1) (Zu rb2)) <| Jc Tryz.call23 rfl (fun hin => hg _ _ _ (Hle.hu _ _) (RT.mono (Hle.hu _ _) ra2) (RT.mono (Hle.hu _ _) rb2)) rfl ?_))
   rintro _ _ ⟨rfl, rfl⟩
   exact Zb ⟨⟨rfl, trivial⟩, rfl⟩
  | false =>
   exact Zy rfl ⟨rfl, trivial⟩
 refine JLn (Pu.pickAnd rfl rfl rfl) <| JLA rfl <| Zb <| Zl <| ⟨.bool ((decide ((c.1) = (d.1))) && (decide ((c.2) = (d.2)))), [], Ret.one rfl (RV.tmp rfl), Sub.nil, ?_⟩
 exact ⟨by obtain ⟨c1, c2⟩ := c; obtain ⟨d1, d2⟩ := d; refine congrArg Value.bool ?_; rw [Bool.eq_iff_iff]; simp, rfl⟩
theorem sameTerms_ct : ∀ (l m : List Tm) (v u : Value) (H : Heap) (_ : rdS RT 36 H v l) (_ : rdS RT 36 H u m) (_ : ∀ x ∈ l, ∀ y a b h, Hle H h → RT h a x → RT h b y → CT Tryz.prog 23 ⟨[.agg ⟨a⟩, .agg ⟨b⟩]⟩ [] h (fun v N => v = .bool (decide (x = y)) ∧ N = [])), CT Tryz.prog 60 ⟨[v, u]⟩ [] H (fun v N => v = .bool (decide (l = m)) ∧ N = []) := by
 intro l m v u H hl hm hg
 refine Zm Tryz.func60 rfl rfl <| Zc <| Za <| JLA rfl <| Zb <| Zc <| Za <| JLm v <| JLm u <| Jc Tryz.call101 rfl (fun hin => eqFuncT_ct 23 [] [] (fun _ _ => rfl) _ _ _ _ _ (RTs.mono (Hle.hu _ _) hl) (RTs.mono (Hle.hu _ _) hm) (fun x hx y hy a b h hh ra rb => hg x hx y a b h (Hle.trans (Hle.hu _ _) hh) ra rb)) rfl ?_
 rintro _ _ ⟨rfl, rfl⟩
 refine JLA rfl <| Zb <| Zl <| ⟨.bool (decide (l = m)), [], Ret.one rfl (RV.tmp rfl), Sub.nil, ?_⟩
 exact ⟨rfl, rfl⟩
theorem Xr : ∀ (t u : Tm) (cs ds : List Value) (H : Heap), RT H cs t → RT H ds u → CT Tryz.prog 23 ⟨[.agg ⟨cs⟩, .agg ⟨ds⟩]⟩ [] H (fun v N => v = .bool (decide (t = u)) ∧ N = []) := by
 intro t
 induction t using Tm.ind with
 | h kind num ref kids cases ih ih' =>
 intro u cs ds H ht hu
 obtain ⟨ks, cv, rfl, hk, hn, hks, hcv⟩ := RT_mk.1 ht
 obtain ⟨ksu, cvu, rfl, hku, hnu, hksu, hcvu⟩ := RT_open hu
 refine Zm Tryz.func23 rfl rfl <| Zc <| Za <| JLr (Zq (l := pkT kind num ref ks cv) rfl rfl fun b1 => JLr (Zq (l := pkT (u.kind) (u.num) (u.ref) ksu cvu) rfl rfl fun b2 => JLA rfl <| Zb <| Zc <| Za <| JLq (pp b1 0) (ZI rfl rfl) <| JLr (Zd ty3 rfl (At.bx 1 rfl) (ZZ ..) <| JLq (pp b2 0) (ZI rfl rfl) <| JLr (Zd ty3 rfl (At.bx 0 rfl) (ZZ ..) ?_))))
 refine JLn (Pu.eql rfl rfl) <| JLM rfl <| Zv 5 [11, 12, 13, 14, 15] [(15, cond (decide (kind = u.kind)) (.bool (decide (num = u.num))) undef)] ?_ fun f4 => ?_
 ·cases h3 : (decide (kind = u.kind)) with
  | true =>
   replace h3 := dt h3
   refine JLq (pp b1 1) (Z9 rfl rfl) <| JLr (Zd ty3 rfl (At.bx 1 rfl) (Yt ..) <| JLq (pp b2 1) (Z9 rfl rfl) <| JLr (Zd ty3 rfl (At.bx 0 rfl) (Yt ..) <| JLn (Pu.eql rfl rfl) ?_))
   exact Zb ⟨⟨rfl, trivial⟩, rfl⟩
  | false =>
   exact Zy rfl ⟨rfl, trivial⟩
 refine JLn (Pu.pickAnd rfl rfl rfl) <| JLM rfl <| Zv 5 [18, 19, 20, 21, 22] [(22, cond ((decide (kind = u.kind)) && (decide (num = u.num))) (.bool (decide (ref = u.ref))) undef)] ?_ fun f6 => ?_
 ·cases h5 : ((decide (kind = u.kind)) && (decide (num = u.num))) with
  | true =>
   obtain ⟨h5a, h5b⟩ := YC h5
   replace h5a := dt h5a
   replace h5b := dt h5b
   refine JLq (pp b1 2) (fa30_2 rfl rfl) <| JLr (Zh YM rfl (At.bx 1 rfl) (pkT_2 ..) <| JLq (pp b2 2) (fa30_2 rfl rfl) <| JLr (Zh YM rfl (At.bx 0 rfl) (pkT_2 ..) <| JLn (eqS rfl rfl) ?_))
   exact Zb ⟨⟨rfl, trivial⟩, rfl⟩
  | false =>
   exact Zy rfl ⟨rfl, trivial⟩
 refine JLn (Pu.pickAnd rfl rfl rfl) <| JLM rfl <| Zv 5 [25, 26, 27, 28, 29] [(29, cond (((decide (kind = u.kind)) && (decide (num = u.num))) && (decide (ref = u.ref))) (.bool (decide (kids = (u.kids)))) undef)] ?_ fun f8 => ?_
 ·cases h7 : (((decide (kind = u.kind)) && (decide (num = u.num))) && (decide (ref = u.ref))) with
  | true =>
   obtain ⟨h7a, h7b⟩ := YC h7
   obtain ⟨h7aa, h7ab⟩ := YC h7a
   replace h7aa := dt h7aa
   replace h7ab := dt h7ab
   replace h7b := dt h7b
   refine JLq (pp b1 34) (Z3 rfl rfl) <| JLr (Zd Y0 rfl (At.bx 1 rfl) (Z4 ..) <| JLq (pp b2 34) (Z3 rfl rfl) <| JLr (Zd Y0 rfl (At.bx 0 rfl) (Z4 ..) <| Jc Tryz.call60 rfl (fun hin => sameTerms_ct _ _ _ _ _ (RTs.mono (Hle.hu _ _) hks) (RTs.mono (Hle.hu _ _) hksu) (fun x hx y a b h _ ra rb => ih x hx y a b h ra rb)) rfl ?_))
   rintro _ _ ⟨rfl, rfl⟩
   exact Zb ⟨⟨rfl, trivial⟩, rfl⟩
  | false =>
   exact Zy rfl ⟨rfl, trivial⟩
 refine JLn (Pu.pickAnd rfl rfl rfl) <| JLM rfl <| Zv 5 [32, 33, 34, 35, 36] [(36, cond ((((decide (kind = u.kind)) && (decide (num = u.num))) && (decide (ref = u.ref))) && (decide (kids = (u.kids)))) (.bool (decide (cases = (u.cases)))) undef)] ?_ fun f10 => ?_
 ·cases h9 : ((((decide (kind = u.kind)) && (decide (num = u.num))) && (decide (ref = u.ref))) && (decide (kids = (u.kids)))) with
  | true =>
   obtain ⟨h9a, h9b⟩ := YC h9
   obtain ⟨h9aa, h9ab⟩ := YC h9a
   obtain ⟨h9aaa, h9aab⟩ := YC h9aa
   replace h9aaa := dt h9aaa
   replace h9aab := dt h9aab
   replace h9ab := dt h9ab
   replace h9b := dt h9b
   refine JLq (pp b1 35) (ZR rfl rfl) <| JLr (Zd YA rfl (At.bx 1 rfl) (ZT ..) <| JLq (pp b2 35) (ZR rfl rfl) <| JLr (Zd YA rfl (At.bx 0 rfl) (ZT ..) <| Jc Tryz.call61 rfl (fun hin => eqFuncC_ct 62 [] [] (fun _ _ => rfl) _ _ _ _ _ (RCs.mono (Hle.hu _ _) hcv) (RCs.mono (Hle.hu _ _) hcvu) (fun x hx y hy a b h hh ra rb => sameCase_ct x y a b h ra rb (fun h' a' b' _ r1 r2 => ih' x hx y.2 a' b' h' r1 r2))) rfl ?_))
   rintro _ _ ⟨rfl, rfl⟩
   exact Zb ⟨⟨rfl, trivial⟩, rfl⟩
  | false =>
   exact Zy rfl ⟨rfl, trivial⟩
 refine JLn (Pu.pickAnd rfl rfl rfl) <| JLA rfl <| Zb <| Zl <| ⟨.bool (((((decide (kind = u.kind)) && (decide (num = u.num))) && (decide (ref = u.ref))) && (decide (kids = (u.kids)))) && (decide (cases = (u.cases)))), [], Ret.one rfl (RV.tmp rfl), Sub.nil, ?_⟩
 exact ⟨congrArg Value.bool (eqTd ..), rfl⟩
end Go.Proofs.YtkjafeejpmcnkaaGreat.Hs
/-! Walks, printed by a program of this session's own (gen.py). -/
namespace Go.Proofs.YtkjafeejpmcnkaaGreat.Hs
open Go Go.Proofs
set_option maxRecDepth 100000
set_option linter.unusedVariables false
set_option linter.unusedSimpArgs false
attribute [local irreducible] JL J CT wlo DT
theorem idxP_ct (g : Nat) (fs cv : List Value) (hcall : ∀ args w, (callFunc g args).run Tryz.prog w = .ok (.enter g args) w) {σ : Type} (Sc : σ → Zi) (Inv : σ → Prop) (step : Pt → σ → Bool × σ) (l : List Pt) (v : Value) (H : Heap) (hl : rdS RP 35 H v l) (s0 : σ) (h0 : Inv s0) (hI : ∀ x ∈ l, ∀ s, Inv s → (step x s).1 = false → Inv (step x s).2) (hg : ∀ x ∈ l, ∀ s, Inv s → ∀ a h, Hle H h → RP h a x → CT Tryz.prog g ⟨fs ++ [.agg ⟨a⟩] ++ cv⟩ [Sc s] h (fun v N => v = .bool (step x s).1 ∧ N = [Sc (step x s).2])) : CT Tryz.prog 84 ⟨[v, .func (.func g) ⟨fs⟩ ⟨cv⟩]⟩ [Sc s0] H (fun v N => v = iv (idxS step l 0 s0).1 ∧ N = [Sc (idxS step l 0 s0).2]) := by
 refine Zm Tryz.func84 rfl rfl <| Zc <| Za <| JLA rfl <| Zb <| Zc <| Zc <| Za <| JLm v ?_
 obtain ⟨a1, cap1, hv1⟩ := hl.sl
 have hle1 := hl.le
 refine JLn (Pu.lenSl Tryz.runUnderlying79 hv1) <| JLM rfl <| Zb <| Zn <| ZB (fun k ρ M => ∃ (j : Nat) (s : σ), ρ 0 = v ∧ ρ 1 = .func (.func g) ⟨fs⟩ ⟨cv⟩ ∧ ρ 4 = iv 0 ∧ ρ 7 = iv ((l.length : Int)) ∧ ρ 8 = iv ((j : Int)) ∧ Sub [Sc s] M ∧ j ≤ l.length ∧ Inv s ∧ idxS step (l.drop j) j s = idxS step l 0 s0 ∧ k = l.length - j) _ ⟨0, s0, rfl, rfl, rfl, rfl, rfl, (Sk Sub.nil), Nat.zero_le _, h0, rfl, rfl⟩ ?_
 rintro _ ρ2 _ ⟨j, s, e3, e4, e5, e6, e7, hm8, hj, hs, hinv, rfl⟩
 obtain ⟨ρ9, rfl⟩ := Zr (uc e3 (uc e4 (uc e5 (uc e6 (uc e7 un)))))
 clear e3 e4 e5 e6 e7
 refine ZG hm8 <| Zc <| Za <| JLn (Pu.lss rfl rfl) <| Zb <| Zc <| Zg rfl (fun h10 => ?_) (fun h10 => ?_)
 ·replace h10 := dt h10
  have h10n : j < l.length := by omega
  have hlenl := hl.le
  refine Zj <| Zc <| Zn <| Zc <| Za <| JLM rfl <| JLA rfl <| Zb <| Zc <| Za <| JLM rfl <| JLm v <| JLM rfl ?_
  obtain ⟨b11, o11, cap11, row11, T11, fr11, cs11, hv11, hb11, hs11, hE11⟩ := hl.get j (by first | assumption | omega | decide | simp)
  refine JLq (pp b11 (o11 + j * 35)) (Pu.idx j Tryz.runUnderlying79 Z1 hv11 rfl rfl (by first | assumption | omega | decide | simp)) <| JLr (Zh Z1 rfl (At.im hb11) hs11 <| ZA 0 rfl hcall rfl rfl (fun hin => hg _ (List.getElem_mem h10n) _ hs _ _ (Hle.hu _ _) (RP.mono (Hle.hu _ _) hE11)) rfl ?_)
  rintro _ _ ⟨rfl, rfl⟩
  refine Zb <| Zg rfl (fun h12 => ?_) (fun h12 => ?_)
  ·refine Zc <| Za <| JLM rfl <| JLA rfl <| Zb <| Zl <| ⟨iv ((j : Int)), [Sc (step (l[j]) s).2], Ret.one rfl (RV.tmp rfl), (Sk Sub.nil), ?_⟩
   refine ⟨?_, ?_⟩ <;> rw [← hinv, ZW h10n, idxS, if_pos h12]
  refine Zj <| Za <| JLn (Pu.inc rfl rfl (by omega)) <| JLM rfl <| Zb <| ⟨_, ?_, (j + 1), ((step (l[j]) s).2), rfl, rfl, rfl, rfl, rfl, (Sk Sub.nil), ?_, ?_, ?_, rfl⟩
  ·omega
  ·omega
  ·exact hI _ (List.getElem_mem h10n) s hs h12
  rw [ZW h10n, idxS, if_neg (by simp [h12])] at hinv; exact hinv
 replace h10 := df h10
 have h10n : l.length ≤ j := by omega
 refine Zz _ rfl <| Zc <| Za <| JLA rfl <| Zb <| Zl <| ⟨iv (-1), [Sc s], Ret.one rfl (RV.tmp rfl), (Sk Sub.nil), ?_⟩
 refine ⟨?_, ?_⟩ <;> rw [← hinv, YL h10n] <;> rfl
theorem idxT_ct (g : Nat) (fs cv : List Value) (hcall : ∀ args w, (callFunc g args).run Tryz.prog w = .ok (.enter g args) w) {σ : Type} (Sc : σ → Zi) (Inv : σ → Prop) (step : Tm → σ → Bool × σ) (l : List Tm) (v : Value) (H : Heap) (hl : rdS RT 36 H v l) (s0 : σ) (h0 : Inv s0) (hI : ∀ x ∈ l, ∀ s, Inv s → (step x s).1 = false → Inv (step x s).2) (hg : ∀ x ∈ l, ∀ s, Inv s → ∀ a h, Hle H h → RT h a x → CT Tryz.prog g ⟨fs ++ [.agg ⟨a⟩] ++ cv⟩ [Sc s] h (fun v N => v = .bool (step x s).1 ∧ N = [Sc (step x s).2])) : CT Tryz.prog 85 ⟨[v, .func (.func g) ⟨fs⟩ ⟨cv⟩]⟩ [Sc s0] H (fun v N => v = iv (idxS step l 0 s0).1 ∧ N = [Sc (idxS step l 0 s0).2]) := by
 refine Zm Tryz.func85 rfl rfl <| Zc <| Za <| JLA rfl <| Zb <| Zc <| Zc <| Za <| JLm v ?_
 obtain ⟨a1, cap1, hv1⟩ := hl.sl
 have hle1 := hl.le
 refine JLn (Pu.lenSl Tryz.runUnderlying27 hv1) <| JLM rfl <| Zb <| Zn <| ZB (fun k ρ M => ∃ (j : Nat) (s : σ), ρ 0 = v ∧ ρ 1 = .func (.func g) ⟨fs⟩ ⟨cv⟩ ∧ ρ 4 = iv 0 ∧ ρ 7 = iv ((l.length : Int)) ∧ ρ 8 = iv ((j : Int)) ∧ Sub [Sc s] M ∧ j ≤ l.length ∧ Inv s ∧ idxS step (l.drop j) j s = idxS step l 0 s0 ∧ k = l.length - j) _ ⟨0, s0, rfl, rfl, rfl, rfl, rfl, (Sk Sub.nil), Nat.zero_le _, h0, rfl, rfl⟩ ?_
 rintro _ ρ2 _ ⟨j, s, e3, e4, e5, e6, e7, hm8, hj, hs, hinv, rfl⟩
 obtain ⟨ρ9, rfl⟩ := Zr (uc e3 (uc e4 (uc e5 (uc e6 (uc e7 un)))))
 clear e3 e4 e5 e6 e7
 refine ZG hm8 <| Zc <| Za <| JLn (Pu.lss rfl rfl) <| Zb <| Zc <| Zg rfl (fun h10 => ?_) (fun h10 => ?_)
 ·replace h10 := dt h10
  have h10n : j < l.length := by omega
  have hlenl := hl.le
  refine Zj <| Zc <| Zn <| Zc <| Za <| JLM rfl <| JLA rfl <| Zb <| Zc <| Za <| JLM rfl <| JLm v <| JLM rfl ?_
  obtain ⟨b11, o11, cap11, row11, T11, fr11, cs11, hv11, hb11, hs11, hE11⟩ := hl.get j (by first | assumption | omega | decide | simp)
  refine JLq (pp b11 (o11 + j * 36)) (Pu.idx j Tryz.runUnderlying27 Zt hv11 rfl rfl (by first | assumption | omega | decide | simp)) <| JLr (Zh Zt rfl (At.im hb11) hs11 <| ZA 0 rfl hcall rfl rfl (fun hin => hg _ (List.getElem_mem h10n) _ hs _ _ (Hle.hu _ _) (RT.mono (Hle.hu _ _) hE11)) rfl ?_)
  rintro _ _ ⟨rfl, rfl⟩
  refine Zb <| Zg rfl (fun h12 => ?_) (fun h12 => ?_)
  ·refine Zc <| Za <| JLM rfl <| JLA rfl <| Zb <| Zl <| ⟨iv ((j : Int)), [Sc (step (l[j]) s).2], Ret.one rfl (RV.tmp rfl), (Sk Sub.nil), ?_⟩
   refine ⟨?_, ?_⟩ <;> rw [← hinv, ZW h10n, idxS, if_pos h12]
  refine Zj <| Za <| JLn (Pu.inc rfl rfl (by omega)) <| JLM rfl <| Zb <| ⟨_, ?_, (j + 1), ((step (l[j]) s).2), rfl, rfl, rfl, rfl, rfl, (Sk Sub.nil), ?_, ?_, ?_, rfl⟩
  ·omega
  ·omega
  ·exact hI _ (List.getElem_mem h10n) s hs h12
  rw [ZW h10n, idxS, if_neg (by simp [h12])] at hinv; exact hinv
 replace h10 := df h10
 have h10n : l.length ≤ j := by omega
 refine Zz _ rfl <| Zc <| Za <| JLA rfl <| Zb <| Zl <| ⟨iv (-1), [Sc s], Ret.one rfl (RV.tmp rfl), (Sk Sub.nil), ?_⟩
 refine ⟨?_, ?_⟩ <;> rw [← hinv, YL h10n] <;> rfl
theorem idxC_ct (g : Nat) (fs cv : List Value) (hcall : ∀ args w, (callFunc g args).run Tryz.prog w = .ok (.enter g args) w) {σ : Type} (Sc : σ → Zi) (Inv : σ → Prop) (step : (Pt × Tm) → σ → Bool × σ) (l : List (Pt × Tm)) (v : Value) (H : Heap) (hl : rdS RC 71 H v l) (s0 : σ) (h0 : Inv s0) (hI : ∀ x ∈ l, ∀ s, Inv s → (step x s).1 = false → Inv (step x s).2) (hg : ∀ x ∈ l, ∀ s, Inv s → ∀ a h, Hle H h → RC h a x → CT Tryz.prog g ⟨fs ++ [.agg ⟨a⟩] ++ cv⟩ [Sc s] h (fun v N => v = .bool (step x s).1 ∧ N = [Sc (step x s).2])) : CT Tryz.prog 86 ⟨[v, .func (.func g) ⟨fs⟩ ⟨cv⟩]⟩ [Sc s0] H (fun v N => v = iv (idxS step l 0 s0).1 ∧ N = [Sc (idxS step l 0 s0).2]) := by
 refine Zm Tryz.func86 rfl rfl <| Zc <| Za <| JLA rfl <| Zb <| Zc <| Zc <| Za <| JLm v ?_
 obtain ⟨a1, cap1, hv1⟩ := hl.sl
 have hle1 := hl.le
 refine JLn (Pu.lenSl Tryz.runUnderlying28 hv1) <| JLM rfl <| Zb <| Zn <| ZB (fun k ρ M => ∃ (j : Nat) (s : σ), ρ 0 = v ∧ ρ 1 = .func (.func g) ⟨fs⟩ ⟨cv⟩ ∧ ρ 4 = iv 0 ∧ ρ 7 = iv ((l.length : Int)) ∧ ρ 8 = iv ((j : Int)) ∧ Sub [Sc s] M ∧ j ≤ l.length ∧ Inv s ∧ idxS step (l.drop j) j s = idxS step l 0 s0 ∧ k = l.length - j) _ ⟨0, s0, rfl, rfl, rfl, rfl, rfl, (Sk Sub.nil), Nat.zero_le _, h0, rfl, rfl⟩ ?_
 rintro _ ρ2 _ ⟨j, s, e3, e4, e5, e6, e7, hm8, hj, hs, hinv, rfl⟩
 obtain ⟨ρ9, rfl⟩ := Zr (uc e3 (uc e4 (uc e5 (uc e6 (uc e7 un)))))
 clear e3 e4 e5 e6 e7
 refine ZG hm8 <| Zc <| Za <| JLn (Pu.lss rfl rfl) <| Zb <| Zc <| Zg rfl (fun h10 => ?_) (fun h10 => ?_)
 ·replace h10 := dt h10
  have h10n : j < l.length := by omega
  have hlenl := hl.le
  refine Zj <| Zc <| Zn <| Zc <| Za <| JLM rfl <| JLA rfl <| Zb <| Zc <| Za <| JLM rfl <| JLm v <| JLM rfl ?_
  obtain ⟨b11, o11, cap11, row11, T11, fr11, cs11, hv11, hb11, hs11, hE11⟩ := hl.get j (by first | assumption | omega | decide | simp)
  obtain ⟨ca11, cb11, rfl, hA11, hB11⟩ := hE11
  refine JLq (pp b11 (o11 + j * 71)) (Pu.idx j Tryz.runUnderlying28 YV hv11 rfl rfl (by first | assumption | omega | decide | simp)) <| JLr (Zh YV rfl (At.im hb11) hs11 <| ZA 0 rfl hcall rfl rfl (fun hin => hg _ (List.getElem_mem h10n) _ hs _ _ (Hle.hu _ _) (RC.mono (Hle.hu _ _) (RC_mk hA11 hB11))) rfl ?_)
  rintro _ _ ⟨rfl, rfl⟩
  refine Zb <| Zg rfl (fun h12 => ?_) (fun h12 => ?_)
  ·refine Zc <| Za <| JLM rfl <| JLA rfl <| Zb <| Zl <| ⟨iv ((j : Int)), [Sc (step (l[j]) s).2], Ret.one rfl (RV.tmp rfl), (Sk Sub.nil), ?_⟩
   refine ⟨?_, ?_⟩ <;> rw [← hinv, ZW h10n, idxS, if_pos h12]
  refine Zj <| Za <| JLn (Pu.inc rfl rfl (by omega)) <| JLM rfl <| Zb <| ⟨_, ?_, (j + 1), ((step (l[j]) s).2), rfl, rfl, rfl, rfl, rfl, (Sk Sub.nil), ?_, ?_, ?_, rfl⟩
  ·omega
  ·omega
  ·exact hI _ (List.getElem_mem h10n) s hs h12
  rw [ZW h10n, idxS, if_neg (by simp [h12])] at hinv; exact hinv
 replace h10 := df h10
 have h10n : l.length ≤ j := by omega
 refine Zz _ rfl <| Zc <| Za <| JLA rfl <| Zb <| Zl <| ⟨iv (-1), [Sc s], Ret.one rfl (RV.tmp rfl), (Sk Sub.nil), ?_⟩
 refine ⟨?_, ?_⟩ <;> rw [← hinv, YL h10n] <;> rfl
theorem containsP_ct (g : Nat) (fs cv : List Value) (hcall : ∀ args w, (callFunc g args).run Tryz.prog w = .ok (.enter g args) w) {σ : Type} (Sc : σ → Zi) (Inv : σ → Prop) (step : Pt → σ → Bool × σ) (l : List Pt) (v : Value) (H : Heap) (hl : rdS RP 35 H v l) (s0 : σ) (h0 : Inv s0) (hI : ∀ x ∈ l, ∀ s, Inv s → (step x s).1 = false → Inv (step x s).2) (hg : ∀ x ∈ l, ∀ s, Inv s → ∀ a h, Hle H h → RP h a x → CT Tryz.prog g ⟨fs ++ [.agg ⟨a⟩] ++ cv⟩ [Sc s] h (fun v N => v = .bool (step x s).1 ∧ N = [Sc (step x s).2])) : CT Tryz.prog 40 ⟨[v, .func (.func g) ⟨fs⟩ ⟨cv⟩]⟩ [Sc s0] H (fun v N => v = .bool (Ye step l s0).1 ∧ N = [Sc (Ye step l s0).2]) := by
 refine Zm Tryz.func40 rfl rfl <| Zc <| Za <| JLA rfl <| Zb <| Zc <| Za <| JLm v <| JLM rfl <| ZA 0 rfl Tryz.call84 rfl rfl (fun hin => idxP_ct g fs cv hcall Sc Inv step _ _ _ (RPs.mono (Hle.hu _ _) hl) s0 h0 hI (fun x hx s hs a h hh ra => hg x hx s hs a h (Hle.trans (Hle.hu _ _) hh) ra)) rfl ?_
 rintro _ _ ⟨rfl, rfl⟩
 refine JLn (Pu.geq rfl rfl) <| JLA rfl <| Zb <| Zl <| ⟨.bool (decide (0 ≤ (idxS step l 0 s0).1)), [Sc (idxS step l 0 s0).2], Ret.one rfl (RV.tmp rfl), (Sk Sub.nil), ?_⟩
 exact ⟨by rw [(idxS_any step l 0 s0).1], by rw [(idxS_any step l 0 s0).2]⟩
theorem containsT_ct (g : Nat) (fs cv : List Value) (hcall : ∀ args w, (callFunc g args).run Tryz.prog w = .ok (.enter g args) w) {σ : Type} (Sc : σ → Zi) (Inv : σ → Prop) (step : Tm → σ → Bool × σ) (l : List Tm) (v : Value) (H : Heap) (hl : rdS RT 36 H v l) (s0 : σ) (h0 : Inv s0) (hI : ∀ x ∈ l, ∀ s, Inv s → (step x s).1 = false → Inv (step x s).2) (hg : ∀ x ∈ l, ∀ s, Inv s → ∀ a h, Hle H h → RT h a x → CT Tryz.prog g ⟨fs ++ [.agg ⟨a⟩] ++ cv⟩ [Sc s] h (fun v N => v = .bool (step x s).1 ∧ N = [Sc (step x s).2])) : CT Tryz.prog 42 ⟨[v, .func (.func g) ⟨fs⟩ ⟨cv⟩]⟩ [Sc s0] H (fun v N => v = .bool (Ye step l s0).1 ∧ N = [Sc (Ye step l s0).2]) := by
 refine Zm Tryz.func42 rfl rfl <| Zc <| Za <| JLA rfl <| Zb <| Zc <| Za <| JLm v <| JLM rfl <| ZA 0 rfl Tryz.call85 rfl rfl (fun hin => idxT_ct g fs cv hcall Sc Inv step _ _ _ (RTs.mono (Hle.hu _ _) hl) s0 h0 hI (fun x hx s hs a h hh ra => hg x hx s hs a h (Hle.trans (Hle.hu _ _) hh) ra)) rfl ?_
 rintro _ _ ⟨rfl, rfl⟩
 refine JLn (Pu.geq rfl rfl) <| JLA rfl <| Zb <| Zl <| ⟨.bool (decide (0 ≤ (idxS step l 0 s0).1)), [Sc (idxS step l 0 s0).2], Ret.one rfl (RV.tmp rfl), (Sk Sub.nil), ?_⟩
 exact ⟨by rw [(idxS_any step l 0 s0).1], by rw [(idxS_any step l 0 s0).2]⟩
theorem containsC_ct (g : Nat) (fs cv : List Value) (hcall : ∀ args w, (callFunc g args).run Tryz.prog w = .ok (.enter g args) w) {σ : Type} (Sc : σ → Zi) (Inv : σ → Prop) (step : (Pt × Tm) → σ → Bool × σ) (l : List (Pt × Tm)) (v : Value) (H : Heap) (hl : rdS RC 71 H v l) (s0 : σ) (h0 : Inv s0) (hI : ∀ x ∈ l, ∀ s, Inv s → (step x s).1 = false → Inv (step x s).2) (hg : ∀ x ∈ l, ∀ s, Inv s → ∀ a h, Hle H h → RC h a x → CT Tryz.prog g ⟨fs ++ [.agg ⟨a⟩] ++ cv⟩ [Sc s] h (fun v N => v = .bool (step x s).1 ∧ N = [Sc (step x s).2])) : CT Tryz.prog 43 ⟨[v, .func (.func g) ⟨fs⟩ ⟨cv⟩]⟩ [Sc s0] H (fun v N => v = .bool (Ye step l s0).1 ∧ N = [Sc (Ye step l s0).2]) := by
 refine Zm Tryz.func43 rfl rfl <| Zc <| Za <| JLA rfl <| Zb <| Zc <| Za <| JLm v <| JLM rfl <| ZA 0 rfl Tryz.call86 rfl rfl (fun hin => idxC_ct g fs cv hcall Sc Inv step _ _ _ (RCs.mono (Hle.hu _ _) hl) s0 h0 hI (fun x hx s hs a h hh ra => hg x hx s hs a h (Hle.trans (Hle.hu _ _) hh) ra)) rfl ?_
 rintro _ _ ⟨rfl, rfl⟩
 refine JLn (Pu.geq rfl rfl) <| JLA rfl <| Zb <| Zl <| ⟨.bool (decide (0 ≤ (idxS step l 0 s0).1)), [Sc (idxS step l 0 s0).2], Ret.one rfl (RV.tmp rfl), (Sk Sub.nil), ?_⟩
 exact ⟨by rw [(idxS_any step l 0 s0).1], by rw [(idxS_any step l 0 s0).2]⟩
end Go.Proofs.YtkjafeejpmcnkaaGreat.Hs
/-! Walks, printed by a program of this session's own (gen.py). -/
namespace Go.Proofs.YtkjafeejpmcnkaaGreat.Hs
open Go Go.Proofs
set_option maxRecDepth 100000
set_option linter.unusedVariables false
set_option linter.unusedSimpArgs false
attribute [local irreducible] JL J CT wlo DT
theorem greatP_ct : ∀ (p : Pt) (d n : Int) (cs : List Value) (H : Heap) (bN bP : Nat), RP H cs p → 0 ≤ n → n ≤ 400 → H bP = some (.cells ⟨[.func (.func 39) ⟨[]⟩ ⟨[pp bN 0, pp bP 0]⟩]⟩ 78 (0, 0)) → CT Tryz.prog 39 ⟨[.agg ⟨cs⟩, pp bN 0, pp bP 0]⟩ [(BX bN [iv n] 3)] H (fun v N => v = .bool (cnP stG d p n).1 ∧ N = [(BX bN [iv ((cnP stG d p n).2)] 3)]) := by
 intro p
 induction p using Pt.ind with
 | h kind num ref kids ih =>
 intro d n cs H bN bP hp hn0 hn1 hP
 obtain ⟨ks, rfl, hk, hn, hks⟩ := RP_mk.1 hp
 refine Zm Tryz.func39 rfl rfl <| Zc <| Za <| JLr (Zq (l := pkP kind num ref ks) rfl rfl fun b1 => JLA rfl <| Zb <| Zc <| Za <| JLr (Zd ty3 rfl (At.bx 1 rfl) rfl <| JLn (Pu.add64 rfl rfl (by first | omega | (constructor <;> omega))) <| JLr (Ze 1 (vs := [iv (n + 1)]) (l := [iv (n + 1)]) ty3 rfl rfl rfl rfl rfl (Zf rfl Zo) rfl <| Zb <| Zc ?_)))
 refine Za <| JLr (Zd ty3 rfl (At.bx 1 rfl) rfl <| JLn (Pu.gtr rfl rfl) <| JLM rfl ?_)
 cases h2 : (decide (400 < n + 1)) with
 | true =>
  replace h2 := dt h2
  iterate 4 refine ZD rfl ?_
  refine JLq (.bool true) (Pu.pickT rfl rfl) <| JLA rfl <| Zb <| Zl <| ⟨.bool true, [(BX bN [iv (n + 1)] 3)], Ret.one rfl (RV.tmp rfl), (Sd (Sk Sub.nil)), ?_⟩
  refine ⟨?_, ?_⟩ <;> rw [cnP, if_pos (by simp [stG]; omega)]
 | false =>
  replace h2 := df h2
  refine JLq (pp b1 34) (Z5 rfl rfl) <| JLr (Zd Xa rfl (At.bx 0 rfl) (Yf ..) <| JLr (Zd ty78 rfl (At.im hP) rfl <| ZA 1 rfl Tryz.call40 rfl rfl (fun hin => containsP_ct 39 [] [pp bN 0, pp bP 0] (fun _ _ => rfl) (fun n => (BX bN [iv n] 3)) (fun n => 0 ≤ n ∧ n ≤ 400) (cnP stG (d + 1)) _ _ _ (RPs.mono (Hle.hu _ _) hks) (n + 1) ⟨by omega, by omega⟩ (fun x hx s hs hf => cnP_keep stG_le x _ s hs.1 hf) (fun x hx s hs a h hh ra => ih x hx (d + 1) s a h bN bP ra hs.1 hs.2 (hh _ _ (Hle.hu _ _ _ _ hP)))) rfl ?_))
  rintro _ _ ⟨rfl, rfl⟩
  refine JLq (.bool ((Ye (cnP stG (d + 1)) kids (n + 1)).1)) (Pu.pickF rfl rfl) <| JLA rfl <| Zb <| Zl <| ⟨.bool ((Ye (cnP stG (d + 1)) kids (n + 1)).1), [(BX bN [iv ((Ye (cnP stG (d + 1)) kids (n + 1)).2)] 3)], Ret.one rfl (RV.tmp rfl), (Sk Sub.nil), ?_⟩
  refine ⟨?_, ?_⟩ <;> rw [cnP, if_neg (by simp [stG]; omega), cnPs_any]
theorem greatC_ct : ∀ (c : Pt × Tm) (d n : Int) (a : List Value) (H : Heap) (bN bW bP : Nat), RC H a c → 0 ≤ n → n ≤ 400 → H bW = some (.cells ⟨[.func (.func 41) ⟨[]⟩ ⟨[pp bN 0, pp bW 0, pp bP 0]⟩]⟩ 40 (0, 0)) → H bP = some (.cells ⟨[.func (.func 39) ⟨[]⟩ ⟨[pp bN 0, pp bP 0]⟩]⟩ 78 (0, 0)) → (∀ s a h, Hle H h → RT h a c.2 → 0 ≤ s → s ≤ 400 → CT Tryz.prog 41 ⟨[.agg ⟨a⟩, pp bN 0, pp bW 0, pp bP 0]⟩ [(BX bN [iv s] 3)] h (fun v N => v = .bool (cnT stG d c.2 s).1 ∧ N = [(BX bN [iv ((cnT stG d c.2 s).2)] 3)])) → CT Tryz.prog 44 ⟨[.agg ⟨a⟩, pp bP 0, pp bW 0]⟩ [(BX bN [iv n] 3)] H (fun v N => v = .bool (cnC stG d c n).1 ∧ N = [(BX bN [iv ((cnC stG d c n).2)] 3)]) := by
 intro c d n a H bN bW bP ⟨ca, cb, e1, ra1, ra2⟩ hn0 hn1 hW hP hg
 subst e1
 refine Zm Tryz.func44 rfl rfl <| Zc <| Za <| JLr (Zq (l := ca ++ cb) rfl rfl fun b1 => JLA rfl <| Zb <| Zc <| Za <| JLr (Zd ty78 rfl (At.im hP) rfl <| JLq (pp b1 0) (Xi rfl rfl) <| JLr (Zh Z1 rfl (At.bx 0 rfl) (sub_l (ZC ra1)) <| ZA 1 rfl Tryz.call39 rfl rfl (fun hin => greatP_ct _ d _ _ _ bN bP (RP.mono (Hle.hu _ _) ra1) hn0 hn1 (Hle.hu _ _ _ _ hP)) rfl ?_)))
 rintro _ _ ⟨rfl, rfl⟩
 refine JLM rfl ?_
 cases h3 : ((cnP stG d (c.1) n).1) with
 | true =>
  iterate 4 refine ZD rfl ?_
  refine JLq (.bool true) (Pu.pickT rfl rfl) <| JLA rfl <| Zb <| Zl <| ⟨.bool true, [(BX bN [iv ((cnP stG d (c.1) n).2)] 3)], Ret.one rfl (RV.tmp rfl), (Sk Sub.nil), ?_⟩
  refine ⟨?_, ?_⟩ <;> rw [cnC, if_pos h3]
 | false =>
  refine JLr (Zd ty40 rfl (At.im hW) rfl <| JLq (pp b1 35) (fa86_1 rfl rfl) <| JLr (Zh Zt rfl (At.bx 1 rfl) (sub_r (ZC ra1) (Zu ra2)) <| ZA 0 rfl Tryz.call41 rfl rfl (fun hin => hg _ _ _ (Hle.hu _ _) (RT.mono (Hle.hu _ _) ra2) (cnP_keep stG_le _ _ _ hn0 h3).1 (cnP_keep stG_le _ _ _ hn0 h3).2) rfl ?_))
  rintro _ _ ⟨rfl, rfl⟩
  refine JLq (.bool ((cnT stG d (c.2) ((cnP stG d (c.1) n).2)).1)) (Pu.pickF rfl rfl) <| JLA rfl <| Zb <| Zl <| ⟨.bool ((cnT stG d (c.2) ((cnP stG d (c.1) n).2)).1), [(BX bN [iv ((cnT stG d (c.2) ((cnP stG d (c.1) n).2)).2)] 3)], Ret.one rfl (RV.tmp rfl), (Sk Sub.nil), ?_⟩
  refine ⟨?_, ?_⟩ <;> rw [cnC, if_neg (by simp [h3])]
theorem greatT_ct : ∀ (t : Tm) (d n : Int) (cs : List Value) (H : Heap) (bN bW bP : Nat), RT H cs t → 0 ≤ n → n ≤ 400 → H bW = some (.cells ⟨[.func (.func 41) ⟨[]⟩ ⟨[pp bN 0, pp bW 0, pp bP 0]⟩]⟩ 40 (0, 0)) → H bP = some (.cells ⟨[.func (.func 39) ⟨[]⟩ ⟨[pp bN 0, pp bP 0]⟩]⟩ 78 (0, 0)) → CT Tryz.prog 41 ⟨[.agg ⟨cs⟩, pp bN 0, pp bW 0, pp bP 0]⟩ [(BX bN [iv n] 3)] H (fun v N => v = .bool (cnT stG d t n).1 ∧ N = [(BX bN [iv ((cnT stG d t n).2)] 3)]) := by
 intro t
 induction t using Tm.ind with
 | h kind num ref kids cases ih ih' =>
 intro d n cs H bN bW bP ht hn0 hn1 hW hP
 obtain ⟨ks, cv, rfl, hk, hn, hks, hcv⟩ := RT_mk.1 ht
 refine Zm Tryz.func41 rfl rfl <| Zc <| Za <| JLr (Zq (l := pkT kind num ref ks cv) rfl rfl fun b1 => JLA rfl <| Zb <| Zc <| Za <| JLr (Zd ty3 rfl (At.bx 1 rfl) rfl <| JLn (Pu.add64 rfl rfl (by first | omega | (constructor <;> omega))) <| JLr (Ze 1 (vs := [iv (n + 1)]) (l := [iv (n + 1)]) ty3 rfl rfl rfl rfl rfl (Zf rfl Zo) rfl <| Zb <| Zc ?_)))
 refine Za <| JLr (Zd ty3 rfl (At.bx 1 rfl) rfl <| JLn (Pu.gtr rfl rfl) <| JLM rfl ?_)
 cases h2 : (decide (400 < n + 1)) with
 | true =>
  replace h2 := dt h2
  iterate 4 refine ZD rfl ?_
  refine JLq (.bool true) (Pu.pickT rfl rfl) <| JLM rfl ?_
  iterate 4 refine ZD rfl ?_
  refine JLq (.bool true) (Pu.pickT rfl rfl) <| JLA rfl <| Zb <| Zl <| ⟨.bool true, [(BX bN [iv (n + 1)] 3)], Ret.one rfl (RV.tmp rfl), (Sd (Sk Sub.nil)), ?_⟩
  refine ⟨?_, ?_⟩ <;> rw [cnT, if_pos (by simp [stG]; omega)]
 | false =>
  replace h2 := df h2
  refine JLq (pp b1 34) (Z3 rfl rfl) <| JLr (Zd Y0 rfl (At.bx 0 rfl) (Z4 ..) <| JLr (Zd ty40 rfl (At.im hW) rfl <| ZA 1 rfl Tryz.call42 rfl rfl (fun hin => containsT_ct 41 [] [pp bN 0, pp bW 0, pp bP 0] (fun _ _ => rfl) (fun n => (BX bN [iv n] 3)) (fun n => 0 ≤ n ∧ n ≤ 400) (cnT stG (d + 1)) _ _ _ (RTs.mono (Hle.hu _ _) hks) (n + 1) ⟨by omega, by omega⟩ (fun x hx s hs hf => cnT_keep stG_le x _ s hs.1 hf) (fun x hx s hs a h hh ra => ih x hx (d + 1) s a h bN bW bP ra hs.1 hs.2 (hh _ _ (Hle.hu _ _ _ _ hW)) (hh _ _ (Hle.hu _ _ _ _ hP)))) rfl ?_))
  rintro _ _ ⟨rfl, rfl⟩
  refine JLq (.bool ((Ye (cnT stG (d + 1)) kids (n + 1)).1)) (Pu.pickF rfl rfl) <| JLM rfl ?_
  cases h4 : ((Ye (cnT stG (d + 1)) kids (n + 1)).1) with
  | true =>
   iterate 4 refine ZD rfl ?_
   refine JLq (.bool true) (Pu.pickT rfl rfl) <| JLA rfl <| Zb <| Zl <| ⟨.bool true, [(BX bN [iv ((Ye (cnT stG (d + 1)) kids (n + 1)).2)] 3)], Ret.one rfl (RV.tmp rfl), (Sk Sub.nil), ?_⟩
   refine ⟨?_, ?_⟩ <;> rw [cnT, if_neg (by simp [stG]; omega), cnTs_any, if_pos h4]
  | false =>
   refine JLq (pp b1 35) (ZR rfl rfl) <| JLr (Zd YA rfl (At.bx 1 rfl) (ZT ..) <| JLq (.func (.func 44) ⟨[]⟩ ⟨[pp bP 0, pp bW 0]⟩) (Pu.makeFunc rfl rfl) <| ZA 0 rfl Tryz.call43 rfl rfl (fun hin => containsC_ct 44 [] [pp bP 0, pp bW 0] (fun _ _ => rfl) (fun n => (BX bN [iv n] 3)) (fun n => 0 ≤ n ∧ n ≤ 400) (cnC stG (d + 1)) _ _ _ (RCs.mono (Hle.hu _ _) hcv) ((Ye (cnT stG (d + 1)) kids (n + 1)).2) (anyT_keep stG_le _ _ _ (by omega) (by omega) h4) (fun x hx s hs hf => cnC_keep stG_le x _ s hs.1 hf) (fun x hx s hs a h hh ra => greatC_ct x (d + 1) s a h bN bW bP ra hs.1 hs.2 (hh _ _ (Hle.hu _ _ _ _ hW)) (hh _ _ (Hle.hu _ _ _ _ hP)) (fun s' a' h' hh' ra' k1 k2 => ih' x hx (d + 1) s' a' h' bN bW bP ra' k1 k2 (hh' _ _ (hh _ _ (Hle.hu _ _ _ _ hW))) (hh' _ _ (hh _ _ (Hle.hu _ _ _ _ hP)))))) rfl ?_)
   rintro _ _ ⟨rfl, rfl⟩
   refine JLq (.bool ((Ye (cnC stG (d + 1)) cases ((Ye (cnT stG (d + 1)) kids (n + 1)).2)).1)) (Pu.pickF rfl rfl) <| JLA rfl <| Zb <| Zl <| ⟨.bool ((Ye (cnC stG (d + 1)) cases ((Ye (cnT stG (d + 1)) kids (n + 1)).2)).1), [(BX bN [iv ((Ye (cnC stG (d + 1)) cases ((Ye (cnT stG (d + 1)) kids (n + 1)).2)).2)] 3)], Ret.one rfl (RV.tmp rfl), (Sk Sub.nil), ?_⟩
   refine ⟨?_, ?_⟩ <;> rw [cnT, if_neg (by simp [stG]; omega), cnTs_any, if_neg (by simp [h4]), cnCs_any]
theorem great_ct (t : Tm) (cs : List Value) (H : Heap) (ht : RT H cs t) : CT Tryz.prog 11 ⟨[.agg ⟨cs⟩]⟩ [] H (fun v N => v = .bool (cnT stG 0 t 0).1 ∧ N = []) := by
 refine Zm Tryz.func11 rfl rfl <| Zc <| Za <| JLr (Zq (l := cs) rfl rfl fun b1 => JLA rfl <| Zb <| Zc <| Za <| JLr (Zk (l := [iv 0]) Tryz.zeroValue3 rfl fun b2 => JLr (Ze 0 (vs := [iv 0]) (l := [iv 0]) ty3 rfl rfl rfl rfl rfl (Zf rfl Zo) rfl <| Zb <| Zc <| Za ?_)))
 refine JLr (Zk (l := [.nilFunc]) Tryz.zeroValue78 rfl fun b3 => Zb <| Zc <| Za <| JLq (.func (.func 39) ⟨[]⟩ ⟨[pp b2 0, pp b3 0]⟩) (Pu.makeFunc rfl rfl) <| JLr (Ze 0 (vs := [.func (.func 39) ⟨[]⟩ ⟨[pp b2 0, pp b3 0]⟩]) (l := [.func (.func 39) ⟨[]⟩ ⟨[pp b2 0, pp b3 0]⟩]) ty78 rfl rfl rfl rfl rfl (Zf rfl Zo) rfl <| Zb <| Zc <| Za <| JLr (Zk (l := [.nilFunc]) Tryz.zeroValue40 rfl fun b4 => Zb <| Zc <| Za ?_)))
 refine JLq (.func (.func 41) ⟨[]⟩ ⟨[pp b2 0, pp b4 0, pp b3 0]⟩) (Pu.makeFunc rfl rfl) <| JLr (Ze 0 (vs := [.func (.func 41) ⟨[]⟩ ⟨[pp b2 0, pp b4 0, pp b3 0]⟩]) (l := [.func (.func 41) ⟨[]⟩ ⟨[pp b2 0, pp b4 0, pp b3 0]⟩]) ty40 rfl rfl rfl rfl rfl (Zf rfl Zo) rfl <| Zb <| Zc <| Za <| JLr (Zd ty40 rfl (At.bx 0 rfl) rfl <| JLr (Zh Zt rfl (At.bx 3 rfl) (Zs (Zu ht)) <| ZA 2 rfl Tryz.call41 rfl rfl (fun hin => greatT_ct _ 0 _ _ _ _ _ _ (RT.mono (Hle.hu _ _) ht) (by decide) (by decide) (hin 0 _ rfl _ _ List.mem_cons_self) (hin 1 _ rfl _ _ List.mem_cons_self)) rfl ?_)))
 rintro _ _ ⟨rfl, rfl⟩
 refine JLA rfl <| Zb <| Zl <| ⟨.bool ((cnT stG 0 t 0).1), [], Ret.one rfl (RV.tmp rfl), Sub.nil, ?_⟩
 exact ⟨rfl, rfl⟩
end Go.Proofs.YtkjafeejpmcnkaaGreat.Hs
/-! Walks, printed by a program of this session's own (gen.py). -/
namespace Go.Proofs.YtkjafeejpmcnkaaGreat.Hs
open Go Go.Proofs
set_option maxRecDepth 100000
set_option linter.unusedVariables false
set_option linter.unusedSimpArgs false
attribute [local irreducible] JL J CT wlo DT
theorem longPK_ct : ∀ (x : Pt) (d s : Int) (a : List Value) (H : Heap) (bL bA bD : Nat), RP H a x → H bA = some (.cells ⟨[pp bL 0]⟩ 124 (0, 0)) → H bD = some (.cells ⟨[iv d]⟩ 3 (0, 0)) → 0 ≤ d → d ≤ 100 → (∀ h a, Hle H h → RP h a x → CT Tryz.prog 114 ⟨[pp bL 0, .agg ⟨a⟩, iv (d + 1)]⟩ [(BX bL [iv s] 102)] h (fun v N => v = .bool (cnP stL (d + 1) x s).1 ∧ N = [(BX bL [iv ((cnP stL (d + 1) x s).2)] 102)])) → CT Tryz.prog 135 ⟨[.agg ⟨a⟩, pp bA 0, pp bD 0]⟩ [(BX bL [iv s] 102)] H (fun v N => v = .bool (cnP stL (d + 1) x s).1 ∧ N = [(BX bL [iv ((cnP stL (d + 1) x s).2)] 102)]) := by
 intro x d s a H bL bA bD ra hH1 hH5 hd0 hd1 hg
 refine Zm Tryz.func135 rfl rfl <| Zc <| Za <| JLr (Zq (l := a) rfl rfl fun b1 => JLA rfl <| Zb <| Zc <| Za <| JLr (Zd ty124 rfl (At.im hH1) rfl <| JLr (Zh Z1 rfl (At.bx 0 rfl) (Zs (ZC ra)) <| JLr (Zd ty3 rfl (At.im hH5) rfl <| JLn (Pu.add64 rfl rfl (by first | omega | (constructor <;> omega))) <| ZA 1 rfl Tryz.call114 rfl rfl (fun hin => hg _ _ (Hle.hu _ _) (RP.mono (Hle.hu _ _) ra)) rfl ?_))))
 rintro _ _ ⟨rfl, rfl⟩
 refine JLA rfl <| Zb <| Zl <| ⟨.bool ((cnP stL (d + 1) x s).1), [(BX bL [iv ((cnP stL (d + 1) x s).2)] 102)], Ret.one rfl (RV.tmp rfl), (Sk Sub.nil), ?_⟩
 exact ⟨rfl, rfl⟩
theorem longTK_ct : ∀ (x : Tm) (d s : Int) (a : List Value) (H : Heap) (bL bA bD : Nat), RT H a x → H bA = some (.cells ⟨[pp bL 0]⟩ 124 (0, 0)) → H bD = some (.cells ⟨[iv d]⟩ 3 (0, 0)) → 0 ≤ d → d ≤ 100 → (∀ h a, Hle H h → RT h a x → CT Tryz.prog 77 ⟨[pp bL 0, .agg ⟨a⟩, iv (d + 1)]⟩ [(BX bL [iv s] 102)] h (fun v N => v = .bool (cnT stL (d + 1) x s).1 ∧ N = [(BX bL [iv ((cnT stL (d + 1) x s).2)] 102)])) → CT Tryz.prog 112 ⟨[.agg ⟨a⟩, pp bA 0, pp bD 0]⟩ [(BX bL [iv s] 102)] H (fun v N => v = .bool (cnT stL (d + 1) x s).1 ∧ N = [(BX bL [iv ((cnT stL (d + 1) x s).2)] 102)]) := by
 intro x d s a H bL bA bD ra hH1 hH5 hd0 hd1 hg
 refine Zm Tryz.func112 rfl rfl <| Zc <| Za <| JLr (Zq (l := a) rfl rfl fun b1 => JLA rfl <| Zb <| Zc <| Za <| JLr (Zd ty124 rfl (At.im hH1) rfl <| JLr (Zh Zt rfl (At.bx 0 rfl) (Zs (Zu ra)) <| JLr (Zd ty3 rfl (At.im hH5) rfl <| JLn (Pu.add64 rfl rfl (by first | omega | (constructor <;> omega))) <| ZA 1 rfl Tryz.call77 rfl rfl (fun hin => hg _ _ (Hle.hu _ _) (RT.mono (Hle.hu _ _) ra)) rfl ?_))))
 rintro _ _ ⟨rfl, rfl⟩
 refine JLA rfl <| Zb <| Zl <| ⟨.bool ((cnT stL (d + 1) x s).1), [(BX bL [iv ((cnT stL (d + 1) x s).2)] 102)], Ret.one rfl (RV.tmp rfl), (Sk Sub.nil), ?_⟩
 exact ⟨rfl, rfl⟩
theorem longP_ct : ∀ (p : Pt) (d n : Int) (cs : List Value) (H : Heap) (bL : Nat), RP H cs p → 0 ≤ n → n ≤ 300 → 0 ≤ d → d ≤ 61 → CT Tryz.prog 114 ⟨[pp bL 0, .agg ⟨cs⟩, iv d]⟩ [(BX bL [iv n] 102)] H (fun v N => v = .bool (cnP stL d p n).1 ∧ N = [(BX bL [iv ((cnP stL d p n).2)] 102)]) := by
 intro p
 induction p using Pt.ind with
 | h kind num ref kids ih =>
 intro d n cs H bL hp hn0 hn1 hd0 hd1
 obtain ⟨ks, rfl, hk, hn, hks⟩ := RP_mk.1 hp
 refine Zm Tryz.func114 rfl rfl <| Zc <| Za <| JLr (Zq (l := [pp bL 0]) rfl rfl fun b1 => JLr (Zq (l := pkP kind num ref ks) rfl rfl fun b2 => JLr (Zq (l := [iv d]) rfl rfl fun b3 => JLA rfl <| Zb <| Zc <| Zc <| Za <| JLr (Zd ty124 rfl (At.bx 2 rfl) rfl <| JLq (pp bL 0) (Pu.nilCheck rfl) ?_))))
 refine JLq (pp bL 0) (fa102_0 rfl rfl) <| JLr (Zd ty3 rfl (At.bx 3 rfl) rfl <| JLn (Pu.add64 rfl rfl (by first | omega | (constructor <;> omega))) <| JLq (pp bL 0) (Pu.nilCheck rfl) <| JLq (pp bL 0) (fa102_0 rfl rfl) <| JLr (Ze 3 (vs := [iv (n + 1)]) (l := [iv (n + 1)]) ty3 rfl rfl rfl rfl rfl (Zf rfl Zo) rfl <| Zb <| Zc <| Za <| JLr (Zd ty124 rfl (At.bx 2 rfl) rfl <| JLq (pp bL 0) (Pu.nilCheck rfl) <| JLq (pp bL 0) (fa102_0 rfl rfl) <| JLr (Zd ty3 rfl (At.bx 3 rfl) rfl ?_))))
 refine JLn (Pu.gtr rfl rfl) <| JLM rfl <| Zv 2 [20, 21] [(21, cond (decide (300 < n + 1)) undef (.bool (decide (60 < d))))] ?_ fun f5 => ?_
 ·cases h4 : (decide (300 < n + 1)) with
  | false =>
   replace h4 := df h4
   refine JLr (Zd ty3 rfl (At.bx 0 rfl) rfl <| JLn (Pu.gtr rfl rfl) ?_)
   exact Zb ⟨⟨rfl, trivial⟩, rfl⟩
  | true =>
   exact Zy rfl ⟨rfl, trivial⟩
 refine JLn (Pu.pickOr rfl rfl rfl) <| Zb <| Zg rfl (fun h6 => ?_) (fun h6 => ?_)
 ·refine Zc <| Za <| JLA rfl <| Zb <| Zl <| ⟨.bool true, [(BX bL [iv (n + 1)] 102)], Ret.one rfl (RV.tmp rfl), (Sd (Sd (Sd (Sk Sub.nil)))), ?_⟩
  refine ⟨?_, ?_⟩ <;> rw [cnP, if_pos (by simpa [stL] using h6)]
 obtain ⟨h6a, h6b⟩ := orF h6
 replace h6a := df h6a
 replace h6b := df h6b
 refine Zj <| Zc <| Za <| JLq (pp b2 34) (Z5 rfl rfl) <| JLr (Zd Xa rfl (At.bx 1 rfl) (Yf ..) <| JLq (.func (.func 135) ⟨[]⟩ ⟨[pp b1 0, pp b3 0]⟩) (Pu.makeFunc rfl rfl) <| ZA 3 rfl Tryz.call40 rfl rfl (fun hin => containsP_ct 135 [] [pp b1 0, pp b3 0] (fun _ _ => rfl) (fun n => (BX bL [iv n] 102)) (fun n => 0 ≤ n ∧ n ≤ 300) (cnP stL (d + 1)) _ _ _ (RPs.mono (Hle.hu _ _) hks) (n + 1) ⟨by omega, by omega⟩ (fun x hx s hs hf => cnP_keep stL_le x _ s hs.1 hf) (fun x hx s hs a h hh ra => longPK_ct x d s a h bL b1 b3 ra (hh _ _ (hin 2 _ rfl _ _ List.mem_cons_self)) (hh _ _ (hin 0 _ rfl _ _ List.mem_cons_self)) (by omega) (by omega) (fun h' a' hh' ra' => ih x hx (d + 1) s a' h' bL ra' hs.1 hs.2 (by omega) (by omega)))) rfl ?_)
 rintro _ _ ⟨rfl, rfl⟩
 refine JLA rfl <| Zb <| Zl <| ⟨.bool ((Ye (cnP stL (d + 1)) kids (n + 1)).1), [(BX bL [iv ((Ye (cnP stL (d + 1)) kids (n + 1)).2)] 102)], Ret.one rfl (RV.tmp rfl), (Sk Sub.nil), ?_⟩
 refine ⟨?_, ?_⟩ <;> rw [cnP, if_neg (by simp [stL]; omega), cnPs_any]
theorem longC_ct : ∀ (c : Pt × Tm) (d n : Int) (a : List Value) (H : Heap) (bL bA bD bK : Nat), RC H a c → 0 ≤ n → n ≤ 300 → 0 ≤ d → d ≤ 60 → H bA = some (.cells ⟨[pp bL 0]⟩ 124 (0, 0)) → H bD = some (.cells ⟨[iv d]⟩ 3 (0, 0)) → H bK = some (.cells ⟨[.func (.func 112) ⟨[]⟩ ⟨[pp bA 0, pp bD 0]⟩]⟩ 40 (0, 0)) → (∀ s a h, Hle H h → RT h a c.2 → 0 ≤ s → s ≤ 300 → CT Tryz.prog 77 ⟨[pp bL 0, .agg ⟨a⟩, iv (d + 1)]⟩ [(BX bL [iv s] 102)] h (fun v N => v = .bool (cnT stL (d + 1) c.2 s).1 ∧ N = [(BX bL [iv ((cnT stL (d + 1) c.2 s).2)] 102)])) → CT Tryz.prog 113 ⟨[.agg ⟨a⟩, pp bA 0, pp bD 0, pp bK 0]⟩ [(BX bL [iv n] 102)] H (fun v N => v = .bool (cnC stL (d + 1) c n).1 ∧ N = [(BX bL [iv ((cnC stL (d + 1) c n).2)] 102)]) := by
 intro c d n a H bL bA bD bK ⟨ca, cb, e1, ra1, ra2⟩ hn0 hn1 hd0 hd1 hH1 hH5 hH7 hg
 subst e1
 refine Zm Tryz.func113 rfl rfl <| Zc <| Za <| JLr (Zq (l := ca ++ cb) rfl rfl fun b1 => JLA rfl <| Zb <| Zc <| Za <| JLr (Zd ty124 rfl (At.im hH1) rfl <| JLq (pp b1 0) (Xi rfl rfl) <| JLr (Zh Z1 rfl (At.bx 0 rfl) (sub_l (ZC ra1)) <| JLr (Zd ty3 rfl (At.im hH5) rfl <| JLn (Pu.add64 rfl rfl (by first | omega | (constructor <;> omega))) ?_))))
 refine ZA 1 rfl Tryz.call114 rfl rfl (fun hin => longP_ct _ _ _ _ _ _ (RP.mono (Hle.hu _ _) ra1) (by omega) (by omega) (by omega) (by omega)) rfl ?_
 rintro _ _ ⟨rfl, rfl⟩
 refine JLM rfl ?_
 cases h3 : ((cnP stL (d + 1) (c.1) n).1) with
 | true =>
  iterate 4 refine ZD rfl ?_
  refine JLq (.bool true) (Pu.pickT rfl rfl) <| JLA rfl <| Zb <| Zl <| ⟨.bool true, [(BX bL [iv ((cnP stL (d + 1) (c.1) n).2)] 102)], Ret.one rfl (RV.tmp rfl), (Sk Sub.nil), ?_⟩
  refine ⟨?_, ?_⟩ <;> rw [cnC, if_pos h3]
 | false =>
  refine JLr (Zd ty40 rfl (At.im hH7) rfl <| JLq (pp b1 35) (fa86_1 rfl rfl) <| JLr (Zh Zt rfl (At.bx 1 rfl) (sub_r (ZC ra1) (Zu ra2)) <| ZA 0 rfl Tryz.call112 rfl rfl (fun hin => longTK_ct _ d _ _ _ bL bA bD (RT.mono (Hle.hu _ _) ra2) (Hle.hu _ _ _ _ hH1) (Hle.hu _ _ _ _ hH5) (by omega) (by omega) (fun h' a' hh' ra' => hg _ _ _ (Hle.trans (Hle.hu _ _) hh') ra' (cnP_keep stL_le _ _ _ hn0 h3).1 (cnP_keep stL_le _ _ _ hn0 h3).2)) rfl ?_))
  rintro _ _ ⟨rfl, rfl⟩
  refine JLq (.bool ((cnT stL (d + 1) (c.2) ((cnP stL (d + 1) (c.1) n).2)).1)) (Pu.pickF rfl rfl) <| JLA rfl <| Zb <| Zl <| ⟨.bool ((cnT stL (d + 1) (c.2) ((cnP stL (d + 1) (c.1) n).2)).1), [(BX bL [iv ((cnT stL (d + 1) (c.2) ((cnP stL (d + 1) (c.1) n).2)).2)] 102)], Ret.one rfl (RV.tmp rfl), (Sk Sub.nil), ?_⟩
  refine ⟨?_, ?_⟩ <;> rw [cnC, if_neg (by simp [h3])]
theorem longT_ct : ∀ (t : Tm) (d n : Int) (cs : List Value) (H : Heap) (bL : Nat), RT H cs t → 0 ≤ n → n ≤ 300 → 0 ≤ d → d ≤ 61 → CT Tryz.prog 77 ⟨[pp bL 0, .agg ⟨cs⟩, iv d]⟩ [(BX bL [iv n] 102)] H (fun v N => v = .bool (cnT stL d t n).1 ∧ N = [(BX bL [iv ((cnT stL d t n).2)] 102)]) := by
 intro t
 induction t using Tm.ind with
 | h kind num ref kids cases ih ih' =>
 intro d n cs H bL ht hn0 hn1 hd0 hd1
 obtain ⟨ks, cv, rfl, hk, hn, hks, hcv⟩ := RT_mk.1 ht
 refine Zm Tryz.func77 rfl rfl <| Zc <| Za <| JLr (Zq (l := [pp bL 0]) rfl rfl fun b1 => JLr (Zq (l := pkT kind num ref ks cv) rfl rfl fun b2 => JLr (Zq (l := [iv d]) rfl rfl fun b3 => JLA rfl <| Zb <| Zc <| Zc <| Za <| JLr (Zd ty124 rfl (At.bx 2 rfl) rfl <| JLq (pp bL 0) (Pu.nilCheck rfl) ?_))))
 refine JLq (pp bL 0) (fa102_0 rfl rfl) <| JLr (Zd ty3 rfl (At.bx 3 rfl) rfl <| JLn (Pu.add64 rfl rfl (by first | omega | (constructor <;> omega))) <| JLq (pp bL 0) (Pu.nilCheck rfl) <| JLq (pp bL 0) (fa102_0 rfl rfl) <| JLr (Ze 3 (vs := [iv (n + 1)]) (l := [iv (n + 1)]) ty3 rfl rfl rfl rfl rfl (Zf rfl Zo) rfl <| Zb <| Zc <| Za <| JLr (Zd ty124 rfl (At.bx 2 rfl) rfl <| JLq (pp bL 0) (Pu.nilCheck rfl) <| JLq (pp bL 0) (fa102_0 rfl rfl) <| JLr (Zd ty3 rfl (At.bx 3 rfl) rfl ?_))))
 refine JLn (Pu.gtr rfl rfl) <| JLM rfl <| Zv 2 [21, 22] [(22, cond (decide (300 < n + 1)) undef (.bool (decide (60 < d))))] ?_ fun f5 => ?_
 ·cases h4 : (decide (300 < n + 1)) with
  | false =>
   replace h4 := df h4
   refine JLr (Zd ty3 rfl (At.bx 0 rfl) rfl <| JLn (Pu.gtr rfl rfl) ?_)
   exact Zb ⟨⟨rfl, trivial⟩, rfl⟩
  | true =>
   exact Zy rfl ⟨rfl, trivial⟩
 refine JLn (Pu.pickOr rfl rfl rfl) <| Zb <| Zg rfl (fun h6 => ?_) (fun h6 => ?_)
 ·refine Zc <| Za <| JLA rfl <| Zb <| Zl <| ⟨.bool true, [(BX bL [iv (n + 1)] 102)], Ret.one rfl (RV.tmp rfl), (Sd (Sd (Sd (Sk Sub.nil)))), ?_⟩
  refine ⟨?_, ?_⟩ <;> rw [cnT, if_pos (by simpa [stL] using h6)]
 obtain ⟨h6a, h6b⟩ := orF h6
 replace h6a := df h6a
 replace h6b := df h6b
 refine Zj <| Zc <| Za <| JLq (.func (.func 112) ⟨[]⟩ ⟨[pp b1 0, pp b3 0]⟩) (Pu.makeFunc rfl rfl) <| JLr (Zk (l := [.nilFunc]) Tryz.zeroValue40 rfl fun b7 => JLr (Ze 0 (vs := [.func (.func 112) ⟨[]⟩ ⟨[pp b1 0, pp b3 0]⟩]) (l := [.func (.func 112) ⟨[]⟩ ⟨[pp b1 0, pp b3 0]⟩]) ty40 rfl rfl rfl rfl rfl (Zf rfl Zo) rfl <| Zb <| Zc <| Za <| JLq (pp b2 34) (Z3 rfl rfl) <| JLr (Zd Y0 rfl (At.bx 2 rfl) (Z4 ..) <| JLr (Zd ty40 rfl (At.bx 0 rfl) rfl <| ZA 4 rfl Tryz.call42 rfl rfl (fun hin => containsT_ct 112 [] [pp b1 0, pp b3 0] (fun _ _ => rfl) (fun n => (BX bL [iv n] 102)) (fun n => 0 ≤ n ∧ n ≤ 300) (cnT stL (d + 1)) _ _ _ (RTs.mono (Hle.hu _ _) hks) (n + 1) ⟨by omega, by omega⟩ (fun x hx s hs hf => cnT_keep stL_le x _ s hs.1 hf) (fun x hx s hs a h hh ra => longTK_ct x d s a h bL b1 b3 ra (hh _ _ (hin 3 _ rfl _ _ List.mem_cons_self)) (hh _ _ (hin 1 _ rfl _ _ List.mem_cons_self)) (by omega) (by omega) (fun h' a' hh' ra' => ih x hx (d + 1) s a' h' bL ra' hs.1 hs.2 (by omega) (by omega)))) rfl ?_))))
 rintro _ _ ⟨rfl, rfl⟩
 refine JLM rfl ?_
 cases h9 : ((Ye (cnT stL (d + 1)) kids (n + 1)).1) with
 | true =>
  iterate 4 refine ZD rfl ?_
  refine JLq (.bool true) (Pu.pickT rfl rfl) <| JLA rfl <| Zb <| Zl <| ⟨.bool true, [(BX bL [iv ((Ye (cnT stL (d + 1)) kids (n + 1)).2)] 102)], Ret.one rfl (RV.tmp rfl), (Sk Sub.nil), ?_⟩
  refine ⟨?_, ?_⟩ <;> rw [cnT, if_neg (by simp [stL]; omega), cnTs_any, if_pos h9]
 | false =>
  refine JLq (pp b2 35) (ZR rfl rfl) <| JLr (Zd YA rfl (At.bx 3 rfl) (ZT ..) <| JLq (.func (.func 113) ⟨[]⟩ ⟨[pp b1 0, pp b3 0, pp b7 0]⟩) (Pu.makeFunc rfl rfl) <| ZA 0 rfl Tryz.call43 rfl rfl (fun hin => containsC_ct 113 [] [pp b1 0, pp b3 0, pp b7 0] (fun _ _ => rfl) (fun n => (BX bL [iv n] 102)) (fun n => 0 ≤ n ∧ n ≤ 300) (cnC stL (d + 1)) _ _ _ (RCs.mono (Hle.hu _ _) hcv) ((Ye (cnT stL (d + 1)) kids (n + 1)).2) (anyT_keep stL_le _ _ _ (by omega) (by omega) h9) (fun x hx s hs hf => cnC_keep stL_le x _ s hs.1 hf) (fun x hx s hs a h hh ra => longC_ct x d s a h bL b1 b3 b7 ra hs.1 hs.2 (by omega) (by omega) (hh _ _ (hin 3 _ rfl _ _ List.mem_cons_self)) (hh _ _ (hin 1 _ rfl _ _ List.mem_cons_self)) (hh _ _ (hin 0 _ rfl _ _ List.mem_cons_self)) (fun s' a' h' hh' ra' k1 k2 => ih' x hx (d + 1) s' a' h' bL ra' k1 k2 (by omega) (by omega)))) rfl ?_)
  rintro _ _ ⟨rfl, rfl⟩
  refine JLq (.bool ((Ye (cnC stL (d + 1)) cases ((Ye (cnT stL (d + 1)) kids (n + 1)).2)).1)) (Pu.pickF rfl rfl) <| JLA rfl <| Zb <| Zl <| ⟨.bool ((Ye (cnC stL (d + 1)) cases ((Ye (cnT stL (d + 1)) kids (n + 1)).2)).1), [(BX bL [iv ((Ye (cnC stL (d + 1)) cases ((Ye (cnT stL (d + 1)) kids (n + 1)).2)).2)] 102)], Ret.one rfl (RV.tmp rfl), (Sk Sub.nil), ?_⟩
  refine ⟨?_, ?_⟩ <;> rw [cnT, if_neg (by simp [stL]; omega), cnTs_any, if_neg (by simp [h9]), cnCs_any]
end Go.Proofs.YtkjafeejpmcnkaaGreat.Hs
/-! Walks, printed by a program of this session's own (gen.py). -/
namespace Go.Proofs.YtkjafeejpmcnkaaGreat.Hs
open Go Go.Proofs
set_option maxRecDepth 100000
set_option linter.unusedVariables false
set_option linter.unusedSimpArgs false
attribute [local irreducible] JL J CT wlo DT
theorem known_ct (n b d : Int) (H : Heap) (bD : Nat) (hD : H bD = some (.cells ⟨[iv d]⟩ 3 (0, 0))) (hb0 : 0 ≤ b) (hb1 : b ≤ 1000000) (hn1 : -9223372036854775808 ≤ n) (hn2 : n ≤ 9223372036854775807) : CT Tryz.prog 78 ⟨[iv n, iv b, pp bD 0]⟩ [] H (fun v N => v = .bool (knownB d n b) ∧ N = []) := by
 refine Zm Tryz.func78 rfl rfl <| Zc <| Za <| JLA rfl <| Zb <| Zc <| Za <| JLM rfl <| JLn (Pu.geq rfl rfl) <| JLM rfl <| Zv 10 [9, 10, 11, 12, 13, 14, 15, 16, 17, 18] [(18, cond (decide (0 ≤ n)) (.bool ((decide (n < b)) || (decide (n - b < d)))) undef)] ?_ fun f4 => ?_
 ·cases h1 : (decide (0 ≤ n)) with
  | true =>
   replace h1 := dt h1
   refine JLM rfl <| JLM rfl <| JLn (Pu.lss rfl rfl) <| JLM rfl <| Zv 5 [13, 14, 15, 16, 17] [(17, cond (decide (n < b)) undef (.bool (decide (n - b < d))))] ?_ fun f3 => ?_
   ·cases h2 : (decide (n < b)) with
    | false =>
     replace h2 := df h2
     refine JLM rfl <| JLM rfl <| JLn (Pu.sub64 rfl rfl (by first | omega | (constructor <;> omega))) <| JLr (Zd ty3 rfl (At.im hD) rfl <| JLn (Pu.lss rfl rfl) ?_)
     exact Zb ⟨⟨rfl, trivial⟩, rfl⟩
    | true =>
     exact Zy rfl ⟨rfl, trivial⟩
   refine JLn (Pu.pickOr rfl rfl rfl) ?_
   exact Zb ⟨⟨rfl, trivial⟩, rfl⟩
  | false =>
   exact Zy rfl ⟨rfl, trivial⟩
 refine JLn (Pu.pickAnd rfl rfl rfl) <| JLA rfl <| Zb <| Zl <| ⟨.bool ((decide (0 ≤ n)) && ((decide (n < b)) || (decide (n - b < d)))), [], Ret.one rfl (RV.tmp rfl), Sub.nil, ?_⟩
 exact ⟨rfl, rfl⟩
set_option maxHeartbeats 2000000 in
theorem chkTerm_ct (kind num : Int) (ref : Sm) (ks cv : Value) (kids : List Tm) (cases : List (Pt × Tm)) (d m b : Int) (H : Heap) (bD : Nat) (hks : rdS RT 36 H ks kids) (hcv : rdS RC 71 H cv cases) (hD : H bD = some (.cells ⟨[iv d]⟩ 3 (0, 0))) (hb0 : 0 ≤ b) (hb1 : b ≤ 1000000) (hn1 : -9223372036854775808 ≤ num) (hn2 : num ≤ 9223372036854775807) : CT Tryz.prog 115 ⟨[.agg ⟨[iv m, .func (.func 78) ⟨[]⟩ ⟨[pp bD 0]⟩]⟩, .agg ⟨pkT kind num ref ks cv⟩, iv b]⟩ [] H (fun v N => v = iv (YF d m b kind num ref kids.length cases.length) ∧ N = []) := by
 refine Zm Tryz.func115 rfl rfl <| Zc <| Za <| JLr (Zq (l := [iv m, .func (.func 78) ⟨[]⟩ ⟨[pp bD 0]⟩]) rfl rfl fun b1 => JLr (Zq (l := pkT kind num ref ks cv) rfl rfl fun b2 => JLA rfl <| Zb <| Zc <| Zn <| Zc <| Za <| JLq (pp b2 0) (ZI rfl rfl) <| JLr (Zd ty3 rfl (At.bx 0 rfl) (ZZ ..) ?_)))
 refine Jc Tryz.call65 rfl (fun hin => YO _ _ _ _) rfl ?_
 rintro _ _ ⟨rfl, rfl⟩
 refine JLA rfl <| Zb <| Zg rfl (fun h3 => ?_) (fun h3 => ?_)
 ·replace h3 := dt h3
  refine Zc <| Za <| JLA rfl <| Zb <| Zl <| ⟨iv 3, [], Ret.one rfl (RV.tmp rfl), Sub.nil, ?_⟩
  exact ⟨by refine congrArg (Value.int .i64) ?_; simp only [YF]; (repeat' split) <;> first | rfl | omega | (exfalso; simp_all; done) | (exfalso; simp_all; omega) | grind, rfl⟩
 replace h3 := df h3
 refine Zc <| ZJ mixed #[0, 1, 3, 0, 8, 0, 32, 0, 128, 384, 1023, 2047] 10 [some 13, some 14, some 15, some 16, some 17, some 18, some 19, some 20, some 21, some 22] [] [(2, fun _ _ vw qw => vw = .agg ⟨[.bool (fN kind), .bool (fR kind), .bool (fC kind)]⟩ ∧ qw = [])] rfl (by kernel_rfl) rfl (by kernel_rfl) <| Dq (pp b2 0) (fun _ => ZI rfl rfl) <| Dl1 ty3 (At.bx 0 rfl) (ZZ ..) <| Dc rfl Tryz.call93 (fun _ => rfl) (fun hin => fields_ct _ _) ?_
 rintro _ _ ⟨rfl, rfl⟩
 refine Dq (pp b2 1) (fun _ => Z9 rfl rfl) <| Dl1 ty3 (At.bx 0 rfl) (Yt ..) <| Dq (pp b2 2) (fun _ => fa30_2 rfl rfl) <| Dl YM (At.bx 0 rfl) (pkT_2 ..) <| Dq (pp b2 35) (fun _ => ZR rfl rfl) <| Dl1 YA (At.bx 0 rfl) (ZT ..) ?_
 obtain ⟨a5, cap5, hv5⟩ := hcv.sl
 have hle5 := hcv.le
 refine Dn (fun _ => Pu.lenSl Tryz.runUnderlying28 hv5) <| ZV (M' := [(BX b2 (pkT kind num ref ks cv) 30), (BX b1 [iv m, .func (.func 78) ⟨[]⟩ ⟨[pp bD 0]⟩] 128)]) rfl ?_
 show JL _ _ _ [_, _] _ _ _
 refine Jc Tryz.call136 rfl (fun hin => clash_ct _ _ _ _ _ _ _) rfl ?_
 rintro _ _ ⟨rfl, rfl⟩
 refine JLA rfl <| Zb <| Zg rfl (fun h6 => ?_) (fun h6 => ?_)
 ·refine Zc <| Za <| JLA rfl <| Zb <| Zl <| ⟨iv 7, [], Ret.one rfl (RV.tmp rfl), Sub.nil, ?_⟩
  exact ⟨by refine congrArg (Value.int .i64) ?_; simp only [YF]; (repeat' split) <;> first | rfl | omega | (exfalso; simp_all; done) | (exfalso; simp_all; omega) | grind, rfl⟩
 refine Zc <| Za <| JLq (pp b2 0) (ZI rfl rfl) <| JLr (Zd ty3 rfl (At.bx 0 rfl) (ZZ ..) <| JLq (pp b2 34) (Z3 rfl rfl) <| JLr (Zd Y0 rfl (At.bx 0 rfl) (Z4 ..) ?_))
 obtain ⟨a7, cap7, hv7⟩ := hks.sl
 have hle7 := hks.le
 refine JLn (Pu.lenSl Tryz.runUnderlying27 hv7) <| Jc Tryz.call137 rfl (fun hin => kidsT_ct _ _ _) rfl ?_
 rintro _ _ ⟨rfl, rfl⟩
 refine JLn (Pu.not rfl) <| JLM rfl <| Zv 4 [33, 34, 35, 36] [(36, cond (!(kidsB kind ((kids.length : Int)))) undef (.bool (decide (8 < (cases.length : Int)))))] ?_ fun f10 => ?_
 ·cases h8 : (!(kidsB kind ((kids.length : Int)))) with
  | false =>
   replace h8 := nf h8
   refine JLq (pp b2 35) (ZR rfl rfl) <| JLr (Zd YA rfl (At.bx 0 rfl) (ZT ..) ?_)
   obtain ⟨a9, cap9, hv9⟩ := hcv.sl
   have hle9 := hcv.le
   refine JLn (Pu.lenSl Tryz.runUnderlying28 hv9) <| JLn (Pu.gtr rfl rfl) ?_
   exact Zb ⟨⟨rfl, trivial⟩, rfl⟩
  | true =>
   exact Zy rfl ⟨rfl, trivial⟩
 refine JLn (Pu.pickOr rfl rfl rfl) <| JLA rfl <| Zb <| Zg rfl (fun h11 => ?_) (fun h11 => ?_)
 ·refine Zc <| Za <| JLA rfl <| Zb <| Zl <| ⟨iv 2, [], Ret.one rfl (RV.tmp rfl), Sub.nil, ?_⟩
  exact ⟨by refine congrArg (Value.int .i64) ?_; simp only [YF]; (repeat' split) <;> first | rfl | omega | (exfalso; simp_all; done) | (exfalso; simp_all; omega) | grind, rfl⟩
 obtain ⟨h11a, h11b⟩ := orF h11
 replace h11a := nf h11a
 replace h11b := df h11b
 refine Zj <| Zc <| Za <| JLA rfl <| Zb <| Zc <| Zc <| Za <| JLq (pp b2 0) (ZI rfl rfl) <| JLr (Zd ty3 rfl (At.bx 0 rfl) (ZZ ..) <| Zb <| Zn <| Zc ?_)
 refine Za <| JLn (Pu.eql rfl rfl) <| JLA rfl <| Zb <| Zg rfl (fun h12 => ?_) (fun h12 => ?_)
 ·replace h12 := dt h12
  refine Zc <| Za <| JLq (pp b2 1) (Z9 rfl rfl) <| JLr (Zd ty3 rfl (At.bx 0 rfl) (Yt ..) <| Jc Tryz.call65 rfl (fun hin => YO _ _ _ _) rfl ?_)
  rintro _ _ ⟨rfl, rfl⟩
  refine Zb <| Zg rfl (fun h13 => ?_) (fun h13 => ?_)
  ·replace h13 := dt h13
   refine Zc <| Za <| JLA rfl <| Zb <| Zl <| ⟨iv 3, [], Ret.one rfl (RV.tmp rfl), Sub.nil, ?_⟩
   exact ⟨by refine congrArg (Value.int .i64) ?_; simp only [YF]; (repeat' split) <;> first | rfl | omega | (exfalso; simp_all; done) | (exfalso; simp_all; omega) | grind, rfl⟩
  replace h13 := df h13
  refine Zj <| Zc <| Zc <| Za <| JLq (pp b2 0) (ZI rfl rfl) <| JLr (Zd ty3 rfl (At.bx 0 rfl) (ZZ ..) <| JLn (Pu.eql rfl rfl) <| JLM rfl <| Zv 3 [73, 74, 75] [(75, cond (decide (kind = 2)) undef (.bool (decide (kind = 8))))] ?_ fun f15 => ?_)
  ·cases h14 : (decide (kind = 2)) with
   | false =>
    replace h14 := df h14
    refine JLq (pp b2 0) (ZI rfl rfl) <| JLr (Zd ty3 rfl (At.bx 0 rfl) (ZZ ..) <| JLn (Pu.eql rfl rfl) ?_)
    exact Zb ⟨⟨rfl, trivial⟩, rfl⟩
   | true =>
    exact Zy rfl ⟨rfl, trivial⟩
  refine JLn (Pu.pickOr rfl rfl rfl) <| JLM rfl <| Zv 3 [78, 79, 80] [(80, cond ((decide (kind = 2)) || (decide (kind = 8))) undef (.bool (decide (kind = 11))))] ?_ fun f17 => ?_
  ·cases h16 : ((decide (kind = 2)) || (decide (kind = 8))) with
   | false =>
    obtain ⟨h16a, h16b⟩ := orF h16
    replace h16a := df h16a
    replace h16b := df h16b
    refine JLq (pp b2 0) (ZI rfl rfl) <| JLr (Zd ty3 rfl (At.bx 0 rfl) (ZZ ..) <| JLn (Pu.eql rfl rfl) ?_)
    exact Zb ⟨⟨rfl, trivial⟩, rfl⟩
   | true =>
    exact Zy rfl ⟨rfl, trivial⟩
  refine JLn (Pu.pickOr rfl rfl rfl) <| JLM rfl <| Zv 4 [83, 84, 85, 86] [(86, cond (((decide (kind = 2)) || (decide (kind = 8))) || (decide (kind = 11))) (.bool (decide (num < 0 ∨ 1073741824 < num))) undef)] ?_ fun f19 => ?_
  ·cases h18 : (((decide (kind = 2)) || (decide (kind = 8))) || (decide (kind = 11))) with
   | true =>
    refine JLq (pp b2 1) (Z9 rfl rfl) <| JLr (Zd ty3 rfl (At.bx 0 rfl) (Yt ..) <| JLM rfl <| Jc Tryz.call65 rfl (fun hin => YO _ _ _ _) rfl ?_)
    rintro _ _ ⟨rfl, rfl⟩
    exact Zb ⟨⟨rfl, trivial⟩, rfl⟩
   | false =>
    exact Zy rfl ⟨rfl, trivial⟩
  refine JLn (Pu.pickAnd rfl rfl rfl) <| Zb <| Zg rfl (fun h20 => ?_) (fun h20 => ?_)
  ·obtain ⟨h20a, h20b⟩ := YC h20
   replace h20b := dt h20b
   refine Zc <| Za <| JLA rfl <| Zb <| Zl <| ⟨iv 3, [], Ret.one rfl (RV.tmp rfl), Sub.nil, ?_⟩
   exact ⟨by refine congrArg (Value.int .i64) ?_; simp only [YF]; (repeat' split) <;> first | rfl | omega | (exfalso; simp_all; done) | (exfalso; simp_all; omega) | grind, rfl⟩
  refine Zj <| Zc <| Za <| JLA rfl <| Zb <| Zl <| ⟨iv 0, [], Ret.one rfl (RV.tmp rfl), Sub.nil, ?_⟩
  exact ⟨by refine congrArg (Value.int .i64) ?_; simp only [YF]; (repeat' split) <;> first | rfl | omega | (exfalso; simp_all; done) | (exfalso; simp_all; omega) | grind, rfl⟩
 replace h12 := df h12
 refine Zc <| Zc <| Za <| JLn (Pu.eql rfl rfl) <| JLA rfl <| Zb <| Zg rfl (fun h21 => ?_) (fun h21 => ?_)
 ·replace h21 := dt h21
  refine Zj <| Zg rfl (fun _ => ?_) (fun h22 => absurd h21 (df h22))
  refine Za <| JLA rfl <| Zb <| Zc <| Zc <| Za <| JLq (pp b2 0) (ZI rfl rfl) <| JLr (Zd ty3 rfl (At.bx 0 rfl) (ZZ ..) <| JLn (Pu.eql rfl rfl) <| JLM rfl <| Zv 3 [73, 74, 75] [(75, cond (decide (kind = 2)) undef (.bool (decide (kind = 8))))] ?_ fun f24 => ?_)
  ·cases h23 : (decide (kind = 2)) with
   | false =>
    replace h23 := df h23
    refine JLq (pp b2 0) (ZI rfl rfl) <| JLr (Zd ty3 rfl (At.bx 0 rfl) (ZZ ..) <| JLn (Pu.eql rfl rfl) ?_)
    exact Zb ⟨⟨rfl, trivial⟩, rfl⟩
   | true =>
    exact Zy rfl ⟨rfl, trivial⟩
  refine JLn (Pu.pickOr rfl rfl rfl) <| JLM rfl <| Zv 3 [78, 79, 80] [(80, cond ((decide (kind = 2)) || (decide (kind = 8))) undef (.bool (decide (kind = 11))))] ?_ fun f26 => ?_
  ·cases h25 : ((decide (kind = 2)) || (decide (kind = 8))) with
   | false =>
    obtain ⟨h25a, h25b⟩ := orF h25
    replace h25a := df h25a
    replace h25b := df h25b
    refine JLq (pp b2 0) (ZI rfl rfl) <| JLr (Zd ty3 rfl (At.bx 0 rfl) (ZZ ..) <| JLn (Pu.eql rfl rfl) ?_)
    exact Zb ⟨⟨rfl, trivial⟩, rfl⟩
   | true =>
    exact Zy rfl ⟨rfl, trivial⟩
  refine JLn (Pu.pickOr rfl rfl rfl) <| JLM rfl <| Zv 4 [83, 84, 85, 86] [(86, cond (((decide (kind = 2)) || (decide (kind = 8))) || (decide (kind = 11))) (.bool (decide (num < 0 ∨ 7 < num))) undef)] ?_ fun f28 => ?_
  ·cases h27 : (((decide (kind = 2)) || (decide (kind = 8))) || (decide (kind = 11))) with
   | true =>
    refine JLq (pp b2 1) (Z9 rfl rfl) <| JLr (Zd ty3 rfl (At.bx 0 rfl) (Yt ..) <| JLM rfl <| Jc Tryz.call65 rfl (fun hin => YO _ _ _ _) rfl ?_)
    rintro _ _ ⟨rfl, rfl⟩
    exact Zb ⟨⟨rfl, trivial⟩, rfl⟩
   | false =>
    exact Zy rfl ⟨rfl, trivial⟩
  refine JLn (Pu.pickAnd rfl rfl rfl) <| Zb <| Zg rfl (fun h29 => ?_) (fun h29 => ?_)
  ·obtain ⟨h29a, h29b⟩ := YC h29
   replace h29b := dt h29b
   refine Zc <| Za <| JLA rfl <| Zb <| Zl <| ⟨iv 3, [], Ret.one rfl (RV.tmp rfl), Sub.nil, ?_⟩
   exact ⟨by refine congrArg (Value.int .i64) ?_; simp only [YF]; (repeat' split) <;> first | rfl | omega | (exfalso; simp_all; done) | (exfalso; simp_all; omega) | grind, rfl⟩
  refine Zj <| Zc <| Za <| JLA rfl <| Zb <| Zl <| ⟨iv 0, [], Ret.one rfl (RV.tmp rfl), Sub.nil, ?_⟩
  exact ⟨by refine congrArg (Value.int .i64) ?_; simp only [YF]; (repeat' split) <;> first | rfl | omega | (exfalso; simp_all; done) | (exfalso; simp_all; omega) | grind, rfl⟩
 replace h21 := df h21
 refine Za <| JLn (Pu.eql rfl rfl) <| JLA rfl <| Zb <| Zg rfl (fun h30 => ?_) (fun h30 => ?_)
 ·replace h30 := dt h30
  refine Za <| JLA rfl <| Zb <| Zc <| Zc <| Za <| JLq (pp b2 0) (ZI rfl rfl) <| JLr (Zd ty3 rfl (At.bx 0 rfl) (ZZ ..) <| JLn (Pu.eql rfl rfl) <| JLM rfl <| Zv 3 [73, 74, 75] [(75, cond (decide (kind = 2)) undef (.bool (decide (kind = 8))))] ?_ fun f32 => ?_)
  ·cases h31 : (decide (kind = 2)) with
   | false =>
    replace h31 := df h31
    refine JLq (pp b2 0) (ZI rfl rfl) <| JLr (Zd ty3 rfl (At.bx 0 rfl) (ZZ ..) <| JLn (Pu.eql rfl rfl) ?_)
    exact Zb ⟨⟨rfl, trivial⟩, rfl⟩
   | true =>
    exact Zy rfl ⟨rfl, trivial⟩
  refine JLn (Pu.pickOr rfl rfl rfl) <| JLM rfl <| Zv 3 [78, 79, 80] [(80, cond ((decide (kind = 2)) || (decide (kind = 8))) undef (.bool (decide (kind = 11))))] ?_ fun f34 => ?_
  ·cases h33 : ((decide (kind = 2)) || (decide (kind = 8))) with
   | false =>
    obtain ⟨h33a, h33b⟩ := orF h33
    replace h33a := df h33a
    replace h33b := df h33b
    refine JLq (pp b2 0) (ZI rfl rfl) <| JLr (Zd ty3 rfl (At.bx 0 rfl) (ZZ ..) <| JLn (Pu.eql rfl rfl) ?_)
    exact Zb ⟨⟨rfl, trivial⟩, rfl⟩
   | true =>
    exact Zy rfl ⟨rfl, trivial⟩
  refine JLn (Pu.pickOr rfl rfl rfl) <| JLM rfl <| Zv 4 [83, 84, 85, 86] [(86, cond (((decide (kind = 2)) || (decide (kind = 8))) || (decide (kind = 11))) (.bool (decide (num < 0 ∨ 7 < num))) undef)] ?_ fun f36 => ?_
  ·cases h35 : (((decide (kind = 2)) || (decide (kind = 8))) || (decide (kind = 11))) with
   | true =>
    refine JLq (pp b2 1) (Z9 rfl rfl) <| JLr (Zd ty3 rfl (At.bx 0 rfl) (Yt ..) <| JLM rfl <| Jc Tryz.call65 rfl (fun hin => YO _ _ _ _) rfl ?_)
    rintro _ _ ⟨rfl, rfl⟩
    exact Zb ⟨⟨rfl, trivial⟩, rfl⟩
   | false =>
    exact Zy rfl ⟨rfl, trivial⟩
  refine JLn (Pu.pickAnd rfl rfl rfl) <| Zb <| Zg rfl (fun h37 => ?_) (fun h37 => ?_)
  ·obtain ⟨h37a, h37b⟩ := YC h37
   replace h37b := dt h37b
   refine Zc <| Za <| JLA rfl <| Zb <| Zl <| ⟨iv 3, [], Ret.one rfl (RV.tmp rfl), Sub.nil, ?_⟩
   exact ⟨by refine congrArg (Value.int .i64) ?_; simp only [YF]; (repeat' split) <;> first | rfl | omega | (exfalso; simp_all; done) | (exfalso; simp_all; omega) | grind, rfl⟩
  refine Zj <| Zc <| Za <| JLA rfl <| Zb <| Zl <| ⟨iv 0, [], Ret.one rfl (RV.tmp rfl), Sub.nil, ?_⟩
  exact ⟨by refine congrArg (Value.int .i64) ?_; simp only [YF]; (repeat' split) <;> first | rfl | omega | (exfalso; simp_all; done) | (exfalso; simp_all; omega) | grind, rfl⟩
 replace h30 := df h30
 refine Zc <| Za <| JLn (Pu.eql rfl rfl) <| JLA rfl <| Zb <| Zg rfl (fun h38 => ?_) (fun h38 => ?_)
 ·replace h38 := dt h38
  refine Zc <| Za <| JLq (pp b1 1) (fa128_1 rfl rfl) <| JLr (Zd ty126 rfl (At.bx 1 rfl) rfl <| JLq (pp b2 1) (Z9 rfl rfl) <| JLr (Zd ty3 rfl (At.bx 0 rfl) (Yt ..) <| JLM rfl <| Jc Tryz.call78 rfl (fun hin => known_ct _ _ _ _ bD (Hle.hu _ _ _ _ hD) hb0 hb1 hn1 hn2) rfl ?_))
  rintro _ _ ⟨rfl, rfl⟩
  refine JLn (Pu.not rfl) <| Zb <| Zg rfl (fun h39 => ?_) (fun h39 => ?_)
  ·replace h39 := nt h39
   refine Zc <| Za <| JLA rfl <| Zb <| Zl <| ⟨iv 1, [], Ret.one rfl (RV.tmp rfl), Sub.nil, ?_⟩
   exact ⟨by refine congrArg (Value.int .i64) ?_; simp only [YF]; (repeat' split) <;> first | rfl | omega | (exfalso; simp_all; done) | (exfalso; simp_all; omega) | grind, rfl⟩
  replace h39 := nf h39
  refine Zj <| Zc <| Zc <| Za <| JLq (pp b2 0) (ZI rfl rfl) <| JLr (Zd ty3 rfl (At.bx 0 rfl) (ZZ ..) <| JLn (Pu.eql rfl rfl) <| JLM rfl <| Zv 3 [73, 74, 75] [(75, cond (decide (kind = 2)) undef (.bool (decide (kind = 8))))] ?_ fun f41 => ?_)
  ·cases h40 : (decide (kind = 2)) with
   | false =>
    replace h40 := df h40
    refine JLq (pp b2 0) (ZI rfl rfl) <| JLr (Zd ty3 rfl (At.bx 0 rfl) (ZZ ..) <| JLn (Pu.eql rfl rfl) ?_)
    exact Zb ⟨⟨rfl, trivial⟩, rfl⟩
   | true =>
    exact Zy rfl ⟨rfl, trivial⟩
  refine JLn (Pu.pickOr rfl rfl rfl) <| JLM rfl <| Zv 3 [78, 79, 80] [(80, cond ((decide (kind = 2)) || (decide (kind = 8))) undef (.bool (decide (kind = 11))))] ?_ fun f43 => ?_
  ·cases h42 : ((decide (kind = 2)) || (decide (kind = 8))) with
   | false =>
    obtain ⟨h42a, h42b⟩ := orF h42
    replace h42a := df h42a
    replace h42b := df h42b
    refine JLq (pp b2 0) (ZI rfl rfl) <| JLr (Zd ty3 rfl (At.bx 0 rfl) (ZZ ..) <| JLn (Pu.eql rfl rfl) ?_)
    exact Zb ⟨⟨rfl, trivial⟩, rfl⟩
   | true =>
    exact Zy rfl ⟨rfl, trivial⟩
  refine JLn (Pu.pickOr rfl rfl rfl) <| JLM rfl <| Zv 4 [83, 84, 85, 86] [(86, cond (((decide (kind = 2)) || (decide (kind = 8))) || (decide (kind = 11))) (.bool (decide (num < 0 ∨ 1073741824 < num))) undef)] ?_ fun f45 => ?_
  ·cases h44 : (((decide (kind = 2)) || (decide (kind = 8))) || (decide (kind = 11))) with
   | true =>
    refine JLq (pp b2 1) (Z9 rfl rfl) <| JLr (Zd ty3 rfl (At.bx 0 rfl) (Yt ..) <| JLM rfl <| Jc Tryz.call65 rfl (fun hin => YO _ _ _ _) rfl ?_)
    rintro _ _ ⟨rfl, rfl⟩
    exact Zb ⟨⟨rfl, trivial⟩, rfl⟩
   | false =>
    exact Zy rfl ⟨rfl, trivial⟩
  refine JLn (Pu.pickAnd rfl rfl rfl) <| Zb <| Zg rfl (fun h46 => ?_) (fun h46 => ?_)
  ·obtain ⟨h46a, h46b⟩ := YC h46
   replace h46b := dt h46b
   refine Zc <| Za <| JLA rfl <| Zb <| Zl <| ⟨iv 3, [], Ret.one rfl (RV.tmp rfl), Sub.nil, ?_⟩
   exact ⟨by refine congrArg (Value.int .i64) ?_; simp only [YF]; (repeat' split) <;> first | rfl | omega | (exfalso; simp_all; done) | (exfalso; simp_all; omega) | grind, rfl⟩
  refine Zj <| Zc <| Za <| JLA rfl <| Zb <| Zl <| ⟨iv 0, [], Ret.one rfl (RV.tmp rfl), Sub.nil, ?_⟩
  exact ⟨by refine congrArg (Value.int .i64) ?_; simp only [YF]; (repeat' split) <;> first | rfl | omega | (exfalso; simp_all; done) | (exfalso; simp_all; omega) | grind, rfl⟩
 replace h38 := df h38
 refine Zc <| Za <| JLn (Pu.eql rfl rfl) <| JLA rfl <| Zb <| Zg rfl (fun h47 => ?_) (fun h47 => ?_)
 ·replace h47 := dt h47
  refine Zc <| Za <| JLq (pp b2 1) (Z9 rfl rfl) <| JLr (Zd ty3 rfl (At.bx 0 rfl) (Yt ..) <| JLn (Pu.lss rfl rfl) <| JLM rfl <| Zv 5 [63, 64, 65, 66, 67] [(67, cond (decide (num < 0)) undef (.bool (decide (m ≤ num))))] ?_ fun f49 => ?_)
  ·cases h48 : (decide (num < 0)) with
   | false =>
    replace h48 := df h48
    refine JLq (pp b2 1) (Z9 rfl rfl) <| JLr (Zd ty3 rfl (At.bx 0 rfl) (Yt ..) <| JLq (pp b1 0) (fa128_0 rfl rfl) <| JLr (Zd ty3 rfl (At.bx 1 rfl) rfl <| JLn (Pu.geq rfl rfl) ?_))
    exact Zb ⟨⟨rfl, trivial⟩, rfl⟩
   | true =>
    exact Zy rfl ⟨rfl, trivial⟩
  refine JLn (Pu.pickOr rfl rfl rfl) <| Zb <| Zg rfl (fun h50 => ?_) (fun h50 => ?_)
  ·refine Zc <| Za <| JLA rfl <| Zb <| Zl <| ⟨iv 1, [], Ret.one rfl (RV.tmp rfl), Sub.nil, ?_⟩
   exact ⟨by refine congrArg (Value.int .i64) ?_; simp only [YF]; (repeat' split) <;> first | rfl | omega | (exfalso; simp_all; done) | (exfalso; simp_all; omega) | grind, rfl⟩
  obtain ⟨h50a, h50b⟩ := orF h50
  replace h50a := df h50a
  replace h50b := df h50b
  refine Zj <| Zc <| Zc <| Za <| JLq (pp b2 0) (ZI rfl rfl) <| JLr (Zd ty3 rfl (At.bx 0 rfl) (ZZ ..) <| JLn (Pu.eql rfl rfl) <| JLM rfl <| Zv 3 [73, 74, 75] [(75, cond (decide (kind = 2)) undef (.bool (decide (kind = 8))))] ?_ fun f52 => ?_)
  ·cases h51 : (decide (kind = 2)) with
   | false =>
    replace h51 := df h51
    refine JLq (pp b2 0) (ZI rfl rfl) <| JLr (Zd ty3 rfl (At.bx 0 rfl) (ZZ ..) <| JLn (Pu.eql rfl rfl) ?_)
    exact Zb ⟨⟨rfl, trivial⟩, rfl⟩
   | true =>
    exact Zy rfl ⟨rfl, trivial⟩
  refine JLn (Pu.pickOr rfl rfl rfl) <| JLM rfl <| Zv 3 [78, 79, 80] [(80, cond ((decide (kind = 2)) || (decide (kind = 8))) undef (.bool (decide (kind = 11))))] ?_ fun f54 => ?_
  ·cases h53 : ((decide (kind = 2)) || (decide (kind = 8))) with
   | false =>
    obtain ⟨h53a, h53b⟩ := orF h53
    replace h53a := df h53a
    replace h53b := df h53b
    refine JLq (pp b2 0) (ZI rfl rfl) <| JLr (Zd ty3 rfl (At.bx 0 rfl) (ZZ ..) <| JLn (Pu.eql rfl rfl) ?_)
    exact Zb ⟨⟨rfl, trivial⟩, rfl⟩
   | true =>
    exact Zy rfl ⟨rfl, trivial⟩
  refine JLn (Pu.pickOr rfl rfl rfl) <| JLM rfl <| Zv 4 [83, 84, 85, 86] [(86, cond (((decide (kind = 2)) || (decide (kind = 8))) || (decide (kind = 11))) (.bool (decide (num < 0 ∨ 1073741824 < num))) undef)] ?_ fun f56 => ?_
  ·cases h55 : (((decide (kind = 2)) || (decide (kind = 8))) || (decide (kind = 11))) with
   | true =>
    refine JLq (pp b2 1) (Z9 rfl rfl) <| JLr (Zd ty3 rfl (At.bx 0 rfl) (Yt ..) <| JLM rfl <| Jc Tryz.call65 rfl (fun hin => YO _ _ _ _) rfl ?_)
    rintro _ _ ⟨rfl, rfl⟩
    exact Zb ⟨⟨rfl, trivial⟩, rfl⟩
   | false =>
    exact Zy rfl ⟨rfl, trivial⟩
  refine JLn (Pu.pickAnd rfl rfl rfl) <| Zb <| Zg rfl (fun h57 => ?_) (fun h57 => ?_)
  ·obtain ⟨h57a, h57b⟩ := YC h57
   replace h57b := dt h57b
   refine Zc <| Za <| JLA rfl <| Zb <| Zl <| ⟨iv 3, [], Ret.one rfl (RV.tmp rfl), Sub.nil, ?_⟩
   exact ⟨by refine congrArg (Value.int .i64) ?_; simp only [YF]; (repeat' split) <;> first | rfl | omega | (exfalso; simp_all; done) | (exfalso; simp_all; omega) | grind, rfl⟩
  refine Zj <| Zc <| Za <| JLA rfl <| Zb <| Zl <| ⟨iv 0, [], Ret.one rfl (RV.tmp rfl), Sub.nil, ?_⟩
  exact ⟨by refine congrArg (Value.int .i64) ?_; simp only [YF]; (repeat' split) <;> first | rfl | omega | (exfalso; simp_all; done) | (exfalso; simp_all; omega) | grind, rfl⟩
 replace h47 := df h47
 refine Zj <| Zc <| Zc <| Za <| JLq (pp b2 0) (ZI rfl rfl) <| JLr (Zd ty3 rfl (At.bx 0 rfl) (ZZ ..) <| JLn (Pu.eql rfl rfl) <| JLM rfl <| Zv 3 [73, 74, 75] [(75, cond (decide (kind = 2)) undef (.bool (decide (kind = 8))))] ?_ fun f59 => ?_)
 ·cases h58 : (decide (kind = 2)) with
  | false =>
   replace h58 := df h58
   refine JLq (pp b2 0) (ZI rfl rfl) <| JLr (Zd ty3 rfl (At.bx 0 rfl) (ZZ ..) <| JLn (Pu.eql rfl rfl) ?_)
   exact Zb ⟨⟨rfl, trivial⟩, rfl⟩
  | true =>
   exact Zy rfl ⟨rfl, trivial⟩
 refine JLn (Pu.pickOr rfl rfl rfl) <| JLM rfl <| Zv 3 [78, 79, 80] [(80, cond ((decide (kind = 2)) || (decide (kind = 8))) undef (.bool (decide (kind = 11))))] ?_ fun f61 => ?_
 ·cases h60 : ((decide (kind = 2)) || (decide (kind = 8))) with
  | false =>
   obtain ⟨h60a, h60b⟩ := orF h60
   replace h60a := df h60a
   replace h60b := df h60b
   refine JLq (pp b2 0) (ZI rfl rfl) <| JLr (Zd ty3 rfl (At.bx 0 rfl) (ZZ ..) <| JLn (Pu.eql rfl rfl) ?_)
   exact Zb ⟨⟨rfl, trivial⟩, rfl⟩
  | true =>
   exact Zy rfl ⟨rfl, trivial⟩
 refine JLn (Pu.pickOr rfl rfl rfl) <| JLM rfl <| Zv 4 [83, 84, 85, 86] [(86, cond (((decide (kind = 2)) || (decide (kind = 8))) || (decide (kind = 11))) (.bool (decide (num < 0 ∨ 1073741824 < num))) undef)] ?_ fun f63 => ?_
 ·cases h62 : (((decide (kind = 2)) || (decide (kind = 8))) || (decide (kind = 11))) with
  | true =>
   refine JLq (pp b2 1) (Z9 rfl rfl) <| JLr (Zd ty3 rfl (At.bx 0 rfl) (Yt ..) <| JLM rfl <| Jc Tryz.call65 rfl (fun hin => YO _ _ _ _) rfl ?_)
   rintro _ _ ⟨rfl, rfl⟩
   exact Zb ⟨⟨rfl, trivial⟩, rfl⟩
  | false =>
   exact Zy rfl ⟨rfl, trivial⟩
 refine JLn (Pu.pickAnd rfl rfl rfl) <| Zb <| Zg rfl (fun h64 => ?_) (fun h64 => ?_)
 ·obtain ⟨h64a, h64b⟩ := YC h64
  replace h64b := dt h64b
  refine Zc <| Za <| JLA rfl <| Zb <| Zl <| ⟨iv 3, [], Ret.one rfl (RV.tmp rfl), Sub.nil, ?_⟩
  exact ⟨by refine congrArg (Value.int .i64) ?_; simp only [YF]; (repeat' split) <;> first | rfl | omega | (exfalso; simp_all; done) | (exfalso; simp_all; omega) | grind, rfl⟩
 refine Zj <| Zc <| Za <| JLA rfl <| Zb <| Zl <| ⟨iv 0, [], Ret.one rfl (RV.tmp rfl), Sub.nil, ?_⟩
 exact ⟨by refine congrArg (Value.int .i64) ?_; simp only [YF]; (repeat' split) <;> first | rfl | omega | (exfalso; simp_all; done) | (exfalso; simp_all; omega) | grind, rfl⟩
end Go.Proofs.YtkjafeejpmcnkaaGreat.Hs
/-! Walks, printed by a program of this session's own (gen.py). -/
namespace Go.Proofs.YtkjafeejpmcnkaaGreat.Hs
open Go Go.Proofs
set_option maxRecDepth 100000
set_option linter.unusedVariables false
set_option linter.unusedSimpArgs false
attribute [local irreducible] JL J CT wlo DT
theorem parts_ct (cs : List Value) (H : Heap) (hl : cs.length = 36) : CT Tryz.prog 117 ⟨[.agg ⟨cs⟩]⟩ [] H (fun v N => ∃ b, v = .func (.func 139) ⟨[]⟩ ⟨[pp b 0]⟩ ∧ N = [(BX b cs 30)]) := by
 refine Zm Tryz.func117 rfl rfl <| Zc <| Za <| JLr (Zq (l := cs) rfl rfl fun b1 => JLa .nilFunc <| Zb <| Zc <| Za <| JLq (.func (.func 139) ⟨[]⟩ ⟨[pp b1 0]⟩) (Pu.makeFunc rfl rfl) <| JLA rfl <| Zb <| Zl <| ⟨.func (.func 139) ⟨[]⟩ ⟨[pp b1 0]⟩, [(BX b1 cs 30)], Ret.one rfl (RV.tmp rfl), (Sk Sub.nil), ?_⟩)
 exact ⟨_, rfl, rfl⟩
theorem parts1_ct (kind num : Int) (ref : Sm) (ks cv : Value) (kids : List Tm) (cases : List (Pt × Tm)) (H : Heap) (bT : Nat) (hks : rdS RT 36 H ks kids) (hcv : rdS RC 71 H cv cases) (hT : H bT = some (.cells ⟨pkT kind num ref ks cv⟩ 30 (0, 0))) (hsz : ∀ c ∈ cases, binds c.1 ≤ 1000000) (hkl : kids.length ≤ 1000000) (hcl : cases.length ≤ 1000000) (l : Nat) {σ : Type} (yc : σ → Zi) (Inv : σ → Prop) (step : Tm → Int → σ → Bool × σ) (s0 : σ) (h0 : Inv s0) (It : Tm → Int → Prop) (hIK : ∀ (j : Nat) (hj : j < kids.length), It kids[j] (Z8 kind j)) (hIC : ∀ (j : Nat) (hj : j < cases.length), It cases[j].2 (binds cases[j].1 : Int)) (hI : ∀ x mo s, Inv s → (step x mo s).1 = true → Inv (step x mo s).2) (hy : ∀ x mo, It x mo → ∀ s (i : Int) a h, Inv s → Hle H h → RT h a x → YT Tryz.prog l ⟨[iv i, .agg ⟨a ++ [iv mo]⟩]⟩ [yc s] h (fun v N => v = .bool (step x mo s).1 ∧ N = [yc (step x mo s).2])) : CT Tryz.prog 139 ⟨[.func (.yield l) ⟨[]⟩ ⟨[]⟩, pp bT 0]⟩ [yc s0] H (fun _ N => N = [yc (yP step kind kids cases s0)]) := by
 refine Zm Tryz.func139 rfl rfl <| Zc <| Zc <| Za <| JLq (pp bT 34) (Z3 rfl rfl) <| JLr (Zd Y0 rfl (At.im hT) (Z4 ..) ?_)
 obtain ⟨a1, cap1, hv1⟩ := hks.sl
 have hle1 := hks.le
 refine JLn (Pu.lenSl Tryz.runUnderlying27 hv1) <| JLM rfl <| Zb <| Zn <| ZB (fun k ρ M => ∃ (j : Nat) (s : σ), ρ 0 = .func (.yield l) ⟨[]⟩ ⟨[]⟩ ∧ ρ 1 = pp bT 0 ∧ ρ 8 = ks ∧ ρ 9 = iv ((kids.length : Int)) ∧ ρ 10 = iv ((j : Int)) ∧ Sub [yc s] M ∧ j ≤ kids.length ∧ Inv s ∧ yK step kind j (kids.drop j) s = yK step kind 0 kids s0 ∧ k = kids.length - j) _ ⟨0, s0, rfl, rfl, rfl, rfl, rfl, (Sk Sub.nil), Nat.zero_le _, h0, rfl, rfl⟩ ?_
 rintro _ ρ2 _ ⟨j, s, e3, e4, e5, e6, e7, hm8, hj, hs, hinv, rfl⟩
 obtain ⟨ρ9, rfl⟩ := Zr (uc e3 (uc e4 (uc e5 (uc e6 (uc e7 un)))))
 clear e3 e4 e5 e6 e7
 refine ZG hm8 ?_
 have hlen := hks.le
 refine Zc <| Za <| JLn (Pu.lss rfl rfl) <| Zb <| Zc <| Zg rfl (fun h10 => ?_) (fun h10 => ?_)
 ·replace h10 := dt h10
  have h10n : j < kids.length := by omega
  refine Zj <| Zc <| Zn <| Zc <| Za <| JLM rfl ?_
  obtain ⟨b11, o11, cap11, row11, T11, fr11, cs11, hv11, hb11, hs11, hE11⟩ := hks.get j (by first | assumption | omega | decide | simp)
  refine JLq (pp b11 (o11 + j * 36)) (Pu.idx j Tryz.runUnderlying27 Zt hv11 rfl rfl (by first | assumption | omega | decide | simp)) <| JLr (Zh Zt rfl (At.im hb11) hs11 <| JLr (Zk (l := pkT 0 0 zS nS nS) Tryz.zeroValue30 rfl fun b12 => JLA rfl <| JLr (Ze 0 (vs := cs11) (l := cs11) Zt rfl rfl rfl rfl (Zu hE11) (XG hE11) (ZK (n := 36) rfl (Zu hE11)) <| Zb <| Zc <| ZJ mixed #[0, 0, 0, 0, 8, 0, 56, 124, 255, 511] 8 [some 15, some 16, some 17, some 18, some 19, some 20, some 21, some 22] [] [(6, fun _ _ vw qw => vw = iv (Z8 kind ((j : Int))) ∧ qw = [])] rfl (by kernel_rfl) rfl (by kernel_rfl) <| DM (fun _ => rfl) <| DM (fun _ => rfl) <| Dl Zt (At.bx 0 rfl) (Zs (Zu hE11)) <| Dq (pp bT 0) (fun _ => ZI rfl rfl) <| Dl1 ty3 (At.im hT) (ZZ ..) ?_)))
  refine DM (fun _ => rfl) <| Dc rfl Tryz.call105 (fun _ => rfl) (fun hin => more_ct _ _ _) ?_
  rintro _ _ ⟨rfl, rfl⟩
  refine Dq (.agg ⟨cs11 ++ ([iv (Z8 kind ((j : Int)))] : List Value)⟩) (fun _ => Pu.build (pv := [(0, .agg ⟨cs11⟩), (1, iv (Z8 kind ((j : Int))))]) (l := cs11 ++ ([iv (Z8 kind ((j : Int)))] : List Value)) rfl (bld175_0_1 (Zu hE11))) <| ZV (M' := [(BX b12 cs11 30), yc s]) rfl ?_
  show JL _ _ _ [_, _] _ _ _
  refine JL_yield1 1 rfl rfl rfl (fun hin => hy _ _ (hIK j h10n) _ _ _ _ hs (Hle.hu _ _) (RT.mono (Hle.hu _ _) hE11)) rfl ?_
  rintro _ _ ⟨rfl, rfl⟩
  refine JLn (Pu.not rfl) <| Zb <| Zg rfl (fun h13 => ?_) (fun h13 => ?_)
  ·replace h13 := nt h13
   refine Zl <| ⟨.tuple ⟨[]⟩, [yc (step (kids[j]) (Z8 kind ((j : Int))) s).2], Ret.none rfl, (Sk Sub.nil), ?_⟩
   rw [ZW h10n, yK, if_neg (by simp [h13])] at hinv
   show _ = _; rw [yP, ← hinv]; rfl
  replace h13 := nf h13
  refine Zj <| Za <| JLn (Pu.inc rfl rfl (by omega)) <| JLM rfl <| Zb <| ⟨_, ?_, (j + 1), ((step (kids[j]) (Z8 kind ((j : Int))) s).2), rfl, rfl, rfl, rfl, rfl, (Sk Sub.nil), ?_, ?_, ?_, rfl⟩
  ·omega
  ·omega
  ·exact hI _ _ s hs h13
  rw [ZW h10n, yK, if_pos h13] at hinv; exact hinv
 replace h10 := df h10
 have h10n : kids.length ≤ j := by omega
 refine Zz _ rfl <| Zc <| Za <| JLq (pp bT 35) (ZR rfl rfl) <| JLr (Zd YA rfl (At.im hT) (ZT ..) ?_)
 obtain ⟨a14, cap14, hv14⟩ := hcv.sl
 have hle14 := hcv.le
 refine JLn (Pu.lenSl Tryz.runUnderlying28 hv14) <| JLM rfl <| Zb <| Zn ?_
 have hk1 : yK step kind 0 kids s0 = (true, s) := by rw [← hinv, YL h10n]; rfl
 refine ZB (fun k ρ M => ∃ (j : Nat) (s2 : σ), ρ 0 = .func (.yield l) ⟨[]⟩ ⟨[]⟩ ∧ ρ 1 = pp bT 0 ∧ ρ 27 = cv ∧ ρ 28 = iv ((cases.length : Int)) ∧ ρ 29 = iv ((j : Int)) ∧ Sub [yc s2] M ∧ j ≤ cases.length ∧ Inv s2 ∧ yC step (cases.drop j) s2 = yC step cases s ∧ k = cases.length - j) _ ⟨0, s, rfl, rfl, rfl, rfl, rfl, (Sk Sub.nil), Nat.zero_le _, hs, rfl, rfl⟩ ?_
 rintro _ ρ15 _ ⟨j, s2, e16, e17, e18, e19, e20, hm21, hj, hs, hinv, rfl⟩
 obtain ⟨ρ22, rfl⟩ := Zr (uc e16 (uc e17 (uc e18 (uc e19 (uc e20 un)))))
 clear e16 e17 e18 e19 e20
 refine ZG hm21 ?_
 have hlen := hcv.le
 refine Zc <| Za <| JLn (Pu.lss rfl rfl) <| Zb <| Zc <| Zg rfl (fun h23 => ?_) (fun h23 => ?_)
 ·replace h23 := dt h23
  have h23n : j < cases.length := by omega
  have hbm := hsz _ (List.getElem_mem h23n)
  have hlenk := hks.le
  refine Zj <| Zc <| Zn <| Zc <| Za <| JLM rfl ?_
  obtain ⟨b24, o24, cap24, row24, T24, fr24, cs24, hv24, hb24, hs24, hE24⟩ := hcv.get j (by first | assumption | omega | decide | simp)
  obtain ⟨ca24, cb24, rfl, hA24, hB24⟩ := hE24
  refine JLq (pp b24 (o24 + j * 71)) (Pu.idx j Tryz.runUnderlying28 YV hv24 rfl rfl (by first | assumption | omega | decide | simp)) <| JLr (Zh YV rfl (At.im hb24) hs24 <| JLr (Zk (l := (pkP 0 0 zS nS) ++ (pkT 0 0 zS nS nS)) Tryz.zeroValue86 rfl fun b25 => JLA rfl <| JLr (Ze 0 (vs := ca24 ++ cb24) (l := ca24 ++ cb24) YV rfl rfl rfl rfl (Z6 (ZC hA24) (Zu hB24)) (Yg (RP_ok hA24) (XG hB24)) (ZK (n := 71) rfl (Z6 (ZC hA24) (Zu hB24))) <| Zb <| Zc <| ZJ mixed #[0, 0, 2, 6, 0, 30, 0, 64, 0, 256, 768, 1984, 4095, 8191] 12 [some 34, some 35, some 36, some 37, some 38, some 39, some 40, some 41, some 42, some 43, some 44, some 45] [] [(10, fun _ _ vw qw => vw = iv ((binds (cases[j].1) : Int)) ∧ qw = [])] rfl (by kernel_rfl) rfl (by kernel_rfl) <| DM (fun _ => rfl) <| Dq (pp bT 34) (fun _ => Z3 rfl rfl) <| Dl1 Y0 (At.im hT) (Z4 ..) ?_)))
  obtain ⟨a27, cap27, hv27⟩ := hks.sl
  have hle27 := hks.le
  refine Dn (fun _ => Pu.lenSl Tryz.runUnderlying27 hv27) <| DM (fun _ => rfl) ?_
  refine Dn (fun _ => Pu.add64 rfl rfl (by first | omega | (constructor <;> omega))) <| Dq (pp b25 35) (fun _ => fa86_1 rfl rfl) <| Dl Zt (At.bx 0 rfl) (sub_r (ZC hA24) (Zu hB24)) <| Dq (pp b25 0) (fun _ => Xi rfl rfl) <| Dl Z1 (At.bx 0 rfl) (sub_l (ZC hA24)) ?_
  refine Dc rfl Tryz.call107 (fun _ => rfl) (fun hin => binds_ct _ _ _ (RP.mono (Hle.hu _ _) hA24) (by omega)) ?_
  rintro _ _ ⟨rfl, rfl⟩
  refine Dq (.agg ⟨cb24 ++ ([iv ((binds (cases[j].1) : Int))] : List Value)⟩) (fun _ => Pu.build (pv := [(0, .agg ⟨cb24⟩), (1, iv ((binds (cases[j].1) : Int)))]) (l := cb24 ++ ([iv ((binds (cases[j].1) : Int))] : List Value)) rfl (bld175_0_1 (Zu hB24))) <| ZV (M' := [(BX b25 (ca24 ++ cb24) 86), yc s2]) rfl ?_
  show JL _ _ _ [_, _] _ _ _
  refine JL_yield1 1 rfl rfl rfl (fun hin => hy _ _ (hIC j h23n) _ _ _ _ hs (Hle.hu _ _) (RT.mono (Hle.hu _ _) hB24)) rfl ?_
  rintro _ _ ⟨rfl, rfl⟩
  refine JLn (Pu.not rfl) <| Zb <| Zg rfl (fun h28 => ?_) (fun h28 => ?_)
  ·replace h28 := nt h28
   refine Zl <| ⟨.tuple ⟨[]⟩, [yc (step (cases[j].2) ((binds (cases[j].1) : Int)) s2).2], Ret.none rfl, (Sk Sub.nil), ?_⟩
   rw [ZW h23n, yC, if_neg (by simp [h28])] at hinv
   show _ = _; rw [yP, hk1, if_pos rfl, ← hinv]
  replace h28 := nf h28
  refine Zj <| Za <| JLn (Pu.inc rfl rfl (by omega)) <| JLM rfl <| Zb <| ⟨_, ?_, (j + 1), ((step (cases[j].2) ((binds (cases[j].1) : Int)) s2).2), rfl, rfl, rfl, rfl, rfl, (Sk Sub.nil), ?_, ?_, ?_, rfl⟩
  ·omega
  ·omega
  ·exact hI _ _ s2 hs h28
  rw [ZW h23n, yC, if_pos h28] at hinv; exact hinv
 replace h23 := df h23
 have h23n : cases.length ≤ j := by omega
 refine Zz _ rfl <| ⟨.tuple ⟨[]⟩, [yc s2], Ret.none rfl, (Sk Sub.nil), ?_⟩
 show _ = _; rw [yP, hk1, if_pos rfl, ← hinv, YL h23n]; rfl
end Go.Proofs.YtkjafeejpmcnkaaGreat.Hs
/-! Walks, printed by a program of this session's own (gen.py). -/
namespace Go.Proofs.YtkjafeejpmcnkaaGreat.Hs
open Go Go.Proofs
set_option maxRecDepth 100000
set_option linter.unusedVariables false
set_option linter.unusedSimpArgs false
attribute [local irreducible] JL J CT wlo DT
theorem all_ct : ∀ (t : Tm) (d m b : Int) (cs : List Value) (H : Heap) (bD : Nat), RT H cs t → H bD = some (.cells ⟨[iv d]⟩ 3 (0, 0)) → 0 ≤ b → b + 2 * sizeT t ≤ 1000000 → CT Tryz.prog 79 ⟨[.agg ⟨[iv m, .func (.func 78) ⟨[]⟩ ⟨[pp bD 0]⟩]⟩, .agg ⟨cs⟩, iv b]⟩ [] H (fun v N => v = iv (Xk d m b t) ∧ N = []) := by
 intro t
 induction t using Tm.ind with
 | h kind num ref kids cases ih ih' =>
 intro d m b cs H bD ht hD hb0 hb
 obtain ⟨ks, cv, rfl, hk, hn, hks, hcv⟩ := RT_mk.1 ht
 rw [sizeT] at hb
 have hn1 : -9223372036854775808 ≤ num := hn.1
 have hn2 : num ≤ 9223372036854775807 := hn.2
 have ihx : ∀ x mo, (fun x mo => ((∃ (j : Nat) (hj : j < kids.length), x = kids[j]) ∨ ∃ (j : Nat) (hj : j < cases.length), x = cases[j].2) ∧ 0 ≤ mo ∧ mo + 2 * (sizeT x : Int) ≤ 2 * ((1 + ZE kids + ZL cases : Nat) : Int)) x mo → ∀ (d m b : Int) (cs : List Value) (H : Heap) (bD : Nat), RT H cs x → H bD = some (.cells ⟨[iv d]⟩ 3 (0, 0)) → 0 ≤ b → b + 2 * sizeT x ≤ 1000000 → CT Tryz.prog 79 ⟨[.agg ⟨[iv m, .func (.func 78) ⟨[]⟩ ⟨[pp bD 0]⟩]⟩, .agg ⟨cs⟩, iv b]⟩ [] H (fun v N => v = iv (Xk d m b x) ∧ N = []) := by
  rintro x mo ⟨⟨j, hj, rfl⟩ | ⟨j, hj, rfl⟩, _, _⟩
  ·exact ih _ (List.getElem_mem hj)
  ·exact ih' _ (List.getElem_mem hj)
 refine Zm Tryz.func79 rfl rfl <| Zc <| Za <| JLr (Zq (l := [iv m, .func (.func 78) ⟨[]⟩ ⟨[pp bD 0]⟩]) rfl rfl fun b1 => JLr (Zq (l := pkT kind num ref ks cv) rfl rfl fun b2 => JLr (Zq (l := [iv b]) rfl rfl fun b3 => JLr (Zk (l := [iv 0]) Tryz.zeroValue31 rfl fun b4 => Zb <| Zc <| Zc <| Za <| JLr (Zh ty128 rfl (At.bx 3 rfl) rfl <| JLr (Zh Zt rfl (At.bx 2 rfl) (Yz ..) ?_))))))
 refine JLr (Zd ty3 rfl (At.bx 1 rfl) rfl <| Jc Tryz.call115 rfl (fun hin => chkTerm_ct _ _ _ _ _ _ _ _ _ _ _ bD (RTs.mono (Hle.hu _ _) hks) (RCs.mono (Hle.hu _ _) hcv) (Hle.hu _ _ _ _ hD) hb0 (by omega) hn1 hn2) rfl ?_)
 rintro _ _ ⟨rfl, rfl⟩
 refine JLA rfl <| Zb <| Zc <| Za <| JLM rfl <| JLn (Pu.neq rfl rfl) <| Zb <| Zg rfl (fun h5 => ?_) (fun h5 => ?_)
 ·replace h5 := nt h5
  replace h5 := df h5
  refine Zc <| Za <| JLM rfl <| JLr (Ze 0 (vs := [iv (YF d m b kind num ref kids.length cases.length)]) (l := [iv (YF d m b kind num ref kids.length cases.length)]) ty31 rfl rfl rfl rfl rfl (Zf rfl Zo) rfl <| Zb <| Zl <| ⟨iv (YF d m b kind num ref kids.length cases.length), [], Ret.one rfl (RV.cell1 ty31 rfl (At.bx 0 rfl) rfl), Sub.nil, ?_⟩)
  exact ⟨by rw [Xk, if_neg h5], rfl⟩
 replace h5 := nf h5
 replace h5 := dt h5
 refine Zj <| Zc <| Zc <| Za <| JLq (pp b2 35) (ZR rfl rfl) <| JLr (Zd YA rfl (At.bx 2 rfl) (ZT ..) ?_)
 obtain ⟨a6, cap6, hv6⟩ := hcv.sl
 have hle6 := hcv.le
 refine JLn (Pu.lenSl Tryz.runUnderlying28 hv6) <| JLM rfl <| Zb <| Zn ?_
 have hh0 : YF d m b kind num ref kids.length cases.length = 0 := h5
 refine ZB (fun k ρ M => ∃ (j : Nat), ρ 3 = pp b1 0 ∧ ρ 4 = pp b2 0 ∧ ρ 5 = pp b3 0 ∧ ρ 6 = pp b4 0 ∧ ρ 22 = cv ∧ ρ 23 = iv ((cases.length : Int)) ∧ ρ 24 = iv ((j : Int)) ∧ Sub [(BX b4 [iv 0] 31), (BX b3 [iv b] 3), (BX b2 (pkT kind num ref ks cv) 30), (BX b1 [iv m, .func (.func 78) ⟨[]⟩ ⟨[pp bD 0]⟩] 128)] M ∧ j ≤ cases.length ∧ pErrsC (cases.drop j) = pErrsC cases ∧ k = cases.length - j) _ ⟨0, rfl, rfl, rfl, rfl, rfl, rfl, rfl, (Sk (Sk (Sk (Sk Sub.nil)))), Nat.zero_le _, rfl, rfl⟩ ?_
 rintro _ ρ7 _ ⟨j, e8, e9, e10, e11, e12, e13, e14, hm15, hj, hinv, rfl⟩
 obtain ⟨ρ16, rfl⟩ := Zr (uc e8 (uc e9 (uc e10 (uc e11 (uc e12 (uc e13 (uc e14 un)))))))
 clear e8 e9 e10 e11 e12 e13 e14
 refine ZG hm15 ?_
 have hlen := hcv.le
 refine Zc <| Za <| JLn (Pu.lss rfl rfl) <| Zb <| Zc <| Zg rfl (fun h17 => ?_) (fun h17 => ?_)
 ·replace h17 := dt h17
  have h17n : j < cases.length := by omega
  refine Zj <| Zc <| Zn <| Zc <| Za ?_
  obtain ⟨b18, o18, cap18, row18, T18, fr18, cs18, hv18, hb18, hs18, hE18⟩ := hcv.get j (by first | assumption | omega | decide | simp)
  obtain ⟨ca18, cb18, rfl, hA18, hB18⟩ := hE18
  refine JLq (pp b18 (o18 + j * 71)) (Pu.idx j Tryz.runUnderlying28 YV hv18 rfl rfl (by first | assumption | omega | decide | simp)) <| JLr (Zh YV rfl (At.im hb18) hs18 <| JLr (Zk (l := (pkP 0 0 zS nS) ++ (pkT 0 0 zS nS nS)) Tryz.zeroValue86 rfl fun b19 => JLr (Ze 0 (vs := ca18 ++ cb18) (l := ca18 ++ cb18) YV rfl rfl rfl rfl (Z6 (ZC hA18) (Zu hB18)) (Yg (RP_ok hA18) (XG hB18)) (ZK (n := 71) rfl (Z6 (ZC hA18) (Zu hB18))) <| Zb <| Zc <| Za <| JLq (pp b19 0) (Xi rfl rfl) <| JLr (Zh Z1 rfl (At.bx 0 rfl) (sub_l (ZC hA18)) <| Jc Tryz.call116 rfl (fun hin => patternsError_ct _ _ _ (RP.mono (Hle.hu _ _) hA18)) rfl ?_))))
  rintro _ _ ⟨rfl, rfl⟩
  refine JLA rfl <| Zb <| Zc <| Za <| JLM rfl <| JLn (Pu.neq rfl rfl) <| Zb <| Zg rfl (fun h20 => ?_) (fun h20 => ?_)
  ·replace h20 := nt h20
   replace h20 := df h20
   refine Zc <| Za <| JLM rfl <| JLr (Ze 1 (vs := [iv (pErrs (cases[j].1))]) (l := [iv (pErrs (cases[j].1))]) ty31 rfl rfl rfl rfl rfl (Zf rfl Zo) rfl <| Zb <| Zl <| ⟨iv (pErrs (cases[j].1)), [], Ret.one rfl (RV.cell1 ty31 rfl (At.bx 1 rfl) rfl), Sub.nil, ?_⟩)
   exact ⟨by rw [Xk, if_pos hh0, ← hinv, ZW h17n, pErrsC, if_neg h20, if_neg h20], rfl⟩
  replace h20 := nf h20
  replace h20 := dt h20
  refine Zj <| Za <| JLn (Pu.inc rfl rfl (by omega)) <| JLM rfl <| Zb <| ⟨_, ?_, (j + 1), rfl, rfl, rfl, rfl, rfl, rfl, rfl, (Sd (Sk (Sk (Sk (Sk Sub.nil))))), ?_, ?_, rfl⟩
  ·omega
  ·omega
  rw [ZW h17n, pErrsC, if_pos h20] at hinv; exact hinv
 replace h17 := df h17
 have h17n : cases.length ≤ j := by omega
 refine Zz _ rfl <| Zc <| Zc <| Za <| JLr (Zh Zt rfl (At.bx 2 rfl) (Yz ..) <| Jc Tryz.call117 rfl (fun hin => parts_ct _ _ rfl) rfl ?_)
 rintro _ _ ⟨bT21, rfl, rfl⟩
 refine Zb <| Zn ?_
 have h1 : pErrsC cases = 0 := by rw [← hinv, YL h17n]; rfl
 refine J_range (L := [(BX bT21 (pkT kind num ref ks cv) 30), (BX b3 [iv b] 3), (BX b2 (pkT kind num ref ks cv) 30), (BX b1 [iv m, .func (.func 78) ⟨[]⟩ ⟨[pp bD 0]⟩] 128)]) (fun e : Int => [(BX b4 [iv e] 31)]) (fun e => !decide (e = 0)) 0 (fun e => e = yP (fun x mo _ => (decide (Xk d m (b + mo) x = 0), Xk d m (b + mo) x)) kind kids cases 0) rfl rfl Tryz.call139 (flatten_pick (i := 1) rfl) ?_ ?_ ?_
 ·intro l yc hY hin
  refine CT.mono (parts1_ct kind num ref ks cv kids cases _ bT21 (RTs.mono (Hle.hu _ _) hks) (RCs.mono (Hle.hu _ _) hcv) (hin 0 _ rfl _ _ List.mem_cons_self) (fun c hc => by have := YN c hc; have := binds_le c.1; omega) (by have := len_sizeTs kids; omega) (by have := len_sizeCs cases; omega) l yc (fun e => e = 0) (fun x mo _ => (decide (Xk d m (b + mo) x = 0), Xk d m (b + mo) x)) 0 rfl (fun x mo => ((∃ (j : Nat) (hj : j < kids.length), x = kids[j]) ∨ ∃ (j : Nat) (hj : j < cases.length), x = cases[j].2) ∧ 0 ≤ mo ∧ mo + 2 * (sizeT x : Int) ≤ 2 * ((1 + ZE kids + ZL cases : Nat) : Int)) ?_ ?_ (fun x mo s _ h => of_decide_eq_true h) ?_) (fun v N hN => ⟨_, hN, rfl⟩)
  ·intro j hj; have hs1 := Y4 _ (List.getElem_mem hj); have hm1 := more_le kind j; exact ⟨.inl ⟨j, hj, rfl⟩, by omega, by omega⟩
  ·intro j hj; have hs1 := YN _ (List.getElem_mem hj); have hm1 := binds_le (cases[j]).1; have hp1 := sizeT_pos (cases[j]).2; exact ⟨.inr ⟨j, hj, rfl⟩, by omega, by omega⟩
  intro x mo hit e i a h he hh ra
  subst he
  have hb0x : 0 ≤ b + mo := by have := hit.2.1; omega
  have hb1x : b + mo + 2 * (sizeT x : Int) ≤ 1000000 := by have := hit.2.2; omega
  have hp1 := sizeT_pos x
  refine YT.mono (hY 0 [_, _] h (fun e' => e' = Xk d m (b + mo) x) rfl rfl (RoundOk.mk ?_)) ?_
  ·show J _ _ _ _ [(BX b4 [iv 0] 31)] _
   refine Za <| JLr (Zk (l := (pkT 0 0 zS nS nS) ++ ([iv 0] : List Value)) Tryz.zeroValue175 rfl fun b22 => JLr (Ze 0 (vs := a ++ ([iv mo] : List Value)) (l := a ++ ([iv mo] : List Value)) ty175 rfl rfl rfl rfl (Z6 (Zu ra) rfl) (Yg (XG ra) (Zf rfl Zo)) (ZK (n := 37) rfl (Z6 (Zu ra) rfl)) <| Zb <| Zn <| Zc <| Za <| JLr (Zh ty128 rfl (At.im (hh _ _ (hin 3 _ rfl _ _ List.mem_cons_self))) rfl <| JLq (pp b22 0) (fa175_0 rfl rfl) <| JLr (Zh Zt rfl (At.bx 0 rfl) (sub_l (Zu ra)) <| JLr (Zd ty3 rfl (At.im (hh _ _ (hin 1 _ rfl _ _ List.mem_cons_self))) rfl <| JLq (pp b22 36) (fa175_1 rfl rfl) <| JLr (Zd ty3 rfl (At.bx 0 rfl) (get_r (n := 36) (i := 0) (Zu ra) rfl) ?_))))))
   refine JLn (Pu.add64 rfl rfl (by first | omega | (constructor <;> omega))) <| Jc Tryz.call79 rfl (fun hin => ihx x mo hit d m _ _ _ bD (RT.mono (Hle.hu _ _) ra) (Hle.hu _ _ _ _ (hh _ _ (Hle.hu _ _ _ _ hD))) hb0x hb1x) rfl ?_
   rintro _ _ ⟨rfl, rfl⟩
   refine JLA rfl <| Zb <| Zc <| Za <| JLM rfl <| JLn (Pu.neq rfl rfl) <| Zb <| Zg rfl (fun h23 => ?_) (fun h23 => ?_)
   ·replace h23 := nt h23
    replace h23 := df h23
    refine Zc <| Za <| JLM rfl <| JLr (Ze 1 (vs := [iv (Xk d m (b + mo) x)]) (l := [iv (Xk d m (b + mo) x)]) ty31 rfl rfl rfl rfl rfl (Zf rfl Zo) rfl <| Zb <| Zl ?_)
    exact ⟨Xk d m (b + mo) x, by simp [h23], (Sd (Sk Sub.nil)), rfl⟩
   replace h23 := nf h23
   replace h23 := dt h23
   refine Zj ?_
   exact ⟨0, rfl, (Sd (Sk Sub.nil)), h23.symm⟩
  rintro v N ⟨e', rfl, rfl, rfl⟩; exact ⟨by simp, rfl⟩
 ·rintro ef hef hp
  refine Zc <| Za <| JLr (Ze 0 (vs := [iv 0]) (l := [iv 0]) ty31 rfl rfl rfl rfl rfl (Zf rfl Zo) rfl <| Zb <| Zl <| ⟨iv 0, [], Ret.one rfl (RV.cell1 ty31 rfl (At.bx 0 rfl) rfl), Sub.nil, ?_⟩)
  rw [yP_err] at hef
  have hp0 : ef = 0 := by simpa using hp
  exact ⟨by rw [Xk, if_pos hh0, if_pos h1, ← hef, hp0], rfl⟩
 rintro ef hef hp
 refine ⟨iv ef, [], Ret.one rfl (RV.cell1 ty31 rfl (At.bx 0 rfl) rfl), Sub.nil, ?_⟩
 rw [yP_err] at hef
 have hp0 : ¬ ef = 0 := by simpa using hp
 exact ⟨by rw [Xk, if_pos hh0, if_pos h1, ← hef], rfl⟩
end Go.Proofs.YtkjafeejpmcnkaaGreat.Hs
/-! Walks, printed by a program of this session's own (gen.py). -/
namespace Go.Proofs.YtkjafeejpmcnkaaGreat.Hs
open Go Go.Proofs
set_option maxRecDepth 100000
set_option linter.unusedVariables false
set_option linter.unusedSimpArgs false
attribute [local irreducible] JL J CT wlo DT
theorem check_ct (t : Tm) (d m : Int) (cs : List Value) (H : Heap) (ht : RT H cs t) : CT Tryz.prog 34 ⟨[.agg ⟨cs⟩, iv d, iv m]⟩ [] H (fun v N => v = iv (Xj d m t) ∧ N = []) := by
 refine Zm Tryz.func34 rfl rfl <| Zc <| Za <| JLr (Zq (l := cs) rfl rfl fun b1 => JLr (Zq (l := [iv d]) rfl rfl fun b2 => JLA rfl <| Zb <| Zc <| Zc <| Za <| JLq (.agg ⟨[iv 0]⟩) (Pu.build (pv := []) (l := [iv 0]) rfl bld102_) <| JLr (Zq (l := [iv 0]) rfl rfl fun b3 => JLr (Zh Zt rfl (At.bx 2 rfl) (Zs (Zu ht)) ?_))))
 refine ZA 0 rfl Tryz.call77 rfl rfl (fun hin => longT_ct _ _ _ _ _ _ (RT.mono (Hle.hu _ _) ht) (by omega) (by omega) (by omega) (by omega)) rfl ?_
 rintro _ _ ⟨rfl, rfl⟩
 refine Zb <| Zg rfl (fun h5 => ?_) (fun h5 => ?_)
 ·refine Zc <| Za <| JLA rfl <| Zb <| Zl <| ⟨iv 11, [], Ret.one rfl (RV.tmp rfl), Sub.nil, ?_⟩
  exact ⟨by rw [Xj, if_pos (by simp [h5])], rfl⟩
 refine Zj <| Zc <| Za <| JLM rfl <| JLq (.func (.func 78) ⟨[]⟩ ⟨[pp b2 0]⟩) (Pu.makeFunc rfl rfl) <| JLq (.agg ⟨[iv m, .func (.func 78) ⟨[]⟩ ⟨[pp b2 0]⟩]⟩) (Pu.build (pv := [(0, iv m), (1, .func (.func 78) ⟨[]⟩ ⟨[pp b2 0]⟩)]) (l := [iv m, .func (.func 78) ⟨[]⟩ ⟨[pp b2 0]⟩]) rfl (bld128_0_1 _ _ _ _)) <| JLr (Zk (l := [iv 0, .nilFunc]) Tryz.zeroValue128 rfl fun b6 => JLr (Ze 0 (vs := [iv m, .func (.func 78) ⟨[]⟩ ⟨[pp b2 0]⟩]) (l := [iv m, .func (.func 78) ⟨[]⟩ ⟨[pp b2 0]⟩]) ty128 rfl rfl rfl rfl rfl (Zf rfl (Zf rfl Zo)) rfl <| Zb <| Zc <| Za <| JLr (Zh ty128 rfl (At.bx 0 rfl) rfl <| JLr (Zh Zt rfl (At.bx 3 rfl) (Zs (Zu ht)) ?_))))
 refine Jc Tryz.call79 rfl (fun hin => all_ct _ _ _ _ _ _ _ (RT.mono (Hle.hu _ _) ht) (hin 2 _ rfl _ _ List.mem_cons_self) (by decide) (by have e1 := cnT_size t 1 0 h5; have e2 := cnT_le stL_le t 1 0 h5; omega)) rfl ?_
 rintro _ _ ⟨rfl, rfl⟩
 refine JLA rfl <| Zb <| Zl <| ⟨iv (Xk d m 0 t), [], Ret.one rfl (RV.tmp rfl), Sub.nil, ?_⟩
 exact ⟨by rw [Xj, if_neg (by simp [h5])], rfl⟩
theorem right_ct (l : List Tm) (v : Value) (H : Heap) (hl : rdS RT 36 H v l) : CT Tryz.prog 55 ⟨[v]⟩ [] H (fun v N => v = iv (ZO l) ∧ N = []) := by
 refine Zm Tryz.func55 rfl rfl <| Zc <| Za <| JLA rfl <| Zb <| Zc <| Zc <| Za <| JLm v ?_
 obtain ⟨a1, cap1, hv1⟩ := hl.sl
 have hle1 := hl.le
 refine JLn (Pu.lenSl Tryz.runUnderlying27 hv1) <| JLM rfl <| Zb <| Zn <| ZB (fun k ρ M => ∃ (j : Nat), ρ 2 = iv 0 ∧ ρ 6 = v ∧ ρ 7 = iv ((l.length : Int)) ∧ ρ 8 = iv ((j : Int)) ∧ Sub [] M ∧ j ≤ l.length ∧ ZO (l.drop j) = ZO l ∧ k = l.length - j) _ ⟨0, rfl, rfl, rfl, rfl, Sub.nil, Nat.zero_le _, rfl, rfl⟩ ?_
 rintro _ ρ2 _ ⟨j, e3, e4, e5, e6, hm7, hj, hinv, rfl⟩
 obtain ⟨ρ8, rfl⟩ := Zr (uc e3 (uc e4 (uc e5 (uc e6 un))))
 clear e3 e4 e5 e6
 refine ZG hm7 <| Zc <| Za <| JLn (Pu.lss rfl rfl) <| Zb <| Zc <| Zg rfl (fun h9 => ?_) (fun h9 => ?_)
 ·replace h9 := dt h9
  have h9n : j < l.length := by omega
  have hlenl := hl.le
  refine Zj <| Zc <| Zn <| Zc <| Za ?_
  obtain ⟨b10, o10, cap10, row10, T10, fr10, cs10, hv10, hb10, hs10, hE10⟩ := hl.get j (by first | assumption | omega | decide | simp)
  refine JLq (pp b10 (o10 + j * 36)) (Pu.idx j Tryz.runUnderlying27 Zt hv10 rfl rfl (by first | assumption | omega | decide | simp)) <| JLr (Zh Zt rfl (At.im hb10) hs10 <| JLr (Zk (l := pkT 0 0 zS nS nS) Tryz.zeroValue30 rfl fun b11 => JLr (Ze 0 (vs := cs10) (l := cs10) Zt rfl rfl rfl rfl (Zu hE10) (XG hE10) (ZK (n := 36) rfl (Zu hE10)) <| Zb <| Zc <| Za <| JLr (Zh Zt rfl (At.bx 0 rfl) (Zs (Zu hE10)) <| Jc Tryz.call34 rfl (fun hin => check_ct _ _ _ _ _ (RT.mono (Hle.hu _ _) hE10)) rfl ?_))))
  rintro _ _ ⟨rfl, rfl⟩
  refine JLA rfl <| Zb <| Zc <| Za <| JLM rfl <| JLn (Pu.neq rfl rfl) <| Zb <| Zg rfl (fun h12 => ?_) (fun h12 => ?_)
  ·replace h12 := nt h12
   replace h12 := df h12
   refine Zc <| Za <| JLM rfl <| JLA rfl <| Zb <| Zl <| ⟨iv (Xj 60 8 (l[j])), [], Ret.one rfl (RV.tmp rfl), Sub.nil, ?_⟩
   exact ⟨by rw [← hinv, ZW h9n, ZO, if_neg h12], rfl⟩
  replace h12 := nf h12
  replace h12 := dt h12
  refine Zj <| Za <| JLn (Pu.inc rfl rfl (by omega)) <| JLM rfl <| Zb <| ⟨_, ?_, (j + 1), rfl, rfl, rfl, rfl, Sub.nil, ?_, ?_, rfl⟩
  ·omega
  ·omega
  rw [ZW h9n, ZO, if_pos h12] at hinv; exact hinv
 replace h9 := df h9
 have h9n : l.length ≤ j := by omega
 refine Zz _ rfl <| Zc <| Za <| JLA rfl <| Zb <| Zl <| ⟨iv 0, [], Ret.one rfl (RV.tmp rfl), Sub.nil, ?_⟩
 exact ⟨by rw [← hinv, YL h9n]; rfl, rfl⟩
end Go.Proofs.YtkjafeejpmcnkaaGreat.Hs
/-! Walks, printed by a program of this session's own (gen.py). -/
namespace Go.Proofs.YtkjafeejpmcnkaaGreat.Hs
open Go Go.Proofs
set_option maxRecDepth 100000
set_option linter.unusedVariables false
set_option linter.unusedSimpArgs false
attribute [local irreducible] JL J CT wlo DT
theorem stay_ct (n b : Int) (H : Heap) (hb : inI (n + b)) : CT Tryz.prog 69 ⟨[iv n, iv b]⟩ [] H (fun v N => ∃ cs k, v = .agg ⟨cs⟩ ∧ N = [k] ∧ OT (.mk 1 (n + b) zS [] []) cs k) := by
 have hb1 : -9223372036854775808 ≤ n + b := hb.1
 have hb2 : n + b ≤ 9223372036854775807 := hb.2
 refine Zm Tryz.func69 rfl rfl <| Zc <| Za <| JLr (Zk (l := pkT 0 0 zS nS nS) Tryz.zeroValue30 rfl fun b1 => Zb <| Zc <| Za <| JLM rfl <| JLM rfl <| JLn (Pu.add64 rfl rfl (by first | omega | (constructor <;> omega))) <| JLq (.agg ⟨pkT 1 (n + b) zS nS nS⟩) (Pu.build (pv := [(0, iv 1), (1, iv (n + b))]) (l := pkT 1 (n + b) zS nS nS) rfl (bld30_0_1 _ _)) <| JLr (Ze 0 (vs := pkT 1 (n + b) zS nS nS) (l := pkT 1 (n + b) zS nS nS) Zt rfl rfl rfl rfl rfl (ZS rfl rfl) (YU ..) <| Zb ?_))
 refine Zl <| ⟨.agg ⟨pkT 1 (n + b) zS nS nS⟩, [[]], Ret.one rfl (RV.cell Zt rfl (At.bx 0 rfl) (Yz ..)), (Sub.emp Sub.nil), ?_⟩
 exact ⟨_, _, rfl, rfl, OT_leaf (by unfold inI; omega) hb⟩
theorem same_ct (s : Sm) (H : Heap) : CT Tryz.prog 70 ⟨[.agg ⟨sC s⟩]⟩ [] H (fun v N => v = .agg ⟨sC s⟩ ∧ N = []) := by
 refine Zm Tryz.func70 rfl rfl <| Zc <| Za <| JLr (Zq (l := sC s) rfl rfl fun b1 => JLr (Zk (l := sC zS) Tryz.zeroValue26 rfl fun b2 => Zb <| Zc <| Za <| JLr (Zh YM rfl (At.bx 1 rfl) (Zs rfl) <| JLr (Ze 0 (vs := sC s) (l := sC s) YM rfl rfl rfl rfl rfl (sC_ok _) (ZK rfl rfl) <| Zb <| Zl <| ⟨.agg ⟨sC s⟩, [], Ret.one rfl (RV.cell YM rfl (At.bx 0 rfl) (Zs rfl)), Sub.nil, ?_⟩))))
 exact ⟨rfl, rfl⟩
theorem mapPattern_ct : ∀ (gr : Nat) (frs crs : List Value) (hcallr : ∀ args w, (callFunc gr args).run Tryz.prog w = .ok (.enter gr args) w) (rf : Sm → Sm) (fv : Value) (hfv : fv.oneCell' = true) (p : Pt) (cs : List Value) (H : Heap), RP H cs p → (∀ s h, Hle H h → CT Tryz.prog gr ⟨frs ++ [.agg ⟨sC s⟩] ++ crs⟩ [] h (fun v N => v = .agg ⟨sC (rf s)⟩ ∧ N = [])) → sizeP p ≤ 1000000 → CT Tryz.prog 106 ⟨[.agg ⟨[fv, .func (.func gr) ⟨frs⟩ ⟨crs⟩]⟩, .agg ⟨cs⟩]⟩ [] H (fun v N => ∃ cs k, v = .agg ⟨cs⟩ ∧ N = [k] ∧ OP (mapP rf p) cs k) := by
 intro gr frs crs hcallr rf fv hfv p
 induction p using Pt.ind with
 | h kind num ref kids ih =>
 intro cs H hp hgr hz
 rw [sizeP] at hz
 have hlk := len_sizePs kids
 obtain ⟨ks, rfl, hk, hn, hks⟩ := RP_mk.1 hp
 refine Zm Tryz.func106 rfl rfl <| Zc <| Za <| JLr (Zq (l := [fv, .func (.func gr) ⟨frs⟩ ⟨crs⟩]) rfl rfl fun b1 => JLr (Zq (l := pkP kind num ref ks) rfl rfl fun b2 => JLr (Zk (l := pkP 0 0 zS nS) Tryz.zeroValue81 rfl fun b3 => Zb <| Zc <| ZJ mixed #[0, 1, 0, 4, 0, 16, 0, 64, 240, 511, 0, 2047] 11 [some 8, some 9, some 10, some 11, some 12, some 13, some 14, some 15, some 16, some 17, some 5] [] [(8, fun _ _ vw qw => vw = .agg ⟨sC (rf ref)⟩ ∧ qw = []), (10, newP 81 (pkP 0 0 zS nS))] rfl (by kernel_rfl) rfl (by kernel_rfl) <| Dq (pp b2 0) (fun _ => Yl rfl rfl) <| Dl1 ty3 (At.bx 1 rfl) (YK ..) <| Dq (pp b2 1) (fun _ => XA rfl rfl) <| Dl1 ty3 (At.bx 1 rfl) (pkP_1 ..) ?_)))
 refine Dq (pp b1 1) (fun _ => fa118_1 rfl rfl) <| Dl1 ty116 (At.bx 2 rfl) rfl <| Dq (pp b2 2) (fun _ => fa81_2 rfl rfl) <| Dl YM (At.bx 1 rfl) (pkP_2 ..) <| Dc rfl hcallr (fun _ => rfl) (fun hin => hgr _ _ (Hle.hu _ _)) ?_
 rintro _ _ ⟨rfl, rfl⟩
 refine Dq (.agg ⟨pkP kind num (rf ref) nS⟩) (fun _ => Pu.build (pv := [(0, iv kind), (1, iv num), (2, .agg ⟨sC (rf ref)⟩)]) (l := pkP kind num (rf ref) nS) rfl (bld81_0_1_2 _ _ _)) <| Da Tryz.zeroValue81 rfl fun b5 => ZV (M' := [(BX b5 (pkP 0 0 zS nS) 81), (BX b3 (pkP 0 0 zS nS) 81), (BX b2 (pkP kind num ref ks) 81), (BX b1 [fv, .func (.func gr) ⟨frs⟩ ⟨crs⟩] 118)]) rfl ?_
 show JL _ _ _ [_] _ _ _
 refine JLr (Ze 0 (vs := pkP kind num (rf ref) nS) (l := pkP kind num (rf ref) nS) Z1 rfl rfl rfl rfl rfl (pkP_ok rfl) (pkP_s ..) <| Zb <| Zc <| Zc <| Za <| JLq (pp b2 34) (Z5 rfl rfl) <| JLr (Zd Xa rfl (At.bx 2 rfl) (Yf ..) ?_))
 obtain ⟨a6, cap6, hv6⟩ := hks.sl
 have hle6 := hks.le
 refine JLn (Pu.lenSl Tryz.runUnderlying79 hv6) <| JLM rfl <| Zb <| Zn <| ZB (fun k ρ M => ∃ (j : Nat) (v : Value) (es : List (List Value)) (k1 k2 : Zi), ρ 2 = pp b1 0 ∧ ρ 4 = pp b3 0 ∧ ρ 5 = pp b5 0 ∧ ρ 19 = ks ∧ ρ 20 = iv ((kids.length : Int)) ∧ ρ 21 = iv ((j : Int)) ∧ Sub [(BX b5 (pkP kind num (rf ref) v) 81), k1, k2, (BX b3 (pkP 0 0 zS nS) 81), (BX b1 [fv, .func (.func gr) ⟨frs⟩ ⟨crs⟩] 118)] M ∧ j ≤ kids.length ∧ Own 81 35 v es k1 ∧ OPs (mapPs rf (kids.take j)) es k2 ∧ k = kids.length - j) _ ⟨0, _, [], [], [], rfl, rfl, rfl, rfl, rfl, rfl, (Sk (Sub.emp (Sub.emp (Sk (Sd (Sk Sub.nil)))))), Nat.zero_le _, Own.nil, OPs.nil, rfl⟩ ?_
 rintro _ ρ7 _ ⟨j, v, es, k1, k2, e8, e9, e10, e11, e12, e13, hm14, hj, ho, hop, rfl⟩
 obtain ⟨ρ15, rfl⟩ := Zr (uc e8 (uc e9 (uc e10 (uc e11 (uc e12 (uc e13 un))))))
 clear e8 e9 e10 e11 e12 e13
 refine ZG hm14 ?_
 have hlen := hks.le
 refine Zc <| Za <| JLn (Pu.lss rfl rfl) <| Zb <| Zc <| Zg rfl (fun h16 => ?_) (fun h16 => ?_)
 ·replace h16 := dt h16
  have h16n : j < kids.length := by omega
  have hel := OPs_len hop
  rw [mapPs_len, List.length_take] at hel
  have hs1 := sizePs_mem _ (List.getElem_mem h16n)
  refine Zj <| Zc <| Zn <| Zc <| Za ?_
  obtain ⟨b17, o17, cap17, row17, T17, fr17, cs17, hv17, hb17, hs17, hE17⟩ := hks.get j (by first | assumption | omega | decide | simp)
  refine JLq (pp b17 (o17 + j * 35)) (Pu.idx j Tryz.runUnderlying79 Z1 hv17 rfl rfl (by first | assumption | omega | decide | simp)) <| JLr (Zh Z1 rfl (At.im hb17) hs17 <| JLr (Zk (l := pkP 0 0 zS nS) Tryz.zeroValue81 rfl fun b18 => JLr (Ze 0 (vs := cs17) (l := cs17) Z1 rfl rfl rfl rfl (ZC hE17) (RP_ok hE17) (ZK (n := 35) rfl (ZC hE17)) <| Zb <| ZJ mixed #[0, 1, 0, 0, 12, 28, 63, 127, 255] 6 [some 25, some 26, some 27, some 28, some 29, some 30] [] [(4, fun _ _ vw qw => ∃ cs k, vw = .agg ⟨cs⟩ ∧ qw = [k] ∧ OP (mapP rf (kids[j])) cs k), (5, fun r _ vw qw => ∃ b k, vw = .slice (some ⟨b, 0, none⟩) 1 1 ∧ qw = [k] ∧ Own 81 35 (.slice (some ⟨b, 0, none⟩) 1 1) [(cel (r 4))] k ∧ k = (BX b (List.flatten [(cel (r 4))]) 81))] rfl (by kernel_rfl) rfl (by kernel_rfl) <| Dq (pp b5 34) (fun _ => Z5 rfl rfl) <| Dl1 Xa (At.bx 1 rfl) (Yf ..) <| Dl ty118 (At.bx 5 rfl) rfl <| Dl Z1 (At.bx 0 rfl) (Zs (ZC hE17)) ?_)))
  refine Dc rfl Tryz.call106 (fun _ => rfl) (fun hin => ih _ (List.getElem_mem h16n) _ _ (RP.mono (Hle.hu _ _) hE17) (fun s h hh => hgr s h (Hle.trans (Hle.hu _ _) hh)) (by omega)) ?_
  rintro _ _ ⟨cs21, k21, rfl, rfl, hO21⟩
  refine Dr rfl (fun _ => Zp (vs := [.agg ⟨cs21⟩]) [cs21] Tryz.runUnderlying79 el81 rfl rfl (by intro e he; simp only [List.mem_cons, List.not_mem_nil, or_false] at he; subst he; exact hO21.len) rfl (by decide) fun b k h1 h2 => ⟨[k], by rw [ZN rfl]; exact Sub.refl, b, k, rfl, rfl, h1, h2⟩) (fun _ _ ⟨b22, k22, e1, e2, ho22, hk22⟩ => ?_); subst e1 e2
  refine ZV (M' := [k22, k21, (BX b18 cs17 81), (BX b5 (pkP kind num (rf ref) v) 81), k1, k2, (BX b3 (pkP 0 0 zS nS) 81), (BX b1 [fv, .func (.func gr) ⟨frs⟩ ⟨crs⟩] 118)]) rfl ?_
  show JL _ _ _ [_, _, _] _ _ _
  have hlens23 : ∀ e ∈ ([cs21] : List (List Value)), List.length e = 35 := by
   intro e he; simp only [List.mem_cons, List.not_mem_nil, or_false] at he
   rcases he with rfl
   ·exact hO21.len
  have hoks23 : ∀ e ∈ ([cs21] : List (List Value)), okc e := by
   intro e he; simp only [List.mem_cons, List.not_mem_nil, or_false] at he
   rcases he with rfl
   ·exact hO21.ok
  refine JLr (Zx (i := 4) (n := 1) (es' := [cs21]) Tryz.runUnderlying79 Tryz.runUnderlying79 (Or.inl rfl) el81 rfl rfl rfl ho (fun F w m => Src.row (((At.k 0 rfl (by rw [hk22]; exact List.mem_cons_self))).heap m) (Zs (Zw hlens23))) rfl hlens23 hoks23 (by decide) (by omega) fun v23 k23 ho23 => JLq (pp b5 34) (Z5 rfl rfl) <| JLr (Ze 3 (vs := [v23]) (l := pkP kind num (rf ref) v23) Xa rfl rfl rfl (ZH ho23.one) rfl (Zf ho23.one Zo) (pkP_s34 ..) <| Zb <| Za <| JLn (Pu.inc rfl rfl (by omega)) <| JLM rfl <| Zb <| ⟨_, ?_, (j + 1), v23, (es ++ [cs21]), k23, (k2 ++ k21), rfl, rfl, rfl, rfl, rfl, rfl, (Sd (Sub.cons 2 rfl (Sub.cons 2 rfl (Sub.join (Sub.cons 2 rfl (Sk (Sd (Sk (Sk Sub.nil))))))))), ?_, ?_, ?_, rfl⟩))
  ·omega
  ·omega
  ·assumption
  rw [mapPs_take rf kids j h16n]; exact OPs.snoc hO21 hop
 replace h16 := df h16
 have h16n : kids.length ≤ j := by omega
 refine Zz _ rfl <| Zc <| Za <| JLr (Zh Z1 rfl (At.bx 0 rfl) (pkP_a ..) <| JLr (Ze 3 (vs := pkP kind num (rf ref) v) (l := pkP kind num (rf ref) v) Z1 rfl rfl rfl rfl rfl (pkP_ok ho.one) (pkP_s ..) <| Zb <| Zl <| ⟨.agg ⟨pkP kind num (rf ref) v⟩, [k1 ++ k2], Ret.one rfl (RV.cell Z1 rfl (At.bx 3 rfl) (pkP_a ..)), (Sub.join (Sd (Sk (Sk Sub.nil)))), ?_⟩))
 rw [List.take_of_length_le h16n] at hop
 exact ⟨_, _, rfl, rfl, by rw [mapP]; exact OP_mk.2 ⟨v, es, k1, k2, rfl, hk, hn, ho, hop, rfl, by rw [mapPs_len]; exact hks.le⟩⟩
end Go.Proofs.YtkjafeejpmcnkaaGreat.Hs
/-! Walks, printed by a program of this session's own (gen.py). -/
namespace Go.Proofs.YtkjafeejpmcnkaaGreat.Hs
open Go Go.Proofs
set_option maxRecDepth 100000
set_option linter.unusedVariables false
set_option linter.unusedSimpArgs false
attribute [local irreducible] JL J CT wlo DT
theorem ownPattern_ct : ∀ (p : Pt) (cs : List Value) (H : Heap), RP H cs p → sizeP p ≤ 1000000 → CT Tryz.prog 47 ⟨[.agg ⟨cs⟩]⟩ [] H (fun v N => ∃ cs k, v = .agg ⟨cs⟩ ∧ N = [k] ∧ OP p cs k) := by
 intro p
 induction p using Pt.ind with
 | h kind num ref kids ih =>
 intro cs H hp hz
 rw [sizeP] at hz
 have hlk := len_sizePs kids
 obtain ⟨ks, rfl, hk, hn, hks⟩ := RP_mk.1 hp
 refine Zm Tryz.func47 rfl rfl <| Zc <| Za <| JLr (Zq (l := pkP kind num ref ks) rfl rfl fun b1 => JLr (Zk (l := pkP 0 0 zS nS) Tryz.zeroValue81 rfl fun b2 => Zb <| Zc <| Za <| JLq (pp b1 34) (Z5 rfl rfl) <| JLr (Zd Xa rfl (At.bx 1 rfl) (Yf ..) <| JLa ks <| Zb <| Zc ?_)))
 refine Za <| JLq (pp b1 34) (Z5 rfl rfl) <| JLr (Ze 1 (vs := [nS]) (l := pkP kind num ref nS) Xa rfl rfl rfl rfl rfl (Zf rfl Zo) (pkP_s34 ..) <| Zb <| Zc <| Zc <| Za <| JLm ks ?_)
 obtain ⟨a3, cap3, hv3⟩ := hks.sl
 have hle3 := hks.le
 refine JLn (Pu.lenSl Tryz.runUnderlying79 hv3) <| JLM rfl <| Zb <| Zn <| ZB (fun k ρ M => ∃ (j : Nat) (v : Value) (es : List (List Value)) (k1 k2 : Zi), ρ 1 = pp b1 0 ∧ ρ 2 = pp b2 0 ∧ ρ 9 = ks ∧ ρ 10 = iv ((kids.length : Int)) ∧ ρ 11 = iv ((j : Int)) ∧ Sub [(BX b1 (pkP kind num ref v) 81), k1, k2, (BX b2 (pkP 0 0 zS nS) 81)] M ∧ j ≤ kids.length ∧ Own 81 35 v es k1 ∧ OPs ((kids.take j)) es k2 ∧ k = kids.length - j) _ ⟨0, nS, [], [], [], rfl, rfl, rfl, rfl, rfl, (Sub.cons 1 rfl (Sub.emp (Sub.emp (Sk Sub.nil)))), Nat.zero_le _, Own.nil, OPs.nil, rfl⟩ ?_
 rintro _ ρ4 _ ⟨j, v, es, k1, k2, e5, e6, e7, e8, e9, hm10, hj, hov, hopv, rfl⟩
 obtain ⟨ρ11, rfl⟩ := Zr (uc e5 (uc e6 (uc e7 (uc e8 (uc e9 un)))))
 clear e5 e6 e7 e8 e9
 refine ZG hm10 ?_
 have hlen := hks.le
 refine Zc <| Za <| JLn (Pu.lss rfl rfl) <| Zb <| Zc <| Zg rfl (fun h12 => ?_) (fun h12 => ?_)
 ·replace h12 := dt h12
  have h12n : j < kids.length := by omega
  have helv := OPs_len hopv
  rw [List.length_take] at helv
  have hs1 := sizePs_mem _ (List.getElem_mem h12n)
  refine Zj <| Zc <| Zn <| Zc <| Za ?_
  obtain ⟨b13, o13, cap13, row13, T13, fr13, cs13, hv13, hb13, hs13, hE13⟩ := hks.get j (by first | assumption | omega | decide | simp)
  refine JLq (pp b13 (o13 + j * 35)) (Pu.idx j Tryz.runUnderlying79 Z1 hv13 rfl rfl (by first | assumption | omega | decide | simp)) <| JLr (Zh Z1 rfl (At.im hb13) hs13 <| JLr (Zk (l := pkP 0 0 zS nS) Tryz.zeroValue81 rfl fun b14 => JLr (Ze 0 (vs := cs13) (l := cs13) Z1 rfl rfl rfl rfl (ZC hE13) (RP_ok hE13) (ZK (n := 35) rfl (ZC hE13)) <| Zb <| ZJ mixed #[0, 1, 0, 4, 12, 31, 63, 127] 5 [some 15, some 16, some 17, some 18, some 19] [] [(3, fun _ _ vw qw => ∃ cs k, vw = .agg ⟨cs⟩ ∧ qw = [k] ∧ OP (kids[j]) cs k), (4, fun r _ vw qw => ∃ b k, vw = .slice (some ⟨b, 0, none⟩) 1 1 ∧ qw = [k] ∧ Own 81 35 (.slice (some ⟨b, 0, none⟩) 1 1) [(cel (r 3))] k ∧ k = (BX b (List.flatten [(cel (r 3))]) 81))] rfl (by kernel_rfl) rfl (by kernel_rfl) <| Dq (pp b1 34) (fun _ => Z5 rfl rfl) <| Dl1 Xa (At.bx 1 rfl) (Yf ..) <| Dl Z1 (At.bx 0 rfl) (Zs (ZC hE13)) ?_)))
  refine Dc rfl Tryz.call47 (fun _ => rfl) (fun hin => ih _ (List.getElem_mem h12n) _ _ (RP.mono (Hle.hu _ _) hE13) (by omega)) ?_
  rintro _ _ ⟨cs17, k17, rfl, rfl, hO17⟩
  refine Dr rfl (fun _ => Zp (vs := [.agg ⟨cs17⟩]) [cs17] Tryz.runUnderlying79 el81 rfl rfl (by intro e he; simp only [List.mem_cons, List.not_mem_nil, or_false] at he; subst he; exact hO17.len) rfl (by decide) fun b k h1 h2 => ⟨[k], by rw [ZN rfl]; exact Sub.refl, b, k, rfl, rfl, h1, h2⟩) (fun _ _ ⟨b18, k18, e1, e2, ho18, hk18⟩ => ?_); subst e1 e2
  refine ZV (M' := [k18, k17, (BX b14 cs13 81), (BX b1 (pkP kind num ref v) 81), k1, k2, (BX b2 (pkP 0 0 zS nS) 81)]) rfl ?_
  show JL _ _ _ [_, _, _] _ _ _
  have hlens19 : ∀ e ∈ ([cs17] : List (List Value)), List.length e = 35 := by
   intro e he; simp only [List.mem_cons, List.not_mem_nil, or_false] at he
   rcases he with rfl
   ·exact hO17.len
  have hoks19 : ∀ e ∈ ([cs17] : List (List Value)), okc e := by
   intro e he; simp only [List.mem_cons, List.not_mem_nil, or_false] at he
   rcases he with rfl
   ·exact hO17.ok
  refine JLr (Zx (i := 4) (n := 1) (es' := [cs17]) Tryz.runUnderlying79 Tryz.runUnderlying79 (Or.inl rfl) el81 rfl rfl rfl hov (fun F w m => Src.row (((At.k 0 rfl (by rw [hk18]; exact List.mem_cons_self))).heap m) (Zs (Zw hlens19))) rfl hlens19 hoks19 (by decide) (by omega) fun v19 k19 ho19 => JLq (pp b1 34) (Z5 rfl rfl) <| JLr (Ze 3 (vs := [v19]) (l := pkP kind num ref v19) Xa rfl rfl rfl (ZH ho19.one) rfl (Zf ho19.one Zo) (pkP_s34 ..) <| Zb <| Za <| JLn (Pu.inc rfl rfl (by omega)) <| JLM rfl <| Zb <| ⟨_, ?_, (j + 1), v19, (es ++ [cs17]), k19, (k2 ++ k17), rfl, rfl, rfl, rfl, rfl, (Sd (Sub.cons 2 rfl (Sub.cons 2 rfl (Sub.join (Sub.cons 2 rfl (Sk (Sd (Sk Sub.nil)))))))), ?_, ?_, ?_, rfl⟩))
  ·omega
  ·omega
  ·assumption
  rw [List.take_succ_eq_append_getElem h12n]; exact OPs.snoc hO17 hopv
 replace h12 := df h12
 have h12n : kids.length ≤ j := by omega
 refine Zz _ rfl <| Zc <| Za <| JLr (Zh Z1 rfl (At.bx 0 rfl) (pkP_a ..) <| JLr (Ze 3 (vs := pkP kind num ref v) (l := pkP kind num ref v) Z1 rfl rfl rfl rfl rfl (pkP_ok hov.one) (pkP_s ..) <| Zb <| Zl <| ⟨.agg ⟨pkP kind num ref v⟩, [k1 ++ k2], Ret.one rfl (RV.cell Z1 rfl (At.bx 3 rfl) (pkP_a ..)), (Sub.join (Sd (Sk (Sk Sub.nil)))), ?_⟩))
 rw [List.take_of_length_le h12n] at hopv
 exact ⟨_, _, rfl, rfl, OP_mk.2 ⟨v, es, k1, k2, rfl, hk, hn, hov, hopv, rfl, hks.le⟩⟩
end Go.Proofs.YtkjafeejpmcnkaaGreat.Hs
/-! Walks, printed by a program of this session's own (gen.py). -/
namespace Go.Proofs.YtkjafeejpmcnkaaGreat.Hs
open Go Go.Proofs
set_option maxRecDepth 100000
set_option linter.unusedVariables false
set_option linter.unusedSimpArgs false
attribute [local irreducible] JL J CT wlo DT
set_option maxHeartbeats 1000000 in
theorem mapTerm_ct : ∀ (gr : Nat) (frs crs : List Value) (hcallr : ∀ args w, (callFunc gr args).run Tryz.prog w = .ok (.enter gr args) w) (rf : Sm → Sm) (gv : Nat) (fvs cvs : List Value) (hcallv : ∀ args w, (callFunc gv args).run Tryz.prog w = .ok (.enter gv args) w) (σ : Type) (Sc : σ → Zi) (Inv : σ → Prop) (vf : Int → Int → σ → Tm × σ) (hI : ∀ n b s, Inv s → Inv (vf n b s).2) (t : Tm) (b : Int) (s : σ) (cs : List Value) (H : Heap), RT H cs t → sizeT t ≤ 1000000 → vOK t → 0 ≤ b → b + 2 * sizeT t ≤ 2000000 → Inv s → (∀ s h, Hle H h → CT Tryz.prog gr ⟨frs ++ [.agg ⟨sC s⟩] ++ crs⟩ [] h (fun v N => v = .agg ⟨sC (rf s)⟩ ∧ N = [])) → (∀ (n b : Int) (s : σ) (h : Heap), Hle H h → Inv s → 0 ≤ n → n ≤ 2000000 → 0 ≤ b → b ≤ 2000000 → CT Tryz.prog gv ⟨fvs ++ [iv n, iv b] ++ cvs⟩ [Sc s] h (fun v N => ∃ cs k, v = .agg ⟨cs⟩ ∧ N = [k, Sc (vf n b s).2] ∧ OT (vf n b s).1 cs k)) → CT Tryz.prog 71 ⟨[.agg ⟨[.func (.func gv) ⟨fvs⟩ ⟨cvs⟩, .func (.func gr) ⟨frs⟩ ⟨crs⟩]⟩, .agg ⟨cs⟩, iv b]⟩ [Sc s] H (fun v N => ∃ cs k, v = .agg ⟨cs⟩ ∧ N = [k, Sc (Xc rf vf b t s).2] ∧ OT (Xc rf vf b t s).1 cs k) := by
 intro gr frs crs hcallr rf gv fvs cvs hcallv σ Sc Inv vf hI t
 induction t using Tm.ind with
 | h kind num ref kids cases ih ih' =>
 intro b s cs H ht hz hv hb0 hb hs hgr hgv
 rw [sizeT] at hz hb
 rw [vOK] at hv
 have hv1 : ¬ kind = 1 ∨ (0 ≤ num ∧ num ≤ 2000000) := by by_cases h : kind = 1; exact .inr (hv.1 h); exact .inl h
 have hlk := len_sizeTs kids
 have hlc := len_sizeCs cases
 obtain ⟨ks, cv, rfl, hk, hn, hks, hcv⟩ := RT_mk.1 ht
 have hn1 : -9223372036854775808 ≤ num := hn.1
 have hn2 : num ≤ 9223372036854775807 := hn.2
 refine Zm Tryz.func71 rfl rfl <| Zc <| Za <| JLr (Zq (l := [.func (.func gv) ⟨fvs⟩ ⟨cvs⟩, .func (.func gr) ⟨frs⟩ ⟨crs⟩]) rfl rfl fun b1 => JLr (Zq (l := pkT kind num ref ks cv) rfl rfl fun b2 => JLr (Zk (l := pkT 0 0 zS nS nS) Tryz.zeroValue30 rfl fun b3 => Zb <| Zc <| Zc <| Za <| JLq (pp b2 0) (ZI rfl rfl) <| JLr (Zd ty3 rfl (At.bx 1 rfl) (ZZ ..) <| JLn (Pu.eql rfl rfl) ?_))))
 refine JLM rfl <| Zv 4 [16, 17, 18, 19] [(19, cond (decide (kind = 1)) (.bool (decide (b ≤ num))) undef)] ?_ fun f5 => ?_
 ·cases h4 : (decide (kind = 1)) with
  | true =>
   replace h4 := dt h4
   refine JLq (pp b2 1) (Z9 rfl rfl) <| JLr (Zd ty3 rfl (At.bx 1 rfl) (Yt ..) <| JLM rfl <| JLn (Pu.geq rfl rfl) ?_)
   exact Zb ⟨⟨rfl, trivial⟩, rfl⟩
  | false =>
   exact Zy rfl ⟨rfl, trivial⟩
 refine JLn (Pu.pickAnd rfl rfl rfl) <| Zb <| Zg rfl (fun h6 => ?_) (fun h6 => ?_)
 ·obtain ⟨h6a, h6b⟩ := YC h6
  replace h6a := dt h6a
  replace h6b := dt h6b
  refine Zc <| Za <| JLq (pp b1 0) (fa118_0 rfl rfl) <| JLr (Zd ty115 rfl (At.bx 2 rfl) rfl <| JLq (pp b2 1) (Z9 rfl rfl) <| JLr (Zd ty3 rfl (At.bx 1 rfl) (Yt ..) <| JLM rfl <| JLn (Pu.sub64 rfl rfl (by first | omega | (constructor <;> omega))) <| JLM rfl <| ZA 3 rfl hcallv rfl rfl (fun hin => hgv _ _ _ _ (Hle.hu _ _) hs (by omega) (by omega) (by omega) (by omega)) rfl ?_))
  rintro _ _ ⟨cs7, k7, rfl, rfl, hO7⟩
  refine JLr (Ze 2 (vs := cs7) (l := cs7) Zt rfl rfl rfl rfl hO7.len hO7.ok (ZK (n := 36) rfl hO7.len) <| Zb <| Zl <| ⟨.agg ⟨cs7⟩, [k7, Sc ((vf (num - b) b s).2)], Ret.one rfl (RV.cell Zt rfl (At.bx 2 rfl) (Zs hO7.len)), (Sk (Sk Sub.nil)), ?_⟩)
  have hx : kind = 1 ∧ b ≤ num := ⟨h6a, h6b⟩
  exact ⟨_, _, rfl, by rw [Xc, if_pos hx], by rw [Xc, if_pos hx]; exact hO7⟩
 refine Zj <| Zc <| ZJ mixed #[0, 1, 0, 4, 0, 16, 0, 64, 240, 511, 0, 2047] 11 [some 29, some 30, some 31, some 32, some 33, some 34, some 35, some 36, some 37, some 38, some 7] [] [(8, fun _ _ vw qw => vw = .agg ⟨sC (rf ref)⟩ ∧ qw = []), (10, newP 30 (pkT 0 0 zS nS nS))] rfl (by kernel_rfl) rfl (by kernel_rfl) <| Dq (pp b2 0) (fun _ => ZI rfl rfl) <| Dl1 ty3 (At.bx 1 rfl) (ZZ ..) <| Dq (pp b2 1) (fun _ => Z9 rfl rfl) <| Dl1 ty3 (At.bx 1 rfl) (Yt ..) <| Dq (pp b1 1) (fun _ => fa118_1 rfl rfl) <| Dl1 ty116 (At.bx 2 rfl) rfl <| Dq (pp b2 2) (fun _ => fa30_2 rfl rfl) <| Dl YM (At.bx 1 rfl) (pkT_2 ..) <| Dc rfl hcallr (fun _ => rfl) (fun hin => hgr _ _ (Hle.hu _ _)) ?_
 rintro _ _ ⟨rfl, rfl⟩
 refine Dq (.agg ⟨pkT kind num (rf ref) nS nS⟩) (fun _ => Pu.build (pv := [(0, iv kind), (1, iv num), (2, .agg ⟨sC (rf ref)⟩)]) (l := pkT kind num (rf ref) nS nS) rfl (bld30_0_1_2 _ _ _)) <| Da Tryz.zeroValue30 rfl fun b9 => ZV (M' := [(BX b9 (pkT 0 0 zS nS nS) 30), (BX b3 (pkT 0 0 zS nS nS) 30), (BX b2 (pkT kind num ref ks cv) 30), (BX b1 [.func (.func gv) ⟨fvs⟩ ⟨cvs⟩, .func (.func gr) ⟨frs⟩ ⟨crs⟩] 118), Sc s]) rfl ?_
 show JL _ _ _ [_] _ _ _
 refine JLr (Ze 0 (vs := pkT kind num (rf ref) nS nS) (l := pkT kind num (rf ref) nS nS) Zt rfl rfl rfl rfl rfl (ZS rfl rfl) (YU ..) <| Zb <| Zc <| Za <| JLq (pp b2 34) (Z3 rfl rfl) <| JLr (Zd Y0 rfl (At.bx 2 rfl) (Z4 ..) ?_))
 obtain ⟨a10, cap10, hv10⟩ := hks.sl
 have hle10 := hks.le
 refine JLn (Pu.lenSl Tryz.runUnderlying27 hv10) <| JLr (Runs_makeO (kids.length) Tryz.runUnderlying27 el30 rfl rfl rfl rfl (by omega) (by omega) fun v11 k11 ho11 => JLq (pp b9 34) (Z3 rfl rfl) <| JLr (Ze 1 (vs := [v11]) (l := pkT kind num (rf ref) v11 nS) Y0 rfl rfl rfl (ZH ho11.one) rfl (Zf ho11.one Zo) (pkT_s34 ..) <| Zb <| Zc <| Za <| JLq (pp b9 34) (Z3 rfl rfl) <| JLr (Zd Y0 rfl (At.bx 1 rfl) (Z4 ..) <| JLq (pp b2 34) (Z3 rfl rfl) <| JLr (Zd Y0 rfl (At.bx 3 rfl) (Z4 ..) ?_))))
 obtain ⟨es12, he12, hH12, hl12, hok12, hsr12⟩ := kids_src (P := Tryz.prog) hks
 refine JLr (Runs_copy (i := 0) (n := kids.length) (m := kids.length) (es' := es12) Tryz.runUnderlying27 el30 rfl rfl rfl ho11 (fun F w m => hsr12 w _ m) he12 (by simp) hl12 hok12 rfl fun kc12 hc12 => Zb <| Zc <| Zc <| Za <| JLq (pp b9 34) (Z3 rfl rfl) <| JLr (Zd Y0 rfl (At.bx 1 rfl) (Z4 ..) ?_))
 obtain ⟨a13, cap13, hv13⟩ := hc12.sl
 rw [he12] at hv13
 refine JLn (Pu.lenSl Tryz.runUnderlying27 hv13) <| JLM rfl <| Zb <| Zn ?_
 have hneg : ¬ (kind = 1 ∧ b ≤ num) := by intro hh; simp [hh.1, hh.2] at h6
 refine ZB (fun k ρ M => ∃ (j : Nat) (es : List (List Value)) (k1 k2 : Zi) (s1 : σ), ρ 2 = iv b ∧ ρ 3 = pp b1 0 ∧ ρ 4 = pp b2 0 ∧ ρ 6 = pp b3 0 ∧ ρ 7 = pp b9 0 ∧ ρ 50 = v11 ∧ ρ 51 = iv ((kids.length : Int)) ∧ ρ 52 = iv ((j : Int)) ∧ Sub [(BX b9 (pkT kind num (rf ref) v11 nS) 30), k1, k2, Sc s1, (BX b3 (pkT 0 0 zS nS nS) 30), (BX b2 (pkT kind num ref ks cv) 30), (BX b1 [.func (.func gv) ⟨fvs⟩ ⟨cvs⟩, .func (.func gr) ⟨frs⟩ ⟨crs⟩] 118)] M ∧ j ≤ kids.length ∧ Own 30 36 v11 es k1 ∧ Half H kids (Y9 rf vf b kind 0 (kids.take j) s).1 j es k2 ∧ Inv s1 ∧ (Y9 rf vf b kind 0 (kids.take j) s).2 = s1 ∧ k = kids.length - j) _ ⟨0, es12, kc12, [], s, rfl, rfl, rfl, rfl, rfl, rfl, rfl, rfl, (Sub.cons 1 rfl (Sk (Sub.emp (Sub.cons 3 rfl (Sk (Sk (Sk Sub.nil))))))), Nat.zero_le _, hc12, hH12, hs, rfl, rfl⟩ ?_
 rintro _ ρ14 _ ⟨j, es, k1, k2, s1, e15, e16, e17, e18, e19, e20, e21, e22, hm23, hj, ho, hH, hs1, hsq, rfl⟩
 obtain ⟨ρ24, rfl⟩ := Zr (uc e15 (uc e16 (uc e17 (uc e18 (uc e19 (uc e20 (uc e21 (uc e22 un))))))))
 clear e15 e16 e17 e18 e19 e20 e21 e22
 refine ZG hm23 <| Zc <| Za <| JLn (Pu.lss rfl rfl) <| Zb <| Zc <| Zg rfl (fun h25 => ?_) (fun h25 => ?_)
 ·replace h25 := dt h25
  have h25n : j < kids.length := by omega
  have hz1 := Y4 _ (List.getElem_mem h25n)
  have hm1 := more_le kind j
  refine Zj <| Zc <| Zn <| Zc <| Za <| JLM rfl ?_
  obtain ⟨b26, cap26, row26, e26, hv26, hm26, hs26, hE26⟩ := hH.at ho h25n
  refine JLq (pp b26 (0 + j * 36)) (Pu.idx j Tryz.runUnderlying27 Zt hv26 rfl rfl (by rw [hH.1]; exact h25n)) <| JLr (Zh Zt rfl (At.k 1 rfl hm26) hs26 <| JLr (Zk (l := pkT 0 0 zS nS nS) Tryz.zeroValue30 rfl fun b27 => JLA rfl <| JLr (Ze 0 (vs := e26) (l := e26) Zt rfl rfl rfl rfl (Zu hE26) (XG hE26) (ZK (n := 36) rfl (Zu hE26)) <| Zb <| ZJ mixed #[0, 1, 0, 0, 0, 0, 0, 64, 0, 448, 992, 2040, 4095, 8191] 12 [some 57, some 58, some 59, some 60, some 61, some 62, some 63, some 64, some 65, some 66, some 67, some 68] [(11, 16)] [(9, fun _ _ vw qw => vw = iv (Z8 kind ((j : Int))) ∧ qw = []), (11, fun _ _ vw qw => ∃ cs k, vw = .agg ⟨cs⟩ ∧ qw = [k, Sc ((Xc rf vf (b + (Z8 kind ((j : Int)))) (kids[j]) s1).2)] ∧ OT ((Xc rf vf (b + (Z8 kind ((j : Int)))) (kids[j]) s1).1) cs k)] rfl (by kernel_rfl) rfl (by kernel_rfl) <| Dq (pp b9 34) (fun _ => Z3 rfl rfl) <| Dl1 Y0 (At.bx 1 rfl) (Z4 ..) <| DM (fun _ => rfl) <| Dl ty118 (At.bx 7 rfl) rfl <| Dl Zt (At.bx 0 rfl) (Zs (Zu hE26)) <| DM (fun _ => rfl) ?_)))
  refine Dq (pp b2 0) (fun _ => ZI rfl rfl) <| Dl1 ty3 (At.bx 6 rfl) (ZZ ..) <| DM (fun _ => rfl) <| Dc rfl Tryz.call105 (fun _ => rfl) (fun hin => more_ct _ _ _) ?_
  rintro _ _ ⟨rfl, rfl⟩
  refine Dn (fun _ => Pu.add64 rfl rfl (by first | omega | (constructor <;> omega))) ?_
  refine XK 4 rfl rfl (fun _ => rfl) Tryz.call71 (fun _ => rfl) rfl (fun hin => ih _ (List.getElem_mem h25n) _ _ _ _ (RT.mono (Hle.hu _ _) hE26) (by omega) (vOKs_mem hv.2.1 _ (List.getElem_mem h25n)) (by omega) (by omega) hs1 (fun s h hh => hgr s h (Hle.trans (Hle.hu _ _) hh)) (fun n b s h hh => hgv n b s h (Hle.trans (Hle.hu _ _) hh))) (fun _ => rfl) ?_
  rintro _ _ ⟨cs29, k29, rfl, rfl, hO29⟩
  refine ZV (M' := [k29, Sc ((Xc rf vf (b + (Z8 kind ((j : Int)))) (kids[j]) s1).2), (BX b27 e26 30), (BX b9 (pkT kind num (rf ref) v11 nS) 30), k1, k2, (BX b3 (pkT 0 0 zS nS nS) 30), (BX b2 (pkT kind num ref ks cv) 30), (BX b1 [.func (.func gv) ⟨fvs⟩ ⟨cvs⟩, .func (.func gr) ⟨frs⟩ ⟨crs⟩] 118)]) rfl ?_
  show JL _ _ _ [_, _] _ _ _
  obtain ⟨b30, cap30, row30, e30, hv30, hm30, hs30, hE30⟩ := hH.at ho h25n
  refine JLq (pp b30 (0 + j * 36)) (Pu.idx j Tryz.runUnderlying27 Zt hv30 rfl rfl (by rw [hH.1]; exact h25n)) <| JLr (Xo (i := 4) (j := j) (b := b30) Zt rfl ho ⟨_, _, hv30⟩ rfl (by rw [hH.1]; exact h25n) rfl rfl hO29.len hO29.ok fun k31 ho31 => Zb <| Za <| JLn (Pu.inc rfl rfl (by omega)) <| JLM rfl <| Zb <| ⟨_, ?_, (j + 1), (es.set j cs29), k31, (k2 ++ k29), ((Xc rf vf (b + (Z8 kind ((j : Int)))) (kids[j]) s1).2), rfl, rfl, rfl, rfl, rfl, rfl, rfl, rfl, (Sub.cons 3 rfl (Sub.cons 3 rfl (Sub.join (Sub.cons 3 rfl (Sk (Sk (Sd (Sk (Sk (Sk Sub.nil)))))))))), ?_, ?_, ?_, ?_, ?_, rfl⟩)
  ·omega
  ·omega
  ·exact ho31
  ·rw [mapTs_take0 rf vf b kind kids j s h25n, hsq]; exact hH.step h25n hO29
  ·exact mapT_inv hI _ _ _ hs1
  rw [mapTs_take0 rf vf b kind kids j s h25n, hsq]
 replace h25 := df h25
 have h25n : kids.length ≤ j := by omega
 refine Zz _ rfl <| Zc <| Zc <| Za <| JLq (pp b2 35) (ZR rfl rfl) <| JLr (Zd YA rfl (At.bx 5 rfl) (ZT ..) ?_)
 obtain ⟨a32, cap32, hv32⟩ := hcv.sl
 have hle32 := hcv.le
 refine JLn (Pu.lenSl Tryz.runUnderlying28 hv32) <| JLM rfl <| Zb <| Zn ?_
 have hjk := h25n
 rw [List.take_of_length_le hjk] at hsq hH
 refine ZB (fun k ρ M => ∃ (j : Nat) (w : Value) (es2 : List (List Value)) (k3 k4 : Zi) (s2 : σ), ρ 2 = iv b ∧ ρ 3 = pp b1 0 ∧ ρ 6 = pp b3 0 ∧ ρ 7 = pp b9 0 ∧ ρ 72 = cv ∧ ρ 73 = iv ((cases.length : Int)) ∧ ρ 74 = iv ((j : Int)) ∧ Sub [(BX b9 (pkT kind num (rf ref) v11 w) 30), k3, k4, Sc s2, k1, k2, (BX b3 (pkT 0 0 zS nS nS) 30), (BX b2 (pkT kind num ref ks cv) 30), (BX b1 [.func (.func gv) ⟨fvs⟩ ⟨cvs⟩, .func (.func gr) ⟨frs⟩ ⟨crs⟩] 118)] M ∧ j ≤ cases.length ∧ Own 86 71 w es2 k3 ∧ OCs (mapCs rf vf b (cases.take j) s1).1 es2 k4 ∧ Inv s2 ∧ (mapCs rf vf b (cases.take j) s1).2 = s2 ∧ k = cases.length - j) _ ⟨0, nS, [], [], [], s1, rfl, rfl, rfl, rfl, rfl, rfl, rfl, (Sk (Sub.emp (Sub.emp (Sub.cons 2 rfl (Sk (Sk (Sk (Sk (Sk Sub.nil))))))))), Nat.zero_le _, Own.nil, OCs.nil, hs1, rfl, rfl⟩ ?_
 rintro _ ρ33 _ ⟨j, w, es2, k3, k4, s2, e34, e35, e36, e37, e38, e39, e40, hm41, hj, how, hopw, hs2, hsq2, rfl⟩
 obtain ⟨ρ42, rfl⟩ := Zr (uc e34 (uc e35 (uc e36 (uc e37 (uc e38 (uc e39 (uc e40 un)))))))
 clear e34 e35 e36 e37 e38 e39 e40
 refine ZG hm41 <| Zc <| Za <| JLn (Pu.lss rfl rfl) <| Zb <| Zc <| Zg rfl (fun h43 => ?_) (fun h43 => ?_)
 ·replace h43 := dt h43
  have h43n : j < cases.length := by omega
  have helw := OCs_len hopw
  rw [mapCs_len, List.length_take] at helw
  have hz1 := YN _ (List.getElem_mem h43n)
  have hm1 := binds_le (cases[j]).1
  refine Zj <| Zc <| Zn <| Zc <| Za ?_
  obtain ⟨b44, o44, cap44, row44, T44, fr44, cs44, hv44, hb44, hs44, hE44⟩ := hcv.get j (by first | assumption | omega | decide | simp)
  obtain ⟨ca44, cb44, rfl, hA44, hB44⟩ := hE44
  refine JLq (pp b44 (o44 + j * 71)) (Pu.idx j Tryz.runUnderlying28 YV hv44 rfl rfl (by first | assumption | omega | decide | simp)) <| JLr (Zh YV rfl (At.im hb44) hs44 <| JLr (Zk (l := (pkP 0 0 zS nS) ++ (pkT 0 0 zS nS nS)) Tryz.zeroValue86 rfl fun b45 => JLr (Ze 0 (vs := ca44 ++ cb44) (l := ca44 ++ cb44) YV rfl rfl rfl rfl (Z6 (ZC hA44) (Zu hB44)) (Yg (RP_ok hA44) (XG hB44)) (ZK (n := 71) rfl (Z6 (ZC hA44) (Zu hB44))) <| Zb <| ZJ mixed #[0, 1, 0, 0, 8, 28, 0, 0, 128, 0, 0, 1024, 3132, 7740, 16380, 32764, 65532, 131071, 262143, 524287] 17 [some 78, some 79, some 80, some 81, some 82, some 83, some 84, some 85, some 86, some 87, some 88, some 89, some 90, some 91, some 92, some 93, some 94] [(14, 21)] [(5, fun _ _ vw qw => ∃ cs k, vw = .agg ⟨cs⟩ ∧ qw = [k] ∧ OP (mapP rf (cases[j].1)) cs k), (12, fun _ _ vw qw => vw = iv ((binds (cases[j].1) : Int)) ∧ qw = []), (14, fun _ _ vw qw => ∃ cs k, vw = .agg ⟨cs⟩ ∧ qw = [k, Sc ((Xc rf vf (b + ((binds (cases[j].1) : Int))) (cases[j].2) s2).2)] ∧ OT ((Xc rf vf (b + ((binds (cases[j].1) : Int))) (cases[j].2) s2).1) cs k), (16, fun r _ vw qw => ∃ b k, vw = .slice (some ⟨b, 0, none⟩) 1 1 ∧ qw = [k] ∧ Own 86 71 (.slice (some ⟨b, 0, none⟩) 1 1) [((cel (r 5))) ++ ((cel (r 14)))] k ∧ k = (BX b (List.flatten [((cel (r 5))) ++ ((cel (r 14)))]) 86))] rfl (by kernel_rfl) rfl (by kernel_rfl) <| Dq (pp b9 35) (fun _ => ZR rfl rfl) <| Dl1 YA (At.bx 1 rfl) (ZT ..) <| Dl ty118 (At.bx 9 rfl) rfl <| Dq (pp b45 0) (fun _ => Xi rfl rfl) <| Dl Z1 (At.bx 0 rfl) (sub_l (ZC hA44)) ?_)))
  refine Dc rfl Tryz.call106 (fun _ => rfl) (fun hin => mapPattern_ct gr frs crs hcallr rf _ rfl _ _ _ (RP.mono (Hle.hu _ _) hA44) (fun s h hh => hgr s h (Hle.trans (Hle.hu _ _) hh)) (by omega)) ?_
  rintro _ _ ⟨cs49, k49, rfl, rfl, hO49⟩
  refine Dl ty118 (At.bx 9 rfl) rfl <| Dq (pp b45 35) (fun _ => fa86_1 rfl rfl) <| Dl Zt (At.bx 0 rfl) (sub_r (ZC hA44) (Zu hB44)) <| DM (fun _ => rfl) <| Dq (pp b45 0) (fun _ => Xi rfl rfl) <| Dl Z1 (At.bx 0 rfl) (sub_l (ZC hA44)) ?_
  refine Dc rfl Tryz.call107 (fun _ => rfl) (fun hin => binds_ct _ _ _ (RP.mono (Hle.hu _ _) hA44) (by omega)) ?_
  rintro _ _ ⟨rfl, rfl⟩
  refine Dn (fun _ => Pu.add64 rfl rfl (by first | omega | (constructor <;> omega))) ?_
  refine XK 5 rfl rfl (fun _ => rfl) Tryz.call71 (fun _ => rfl) rfl (fun hin => ih' _ (List.getElem_mem h43n) _ _ _ _ (RT.mono (Hle.hu _ _) hB44) (by omega) (vOKc_mem hv.2.2 _ (List.getElem_mem h43n)) (by omega) (by omega) hs2 (fun s h hh => hgr s h (Hle.trans (Hle.hu _ _) hh)) (fun n b s h hh => hgv n b s h (Hle.trans (Hle.hu _ _) hh))) (fun _ => rfl) ?_
  rintro _ _ ⟨cs50, k50, rfl, rfl, hO50⟩
  refine Dq (.agg ⟨cs49 ++ cs50⟩) (fun _ => Pu.build (pv := [(0, .agg ⟨cs49⟩), (1, .agg ⟨cs50⟩)]) (l := cs49 ++ cs50) rfl (bld86_0_1 hO49.len hO50.len)) <| Dr rfl (fun _ => Zp (vs := [.agg ⟨cs49 ++ cs50⟩]) [cs49 ++ cs50] Tryz.runUnderlying28 el86 rfl rfl (by intro e he; simp only [List.mem_cons, List.not_mem_nil, or_false] at he; subst he; exact (Z6 hO49.len hO50.len)) rfl (by decide) fun b k h1 h2 => ⟨[k], by rw [ZN rfl]; exact Sub.refl, b, k, rfl, rfl, h1, h2⟩) (fun _ _ ⟨b51, k51, e1, e2, ho51, hk51⟩ => ?_); subst e1 e2
  refine ZV (M' := [k51, k50, Sc ((Xc rf vf (b + ((binds (cases[j].1) : Int))) (cases[j].2) s2).2), k49, (BX b45 (ca44 ++ cb44) 86), (BX b9 (pkT kind num (rf ref) v11 w) 30), k3, k4, k1, k2, (BX b3 (pkT 0 0 zS nS nS) 30), (BX b2 (pkT kind num ref ks cv) 30), (BX b1 [.func (.func gv) ⟨fvs⟩ ⟨cvs⟩, .func (.func gr) ⟨frs⟩ ⟨crs⟩] 118)]) rfl ?_
  show JL _ _ _ [_, _, _] _ _ _
  have hlens52 : ∀ e ∈ ([cs49 ++ cs50] : List (List Value)), List.length e = 71 := by
   intro e he; simp only [List.mem_cons, List.not_mem_nil, or_false] at he
   rcases he with rfl
   ·exact (Z6 hO49.len hO50.len)
  have hoks52 : ∀ e ∈ ([cs49 ++ cs50] : List (List Value)), okc e := by
   intro e he; simp only [List.mem_cons, List.not_mem_nil, or_false] at he
   rcases he with rfl
   ·exact (Yg hO49.ok hO50.ok)
  refine JLr (Zx (i := 6) (n := 1) (es' := [cs49 ++ cs50]) Tryz.runUnderlying28 Tryz.runUnderlying28 (Or.inl rfl) el86 rfl rfl rfl how (fun F w m => Src.row (((At.k 0 rfl (by rw [hk51]; exact List.mem_cons_self))).heap m) (Zs (Zw hlens52))) rfl hlens52 hoks52 (by decide) (by omega) fun v52 k52 ho52 => JLq (pp b9 35) (ZR rfl rfl) <| JLr (Ze 5 (vs := [v52]) (l := pkT kind num (rf ref) v11 v52) YA rfl rfl rfl (ZH ho52.one) rfl (Zf ho52.one Zo) (pkT_s35 ..) <| Zb <| Za <| JLn (Pu.inc rfl rfl (by omega)) <| JLM rfl <| Zb <| ⟨_, ?_, (j + 1), v52, (es2 ++ [cs49 ++ cs50]), k52, (k4 ++ (k49 ++ k50)), ((Xc rf vf (b + ((binds (cases[j].1) : Int))) (cases[j].2) s2).2), rfl, rfl, rfl, rfl, rfl, rfl, rfl, (Sd (Sub.cons 4 rfl (Sub.cons 4 rfl (Sub.join3 (Sub.cons 4 rfl (Sub.cons 2 rfl (Sk (Sk (Sd (Sk (Sk (Sk (Sk (Sk Sub.nil)))))))))))))), ?_, ?_, ?_, ?_, ?_, rfl⟩))
  ·omega
  ·omega
  ·exact ho52
  ·rw [mapCs_take rf vf b cases j s1 h43n, hsq2]; exact OCs.snoc hO49 hO50 hopw
  ·exact mapT_inv hI _ _ _ hs2
  rw [mapCs_take rf vf b cases j s1 h43n, hsq2]
 replace h43 := df h43
 have h43n : cases.length ≤ j := by omega
 refine Zz _ rfl <| Zc <| Za <| JLr (Zh Zt rfl (At.bx 0 rfl) (Yz ..) <| JLr (Ze 6 (vs := pkT kind num (rf ref) v11 w) (l := pkT kind num (rf ref) v11 w) Zt rfl rfl rfl rfl rfl (ZS ho.one how.one) (YU ..) <| Zb <| Zl <| ⟨.agg ⟨pkT kind num (rf ref) v11 w⟩, [k1 ++ (k2 ++ (k3 ++ k4)), Sc s2], Ret.one rfl (RV.cell Zt rfl (At.bx 6 rfl) (Yz ..)), (Sub.join4 (Sd (Sub.cons 3 rfl (Sub.cons 3 rfl (Sk (Sk (Sk Sub.nil))))))), ?_⟩))
 rw [List.take_of_length_le h43n] at hopw hsq2
 exact ⟨_, _, rfl, by rw [Xc, if_neg hneg, hsq, hsq2], by rw [Xc, if_neg hneg, hsq]; exact OT_mk.2 ⟨_, w, es, es2, k1, k2, k3, k4, rfl, hk, hn, ho, hH.done hjk, how, hopw, rfl, by rw [mapTs_len]; exact hks.le, by rw [mapCs_len]; exact hcv.le⟩⟩
end Go.Proofs.YtkjafeejpmcnkaaGreat.Hs
