import Derived.Test.YtkjafeejpmcnkaaGreatDecodesh
import Derived.Laws.RangeString
/-! Strings: rows of them, ranges over them, names of one letter. -/
namespace Go.Proofs.YtkjafeejpmcnkaaGreat.Hs
open Go
/-- the name of one letter -/
def ltr (i : Nat) : ByteArray := ⟨#[UInt8.ofNat (97 + i)]⟩
def Yy (l : List ByteArray) : List (List Value) := l.map fun n => [.string n]
theorem YS (l : List ByteArray) : (Yy l).length = l.length := by simp [Yy]
theorem strs_snoc (l : List ByteArray) (n : ByteArray) : Yy (l ++ [n]) = Yy l ++ [[.string n]] := by simp [Yy]
theorem strs_app (l m : List ByteArray) : Yy (l ++ m) = Yy l ++ Yy m := by simp [Yy]
theorem strs_get (l : List ByteArray) (j : Nat) (h : j < l.length) : (Yy l)[j]'(by rw [YS]; exact h) = [.string l[j]] := by simp [Yy]
theorem strs_len1 (l : List ByteArray) : ∀ e ∈ Yy l, e.length = 1 := by
  intro e he; obtain ⟨n, _, rfl⟩ := List.mem_map.1 he; rfl
theorem strs_ok (l : List ByteArray) : ∀ e ∈ Yy l, okc e := by
  intro e he; obtain ⟨n, _, rfl⟩ := List.mem_map.1 he; exact Zf rfl Zn
def RS (_ : Heap) (cs : List Value) (n : ByteArray) : Prop := cs = [.string n]
theorem RSs.mono {h h' : Heap} (hh : Hle h h') {v : Value} {l : List ByteArray} (q : Hs.rdS RS 1 h v l) : Hs.rdS RS 1 h' v l := rdS.mono q hh fun _ _ _ e => e
theorem Xm {T : TypeId} {v : Value} {l : List ByteArray} {k : Zi} {h : Heap} (o : Own T 1 v (Yy l) k) (hn : l.length ≤ 9223372036854775807) (hk : Has k h) : Hs.rdS RS 1 h v l :=
  o.rdS (YS l).symm hn hk fun i _ h2 => strs_get l i h2
theorem rdS.none {α : Type} {E : Heap → List Value → α → Prop} {sz : Nat} {h : Heap} {a : Option Addr} {cap : Nat} : Hs.rdS E sz h (.slice a 0 cap) [] := ⟨a, cap, rfl, by simp, .inl rfl⟩
/-- What a row of strings gives to append. -/
theorem strs_src {P : Program} {H : Heap} {v : Value} {l : List ByteArray} (h : Hs.rdS RS 1 H v l) : ∀ w L, Mem w L H → Src P 1 w v l.length (Yy l).flatten := by
  obtain ⟨es, e1, e2, e3, e4⟩ := rdS.src (P := P) h
  have : es = Yy l := by
    apply List.ext_getElem
    · rw [e1, YS]
    · intro i h1 h2
      have := e2 i h1 (by omega)
      rw [strs_get l i (by omega)]; exact this
  subst this
  intro w L m
  exact e4 w L H (Hle.refl _) m
theorem own_src {P : Program} {H : Heap} {T : TypeId} {v : Value} {l : List ByteArray} {k : Zi} {M : List Zi} {i : Nat} (o : Own T 1 v (Yy l) k) (hi : M[i]? = some k) : ∀ F w, Mem w (M.flatten ++ F) H → Src P 1 w v l.length (Yy l).flatten := by
  intro F w m
  rcases o.2 with ⟨e, e2, e3⟩ | ⟨b, cap, sp, e, e2, e3, e4⟩
  · have : l = [] := by have := YS l; rw [e2] at this; exact List.eq_nil_of_length_eq_zero this.symm
    subst this
    rw [e]; exact Src.nil
  · subst e
    have hb : w.heap[b]? = some (.cells ⟨(Yy l).flatten ++ sp⟩ T (0, 0)) := (At.k (M := M) (H := H) i hi (by rw [e2]; simp)).heap m
    have := Src.row (P := P) (cap := cap) (n := l.length) hb (by have := sub_flat (sp := sp) o.1; rwa [YS] at this)
    rw [YS]; exact this

/-- the place of a string in a row -/
def fstS (x : ByteArray) : List ByteArray → Nat → Int
  | [], _ => -1
  | y :: l, i => if x = y then (i : Int) else fstS x l (i + 1)
theorem fstS_mem (x : ByteArray) (l : List ByteArray) : ∀ i, decide (0 ≤ fstS x l i) = l.any (fun y => decide (x = y)) := by
  induction l with
  | nil => intro i; simp [fstS]
  | cons y l ih =>
    intro i
    rw [fstS]
    by_cases h : x = y
    · rw [if_pos h, List.any_cons, decide_eq_true h]; simp
    · rw [if_neg h, ih, List.any_cons, decide_eq_false h]; rfl
/-- the place of a bool in a row -/
def fstB (x : Bool) : List Bool → Nat → Int
  | [], _ => -1
  | y :: l, i => if x = y then (i : Int) else fstB x l (i + 1)

def itC (r : Nat) (s : ByteArray) (p : Nat) : Zi := [(r, .stringIter s p)]
section
variable {c : Cx} {H : Heap} {ρ : Nat → Value} {M : List Zi} {K : Value → List Zi → Prop} {d : Option Nat} {ot : TypeId} {pos : String} {af : Array Edge} {g : Option (Nat × Bool)} {x y z : Operand}
theorem Runs_rangeS {T : TypeId} {s : ByteArray} (hT : c.P.underlying T = some .string) (hx : ev c.n ρ x = .string s) (h : ∀ r, K (.pointer (some ⟨r, 0, none⟩)) (itC r s 0 :: M)) : Runs c H ⟨d, .range T x, ot, pos, af, g⟩ ρ M K := fun F w m => by
  refine ⟨.pointer (some ⟨w.heap.size, 0, none⟩), { w with heap := w.heap.push (.stringIter s 0) }, [(w.heap.size, .stringIter s 0)] :: M, .inl ?_, m.push (w' := { w with heap := w.heap.push (.stringIter s 0) }) rfl, h _⟩
  simp [execOp, Instr.range, hx, run_underlying hT, Result.andThen]
theorem Runs_nextA {i r p : Nat} {s : ByteArray} (hx : ev c.n ρ x = .pointer (some ⟨r, 0, none⟩)) (hi : M[i]? = some (itC r s p)) (hp : p < s.size) (ha : (s[p]'hp).toNat < 128)
    (h : K (.tuple ⟨[.bool true, .int .i64 p, .int .i32 ((s[p]'hp).toNat : Int)]⟩) (M.set i (itC r s (p + 1)))) : Runs c H ⟨d, .next x true, ot, pos, af, g⟩ ρ M K := fun F w m => by
  have hb : w.heap[r]? = some (.stringIter s p) := (m.perm ((Yh hi).append_right F)).own r _ (List.mem_cons_self ..)
  refine ⟨_, _, _, .inl ?_, m.put (o' := .stringIter s (p + 1)) hi, h⟩
  have hg : (getObj r).run c.P w = .ok (.stringIter s p) w := by simp [getObj, Sem.run, hb]
  have hs : (setObj r (.stringIter s (p + 1))).run c.P w = .ok () { w with heap := w.heap.setIfInBounds r (.stringIter s (p + 1)) } := by simp [setObj, Sem.run, hb]
  simp only [execOp, Instr.next, hx, Sem.run_bind, hg, Result.andThen, hp, if_true, decode_ascii s p hp ha, hs]
  simp [goInt]
theorem Runs_nextE {i r p : Nat} {s : ByteArray} (hx : ev c.n ρ x = .pointer (some ⟨r, 0, none⟩)) (hi : M[i]? = some (itC r s p)) (hp : ¬ p < s.size)
    (h : K (.tuple ⟨[.bool false]⟩) M) : Runs c H ⟨d, .next x true, ot, pos, af, g⟩ ρ M K := fun F w m => by
  have hb : w.heap[r]? = some (.stringIter s p) := (m.perm ((Yh hi).append_right F)).own r _ (List.mem_cons_self ..)
  refine ⟨_, _, _, .inl ?_, m, h⟩
  have hg : (getObj r).run c.P w = .ok (.stringIter s p) w := by simp [getObj, Sem.run, hb]
  simp [execOp, Instr.next, hx, hg, Result.andThen, hp]
end
theorem w32 {a : Int} (h : -2147483648 ≤ a ∧ a ≤ 2147483647) : IntKind.i32.wrap a = a := by
  exact IntWalk.i32_in a h
section
variable {P : Program} {e : Operand → Value} {T T' : TypeId} {x : Operand} {k : IntKind} {a : Int} {d : Option Nat} {ot : TypeId} {pos : String} {af : Array Edge} {g : Option (Nat × Bool)}
theorem Pu.convS {s : ByteArray} {t : TypeDesc} (hs : ∀ w, (underlying T).run P w = .ok t w) (hT : ∀ w, (underlying T').run P w = .ok .string w) (hx : e x = .int k a) (hv : Utf8.encode a = s) : Pu P e ⟨d, .convert T T' x, ot, pos, af, g⟩ (.string s) := fun w => by
  subst hv
  simp [execOp, convert, hs, hT, hx, Result.andThen, Conv.intToString]
end
theorem ltr_size (i : Nat) : (ltr i).size = 1 := rfl
theorem ltr_get (i : Nat) (h : i < 26) : ((ltr i)[0]'(by rw [ltr_size]; decide)).toNat = 97 + i := by
  show (UInt8.ofNat (97 + i)).toNat = 97 + i
  simp; omega
theorem ltr_enc : ∀ i : Nat, i < 26 → Utf8.encode ((97 + i : Nat) : Int) = ltr i := by decide
theorem ltr_enc' (i : Nat) (h : i < 26) : Utf8.encode (97 + (i : Int)) = ltr i := by have := ltr_enc i h; simpa using this
section
variable {c : Cx} {H : Heap} {ρ : Nat → Value} {M : List Zi} {K : Value → List Zi → Prop} {d : Option Nat} {ot : TypeId} {pos : String} {af : Array Edge} {g : Option (Nat × Bool)} {x : Operand}
theorem Runs_nextL {i r k : Nat} (hx : ev c.n ρ x = .pointer (some ⟨r, 0, none⟩)) (hi : M[i]? = some (itC r (ltr k) 0)) (hk : k < 26)
    (h : K (.tuple ⟨[.bool true, .int .i64 0, .int .i32 (97 + (k : Int))]⟩) (M.set i (itC r (ltr k) 1))) : Runs c H ⟨d, .next x true, ot, pos, af, g⟩ ρ M K := by
  have hg := ltr_get k hk
  refine Runs_nextA hx hi (by rw [ltr_size]; decide) (by omega) ?_
  rw [hg]
  simpa using h
end
def markL (i : Nat) (l : List Bool) : List Bool := if i < l.length then l.set i true else l
/-- What is known of a term with names: the names on the way down, one Kid after the other. -/
def NC : List (List ByteArray) → List Value → Zi → Prop
  | [], cs, _ => cs.length = 37 ∧ okc cs
  | x :: xs, cs, c => ∃ k n r ns ks cv e k1 k2 k3, cs = pkT k n r ns ks ++ [cv] ∧ cv.oneCell' = true ∧ Own 9 1 ns (Yy x) k1 ∧ Own 68 37 ks [e] k2 ∧ NC xs e k3 ∧ c = k1 ++ (k2 ++ k3)
theorem NC.len : ∀ {xs : List (List ByteArray)} {cs : List Value} {c : Zi}, NC xs cs c → cs.length = 37
  | [], _, _, h => h.1
  | _ :: _, _, _, ⟨_, _, _, _, _, _, _, _, _, _, h, _⟩ => by rw [h]; rfl
theorem NC.ok : ∀ {xs : List (List ByteArray)} {cs : List Value} {c : Zi}, NC xs cs c → okc cs
  | [], _, _, h => h.2
  | _ :: _, _, _, ⟨_, _, _, _, _, _, _, _, _, _, h, h1, h2, h3, _⟩ => by rw [h]; exact Yk (ZS h2.one h3.one) (Zf h1 Zn)
theorem spl_l {a b a' vs : List Value} {off : Nat} (h : spl a off vs = some a') : spl (a ++ b) off vs = some (a' ++ b) := by
  obtain ⟨h1, h2⟩ := spl_some h
  rw [spl_mk (by rw [List.length_append]; omega), h2, List.take_append_of_le_length (by omega), List.drop_append_of_le_length (by omega)]
  simp
theorem markL_len (i : Nat) (l : List Bool) : (markL i l).length = l.length := by unfold markL; split <;> simp
theorem int_r {P : Program} {f : FuncId} {a : Array Value} {M : List Zi} {H : Heap} {x r : Int} (h : CT P f a M H (fun v N => v = .int .i64 x ∧ N = [])) (hr : x = r) : CT P f a M H (fun v N => v = .int .i64 r ∧ N = []) := hr ▸ h
noncomputable def eqL {α : Type} (l m : List α) : Bool := @decide (l = m) (Classical.propDecidable _)
theorem eqL_true {α : Type} {l m : List α} (h : l = m) : eqL l m = true := by unfold eqL; simp [h]
theorem eqL_false {α : Type} {l m : List α} (h : ¬ l = m) : eqL l m = false := by unfold eqL; simp [h]
end Go.Proofs.YtkjafeejpmcnkaaGreat.Hs
/-! The examples of the chapter, in Xl Lean. -/
namespace Go.Proofs.YtkjafeejpmcnkaaGreat.Hs
open Go Go.Proofs
def eVa (n : Int) : Tm := .mk 1 n zS [] []
def eNu (n : Int) : Tm := .mk 2 n zS [] []
def eLa (t : Tm) : Tm := .mk 3 0 zS [t] []
def eAp (t u : Tm) : Tm := .mk 4 0 zS [t, u] []
def eLam : Tm := eLa (eAp (eVa 0) (eVa 1))
theorem free_lam : freeE eLam = ([0], 0) := by kernel_rfl
theorem five_lam : substP eLam 0 (eNu 5) = (eLa (eAp (eVa 0) (eNu 5)), 0) := by kernel_rfl
theorem three_lam : substP eLam 0 (eVa 3) = (eLa (eAp (eVa 0) (eVa 4)), 0) := by kernel_rfl
theorem up_lam : shiftP eLam 2 0 = (eLa (eAp (eVa 0) (eVa 3)), 0) := by kernel_rfl
theorem down_va : shiftP (eVa 0) (-1) 0 = (zT, 1) := by kernel_rfl
def eLL : Tm := eLa (eLa (eVa 1))
theorem right_ll : ZV [eLL] = 0 := by kernel_rfl
theorem free_ll : freeE eLL = ([], 0) := by kernel_rfl
theorem check_h2 : Xg 0 0 (.mk 12 0 zS [eNu 1, eVa 0] []) = 0 := by kernel_rfl
theorem check_h1 : Xg 0 0 (.mk 12 0 zS [eNu 1] []) = 2 := by kernel_rfl
/-- the cells of the first of two results -/
def tcel : Value → List Value
  | .tuple ⟨[.agg ⟨cs⟩, _]⟩ => cs
  | _ => []
theorem ble_at {P : Program} {f : FuncId} {a : Array Value} {M : List Zi} {H : Heap} {x : Tm × Int} {d : Tm} {e : Int} (h : CT P f a M H (fun v N => ∃ cs k, v = .tuple ⟨[.agg ⟨cs⟩, .int .i64 x.2]⟩ ∧ N = [k] ∧ OT x.1 cs k)) (hx : x = (d, e)) :
    CT P f a M H (fun v N => ∃ cs k, v = .tuple ⟨[.agg ⟨cs⟩, .int .i64 e]⟩ ∧ N = [k] ∧ OT d cs k) := by subst hx; exact h
theorem bool_r {P : Program} {f : FuncId} {a : Array Value} {M : List Zi} {H : Heap} {x r : Bool} (h : CT P f a M H (fun v N => v = .bool x ∧ N = [])) (hr : x = r) : CT P f a M H (fun v N => v = .bool r ∧ N = []) := hr ▸ h
section
variable {c : Cx} {H : Heap} {ρ : Nat → Value} {M : List Zi} {K : Value → List Zi → Prop} {d : Option Nat} {ot : TypeId} {pos : String} {af : Array Edge} {g : Option (Nat × Bool)} {x y : Operand}
/-- the first nothing of a slice -/
theorem Runs_slice0 {T el : TypeId} {sz n cap : Nat} {a : Option Addr} {k : IntKind} (hT : ∀ w, (underlying T).run c.P w = .ok (.slice el) w) (hsz : ∀ w, (sizeOf el).run c.P w = .ok sz w) (hx : ev c.n ρ x = .slice a n cap) (hy : ev c.n ρ y = .int k 0)
    (h : ∀ a' cap', K (.slice a' 0 cap') M) : Runs c H ⟨d, .slice T x none (some y) none, ot, pos, af, g⟩ ρ M K := fun F w m => by
  refine ⟨_, w, M, .inl ?_, m, h (if cap = 0 then a else a.map (·.add (0 * sz))) (cap - 0)⟩
  simp [execOp, Instr.sliceAt, Instr.slice, Instr.sliceBounds, Instr.sliceBound, asIntOf, hx, hy, hT, hsz, Result.andThen]
end
end Go.Proofs.YtkjafeejpmcnkaaGreat.Hs
/-! Layer 4, the Xl law, third part: sizes. No program here. -/
namespace Go.Proofs.YtkjafeejpmcnkaaGreat.Hs
open Go
end Go.Proofs.YtkjafeejpmcnkaaGreat.Hs
/-! Layer 4, the Xl law of moving: maps composed; what is right stays right. No program here. -/
namespace Go.Proofs.YtkjafeejpmcnkaaGreat.Hs
open Go
theorem nErr_iff {d m b k n : Int} {r : Sm} {kids : List Tm} {cases : List (Pt × Tm)} : Y8 d m b (.mk k n r kids cases) = 0 ↔ Xd d m b k n r kids.length cases.length = 0 ∧ pErrRC cases = 0 ∧ nErrK d m b k 0 kids = 0 ∧ nErrC d m b cases = 0 := by
  rw [Y8]
  constructor
  · intro h
    split at h
    · split at h
      · split at h
        · exact ⟨by assumption, by assumption, by assumption, h⟩
        · rename_i h0; exact absurd h h0
      · rename_i h0; exact absurd h h0
    · rename_i h0; exact absurd h h0
  · rintro ⟨h1, h2, h3, h4⟩
    rw [if_pos h1, if_pos h2, if_pos h3, h4]
theorem checkR_iff {d m : Int} {t : Tm} : YB d m t = 0 ↔ Xh t = false ∧ Y8 d m 0 t = 0 := by
  unfold YB
  cases Xh t <;> simp
end Go.Proofs.YtkjafeejpmcnkaaGreat.Hs
/-! What is right fits. -/
namespace Go.Proofs.YtkjafeejpmcnkaaGreat.Hs
open Go Go.Proofs
theorem depP_ge (p : Pt) : 1 ≤ depP p := by
  cases p with
  | mk k n r kids =>
    rw [depP]
    have : 0 ≤ Xt kids := by
      induction kids with
      | nil => rw [Xt]; omega
      | cons x l ih => rw [Xt]; omega
    omega
theorem pt_fit (p : Pt) : ∀ d : Int, pErrR p = 0 → d + depP p ≤ 63 → fitP p d := by
  induction p using Pt.ind with
  | h k n r kids ih =>
    intro d h hd
    have hge := depP_ge (.mk k n r kids)
    rw [pErrR] at h
    rw [depP] at hd hge
    split at h
    · rename_i hh
      have hK : ∀ (l : List Pt) (d : Int), (∀ x ∈ l, ∀ d : Int, pErrR x = 0 → d + depP x ≤ 63 → fitP x d) → pErrRL l = 0 → d + Xt l ≤ 63 → fitPs l d := by
        intro l
        induction l with
        | nil => intro d _ _ _; rw [fitPs]; trivial
        | cons x l ihl =>
          intro d hl h hd
          rw [pErrRL] at h
          rw [Xt] at hd
          split at h
          · rename_i hx
            rw [fitPs]
            exact ⟨hl x (by simp) d hx (by omega), ihl d (fun y hy => hl y (by simp [hy])) h (by omega)⟩
          · rename_i hx; exact absurd h hx
      rw [fitP]
      unfold pHead at hh
      split at hh
      · cases hh
      · split at hh
        · cases hh
        · rename_i q1 q2
          refine ⟨by omega, by omega, fun z => Classical.byContradiction fun z2 => q2 (.inr ⟨z, z2⟩), hK kids _ ih h (by omega)⟩
    · rename_i hh; exact absurd h hh
theorem tm_fit {D M : Int} (t : Tm) : ∀ d b : Int, Y8 D M b t = 0 → d + depT t ≤ 63 → fitT t d := by
  induction t using Tm.ind with
  | h k n r kids cases ih ih' =>
    intro d b h hd
    obtain ⟨h1, h2, h3, h4⟩ := nErr_iff.1 h
    rw [depT] at hd
    have hns := depTs_nn kids
    have hK : ∀ (l : List Tm) (i : Nat) (d : Int), (∀ x ∈ l, ∀ d b : Int, Y8 D M b x = 0 → d + depT x ≤ 63 → fitT x d) → nErrK D M b k i l = 0 → d + depTs l ≤ 63 → fitTs l d := by
      intro l
      induction l with
      | nil => intro i d _ _ _; rw [fitTs]; trivial
      | cons x l ihl =>
        intro i d hl h hd
        rw [nErrK] at h
        rw [depTs] at hd
        split at h
        · rename_i hx
          rw [fitTs]
          exact ⟨hl x (by simp) d _ hx (by omega), ihl (i + 1) d (fun y hy => hl y (by simp [hy])) h (by omega)⟩
        · rename_i hx; exact absurd h hx
    have hC : ∀ (l : List (Pt × Tm)) (d : Int), (∀ c ∈ l, ∀ d b : Int, Y8 D M b c.2 = 0 → d + depT c.2 ≤ 63 → fitT c.2 d) → pErrRC l = 0 → nErrC D M b l = 0 → d + depCs l ≤ 63 → fitCs l d := by
      intro l
      induction l with
      | nil => intro d _ _ _ _; rw [fitCs]; trivial
      | cons c l ihl =>
        intro d hl hp h hd
        obtain ⟨p, x⟩ := c
        rw [nErrC] at h
        rw [pErrRC] at hp
        rw [depCs] at hd
        split at hp
        · rename_i hpx
          split at h
          · rename_i hx
            rw [fitCs]
            exact ⟨⟨pt_fit p d hpx (by omega), hl (p, x) (by simp) d _ hx (by simp only; omega)⟩, ihl d (fun y hy => hl y (by simp [hy])) hp h (by omega)⟩
          · rename_i hx; exact absurd h hx
        · rename_i hpx; exact absurd hp hpx
    rw [fitT]
    unfold Xd at h1
    split at h1
    · cases h1
    · split at h1
      · cases h1
      · rename_i q1 q2
        refine ⟨by omega, by omega, fun z => Classical.byContradiction fun z2 => q2 (.inl (.inr ⟨z, z2⟩)), hK kids 0 _ ih h3 (by omega), hC cases _ ih' h2 h4 (by omega)⟩
theorem rd_right {t : Tm} (h : YB 60 8 t = 0) : tmG (itT t) 1 (0, false) = (t, ((sizeT t : Int), false)) := by
  obtain ⟨h1, h2⟩ := checkR_iff.1 h
  have h3 : ¬ (300 < sizeT t ∨ 60 < depT t) := fun z => by rw [(longB_eq t).2 z] at h1; cases h1
  have := tm_back t 1 0 (tm_fit t 1 0 h2 (by omega)) (by omega)
  rw [this]
  simp
/-- what FromItem of the program answers -/
noncomputable def fromP (x : It) : Tm × Int := if (tmG x 1 (0, false)).2.2 = true ∨ ¬ YB 60 8 (tmG x 1 (0, false)).1 = 0 then (zT, 4) else ((tmG x 1 (0, false)).1, 0)
theorem from_right {t : Tm} (h : YB 60 8 t = 0) : fromP (itT t) = (t, 0) := by
  unfold fromP
  rw [rd_right h, if_neg]
  rintro (z | z)
  · cases z
  · exact z h
theorem from_is {x : It} (hk : okI x) (h : (fromP x).2 = 0) : itT (fromP x).1 = x ∧ YB 60 8 (fromP x).1 = 0 := by
  unfold fromP at h ⊢
  split at h
  · cases h
  · rename_i hh
    rw [if_neg hh]
    refine ⟨tmG_is x 1 (0, false) (Bool.eq_false_iff.2 (fun z => hh (.inl z))) hk, Classical.byContradiction fun z => hh (.inr z)⟩
end Go.Proofs.YtkjafeejpmcnkaaGreat.Hs
/-! Structs of which a part is given. -/
namespace Go.Proofs.YtkjafeejpmcnkaaGreat.Hs
open Go Go.Proofs
set_option maxRecDepth 100000
theorem bld39_0 (k : Int) : ∀ w, (Instr.build 39 ⟨[(0, .int .i64 k)]⟩).run Tryz.prog w = .ok (.agg ⟨[.int .i64 k, .int .i64 0, .string ⟨#[]⟩, .slice none 0 0]⟩) w := ZP Tryz.zeroValue39 Tryz.runUnderlying39 pl39 (by kernel_rfl)
theorem bld131_0 (a : Option Addr) (n c : Nat) : ∀ w, (Instr.build 131 ⟨[(0, .slice a n c)]⟩).run Tryz.prog w = .ok (.agg ⟨[.slice a n c, .int .i64 0, .int .i64 0, .int .i64 0, .int .i64 0]⟩) w := ZP Tryz.zeroValue131 Tryz.runUnderlying131 pl131 (by kernel_rfl)
theorem bld135_0 (s : ByteArray) : ∀ w, (Instr.build 135 ⟨[(0, .string s)]⟩).run Tryz.prog w = .ok (.agg ⟨[.string s, .int .i64 0, .int .i64 0]⟩) w := ZP Tryz.zeroValue135 Tryz.runUnderlying135 pl135 (by kernel_rfl)
theorem bld137_0 (s : ByteArray) (a e : Int) : ∀ w, (Instr.build 137 ⟨[(0, .agg ⟨[.string s, .int .i64 a, .int .i64 e]⟩)]⟩).run Tryz.prog w = .ok (.agg ⟨[.string s, .int .i64 a, .int .i64 e, .int .i64 0]⟩) w := ZP Tryz.zeroValue137 Tryz.runUnderlying137 pl137 (by kernel_rfl)
theorem bldPts (f0 f1 f2 : Fn) : ∀ w, (Instr.build 183 ⟨[(0, .agg ⟨[.int .u8 0, .func f0 ⟨[]⟩ ⟨[]⟩]⟩), (1, .agg ⟨[.int .u8 64, .func f1 ⟨[]⟩ ⟨[]⟩]⟩), (2, .agg ⟨[.int .u8 128, .func f2 ⟨[]⟩ ⟨[]⟩]⟩)]⟩).run Tryz.prog w = .ok (.agg ⟨[.int .u8 0, .func f0 ⟨[]⟩ ⟨[]⟩, .int .u8 64, .func f1 ⟨[]⟩ ⟨[]⟩, .int .u8 128, .func f2 ⟨[]⟩ ⟨[]⟩]⟩) w := run_buildA Tryz.zeroValue183 Tryz.runUnderlying183 Tryz.sizeOf182 (by kernel_rfl)
/-- what reading an item leaves behind -/
def itQ (d : DR (It × Nat)) (x : It) (a c w e w0 : Int) : Prop :=
  match d with
  | .ok (y, k) b => x = y ∧ a = (b : Int) ∧ c = (k : Int) ∧ e = 0 ∧ w = w0
  | .err k i => e = k ∧ w = (i : Int) ∧ ¬ k = 0
/-- whether an item may begin: what the program answers -/
def begQ (lv : Int) (a c : Nat) (x : Bool) (a' e' c' : Int) : Prop :=
  if 250 < lv then x = false ∧ a' = (a : Int) ∧ e' = 11 ∧ c' = (c : Int)
  else if c = 5000 then x = false ∧ a' = (a : Int) ∧ e' = 2 ∧ c' = (c : Int)
  else x = true ∧ a' = (a : Int) ∧ e' = 0 ∧ c' = ((c + 1 : Nat) : Int)
end Go.Proofs.YtkjafeejpmcnkaaGreat.Hs
/-! An item read from bytes: what holds on the way. -/
namespace Go.Proofs.YtkjafeejpmcnkaaGreat.Hs
open Go Go.Proofs
abbrev DK := DR (List It × Nat)
def preK (ks : List It) (d : DK) : DK :=
  match d with
  | .ok (l, c) b => .ok (ks ++ l, c) b
  | .err e i => .err e i
theorem preK_nil (d : DK) : preK [] d = d := by cases d <;> rfl
/-- what is left behind reading Kids -/
def mQ (D : DK) (ks : List It) (a c w e w0 : Int) : Prop :=
  match D with
  | .ok (l, k) b => ks = l ∧ a = (b : Int) ∧ c = (k : Int) ∧ e = 0 ∧ w = w0
  | .err k i => e = k ∧ w = (i : Int) ∧ ¬ k = 0
/-- on the way: so many are read -/
def kInv (l : List Int) (g : Nat → Nat → DR (It × Nat)) (D : DK) (m : Int) (j : Nat) (ks : List It) (a c w e w0 : Int) : Prop :=
  (e = 0 ∧ w = w0 ∧ ∃ a2 c2 : Nat, a = (a2 : Int) ∧ c = (c2 : Int) ∧ a2 ≤ l.length ∧ ((j : Int) ≤ m ∧ m ≤ 5000) ∧ D = preK ks (YW g (m.toNat - j) a2 c2)) ∨ (¬ e = 0 ∧ ∃ i : Nat, w = (i : Int) ∧ D = .err e i)
theorem kInv_init {l : List Int} {g : Nat → Nat → DR (It × Nat)} {h : Int} {d c : Nat} {x a w e w0 : Int} (hh : 128 ≤ h) (hd : d ≤ l.length) (hq : numQ (Yz l 5000 d) x a w e w0) : kInv l g (manyD l g h d c) x 0 [] a (c : Int) w e w0 := by
  unfold manyD
  rw [if_pos hh]
  cases hs : Yz l 5000 d with
  | err k i => rw [hs] at hq; have := some_err hs; exact .inr ⟨by have := hq.1; omega, i, hq.2, by rw [hq.1]⟩
  | ok n b =>
    rw [hs] at hq
    have hb := some_ok hd hs
    obtain ⟨rfl, ha, he, hw⟩ := hq
    exact .inl ⟨he, hw, b, c, ha, rfl, by omega, ⟨by omega, by omega⟩, by rw [preK_nil]; rfl⟩
theorem kInv_step {l : List Int} {g : Nat → Nat → DR (It × Nat)} {D : DK} {m : Int} {j : Nat} {ks : List It} {a c w e w0 : Int} (hi : kInv l g D m j ks a c w e w0) (he : e = 0) (hj : (j : Int) < m) :
    ∃ a2 c2 : Nat, a = (a2 : Int) ∧ c = (c2 : Int) ∧ a2 ≤ l.length ∧ w0 = w ∧ m ≤ 5000 ∧ ∀ (x : It) (a' c' w' e' : Int), itQ (g a2 c2) x a' c' w' e' w0 → (∀ y k b, g a2 c2 = .ok (y, k) b → b ≤ l.length) → kInv l g D m (j + 1) (ks ++ [x]) a' c' w' e' w0 := by
  rcases hi with ⟨_, hw, a2, c2, ha, hc, hl, hm, hD⟩ | ⟨hn, _⟩
  · refine ⟨a2, c2, ha, hc, hl, hw.symm, hm.2, fun x a' c' w' e' hq hle => ?_⟩
    rw [show m.toNat - j = (m.toNat - (j + 1)) + 1 from by omega, YW] at hD
    cases hg : g a2 c2 with
    | err k i =>
      rw [hg] at hq hD
      simp only at hD
      exact .inr ⟨by rw [hq.1]; exact hq.2.2, i, hq.2.1, by rw [hD, hq.1]; rfl⟩
    | ok y b =>
      obtain ⟨y, k⟩ := y
      rw [hg] at hq hD
      obtain ⟨rfl, h1, h2, h3, h4⟩ := hq
      simp only at hD
      refine .inl ⟨h3, h4, b, k, h1, h2, hle _ _ _ hg, ⟨by omega, hm.2⟩, ?_⟩
      rw [hD]
      cases hk : YW g (m.toNat - (j + 1)) b k with
      | err e2 i => simp only [preK]
      | ok z i => obtain ⟨z, c3⟩ := z; simp [preK]
  · exact absurd he hn
theorem kInv_end {l : List Int} {g : Nat → Nat → DR (It × Nat)} {D : DK} {m : Int} {j : Nat} {ks : List It} {a c w e w0 : Int} (hi : kInv l g D m j ks a c w e w0) (h : ¬ ((j : Int) < m ∧ e = 0)) : mQ D ks a c w e w0 := by
  rcases hi with ⟨he, hw, a2, c2, ha, hc, hl, hm, hD⟩ | ⟨hn, i, hw, hD⟩
  · rw [show m.toNat - j = 0 from by omega, YW] at hD
    rw [hD]
    simp only [preK, mQ, List.append_nil]
    exact ⟨trivial, ha, hc, he, hw⟩
  · rw [hD]; exact ⟨rfl, hw, hn⟩
/-! what is read lies within the bytes -/
theorem text_ok {l : List Int} {h : Int} {a : Nat} {t : ByteArray} {b : Nat} (ha : a ≤ l.length) (hd : textD l h a = .ok t b) : b ≤ l.length := by
  unfold textD at hd
  split at hd
  · split at hd
    · cases hd
    · rename_i n b2 hs
      have := some_ok ha hs
      split at hd
      · cases hd
      · cases hd; omega
  · cases hd; exact ha
theorem kids_le {l : List Int} {g : Nat → Nat → DR (It × Nat)} (hg : ∀ a c x k b, a ≤ l.length → g a c = .ok (x, k) b → b ≤ l.length) : ∀ (m a c : Nat) (x : List It) (k b : Nat), a ≤ l.length → YW g m a c = .ok (x, k) b → b ≤ l.length := by
  intro m
  induction m with
  | zero => intro a c x k b ha h; rw [YW] at h; cases h; exact ha
  | succ m ih =>
    intro a c x k b ha h
    rw [YW] at h
    split at h
    · cases h
    · rename_i y c' b' hy
      have h1 := hg _ _ _ _ _ ha hy
      split at h
      · cases h
      · rename_i ks c'' d hk
        have := ih _ _ _ _ _ h1 hk
        cases h
        exact this
theorem itemD_le {l : List Int} : ∀ (f a c : Nat) (x : It) (k b : Nat), a ≤ l.length → ZF l f a c = .ok (x, k) b → b ≤ l.length := by
  intro f
  induction f with
  | zero => intro a c x k b _ h; rw [ZF] at h; split at h <;> cases h
  | succ f ih =>
    intro a c x k b ha h
    rw [ZF] at h
    split at h
    · cases h
    · split at h
      · cases h
      · split at h
        · cases h
        · split at h
          · cases h
          · rename_i n b1 hn
            have h1 := num0_ok (by omega) hn
            split at h
            · cases h
            · rename_i t d ht
              have h2 := text_ok h1.2.1 ht
              split at h
              · cases h
              · rename_i ks c' z hm
                cases h
                unfold manyD at hm
                split at hm
                · split at hm
                  · cases hm
                  · rename_i m b2 hs
                    have h3 := some_ok h2 hs
                    exact kids_le ih _ _ _ _ _ _ h3.2.1 hm
                · cases hm; exact h2
/-- behind the number and the text -/
def headQ (l : List Int) (h : Int) (a : Nat) (n : Int) (t : ByteArray) (a' w e w0 : Int) : Prop :=
  match YK l 1099511627776 a with
  | .err c i => e = c ∧ w = (i : Int) ∧ ¬ c = 0
  | .ok m b =>
    match textD l h b with
    | .err c i => e = c ∧ w = (i : Int) ∧ ¬ c = 0
    | .ok u d => n = m ∧ t = u ∧ a' = (d : Int) ∧ e = 0 ∧ w = w0
theorem head_err {l : List Int} {h : Int} {a : Nat} {n : Int} {t : ByteArray} {x a' w e w0 : Int} (hq : numQ (YK l 1099511627776 a) x a' w e w0) (he : ¬ e = 0) : headQ l h a n t a' w e w0 := by
  unfold headQ
  cases hd : YK l 1099511627776 a with
  | err c i => rw [hd] at hq; exact ⟨hq.1, hq.2, by rw [← hq.1]; exact he⟩
  | ok m b => rw [hd] at hq; exact absurd hq.2.2.1 he
theorem numQ_ok {d : DR Int} {x a w e w0 : Int} (h : numQ d x a w e w0) (he : e = 0) (hne : ∀ c i, d = .err c i → ¬ c = 0) : ∃ b : Nat, d = .ok x b ∧ a = (b : Int) ∧ w0 = w := by
  cases d with
  | ok n b => exact ⟨b, by rw [h.1], h.2.1, h.2.2.2.symm⟩
  | err c i => exact absurd (h.1.symm.trans he) (hne c i rfl)
theorem num0_ne {l : List Int} {most : Int} {a : Nat} : ∀ c i, YK l most a = .err c i → ¬ c = 0 := fun c i h => by have := num0_err h; omega
theorem some_ne {l : List Int} {most : Int} {a : Nat} : ∀ c i, Yz l most a = .err c i → ¬ c = 0 := fun c i h => by have := some_err h; omega
theorem head_no {l : List Int} {h : Int} {a b : Nat} {n w w0 : Int} (hd : YK l 1099511627776 a = .ok n b) (hh : ¬ h / 64 % 2 = 1) (hw : w = w0) : headQ l h a n ⟨#[]⟩ (b : Int) w 0 w0 := by
  unfold headQ
  rw [hd]
  simp only
  rw [textD_if, if_neg hh]
  refine ⟨?_, ?_, ?_, ?_, ?_⟩ <;> first | trivial | rfl | assumption
theorem head_terr {l : List Int} {h : Int} {a b : Nat} {n m : Int} {t : ByteArray} {x a' w e w1 w0 : Int} (hd : YK l 1099511627776 a = .ok n b) (hh : h / 64 % 2 = 1) (hq : numQ (Yz l 4096 b) x a' w e w1) (he : ¬ e = 0) : headQ l h a m t a' w e w0 := by
  unfold headQ
  rw [hd]
  simp only
  rw [textD_if, if_pos hh]
  cases hs : Yz l 4096 b with
  | err c i => rw [textW_err hs]; rw [hs] at hq; exact ⟨hq.1, hq.2, by rw [← hq.1]; exact he⟩
  | ok u d => rw [hs] at hq; exact absurd hq.2.2.1 he
theorem head_few {l : List Int} {h : Int} {a b d : Nat} {n m : Int} {t : ByteArray} {k a' w0 : Int} (hd : YK l 1099511627776 a = .ok n b) (hh : h / 64 % 2 = 1) (hs : Yz l 4096 b = .ok k d) (hk : (l.length : Int) - d < k) : headQ l h a m t a' (l.length : Int) 4 w0 := by
  unfold headQ
  rw [hd]
  simp only
  rw [textD_if, if_pos hh, textW_few hs hk]
  exact ⟨rfl, rfl, by decide⟩
theorem head_ok {l : List Int} {h : Int} {a b d : Nat} {n : Int} {k a' w w0 : Int} (hd : YK l 1099511627776 a = .ok n b) (hh : h / 64 % 2 = 1) (hs : Yz l 4096 b = .ok k d) (hk : ¬ (l.length : Int) - d < k) (hw : w = w0) (ha : a' = ((d + k.toNat : Nat) : Int)) : headQ l h a n (bstr ((l.drop d).take k.toNat)) a' w 0 w0 := by
  unfold headQ
  rw [hd]
  simp only
  rw [textD_if, if_pos hh, textW_ok hs hk]
  refine ⟨?_, ?_, ?_, ?_, ?_⟩ <;> first | trivial | rfl | assumption
theorem head_open {l : List Int} {h : Int} {a : Nat} {n : Int} {t : ByteArray} {a' w e w0 : Int} (hq : headQ l h a n t a' w e w0) (ha : a ≤ l.length) (he : e = 0) : ∃ b d : Nat, YK l 1099511627776 a = .ok n b ∧ textD l h b = .ok t d ∧ a' = (d : Int) ∧ w0 = w ∧ d ≤ l.length := by
  unfold headQ at hq
  cases hd : YK l 1099511627776 a with
  | err c i => rw [hd] at hq; exact absurd (hq.1.symm.trans he) hq.2.2
  | ok m b =>
    rw [hd] at hq
    simp only at hq
    cases ht : textD l h b with
    | err c i => rw [ht] at hq; exact absurd (hq.1.symm.trans he) hq.2.2
    | ok u d =>
      rw [ht] at hq
      obtain ⟨rfl, rfl, h1, _, h2⟩ := hq
      exact ⟨b, d, rfl, ht, h1, h2.symm, text_ok (num0_ok ha hd).2.1 ht⟩
theorem head_skip {l : List Int} {h : Int} {a : Nat} {x a' w e w0 : Int} (hq : numQ (YK l 1099511627776 a) x a' w e w0) (hs : (decide (e = 0) && decide (h / 64 % 2 = 1)) = false) : headQ l h a x ⟨#[]⟩ a' w e w0 := by
  by_cases he : e = 0
  · obtain ⟨b, h1, h2, h3⟩ := numQ_ok hq he num0_ne
    subst he h2
    exact head_no h1 (by simpa using hs) h3.symm
  · exact head_err hq he
/-! the item -/
section
variable {l : List Int} {f a c : Nat} {n : Int} {t : ByteArray} {a' c' w e w0 : Int} {x : It}
theorem it_e4 (h : a = l.length) : itQ (ZF l f a c) x a' c' (a : Int) 4 w0 := by
  cases f with
  | zero => rw [ZF, if_pos h]; exact ⟨rfl, rfl, by decide⟩
  | succ f => rw [ZF, if_pos h]; exact ⟨rfl, rfl, by decide⟩
theorem it_e11 (h : ¬ a = l.length) (hf : f = 0) : itQ (ZF l f a c) x a' c' (a : Int) 11 w0 := by subst hf; rw [ZF, if_neg h]; exact ⟨rfl, rfl, by decide⟩
theorem it_e2 (h : ¬ a = l.length) (h1 : 5000 ≤ c) : itQ (ZF l (f + 1) a c) x a' c' (a : Int) 2 w0 := by rw [ZF, if_neg h, if_pos h1]; exact ⟨rfl, rfl, by decide⟩
theorem it_e40 (h : a < l.length) (h1 : ¬ 5000 ≤ c) (h2 : l[a] % 64 = 0) : itQ (ZF l (f + 1) a c) x a' c' (a : Int) 4 w0 := by rw [ZF, if_neg (by omega), if_neg h1, getDi h, if_pos h2]; exact ⟨rfl, rfl, by decide⟩
theorem it_err (h : a < l.length) (h1 : ¬ 5000 ≤ c) (h2 : ¬ l[a] % 64 = 0) (hq : headQ l (l[a]) (a + 1) n t a' w e w0) (he : ¬ e = 0) {a1 c1 : Int} : itQ (ZF l (f + 1) a c) x a1 c1 w e w0 := by
  rw [ZF, if_neg (by omega), if_neg h1, getDi h, if_neg h2]
  unfold headQ at hq
  cases hd : YK l 1099511627776 (a + 1) with
  | err k i => rw [hd] at hq; exact hq
  | ok m b =>
    rw [hd] at hq
    simp only at hq ⊢
    cases ht : textD l l[a] b with
    | err k i => rw [ht] at hq; exact hq
    | ok u d => rw [ht] at hq; exact absurd hq.2.2.2.1 he
theorem it_many {g1 : DK} {ks : List It} (h : a < l.length) (h1 : ¬ 5000 ≤ c) (h2 : ¬ l[a] % 64 = 0) {b d : Nat} (hd : YK l 1099511627776 (a + 1) = .ok n b) (ht : textD l (l[a]) b = .ok t d) (hg : g1 = manyD l (ZF l f) (l[a]) d (c + 1)) (hm : mQ g1 ks a' c' w e w0) : itQ (ZF l (f + 1) a c) (.mk (l[a] % 64) n t ks) a' c' w e w0 := by
  subst hg
  rw [ZF, if_neg (by omega), if_neg h1, getDi h, if_neg h2, hd]
  simp only
  rw [ht]
  simp only
  cases hk : manyD l (ZF l f) l[a] d (c + 1) with
  | err k i => rw [hk] at hm; exact hm
  | ok y i =>
    obtain ⟨y, k⟩ := y
    rw [hk] at hm
    obtain ⟨rfl, h3, h4, h5, h6⟩ := hm
    exact ⟨rfl, h3, h4, h5, h6⟩
theorem it_leaf2 (h : a < l.length) (h1 : ¬ 5000 ≤ c) (h2 : ¬ l[a] % 64 = 0) {ax wx ex : Int} (hq : headQ l (l[a]) (a + 1) n t ax wx ex w0) (hs : ex = 0 → ¬ 128 ≤ l[a]) : itQ (ZF l (f + 1) a c) (.mk (l[a] % 64) n t []) ax ((c + 1 : Nat) : Int) wx ex w0 := by
  by_cases he : ex = 0
  · obtain ⟨b, d, hd, ht, ha, hw, _⟩ := head_open hq (by omega) he
    subst he ha hw
    refine it_many h h1 h2 hd ht rfl ?_
    unfold manyD; rw [if_neg (hs rfl)]; exact ⟨rfl, rfl, rfl, rfl, rfl⟩
  · exact it_err h h1 h2 hq he
end
end Go.Proofs.YtkjafeejpmcnkaaGreat.Hs
/-! An item read from bytes, as the program reads it; both answers. -/
namespace Go.Proofs.YtkjafeejpmcnkaaGreat.Hs
open Go Go.Proofs
/-- what the program's reader of items leaves behind -/
def iwQ (d : DR (It × Nat)) (x : It) (ok : Bool) (a e c : Int) : Prop :=
  match d with
  | .ok (y, k) b => x = y ∧ ok = true ∧ a = (b : Int) ∧ e = 0 ∧ c = (k : Int)
  | .err k i => ok = false ∧ a = (i : Int) ∧ e = k
def mwQ (D : DK) (ks : List It) (ok : Bool) (a e c : Int) : Prop :=
  match D with
  | .ok (l, k) b => ks = l ∧ ok = true ∧ a = (b : Int) ∧ e = 0 ∧ c = (k : Int)
  | .err k i => ok = false ∧ a = (i : Int) ∧ e = k
def manyK (l : List Int) (g : Nat → Nat → DR (It × Nat)) (a c : Nat) : DK :=
  match Yz l 5000 a with
  | .err e i => .err e i
  | .ok m b => YW g m.toNat b c
theorem many_if {l : List Int} {g : Nat → Nat → DR (It × Nat)} {h : Int} {a c : Nat} (hh : 128 ≤ h) : manyD l g h a c = manyK l g a c := by unfold manyD manyK; rw [if_pos hh]; cases Yz l 5000 a <;> rfl
theorem kids_c {g : Nat → Nat → DR (It × Nat)} (hg : ∀ a c x k b, c ≤ 5000 → g a c = .ok (x, k) b → k ≤ 5000) : ∀ (m a c : Nat) (x : List It) (k b : Nat), c ≤ 5000 → YW g m a c = .ok (x, k) b → k ≤ 5000 := by
  intro m
  induction m with
  | zero => intro a c x k b ha h; rw [YW] at h; cases h; exact ha
  | succ m ih =>
    intro a c x k b ha h
    rw [YW] at h
    split at h
    · cases h
    · rename_i y c' b' hy
      have h1 := hg _ _ _ _ _ ha hy
      split at h
      · cases h
      · rename_i ks c'' d hk
        have := ih _ _ _ _ _ h1 hk
        cases h
        exact this
theorem itemD_c {l : List Int} : ∀ (f a c : Nat) (x : It) (k b : Nat), c ≤ 5000 → ZF l f a c = .ok (x, k) b → k ≤ 5000 := by
  intro f
  induction f with
  | zero => intro a c x k b _ h; rw [ZF] at h; split at h <;> cases h
  | succ f ih =>
    intro a c x k b ha h
    rw [ZF] at h
    split at h
    · cases h
    · split at h
      · cases h
      · split at h
        · cases h
        · split at h
          · cases h
          · split at h
            · cases h
            · split at h
              · cases h
              · rename_i ks c' z hm
                cases h
                unfold manyD at hm
                split at hm
                · split at hm
                  · cases hm
                  · exact kids_c ih _ _ _ _ _ _ (by omega) hm
                · cases hm; omega
/-- on the way -/
def kwInv (l : List Int) (g : Nat → Nat → DR (It × Nat)) (D : DK) (m : Int) (j : Nat) (ks : List It) (ok : Bool) (a e c : Int) : Prop :=
  (ok = true ∧ e = 0 ∧ ∃ a2 c2 : Nat, a = (a2 : Int) ∧ c = (c2 : Int) ∧ a2 ≤ l.length ∧ c2 ≤ 5000 ∧ ((j : Int) ≤ m ∧ m ≤ 5000) ∧ D = preK ks (YW g (m.toNat - j) a2 c2)) ∨ (ok = false ∧ ∃ i : Nat, a = (i : Int) ∧ D = .err e i)
theorem kwInv_init {l : List Int} {g : Nat → Nat → DR (It × Nat)} {d c : Nat} {x a e : Int} {ok : Bool} (hd : d ≤ l.length) (hc : c ≤ 5000) (hq : wQ (leastD l 1 5000 d) x ok a e) : kwInv l g (manyK l g d c) x 0 [] ok a e (c : Int) := by
  rw [least_1 hd] at hq
  unfold manyK
  cases hs : Yz l 5000 d with
  | err k i => rw [hs] at hq; exact .inr ⟨hq.2.1, i, hq.2.2.1, by rw [hq.2.2.2]⟩
  | ok n b =>
    rw [hs] at hq
    have hb := some_ok hd hs
    obtain ⟨rfl, ho, ha, he⟩ := hq
    exact .inl ⟨ho, he, b, c, ha, rfl, by omega, hc, ⟨by omega, by omega⟩, by rw [preK_nil]; rfl⟩
theorem kwInv_step {l : List Int} {g : Nat → Nat → DR (It × Nat)} {D : DK} {m : Int} {j : Nat} {ks : List It} {ok : Bool} {a e c : Int} (hi : kwInv l g D m j ks ok a e c) (ho : ok = true) (hj : (j : Int) < m) :
    ∃ a2 c2 : Nat, a = (a2 : Int) ∧ c = (c2 : Int) ∧ a2 ≤ l.length ∧ c2 ≤ 5000 ∧ e = 0 ∧ m ≤ 5000 ∧ ∀ (x : It) (ok' : Bool) (a' e' c' : Int), iwQ (g a2 c2) x ok' a' e' c' → (∀ y k b, g a2 c2 = .ok (y, k) b → b ≤ l.length ∧ k ≤ 5000) → (ok' = true → kwInv l g D m (j + 1) (ks ++ [x]) true a' e' c') ∧ (ok' = false → kwInv l g D m (j + 1) ks false a' e' c') := by
  rcases hi with ⟨_, he, a2, c2, ha, hc, hl, hc5, hm, hD⟩ | ⟨hn, _⟩
  · refine ⟨a2, c2, ha, hc, hl, hc5, he, hm.2, fun x ok' a' e' c' hq hle => ?_⟩
    rw [show m.toNat - j = (m.toNat - (j + 1)) + 1 from by omega, YW] at hD
    cases hg : g a2 c2 with
    | err k i =>
      rw [hg] at hq hD
      simp only at hD
      refine ⟨fun q => ?_, fun q => ?_⟩
      · rw [hq.1] at q; cases q
      · exact .inr ⟨rfl, i, hq.2.1, by rw [hD, hq.2.2]; rfl⟩
    | ok y b =>
      obtain ⟨y, k⟩ := y
      rw [hg] at hq hD
      obtain ⟨rfl, h1, h2, h3, h4⟩ := hq
      simp only at hD
      refine ⟨fun q => ?_, fun q => ?_⟩
      · refine .inl ⟨rfl, h3, b, k, h2, h4, (hle _ _ _ hg).1, (hle _ _ _ hg).2, ⟨by omega, hm.2⟩, ?_⟩
        rw [hD]
        cases hk : YW g (m.toNat - (j + 1)) b k with
        | err e2 i => simp only [preK]
        | ok z i => obtain ⟨z, c3⟩ := z; simp [preK]
      · rw [h1] at q; cases q
  · rw [ho] at hn; cases hn
theorem kwInv_end {l : List Int} {g : Nat → Nat → DR (It × Nat)} {D : DK} {m : Int} {j : Nat} {ks : List It} {ok : Bool} {a e c : Int} (hi : kwInv l g D m j ks ok a e c) (h : ok = true → ¬ (j : Int) < m) : mwQ D ks ok a e c := by
  rcases hi with ⟨ho, he, a2, c2, ha, hc, hl, hc5, hm, hD⟩ | ⟨hn, i, hw, hD⟩
  · have := h ho
    rw [show m.toNat - j = 0 from by omega, YW] at hD
    rw [hD]
    simp only [preK, mwQ, List.append_nil]
    exact ⟨trivial, ho, ha, he, hc⟩
  · rw [hD]; exact ⟨hn, hw, rfl⟩
theorem tQ_ok {d : DR ByteArray} {t : ByteArray} {ok : Bool} {a e : Int} (h : tQ d t ok a e) (hk : ok = true) : ∃ b : Nat, d = .ok t b ∧ a = (b : Int) ∧ e = 0 := by
  cases d with
  | ok n b => exact ⟨b, by rw [h.1], h.2.2.1, h.2.2.2⟩
  | err c i => have := h.1; rw [hk] at this; cases this
theorem tQ_no {d : DR ByteArray} {t : ByteArray} {ok : Bool} {a e : Int} (h : tQ d t ok a e) (hk : ok = false) : ∃ (c : Int) (i : Nat), d = .err c i ∧ a = (i : Int) ∧ e = c := by
  cases d with
  | ok n b => have := h.2.1; rw [hk] at this; cases this
  | err c i => exact ⟨c, i, rfl, h.2.1, h.2.2⟩
section
variable {l : List Int} {f a c : Nat} {n : Int} {t : ByteArray} {a' c' e : Int} {x : It} {ok : Bool}
theorem iw_e4 (h : a = l.length) : iwQ (ZF l f a c) x false (a : Int) 4 c' := by
  cases f with
  | zero => rw [ZF, if_pos h]; exact ⟨rfl, rfl, rfl⟩
  | succ f => rw [ZF, if_pos h]; exact ⟨rfl, rfl, rfl⟩
theorem iw_e11 (h : ¬ a = l.length) (hf : f = 0) : iwQ (ZF l f a c) x false (a : Int) 11 c' := by subst hf; rw [ZF, if_neg h]; exact ⟨rfl, rfl, rfl⟩
theorem iw_e2 (h : ¬ a = l.length) (h1 : 5000 ≤ c) : iwQ (ZF l (f + 1) a c) x false (a : Int) 2 c' := by rw [ZF, if_neg h, if_pos h1]; exact ⟨rfl, rfl, rfl⟩
theorem iw_e40 (h : a < l.length) (h1 : ¬ 5000 ≤ c) (h2 : l[a] % 64 = 0) : iwQ (ZF l (f + 1) a c) x false (a : Int) 4 c' := by rw [ZF, if_neg (by omega), if_neg h1, getDi h, if_pos h2]; exact ⟨rfl, rfl, rfl⟩
theorem iw_en (h : a < l.length) (h1 : ¬ 5000 ≤ c) (h2 : ¬ l[a] % 64 = 0) {y : Int} (hq : wQ (YK l 1099511627776 (a + 1)) y ok a' e) (hok : ok = false) : iwQ (ZF l (f + 1) a c) x false a' e c' := by
  rw [ZF, if_neg (by omega), if_neg h1, getDi h, if_neg h2]
  obtain ⟨k, i, hd, h3, h4⟩ := wQ_no hq hok
  rw [hd]
  exact ⟨rfl, h3, h4⟩
theorem iw_et (h : a < l.length) (h1 : ¬ 5000 ≤ c) (h2 : ¬ l[a] % 64 = 0) {b : Nat} {u : ByteArray} (hd : YK l 1099511627776 (a + 1) = .ok n b) (hh : l[a] / 64 % 2 = 1) (hq : tQ (textW l b) u ok a' e) (hok : ok = false) : iwQ (ZF l (f + 1) a c) x false a' e c' := by
  rw [ZF, if_neg (by omega), if_neg h1, getDi h, if_neg h2, hd]
  simp only
  rw [textD_if, if_pos hh]
  obtain ⟨k, i, hd, h3, h4⟩ := tQ_no hq hok
  rw [hd]
  exact ⟨rfl, h3, h4⟩
theorem iw_many {ks : List It} (h : a < l.length) (h1 : ¬ 5000 ≤ c) (h2 : ¬ l[a] % 64 = 0) {b d : Nat} (hd : YK l 1099511627776 (a + 1) = .ok n b) (ht : textD l (l[a]) b = .ok t d) (hm : mwQ (manyD l (ZF l f) (l[a]) d (c + 1)) ks ok a' e c') : iwQ (ZF l (f + 1) a c) (.mk (l[a] % 64) n t ks) ok a' e c' := by
  rw [ZF, if_neg (by omega), if_neg h1, getDi h, if_neg h2, hd]
  simp only
  rw [ht]
  simp only
  cases hk : manyD l (ZF l f) l[a] d (c + 1) with
  | err k i => rw [hk] at hm; exact hm
  | ok y i =>
    obtain ⟨y, k⟩ := y
    rw [hk] at hm
    obtain ⟨rfl, h3, h4, h5, h6⟩ := hm
    exact ⟨rfl, h3, h4, h5, h6⟩
theorem mw_no {h : Int} {g : Nat → Nat → DR (It × Nat)} {d k : Nat} (hh : ¬ 128 ≤ h) : mwQ (manyD l g h d k) [] true (d : Int) 0 (k : Int) := by
  unfold manyD; rw [if_neg hh]; exact ⟨rfl, rfl, rfl, rfl, rfl⟩
theorem mw_err {D : DK} {ks ks' : List It} (h : mwQ D ks ok a' e c') (hok : ok = false) {c2 : Int} : mwQ D ks' false a' e c2 := by
  cases D with
  | err k i => exact ⟨rfl, h.2⟩
  | ok y i => obtain ⟨y, k⟩ := y; have := h.2.1; rw [hok] at this; cases this
theorem iw_err (h : iwQ (ZF l f a c) x false a' e c') {y : It} {c2 : Int} : iwQ (ZF l f a c) y false a' e c2 := by
  cases hd : ZF l f a c with
  | err k i => rw [hd] at h; exact h
  | ok z i => obtain ⟨z, k⟩ := z; rw [hd] at h; cases h.2.1
theorem iw_mno {ks : List It} (h : a < l.length) (h1 : ¬ 5000 ≤ c) (h2 : ¬ l[a] % 64 = 0) {b d : Nat} (hd : YK l 1099511627776 (a + 1) = .ok n b) (ht : textD l (l[a]) b = .ok t d) (h3 : 128 ≤ l[a]) (hm : mwQ (manyK l (ZF l f) d (c + 1)) ks ok a' e c') (hok : ok = false) {c2 : Int} : iwQ (ZF l (f + 1) a c) x false a' e c2 := by
  have := iw_many (f := f) h h1 h2 hd ht (by rw [many_if h3]; exact mw_err (ks' := ks) (c2 := c') hm hok)
  exact iw_err this
theorem beg_no {lv : Int} {y : Bool} (hlv : lv = 251 - (f : Int)) (ha : ¬ a = l.length) (hq : begQ lv a c y a' e c') (hy : y = false) {c2 : Int} : iwQ (ZF l f a c) x false a' e c2 := by
  unfold begQ at hq
  split at hq
  · obtain ⟨_, h1, h2, _⟩ := hq
    subst h1 h2
    exact iw_e11 ha (by omega)
  · split at hq
    · obtain ⟨_, h1, h2, _⟩ := hq
      subst h1 h2
      obtain ⟨f0, rfl⟩ : ∃ f0, f = f0 + 1 := ⟨f - 1, by omega⟩
      exact iw_e2 ha (by omega)
    · rw [hy] at hq; cases hq.1
theorem beg_ok {lv : Int} {y : Bool} (hc : c ≤ 5000) (hq : begQ lv a c y a' e c') (hy : y = true) : ¬ 250 < lv ∧ ¬ 5000 ≤ c ∧ a' = (a : Int) ∧ e = 0 ∧ c' = ((c + 1 : Nat) : Int) := by
  unfold begQ at hq
  split at hq
  · rw [hy] at hq; cases hq.1
  · split at hq
    · rw [hy] at hq; cases hq.1
    · rename_i h1 h2
      exact ⟨h1, by omega, hq.2.1, hq.2.2.1, hq.2.2.2⟩
/-! what Decode answers -/
theorem dec_long (h : (65536 : Int) < (l.length : Int)) : ZA l = (zI, 0, 11) := by unfold ZA; rw [if_pos (by omega)]
variable {w w0 : Int}
theorem dec_left (h : ¬ (65536 : Int) < (l.length : Int)) (hq : itQ (ZF l 250 0 0) x a' c' w e w0) (he : e = 0) (ha : a' < (l.length : Int)) : ZA l = (zI, a', 4) := by
  unfold ZA; rw [if_neg (by omega)]
  cases hd : ZF l 250 0 0 with
  | err k i => rw [hd] at hq; exact absurd (hq.1.symm.trans he) hq.2.2
  | ok y b => obtain ⟨y, k⟩ := y; rw [hd] at hq; obtain ⟨_, h1, _⟩ := hq; simp only; rw [if_pos (by omega), h1]
theorem dec_err (h : ¬ (65536 : Int) < (l.length : Int)) (hq : itQ (ZF l 250 0 0) x a' c' w e w0) (he : ¬ e = 0) : ZA l = (zI, w, e) := by
  unfold ZA; rw [if_neg (by omega)]
  cases hd : ZF l 250 0 0 with
  | err k i => rw [hd] at hq; simp only; rw [hq.1, hq.2.1]
  | ok y b => obtain ⟨y, k⟩ := y; rw [hd] at hq; exact absurd hq.2.2.2.1 he
theorem dec_ok (h : ¬ (65536 : Int) < (l.length : Int)) (hq : itQ (ZF l 250 0 0) x a' c' w e w0) (he : e = 0) (ha : ¬ a' < (l.length : Int)) : ZA l = (x, 0, 0) := by
  unfold ZA; rw [if_neg (by omega)]
  cases hd : ZF l 250 0 0 with
  | err k i => rw [hd] at hq; exact absurd (hq.1.symm.trans he) hq.2.2
  | ok y b => obtain ⟨y, k⟩ := y; rw [hd] at hq; obtain ⟨rfl, h1, _⟩ := hq; simp only; rw [if_neg (by omega)]
theorem decW (h : ¬ (65536 : Int) < (l.length : Int)) (hq : iwQ (ZF l 250 0 0) x ok a' e c') : (ok = true → ZA l = if a' < (l.length : Int) then (zI, a', 4) else (x, 0, 0)) ∧ (ok = false → ZA l = (zI, a', e)) := by
  unfold ZA; rw [if_neg (by omega)]
  cases hd : ZF l 250 0 0 with
  | err k i =>
    rw [hd] at hq
    refine ⟨fun q => ?_, fun _ => by simp only; rw [hq.2.1, hq.2.2]⟩
    rw [hq.1] at q; cases q
  | ok y b =>
    obtain ⟨y, k⟩ := y
    rw [hd] at hq
    obtain ⟨rfl, h0, h1, _⟩ := hq
    refine ⟨fun _ => ?_, fun q => ?_⟩
    · simp only
      by_cases hb : b < l.length
      · rw [if_pos hb, if_pos (by omega), h1]
      · rw [if_neg hb, if_neg (by omega)]
    · rw [h0] at q; cases q
end
theorem setl {α : Type} (l : List α) (z e : α) : (l ++ [z]).set l.length e = l ++ [e] := by
  induction l with
  | nil => rfl
  | cons x l ih => simp only [List.cons_append, List.length_cons, List.set_cons_succ, ih]
theorem JL_call2 {c : Cx} {H : Heap} {ρ : Nat → Value} {R : List Zi} {k₁ k₂ : Zi} {Q : Post} {ops : Array Oper} {rest : List Oper} {d : Option Nat} {ot : TypeId} {pos : String} {af : Array Edge} {g : Option (Nat × Bool)} {x : Operand} {ars : List Operand} {ats : Array TypeId} {f : FuncId} {fv vs cv : List Value} {post : Value → List Zi → Prop}
    (hg : wnt ops c.n ρ ⟨d, .call { callee := .value x, args := ars.toArray, argTypes := ats }, ot, pos, af, g⟩ = true)
    (hcall : ∀ args w, (callFunc f args).run c.P w = .ok (.enter f args) w)
    (hx : ev c.n ρ x = .func (.func f) ⟨fv⟩ ⟨cv⟩)
    (hc : (∀ (j : Nat) k, R[j]? = some k → Has k (hu R.flatten H)) → CT c.P f ⟨fv ++ vs ++ cv⟩ [k₁, k₂] (hu R.flatten H) post)
    (ha : ars.map (ev c.n ρ) = vs)
    (h : ∀ v N, post v N → JL c H ops rest (Xi ρ d v) (N ++ R) Q) :
    JL c H ops (⟨d, .call { callee := .value x, args := ars.toArray, argTypes := ats }, ot, pos, af, g⟩ :: rest) ρ (k₁ :: k₂ :: R) Q :=
  JL_callX (M₁ := [k₁, k₂]) (M₂ := R) hg (exec_enter hx ha hcall) (by simp) hc h
end Go.Proofs.YtkjafeejpmcnkaaGreat.Hs
/-! What TermChecks asks beside, in Xl Lean; readings of a match. -/
namespace Go.Proofs.YtkjafeejpmcnkaaGreat.Hs
open Go Go.Proofs
section
variable {P : Program} {e : Operand → Value} {i : Oper}
theorem Pu.to {v v' : Value} (h : Pu P e i v) (q : v = v') : Pu P e i v' := q ▸ h
theorem Pu.decT {p : Prop} {_ : Decidable p} (h : Pu P e i (.bool (decide p))) (q : p) : Pu P e i (.bool true) := h.to (congrArg Value.bool (decide_eq_true q))
end
end Go.Proofs.YtkjafeejpmcnkaaGreat.Hs
/-! Copies of slices of numbers. -/
namespace Go.Proofs.YtkjafeejpmcnkaaGreat.Hs
open Go Go.Proofs
set_option maxRecDepth 100000
/-- A slice of bytes, as cells read. -/
def RB (_ : Heap) (cs : List Value) (n : Int) : Prop := cs = [.int .u8 n]
theorem RBs.mono {h h' : Heap} (hh : Hle h h') {v : Value} {l : List Int} (q : Hs.rdS RB 1 h v l) : Hs.rdS RB 1 h' v l := rdS.mono q hh fun _ _ _ e => e
def byts (l : List Int) : List (List Value) := l.map fun n => [.int .u8 n]
theorem byts_len (l : List Int) : (byts l).length = l.length := by simp [byts]
theorem byts_len1 (l : List Int) : ∀ e ∈ byts l, e.length = 1 := by
  intro e he; obtain ⟨x, _, rfl⟩ := List.mem_map.1 he; rfl
theorem byts_ok (l : List Int) : ∀ e ∈ byts l, okc e := by
  intro e he v hv; obtain ⟨x, _, rfl⟩ := List.mem_map.1 he; simp only [List.mem_singleton] at hv; subst hv; rfl
theorem num_src {P : Program} {H : Heap} {v : Value} {l : List Int} {E : Heap → List Value → Int → Prop} {f : Int → Value} (hE : ∀ h cs x, E h cs x → cs = [f x]) (h : Hs.rdS E 1 H v l) : ∀ w L, Mem w L H → Src P 1 w v l.length (l.map fun n => [f n]).flatten := by
  obtain ⟨es, e1, e2, e3, e4⟩ := rdS.src (P := P) h
  have : es = l.map fun n => [f n] := by
    apply List.ext_getElem
    · rw [e1, List.length_map]
    · intro i h1 h2
      have := hE _ _ _ (e2 i h1 (by omega))
      rw [this, List.getElem_map]
  subst this
  intro w L m
  exact e4 w L H (Hle.refl _) m
theorem byts_src {P : Program} {H : Heap} {v : Value} {l : List Int} (h : Hs.rdS RB 1 H v l) : ∀ w L, Mem w L H → Src P 1 w v l.length (byts l).flatten := num_src (fun _ _ _ e => e) h
theorem own_byts {T : TypeId} {v : Value} {l : List Int} {k : Zi} {h : Heap} (o : Own T 1 v (byts l) k) (hn : l.length ≤ 9223372036854775807) (hk : Has k h) : Hs.rdS RB 1 h v l :=
  o.rdS (byts_len l).symm hn hk fun i h1 h2 => by simp [byts, RB]
/-- What is none is empty. -/
theorem rd_none {E : Heap → List Value → Int → Prop} {sz : Nat} {h : Heap} {v : Value} {l : List Int} {a : Option Addr} {n cap : Nat} (r : Hs.rdS E sz h v l) (hv : v = .slice a n cap) (ha : a.isNone = true) : l = [] := by
  obtain ⟨a', c', e, _, h0 | ⟨b, o, row, T, fr, e1, _⟩⟩ := r
  · exact List.eq_nil_of_length_eq_zero h0
  · rw [hv] at e; cases e; subst e1; cases ha
section
variable {P : Program} {e : Operand → Value} {d : Option Nat} {ot : TypeId} {pos : String} {af : Array Edge} {g : Option (Nat × Bool)} {T T' : TypeId} {x y z : Operand}
theorem run_equalIn_nil {el : TypeId} {a : Option Addr} {n c n' c' : Nat} (m : Nat) (w : World) (hT : ∀ w, (underlying T).run P w = .ok (.slice el) w) : (Op.equalIn (m + 1) T (.slice a n c) (.slice none n' c')).run P w = .ok a.isNone w := by
  cases a <;> simp [Op.equalIn, hT]
theorem Pu.eqlNil {el : TypeId} {a : Option Addr} {n c n' c' : Nat} (hT : ∀ w, (underlying T).run P w = .ok (.slice el) w) (hx : e x = .slice a n c) (hy : e y = .slice none n' c') : Pu P e ⟨d, .binOp .eql T x y T', ot, pos, af, g⟩ (.bool a.isNone) := fun w => by
  have := run_equalIn_nil (P := P) (a := a) (n := n) (c := c) (n' := n') (c' := c') 9999 w hT
  simp only [execOp, hx, hy, eqGuard, binOp, Op.equal, Op.maxDepth]
  simp [this]
end
end Go.Proofs.YtkjafeejpmcnkaaGreat.Hs
/-! Walks, printed by a program of this session's own (gen.py). -/
namespace Go.Proofs.YtkjafeejpmcnkaaGreat.Hs
open Go Go.Proofs
set_option maxRecDepth 100000
set_option linter.unusedVariables false
set_option linter.unusedSimpArgs false
attribute [local irreducible] JL J CT wlo DT
theorem YX (s : ByteArray) (H : Heap) (bR : Nat) (a e c : Int) (e2 i : Int) : CT Tryz.prog 120 ⟨[pp bR 0, iv e2, iv i]⟩ [(BX bR [.string s, iv a, iv e, iv c] 137)] H (fun r N => r = .bool false ∧ N = [(BX bR [.string s, iv i, iv e2, iv c] 137)]) := by
 refine Zm Tryz.func120 rfl rfl <| Zc <| Za <| JLA rfl <| Zb <| Zc <| Za <| JLM rfl <| JLM rfl <| JLM rfl <| JLM rfl <| JLq (pp bR 0) (Pu.nilCheck rfl) <| JLq (pp bR 2) (fa135_2 rfl rfl) ?_
 refine JLr (Zd 0 (vs := [iv e2]) (l := [.string s, iv a, iv e2, iv c]) ty31 rfl rfl rfl rfl rfl (Zf rfl Zn) rfl <| JLq (pp bR 0) (Pu.nilCheck rfl) <| JLq (pp bR 1) (Z6 rfl rfl) <| JLr (Zd 0 (vs := [iv i]) (l := [.string s, iv i, iv e2, iv c]) ty3 rfl rfl rfl rfl rfl (Zf rfl Zn) rfl <| Zb <| Zc <| Za <| JLA rfl <| Zb <| Zj <| ⟨.bool false, [(BX bR [.string s, iv i, iv e2, iv c] 137)], Ret.one rfl (RV.tmp rfl), (Sk Sub.nil), ?_⟩))
 exact ⟨rfl, rfl⟩
theorem begins_ct (s : ByteArray) (H : Heap) (bR a c : Nat) (lv : Int) (hc : c ≤ 5000) : CT Tryz.prog 121 ⟨[pp bR 0, iv lv]⟩ [(BX bR [.string s, iv ((a : Int)), iv 0, iv ((c : Int))] 137)] H (fun r N => ∃ x a' e' c', r = .bool x ∧ N = [(BX bR [.string s, iv (a'), iv (e'), iv (c')] 137)] ∧ begQ lv a c x a' e' c') := by
 refine Zm Tryz.func121 rfl rfl <| Zc <| Za <| JLA rfl <| Zb <| Zc <| Zo <| Zc <| Za <| JLM rfl <| JLn (Pu.gtr rfl rfl) <| JLA rfl <| Zb ?_
 refine Zg rfl (fun h1 => ?_) (fun h1 => ?_)
 ·replace h1 := dt h1
  refine Zc <| Zy mixed #[0, 1, 3, 0, 8, 24, 56, 120, 255, 511] 8 [some 8, some 9, some 10, some 11, some 12, some 13, some 14, some 15] [] [] rfl (by kernel_rfl) rfl (by kernel_rfl) <| DM (fun _ => rfl) <| Dq (pp bR 0) (fun _ => Pu.nilCheck rfl) <| Dq (pp bR 0) (fun _ => ZE rfl rfl) <| DM (fun _ => rfl) <| Dq (pp bR 0) (fun _ => Pu.nilCheck rfl) <| Dq (pp bR 0) (fun _ => ZE rfl rfl) <| Dq (pp bR 1) (fun _ => Z6 rfl rfl) <| Dl1 ty3 (At.bx 0 rfl) rfl <| ZH (M' := [(BX bR [.string s, iv ((a : Int)), iv 0, iv ((c : Int))] 137)]) rfl ?_
  show JL _ _ _ [_, _] _ _ _
  refine Zv 0 rfl Tryz.call120 rfl rfl (fun hin => YX s _ _ _ _ _ _ _) rfl ?_
  rintro _ _ ⟨rfl, rfl⟩
  refine JLA rfl <| Zb <| Zj <| ⟨.bool false, [(BX bR [.string s, iv ((a : Int)), iv 11, iv ((c : Int))] 137)], Ret.one rfl (RV.tmp rfl), (Sk Sub.nil), ?_⟩
  exact ⟨_, _, _, _, rfl, rfl, by unfold begQ; (repeat' split) <;> first | exact ⟨rfl, rfl, rfl, rfl⟩ | (exfalso; omega)⟩
 replace h1 := df h1
 refine Zc <| Za <| JLM rfl <| JLq (pp bR 0) (Pu.nilCheck rfl) <| JLq (pp bR 3) (fa137_1 rfl rfl) <| JLr (Ze ty3 rfl (At.bx 0 rfl) rfl <| JLn (Pu.eql rfl rfl) <| JLA rfl <| Zb <| Zg rfl (fun h2 => ?_) (fun h2 => ?_))
 ·replace h2 := dt h2
  refine Zc <| Zy mixed #[0, 1, 3, 0, 8, 24, 56, 120, 255, 511] 8 [some 23, some 24, some 25, some 26, some 27, some 28, some 29, some 30] [] [] rfl (by kernel_rfl) rfl (by kernel_rfl) <| DM (fun _ => rfl) <| Dq (pp bR 0) (fun _ => Pu.nilCheck rfl) <| Dq (pp bR 0) (fun _ => ZE rfl rfl) <| DM (fun _ => rfl) <| Dq (pp bR 0) (fun _ => Pu.nilCheck rfl) <| Dq (pp bR 0) (fun _ => ZE rfl rfl) <| Dq (pp bR 1) (fun _ => Z6 rfl rfl) <| Dl1 ty3 (At.bx 0 rfl) rfl <| ZH (M' := [(BX bR [.string s, iv ((a : Int)), iv 0, iv ((c : Int))] 137)]) rfl ?_
  show JL _ _ _ [_, _] _ _ _
  refine Zv 0 rfl Tryz.call120 rfl rfl (fun hin => YX s _ _ _ _ _ _ _) rfl ?_
  rintro _ _ ⟨rfl, rfl⟩
  refine JLA rfl <| Zb <| Zj <| ⟨.bool false, [(BX bR [.string s, iv ((a : Int)), iv 2, iv ((c : Int))] 137)], Ret.one rfl (RV.tmp rfl), (Sk Sub.nil), ?_⟩
  exact ⟨_, _, _, _, rfl, rfl, by unfold begQ; (repeat' split) <;> first | exact ⟨rfl, rfl, rfl, rfl⟩ | (exfalso; omega)⟩
 replace h2 := df h2
 refine Zh <| Zc <| Za <| JLM rfl <| JLq (pp bR 0) (Pu.nilCheck rfl) <| JLq (pp bR 3) (fa137_1 rfl rfl) <| JLr (Ze ty3 rfl (At.bx 0 rfl) rfl <| JLn (Pu.inc rfl rfl (by omega)) <| JLq (pp bR 0) (Pu.nilCheck rfl) <| JLq (pp bR 3) (fa137_1 rfl rfl) <| JLr (Zd 0 (vs := [iv (((c + 1 : Nat) : Int))]) (l := [.string s, iv ((a : Int)), iv 0, iv (((c + 1 : Nat) : Int))]) ty3 rfl rfl rfl rfl rfl (Zf rfl Zn) rfl <| Zb <| Zc ?_))
 refine Za <| JLA rfl <| Zb <| Zj <| ⟨.bool true, [(BX bR [.string s, iv ((a : Int)), iv 0, iv (((c + 1 : Nat) : Int))] 137)], Ret.one rfl (RV.tmp rfl), (Sk Sub.nil), ?_⟩
 exact ⟨_, _, _, _, rfl, rfl, by unfold begQ; (repeat' split) <;> first | exact ⟨rfl, rfl, rfl, rfl⟩ | (exfalso; omega)⟩
end Go.Proofs.YtkjafeejpmcnkaaGreat.Hs
/-! Walks, printed by a program of this session's own (gen.py). -/
namespace Go.Proofs.YtkjafeejpmcnkaaGreat.Hs
open Go Go.Proofs
set_option maxRecDepth 100000
set_option linter.unusedVariables false
set_option linter.unusedSimpArgs false
attribute [local irreducible] JL J CT wlo DT
set_option maxHeartbeats 2000000 in
theorem numW_ct (s : ByteArray) (l : List Int) (hls : l = sB s) (H : Heap) (bR a : Nat) (ha : a ≤ l.length) (hl : l.length ≤ 1000000) (least most c : Int) : CT Tryz.prog 141 ⟨[pp bR 0, iv least, iv most]⟩ [(BX bR [.string s, iv ((a : Int)), iv 0, iv c] 137)] H (fun r N => ∃ x ok a' e', r = .tuple ⟨[iv x, .bool ok]⟩ ∧ N = [(BX bR [.string s, iv (a'), iv (e'), iv c] 137)] ∧ wQ (leastD l least most a) x ok a' e') := by
 have hsz : l.length = s.size := by rw [hls, sB_len]
 refine Zm Tryz.func141 rfl rfl <| Zc <| Za <| JLA rfl <| JLA rfl <| Zb <| Zc <| Za <| JLM rfl <| JLq (pp bR 0) (Pu.nilCheck rfl) <| JLq (pp bR 0) (ZE rfl rfl) <| JLq (pp bR 1) (Z6 rfl rfl) <| JLr (Ze ty3 rfl (At.bx 0 rfl) rfl ?_)
 refine JLA rfl <| JLA rfl <| Zb <| Zc <| Zc <| Za <| JLM rfl <| Zb <| Zo <| ZN (fun k ρ M => ∃ (j b : Nat) (n u : Int), ρ 0 = pp bR 0 ∧ ρ 1 = iv least ∧ ρ 2 = iv most ∧ ρ 6 = iv 0 ∧ ρ 7 = .bool false ∧ ρ 8 = iv ((a : Int)) ∧ ρ 9 = iv n ∧ ρ 17 = iv ((j : Int)) ∧ Sub [(BX bR [.string s, iv ((b : Int)), iv 0, iv c] 137)] M ∧ j ≤ 6 ∧ Xj l most a (6 - j) j n u b = YK l most a ∧ b ≤ l.length ∧ ((j = 0 ∧ u = 1) ∨ (j = 1 ∧ u = 128) ∨ (j = 2 ∧ u = 16384) ∨ (j = 3 ∧ u = 2097152) ∨ (j = 4 ∧ u = 268435456) ∨ (j = 5 ∧ u = 34359738368) ∨ (j = 6 ∧ u = 4398046511104)) ∧ 0 ≤ n ∧ n < u ∧ k = 6 - j) _ ⟨0, a, 0, 1, rfl, rfl, rfl, rfl, rfl, rfl, rfl, rfl, (Sk Sub.nil), (by omega), rfl, ha, (.inl ⟨rfl, rfl⟩), (Int.le_refl _), (by decide), rfl⟩ ?_
 rintro _ ρ1 _ ⟨j, b, n, u, e2, e3, e4, e5, e6, e7, e8, e9, hm10, hj, hinv, hb, hku, hn0, hnu, rfl⟩
 obtain ⟨ρ11, rfl⟩ := Zs (uc e2 (uc e3 (uc e4 (uc e5 (uc e6 (uc e7 (uc e8 (uc e9 un))))))))
 clear e2 e3 e4 e5 e6 e7 e8 e9
 refine ZX hm10 <| Zc <| Za <| JLn (Pu.lss rfl rfl) <| Zb <| Zc <| Zg rfl (fun h12 => ?_) (fun h12 => ?_)
 ·replace h12 := dt h12
  have h12n : j < 6 := by omega
  obtain ⟨f, hf⟩ : ∃ f0, 6 - j = f0 + 1 := ⟨5 - j, by omega⟩
  rw [hf] at hinv
  refine Zh <| Zc <| Zo <| Zc <| Za <| JLM rfl <| JLA rfl <| Zb <| Zc <| Zc <| Zy mixed #[0, 1, 3, 7, 15, 0, 32, 96, 224, 480, 992, 2047] 11 [some 20, some 21, some 22, some 23, some 24, some 25, some 26, some 27, some 28, some 29, some 30] [] [] rfl (by kernel_rfl) rfl (by kernel_rfl) <| DM (fun _ => rfl) <| Dq (pp bR 0) (fun _ => Pu.nilCheck rfl) ?_
  refine Dq (pp bR 0) (fun _ => ZE rfl rfl) <| Dq (pp bR 1) (fun _ => Z6 rfl rfl) <| Dl1 ty3 (At.bx 0 rfl) rfl <| DM (fun _ => rfl) <| Dq (pp bR 0) (fun _ => Pu.nilCheck rfl) <| Dq (pp bR 0) (fun _ => ZE rfl rfl) <| Dq (pp bR 0) (fun _ => fa135_0 rfl rfl) <| Dl1 ty9 (At.bx 0 rfl) rfl <| Dn (fun _ => Pu.lenS Tryz.runUnderlying9 rfl) <| ZH (M' := [(BX bR [.string s, iv ((b : Int)), iv 0, iv c] 137)]) rfl ?_
  show JL _ _ _ [_] _ _ _
  refine JLn (Pu.eql rfl rfl) <| Zb <| Zg rfl (fun h13 => ?_) (fun h13 => ?_)
  ·replace h13 := dt h13
   refine Zc <| Zy mixed #[0, 1, 3, 0, 8, 24, 56, 120, 255, 511, 1023] 8 [some 32, some 33, some 34, some 35, some 36, some 37, some 38, some 39] [] [] rfl (by kernel_rfl) rfl (by kernel_rfl) <| DM (fun _ => rfl) <| Dq (pp bR 0) (fun _ => Pu.nilCheck rfl) <| Dq (pp bR 0) (fun _ => ZE rfl rfl) <| DM (fun _ => rfl) <| Dq (pp bR 0) (fun _ => Pu.nilCheck rfl) <| Dq (pp bR 0) (fun _ => ZE rfl rfl) <| Dq (pp bR 1) (fun _ => Z6 rfl rfl) <| Dl1 ty3 (At.bx 0 rfl) rfl <| ZH (M' := [(BX bR [.string s, iv ((b : Int)), iv 0, iv c] 137)]) rfl ?_
   show JL _ _ _ [_, _, _] _ _ _
   refine Zv 0 rfl Tryz.call120 rfl rfl (fun hin => YX s _ _ _ _ _ _ _) rfl ?_
   rintro _ _ ⟨rfl, rfl⟩
   refine JLA rfl <| JLA rfl <| Zb <| Zj <| ⟨.tuple ⟨[iv 0, .bool false]⟩, [(BX bR [.string s, iv ((b : Int)), iv 4, iv c] 137)], Ret.two rfl (RV.tmp rfl) (RV.tmp rfl), (Sk Sub.nil), ?_⟩
   first | (rw [Xn (by omega)] at hinv; have hx := ZO (least := least) hinv.symm) | (rw [Y3 hbl (by omega) (by omega)] at hinv; have hx := ZO (least := least) hinv.symm) | (rw [YH hbl (by omega) (fun q => by have z := hpick; simp [q.1] at z; omega) (by omega)] at hinv; have hx := ZO (least := least) hinv.symm) | (rw [numD_done hbl (by omega) (fun q => by have z := hpick; simp [q.1] at z; omega) (by omega)] at hinv; have hx := YL (least := least) hinv.symm (by omega)) | (rw [show 6 - j = 0 from by omega, Xj] at hinv; have hx := ZO (least := least) hinv.symm)
   first | (have hx := ZO (least := least) hinv.symm; exact ⟨_, _, _, _, rfl, rfl, by rw [hx]; exact ⟨rfl, rfl, rfl, rfl⟩⟩) | (have hx := YL (least := least) hinv.symm (by omega); exact ⟨_, _, _, _, rfl, rfl, by rw [hx]; exact ⟨rfl, rfl, rfl, rfl⟩⟩)
  replace h13 := df h13
  refine Zh <| Zc ?_
  have hbl : b < l.length := by omega
  have hx8 : 0 ≤ l[b] ∧ l[b] ≤ 255 := by subst hls; exact sB_8 s _ (List.getElem_mem hbl)
  have hmu := mul_in (x := l[b]) (u := u) (by omega)
  have hku6 : (j = 0 ∧ u = 1) ∨ (j = 1 ∧ u = 128) ∨ (j = 2 ∧ u = 16384) ∨ (j = 3 ∧ u = 2097152) ∨ (j = 4 ∧ u = 268435456) ∨ (j = 5 ∧ u = 34359738368) := by omega
  refine Zy mixed #[0, 1, 3, 7, 15, 0, 32, 96, 224, 480, 1023, 2047] 10 [some 41, some 42, some 43, some 44, some 45, some 46, some 47, some 48, some 49, some 50] [] [] rfl (by kernel_rfl) rfl (by kernel_rfl) <| DM (fun _ => rfl) <| Dq (pp bR 0) (fun _ => Pu.nilCheck rfl) <| Dq (pp bR 0) (fun _ => ZE rfl rfl) <| Dq (pp bR 0) (fun _ => fa135_0 rfl rfl) <| Dl1 ty9 (At.bx 0 rfl) rfl <| DM (fun _ => rfl) <| Dq (pp bR 0) (fun _ => Pu.nilCheck rfl) <| Dq (pp bR 0) (fun _ => ZE rfl rfl) <| Dq (pp bR 1) (fun _ => Z6 rfl rfl) <| Dl1 ty3 (At.bx 0 rfl) rfl <| ZH (M' := [(BX bR [.string s, iv ((b : Int)), iv 0, iv c] 137)]) rfl ?_
  show JL _ _ _ [_, _] _ _ _
  refine JLq (.int .u8 (l[b])) (Pu.idxB b Tryz.runUnderlying9 rfl rfl rfl hls hbl) <| JLA rfl <| Zb <| Zc <| Za <| JLM rfl <| JLq (pp bR 0) (Pu.nilCheck rfl) <| JLq (pp bR 0) (ZE rfl rfl) <| JLq (pp bR 1) (Z6 rfl rfl) <| JLr (Ze ty3 rfl (At.bx 0 rfl) rfl <| JLn (Pu.inc rfl rfl (by omega)) <| JLq (pp bR 0) (Pu.nilCheck rfl) <| JLq (pp bR 0) (ZE rfl rfl) ?_)
  refine JLq (pp bR 1) (Z6 rfl rfl) <| JLr (Zd 0 (vs := [iv (((b + 1 : Nat) : Int))]) (l := [.string s, iv (((b + 1 : Nat) : Int)), iv 0, iv c]) ty3 rfl rfl rfl rfl rfl (Zf rfl Zn) rfl <| Zb <| Zc <| Za <| JLM rfl <| JLM rfl <| JLq (.int .u8 (l[b] % 128)) (Pu.bits rfl rfl (and127 hx8)) <| JLq (iv (l[b] % 128)) (Pu.conv Tryz.runUnderlying5 Tryz.runUnderlying3 rfl (w64 (by omega))) <| JLM rfl <| JLq (iv (7 * (j : Int))) (Pu.arithM rfl rfl (w64 (by omega))) <| JLq (iv (l[b] % 128 * u)) (Pu.bshl rfl rfl (by omega) (shl7 hku6 (by omega) (by omega))) <| JLq (iv (n + l[b] % 128 * u)) (Pu.bor rfl rfl (or7 hku6 hn0 hnu (by omega) (by omega))) ?_)
  refine JLA rfl <| Zb <| Zc <| Zc <| Za <| JLM rfl <| JLn (Pu.gtr rfl rfl) <| Zb <| Zg rfl (fun h14 => ?_) (fun h14 => ?_)
  ·replace h14 := dt h14
   refine Zz _ rfl <| Za <| JLn (Pu.inc rfl rfl (by omega)) <| JLM rfl <| Zb <| ⟨_, ?_, (j + 1), (b + 1), (n + l[b] % 128 * u), (u * 128), rfl, rfl, rfl, rfl, rfl, rfl, rfl, rfl, (Sk Sub.nil), ?_, ?_, ?_, ?_, ?_, ?_, rfl⟩
   ·omega
   ·omega
   ·rw [numD_more hbl (by omega)] at hinv; rw [show 6 - (j + 1) = f from by omega]; exact hinv
   ·omega
   ·rcases hku with h | h | h | h | h | h | h <;> omega
   ·omega
   rcases hku with h | h | h | h | h | h | h <;> omega
  replace h14 := df h14
  refine Zh <| Zc <| Zo <| Zc <| Za <| JLM rfl <| JLn (Pu.eql rfl rfl) <| JLM rfl <| Zr 2 [75, 76] [(76, cond (decide (l[b] = 0)) (.bool (decide (0 < (j : Int)))) undef)] ?_ fun f16 => ?_
  ·cases h15 : (decide (l[b] = 0)) with
   | true =>
    replace h15 := dt h15
    refine JLM rfl <| JLn (Pu.gtr rfl rfl) ?_
    exact Zb ⟨⟨rfl, trivial⟩, rfl⟩
   | false =>
    exact Zx rfl ⟨rfl, trivial⟩
  refine JLn (Pu.pickAnd rfl rfl rfl) <| JLA rfl <| Zb <| Zg rfl (fun h17 => ?_) (fun h17 => ?_)
  ·obtain ⟨h17a, h17b⟩ := Ym h17
   replace h17a := dt h17a
   replace h17b := dt h17b
   refine Zc <| Za <| JLM rfl <| JLq (pp bR 0) (Pu.nilCheck rfl) <| JLq (pp bR 0) (ZE rfl rfl) <| JLM rfl <| Zv 0 rfl Tryz.call120 rfl rfl (fun hin => YX s _ _ _ _ _ _ _) rfl ?_
   rintro _ _ ⟨rfl, rfl⟩
   refine JLA rfl <| JLA rfl <| Zb <| Zj <| ⟨.tuple ⟨[iv 0, .bool false]⟩, [(BX bR [.string s, iv ((a : Int)), iv 4, iv c] 137)], Ret.two rfl (RV.tmp rfl) (RV.tmp rfl), (Sk Sub.nil), ?_⟩
   first | (rw [Xn (by omega)] at hinv; have hx := ZO (least := least) hinv.symm) | (rw [Y3 hbl (by omega) (by omega)] at hinv; have hx := ZO (least := least) hinv.symm) | (rw [YH hbl (by omega) (fun q => by have z := hpick; simp [q.1] at z; omega) (by omega)] at hinv; have hx := ZO (least := least) hinv.symm) | (rw [numD_done hbl (by omega) (fun q => by have z := hpick; simp [q.1] at z; omega) (by omega)] at hinv; have hx := YL (least := least) hinv.symm (by omega)) | (rw [show 6 - j = 0 from by omega, Xj] at hinv; have hx := ZO (least := least) hinv.symm)
   first | (have hx := ZO (least := least) hinv.symm; exact ⟨_, _, _, _, rfl, rfl, by rw [hx]; exact ⟨rfl, rfl, rfl, rfl⟩⟩) | (have hx := YL (least := least) hinv.symm (by omega); exact ⟨_, _, _, _, rfl, rfl, by rw [hx]; exact ⟨rfl, rfl, rfl, rfl⟩⟩)
  refine Zc <| Za <| JLM rfl <| JLM rfl <| JLn (Pu.gtr rfl rfl) <| JLA rfl <| Zb <| Zg rfl (fun h18 => ?_) (fun h18 => ?_)
  ·replace h18 := dt h18
   refine Zc <| Za <| JLM rfl <| JLq (pp bR 0) (Pu.nilCheck rfl) <| JLq (pp bR 0) (ZE rfl rfl) <| JLM rfl <| Zv 0 rfl Tryz.call120 rfl rfl (fun hin => YX s _ _ _ _ _ _ _) rfl ?_
   rintro _ _ ⟨rfl, rfl⟩
   refine JLA rfl <| JLA rfl <| Zb <| Zj <| ⟨.tuple ⟨[iv 0, .bool false]⟩, [(BX bR [.string s, iv ((a : Int)), iv 3, iv c] 137)], Ret.two rfl (RV.tmp rfl) (RV.tmp rfl), (Sk Sub.nil), ?_⟩
   first | (rw [Xn (by omega)] at hinv; have hx := ZO (least := least) hinv.symm) | (rw [Y3 hbl (by omega) (by omega)] at hinv; have hx := ZO (least := least) hinv.symm) | (rw [YH hbl (by omega) (fun q => by have z := h17; simp [q.1] at z; omega) (by omega)] at hinv; have hx := ZO (least := least) hinv.symm) | (rw [numD_done hbl (by omega) (fun q => by have z := h17; simp [q.1] at z; omega) (by omega)] at hinv; have hx := YL (least := least) hinv.symm (by omega)) | (rw [show 6 - j = 0 from by omega, Xj] at hinv; have hx := ZO (least := least) hinv.symm)
   first | (have hx := ZO (least := least) hinv.symm; exact ⟨_, _, _, _, rfl, rfl, by rw [hx]; exact ⟨rfl, rfl, rfl, rfl⟩⟩) | (have hx := YL (least := least) hinv.symm (by omega); exact ⟨_, _, _, _, rfl, rfl, by rw [hx]; exact ⟨rfl, rfl, rfl, rfl⟩⟩)
  replace h18 := df h18
  refine Zc <| Za <| JLM rfl <| JLM rfl <| JLn (Pu.lss rfl rfl) <| JLA rfl <| Zb <| Zg rfl (fun h19 => ?_) (fun h19 => ?_)
  ·replace h19 := dt h19
   refine Zc <| Za <| JLM rfl <| JLq (pp bR 0) (Pu.nilCheck rfl) <| JLq (pp bR 0) (ZE rfl rfl) <| JLM rfl <| Zv 0 rfl Tryz.call120 rfl rfl (fun hin => YX s _ _ _ _ _ _ _) rfl ?_
   rintro _ _ ⟨rfl, rfl⟩
   refine JLA rfl <| JLA rfl <| Zb <| Zj <| ⟨.tuple ⟨[iv 0, .bool false]⟩, [(BX bR [.string s, iv ((a : Int)), iv 4, iv c] 137)], Ret.two rfl (RV.tmp rfl) (RV.tmp rfl), (Sk Sub.nil), ?_⟩
   first | (rw [Xn (by omega)] at hinv; have hx := ZO (least := least) hinv.symm) | (rw [Y3 hbl (by omega) (by omega)] at hinv; have hx := ZO (least := least) hinv.symm) | (rw [YH hbl (by omega) (fun q => by have z := h17; simp [q.1] at z; omega) (by omega)] at hinv; have hx := ZO (least := least) hinv.symm) | (rw [numD_done hbl (by omega) (fun q => by have z := h17; simp [q.1] at z; omega) (by omega)] at hinv; have hx := YL (least := least) hinv.symm (by omega)) | (rw [show 6 - j = 0 from by omega, Xj] at hinv; have hx := ZO (least := least) hinv.symm)
   first | (have hx := ZO (least := least) hinv.symm; exact ⟨_, _, _, _, rfl, rfl, by rw [hx]; exact ⟨rfl, rfl, rfl, rfl⟩⟩) | (have hx := YL (least := least) hinv.symm (by omega); exact ⟨_, _, _, _, rfl, rfl, by rw [hx]; exact ⟨rfl, rfl, rfl, rfl⟩⟩)
  replace h19 := df h19
  refine Zh <| Zc <| Za <| JLM rfl <| JLA rfl <| JLA rfl <| Zb <| Zj <| ⟨.tuple ⟨[iv (n + l[b] % 128 * u), .bool true]⟩, [(BX bR [.string s, iv (((b + 1 : Nat) : Int)), iv 0, iv c] 137)], Ret.two rfl (RV.tmp rfl) (RV.tmp rfl), (Sk Sub.nil), ?_⟩
  rw [numD_done hbl (by omega) (fun q => by have z := h17; simp [q.1] at z; omega) (by omega)] at hinv
  exact ⟨_, _, _, _, rfl, rfl, by rw [least_ok hinv.symm (by omega)]; exact ⟨rfl, rfl, rfl, rfl⟩⟩
 replace h12 := df h12
 have h12n : 6 ≤ j := by omega
 refine Zz _ rfl <| Zc <| Za <| JLM rfl <| JLq (pp bR 0) (Pu.nilCheck rfl) <| JLq (pp bR 0) (ZE rfl rfl) <| JLM rfl <| Zv 0 rfl Tryz.call120 rfl rfl (fun hin => YX s _ _ _ _ _ _ _) rfl ?_
 rintro _ _ ⟨rfl, rfl⟩
 refine JLA rfl <| JLA rfl <| Zb <| Zj <| ⟨.tuple ⟨[iv 0, .bool false]⟩, [(BX bR [.string s, iv ((a : Int)), iv 3, iv c] 137)], Ret.two rfl (RV.tmp rfl) (RV.tmp rfl), (Sk Sub.nil), ?_⟩
 first | (rw [Xn (by omega)] at hinv; have hx := ZO (least := least) hinv.symm) | (rw [Y3 hbl (by omega) (by omega)] at hinv; have hx := ZO (least := least) hinv.symm) | (rw [YH hbl (by omega) (fun q => by have z := h17; simp [q.1] at z; omega) (by omega)] at hinv; have hx := ZO (least := least) hinv.symm) | (rw [numD_done hbl (by omega) (fun q => by have z := h17; simp [q.1] at z; omega) (by omega)] at hinv; have hx := YL (least := least) hinv.symm (by omega)) | (rw [show 6 - j = 0 from by omega, Xj] at hinv; have hx := ZO (least := least) hinv.symm)
 first | (have hx := ZO (least := least) hinv.symm; exact ⟨_, _, _, _, rfl, rfl, by rw [hx]; exact ⟨rfl, rfl, rfl, rfl⟩⟩) | (have hx := YL (least := least) hinv.symm (by omega); exact ⟨_, _, _, _, rfl, rfl, by rw [hx]; exact ⟨rfl, rfl, rfl, rfl⟩⟩)
end Go.Proofs.YtkjafeejpmcnkaaGreat.Hs
/-! Walks, printed by a program of this session's own (gen.py). -/
namespace Go.Proofs.YtkjafeejpmcnkaaGreat.Hs
open Go Go.Proofs
set_option maxRecDepth 100000
set_option linter.unusedVariables false
set_option linter.unusedSimpArgs false
attribute [local irreducible] JL J CT wlo DT
theorem part1_ct (s : ByteArray) (l : List Int) (hls : l = sB s) (H : Heap) (bR bX a : Nat) (ha : a ≤ l.length) (hl : l.length ≤ 1000000) (k n c lv : Int) (t : ByteArray) (ks : Value) (hks1 : ks.oneCell' = true) : CT Tryz.prog 140 ⟨[pp bR 0, pp bX 0, iv lv]⟩ [(BX bR [.string s, iv ((a : Int)), iv 0, iv c] 137), (BX bX [iv k, iv n, .string t, ks] 39)] H (fun r N => ∃ x ok a' e', r = .bool ok ∧ N = [(BX bR [.string s, iv (a'), iv (e'), iv c] 137), (BX bX [iv k, iv x, .string t, ks] 39)] ∧ wQ (YK l 1099511627776 a) x ok a' e') := by
 refine Zm Tryz.func140 rfl rfl <| Zc <| Za <| JLA rfl <| Zb <| Zc <| Za <| JLM rfl <| Zv 0 rfl Tryz.call141 rfl rfl (fun hin => numW_ct s l hls _ _ a (by omega) (by omega) _ _ _) rfl ?_
 rintro _ _ ⟨x1, k1, a1, e1, rfl, rfl, hq1⟩
 refine JLM rfl <| JLn (Pu.extract rfl rfl) <| JLn (Pu.extract rfl rfl) <| JLA rfl <| JLA rfl <| Zb <| Zc <| Za <| JLM rfl <| JLM rfl <| JLq (pp bX 0) (Pu.nilCheck rfl) <| JLq (pp bX 1) (fa39_1 rfl rfl) <| JLr (Zd 1 (vs := [iv x1]) (l := [iv k, iv x1, .string t, ks]) ty3 rfl rfl rfl rfl rfl (Zf rfl Zn) rfl ?_)
 refine Zb <| Zc <| Za <| JLM rfl <| JLA rfl <| Zb <| Zj <| ⟨.bool k1, [(BX bR [.string s, iv a1, iv e1, iv c] 137), (BX bX [iv k, iv x1, .string t, ks] 39)], Ret.one rfl (RV.tmp rfl), (Sk (Sk Sub.nil)), ?_⟩
 exact ⟨_, _, _, _, rfl, rfl, by rw [← least_0 ha]; exact hq1⟩
end Go.Proofs.YtkjafeejpmcnkaaGreat.Hs
/-! Walks, printed by a program of this session's own (gen.py). -/
namespace Go.Proofs.YtkjafeejpmcnkaaGreat.Hs
open Go Go.Proofs
set_option maxRecDepth 100000
set_option linter.unusedVariables false
set_option linter.unusedSimpArgs false
attribute [local irreducible] JL J CT wlo DT
theorem part2_ct (s : ByteArray) (l : List Int) (hls : l = sB s) (H : Heap) (bR bX a : Nat) (ha : a ≤ l.length) (hl : l.length ≤ 1000000) (k n c lv : Int) (t : ByteArray) (ks : Value) (hks1 : ks.oneCell' = true) : CT Tryz.prog 142 ⟨[pp bR 0, pp bX 0, iv lv]⟩ [(BX bR [.string s, iv ((a : Int)), iv 0, iv c] 137), (BX bX [iv k, iv n, .string t, ks] 39)] H (fun r N => ∃ t2 ok a' e', r = .bool ok ∧ N = [(BX bR [.string s, iv (a'), iv (e'), iv c] 137), (BX bX [iv k, iv n, .string t2, ks] 39)] ∧ tQ (textW l a) t2 ok a' e') := by
 have hsz : l.length = s.size := by rw [hls, sB_len]
 refine Zm Tryz.func142 rfl rfl <| Zc <| Za <| JLA rfl <| Zb <| Zc <| Za <| JLM rfl <| Zv 0 rfl Tryz.call141 rfl rfl (fun hin => numW_ct s l hls _ _ a (by omega) (by omega) _ _ _) rfl ?_
 rintro _ _ ⟨x1, k1, a1, e1, rfl, rfl, hq1⟩
 refine JLM rfl <| JLn (Pu.extract rfl rfl) <| JLn (Pu.extract rfl rfl) <| JLA rfl <| JLA rfl <| Zb <| Zc <| Zo <| Zc <| Za <| JLM rfl <| JLn (Pu.not rfl) <| JLA rfl ?_
 refine Zb <| Zg rfl (fun h2 => ?_) (fun h2 => ?_)
 ·replace h2 := nt h2
  refine Zc <| Za <| JLA rfl <| Zb <| Zj <| ⟨.bool false, [(BX bR [.string s, iv a1, iv e1, iv c] 137), (BX bX [iv k, iv n, .string t, ks] 39)], Ret.one rfl (RV.tmp rfl), (Sk (Sk Sub.nil)), ?_⟩
  obtain ⟨c1, i1, hd1, hd2, hd3⟩ := wQ_no hq1 (by assumption)
  subst hd2 hd3
  rw [least_1 ha] at hd1
  exact ⟨_, _, _, _, rfl, rfl, by rw [textW_err hd1]; exact ⟨rfl, rfl, rfl⟩⟩
 replace h2 := nf h2
 refine Zc ?_
 obtain ⟨b1, hd1, hba, hbe⟩ := wQ_ok hq1 (by assumption)
 subst hba hbe
 rw [least_1 ha] at hd1
 have hb1 := some_ok ha hd1
 obtain ⟨m1, rfl⟩ := Int.eq_ofNat_of_zero_le (show 0 ≤ x1 by omega)
 refine Zy mixed #[0, 1, 3, 7, 15, 31, 0, 64, 192, 448, 960, 2047, 0, 8191, 16383] 13 [some 18, some 19, some 20, some 21, some 22, some 23, some 24, some 25, some 26, some 27, some 28, some 29, some 30] [] [] rfl (by kernel_rfl) rfl (by kernel_rfl) <| DM (fun _ => rfl) <| Dq (pp bR 0) (fun _ => Pu.nilCheck rfl) <| Dq (pp bR 0) (fun _ => ZE rfl rfl) <| Dq (pp bR 0) (fun _ => fa135_0 rfl rfl) <| Dl1 ty9 (At.bx 0 rfl) rfl <| Dn (fun _ => Pu.lenS Tryz.runUnderlying9 rfl) <| DM (fun _ => rfl) <| Dq (pp bR 0) (fun _ => Pu.nilCheck rfl) <| Dq (pp bR 0) (fun _ => ZE rfl rfl) <| Dq (pp bR 1) (fun _ => Z6 rfl rfl) <| Dl1 ty3 (At.bx 0 rfl) rfl ?_
 refine Dn (fun _ => Pu.sub64 rfl rfl (by first | omega | (constructor <;> omega))) <| DM (fun _ => rfl) <| ZH (M' := [(BX bR [.string s, iv ((b1 : Int)), iv 0, iv c] 137), (BX bX [iv k, iv n, .string t, ks] 39)]) rfl ?_
 show JL _ _ _ [_, _] _ _ _
 refine JLn (Pu.lss rfl rfl) <| JLA rfl <| Zb <| Zg rfl (fun h3 => ?_) (fun h3 => ?_)
 ·replace h3 := dt h3
  refine Zc <| Zy mixed #[0, 1, 3, 0, 8, 24, 56, 120, 248, 511, 1023] 9 [some 32, some 33, some 34, some 35, some 36, some 37, some 38, some 39, some 40] [] [] rfl (by kernel_rfl) rfl (by kernel_rfl) <| DM (fun _ => rfl) <| Dq (pp bR 0) (fun _ => Pu.nilCheck rfl) <| Dq (pp bR 0) (fun _ => ZE rfl rfl) <| DM (fun _ => rfl) <| Dq (pp bR 0) (fun _ => Pu.nilCheck rfl) <| Dq (pp bR 0) (fun _ => ZE rfl rfl) <| Dq (pp bR 0) (fun _ => fa135_0 rfl rfl) <| Dl1 ty9 (At.bx 0 rfl) rfl <| Dn (fun _ => Pu.lenS Tryz.runUnderlying9 rfl) <| ZH (M' := [(BX bR [.string s, iv ((b1 : Int)), iv 0, iv c] 137), (BX bX [iv k, iv n, .string t, ks] 39)]) rfl ?_
  show JL _ _ _ [_, _] _ _ _
  refine Zv 0 rfl Tryz.call120 rfl rfl (fun hin => YX s _ _ _ _ _ _ _) rfl ?_
  rintro _ _ ⟨rfl, rfl⟩
  refine JLA rfl <| Zb <| Zj <| ⟨.bool false, [(BX bR [.string s, iv ((s.size : Int)), iv 4, iv c] 137), (BX bX [iv k, iv n, .string t, ks] 39)], Ret.one rfl (RV.tmp rfl), (Sk (Sk Sub.nil)), ?_⟩
  exact ⟨_, _, _, _, rfl, rfl, by rw [textW_few hd1 (by omega)]; exact ⟨rfl, by omega, rfl⟩⟩
 replace h3 := df h3
 refine Zh <| Zc <| Zy mixed #[0, 0, 2, 6, 14, 30, 0, 64, 192, 448, 960, 0, 2048, 6144, 14336, 30720, 0, 129024, 262142, 524287, 1048575, 2097151] 19 [some 42, some 43, some 44, some 45, some 46, some 47, some 48, some 49, some 50, some 51, some 52, some 53, some 54, some 55, some 56, some 57, some 58, some 59, some 60] [] [] rfl (by kernel_rfl) rfl (by kernel_rfl) <| DM (fun _ => rfl) <| DM (fun _ => rfl) <| Dq (pp bR 0) (fun _ => Pu.nilCheck rfl) <| Dq (pp bR 0) (fun _ => ZE rfl rfl) <| Dq (pp bR 0) (fun _ => fa135_0 rfl rfl) <| Dl1 ty9 (At.bx 0 rfl) rfl <| DM (fun _ => rfl) <| Dq (pp bR 0) (fun _ => Pu.nilCheck rfl) <| Dq (pp bR 0) (fun _ => ZE rfl rfl) <| Dq (pp bR 1) (fun _ => Z6 rfl rfl) ?_
 refine Dl1 ty3 (At.bx 0 rfl) rfl <| DM (fun _ => rfl) <| Dq (pp bR 0) (fun _ => Pu.nilCheck rfl) <| Dq (pp bR 0) (fun _ => ZE rfl rfl) <| Dq (pp bR 1) (fun _ => Z6 rfl rfl) <| Dl1 ty3 (At.bx 0 rfl) rfl <| DM (fun _ => rfl) ?_
 refine Dn (fun _ => Pu.add64 rfl rfl (by first | omega | (constructor <;> omega))) ?_
 refine Dq (.string (s.extract b1 (b1 + m1))) (fun _ => Pu.cutS b1 (b1 + m1) Tryz.runUnderlying9 rfl rfl rfl rfl (by omega) (by omega)) <| ZH (M' := [(BX bR [.string s, iv ((b1 : Int)), iv 0, iv c] 137), (BX bX [iv k, iv n, .string t, ks] 39)]) rfl ?_
 show JL _ _ _ [_, _, _] _ _ _
 refine JLq (pp bX 0) (Pu.nilCheck rfl) <| JLq (pp bX 2) (fa39_2 rfl rfl) <| JLr (Zd 1 (vs := [.string (s.extract b1 (b1 + m1))]) (l := [iv k, iv n, .string (s.extract b1 (b1 + m1)), ks]) ty9 rfl rfl rfl rfl rfl (Zf rfl Zn) rfl <| Zb <| Zc <| Za <| JLM rfl <| JLq (pp bR 0) (Pu.nilCheck rfl) <| JLq (pp bR 0) (ZE rfl rfl) <| JLq (pp bR 1) (Z6 rfl rfl) <| JLr (Ze ty3 rfl (At.bx 0 rfl) rfl <| JLM rfl <| JLn (Pu.add64 rfl rfl (by first | omega | (constructor <;> omega))) ?_))
 refine JLq (pp bR 0) (Pu.nilCheck rfl) <| JLq (pp bR 0) (ZE rfl rfl) <| JLq (pp bR 1) (Z6 rfl rfl) <| JLr (Zd 0 (vs := [iv ((b1 : Int) + ((m1 : Int)))]) (l := [.string s, iv ((b1 : Int) + ((m1 : Int))), iv 0, iv c]) ty3 rfl rfl rfl rfl rfl (Zf rfl Zn) rfl <| Zb <| Zc <| Za <| JLA rfl <| Zb <| Zj <| ⟨.bool true, [(BX bR [.string s, iv ((b1 : Int) + ((m1 : Int))), iv 0, iv c] 137), (BX bX [iv k, iv n, .string (s.extract b1 (b1 + m1)), ks] 39)], Ret.one rfl (RV.tmp rfl), (Sk (Sk Sub.nil)), ?_⟩)
 exact ⟨_, _, _, _, rfl, rfl, by rw [textW_ok hd1 (by omega)]; exact ⟨by subst hls; rw [Int.toNat_natCast]; exact (str_cut s b1 m1).symm, rfl, by rw [Int.toNat_natCast]; omega, rfl⟩⟩
end Go.Proofs.YtkjafeejpmcnkaaGreat.Hs
/-! Walks, printed by a program of this session's own (gen.py). -/
namespace Go.Proofs.YtkjafeejpmcnkaaGreat.Hs
open Go Go.Proofs
set_option maxRecDepth 100000
set_option linter.unusedVariables false
set_option linter.unusedSimpArgs false
attribute [local irreducible] JL J CT wlo DT
theorem far_ct (H : Heap) (bG : Nat) (n d : Int) (w : Bool) (hn : 0 ≤ n) (hn1 : n ≤ 1000000000) : CT Tryz.prog 98 ⟨[pp bG 0, iv d]⟩ [(BX bG [iv n, .bool w] 104)] H (fun r N => r = .bool (w || decide (600 < n + 1) || decide (62 < d)) ∧ N = [(BX bG [iv (n + 1), .bool (w || decide (600 < n + 1) || decide (62 < d))] 104)]) := by
 refine Zm Tryz.func98 rfl rfl <| Zc <| Za <| JLA rfl <| Zb <| Zc <| Za <| JLM rfl <| JLq (pp bG 0) (Pu.nilCheck rfl) <| JLq (pp bG 0) (fa104_0 rfl rfl) <| JLq (pp bG 0) (fa102_0 rfl rfl) <| JLr (Ze ty3 rfl (At.bx 0 rfl) rfl <| JLn (Pu.add64 rfl rfl (by first | omega | (constructor <;> omega))) ?_)
 refine JLq (pp bG 0) (Pu.nilCheck rfl) <| JLq (pp bG 0) (fa104_0 rfl rfl) <| JLq (pp bG 0) (fa102_0 rfl rfl) <| JLr (Zd 0 (vs := [iv (n + 1)]) (l := [iv (n + 1), .bool w]) ty3 rfl rfl rfl rfl rfl (Zf rfl Zn) rfl <| Zb <| Zc <| Za <| JLM rfl <| JLM rfl <| JLq (pp bG 0) (Pu.nilCheck rfl) <| JLq (pp bG 1) (YO rfl rfl) <| JLr (Ze ty4 rfl (At.bx 0 rfl) rfl <| JLM rfl ?_))
 cases h1 : w with
 | true =>
  iterate 6 refine ZB rfl ?_
  refine JLq (.bool true) (Pu.pickT rfl rfl) <| JLM rfl ?_
  iterate 2 refine ZB rfl ?_
  refine JLq (.bool true) (Pu.pickT rfl rfl) <| JLq (pp bG 0) (Pu.nilCheck rfl) <| JLq (pp bG 1) (YO rfl rfl) <| JLr (Zd 0 (vs := [.bool true]) (l := [iv (n + 1), .bool true]) ty4 rfl rfl rfl rfl rfl (Zf rfl Zn) rfl <| Zb <| Zc <| Za <| JLM rfl <| JLq (pp bG 0) (Pu.nilCheck rfl) <| JLq (pp bG 1) (YO rfl rfl) <| JLr (Ze ty4 rfl (At.bx 0 rfl) rfl <| JLA rfl <| Zb ?_))
  refine Zj <| ⟨.bool true, [(BX bG [iv (n + 1), .bool true] 104)], Ret.one rfl (RV.tmp rfl), (Sk Sub.nil), ?_⟩
  exact ⟨rfl, rfl⟩
 | false =>
  refine JLM rfl <| JLq (pp bG 0) (Pu.nilCheck rfl) <| JLq (pp bG 0) (fa104_0 rfl rfl) <| JLq (pp bG 0) (fa102_0 rfl rfl) <| JLr (Ze ty3 rfl (At.bx 0 rfl) rfl <| JLn (Pu.gtr rfl rfl) <| JLq (.bool (decide (600 < n + 1))) (Pu.pickF rfl rfl) <| JLM rfl ?_)
  cases h2 : (decide (600 < n + 1)) with
  | true =>
   replace h2 := dt h2
   iterate 2 refine ZB rfl ?_
   refine JLq (.bool true) (Pu.pickT rfl rfl) <| JLq (pp bG 0) (Pu.nilCheck rfl) <| JLq (pp bG 1) (YO rfl rfl) <| JLr (Zd 0 (vs := [.bool true]) (l := [iv (n + 1), .bool true]) ty4 rfl rfl rfl rfl rfl (Zf rfl Zn) rfl <| Zb <| Zc <| Za <| JLM rfl <| JLq (pp bG 0) (Pu.nilCheck rfl) <| JLq (pp bG 1) (YO rfl rfl) <| JLr (Ze ty4 rfl (At.bx 0 rfl) rfl <| JLA rfl <| Zb ?_))
   refine Zj <| ⟨.bool true, [(BX bG [iv (n + 1), .bool true] 104)], Ret.one rfl (RV.tmp rfl), (Sk Sub.nil), ?_⟩
   exact ⟨rfl, rfl⟩
  | false =>
   replace h2 := df h2
   refine JLM rfl <| JLn (Pu.gtr rfl rfl) <| JLq (.bool (decide (62 < d))) (Pu.pickF rfl rfl) <| JLq (pp bG 0) (Pu.nilCheck rfl) <| JLq (pp bG 1) (YO rfl rfl) <| JLr (Zd 0 (vs := [.bool (decide (62 < d))]) (l := [iv (n + 1), .bool (decide (62 < d))]) ty4 rfl rfl rfl rfl rfl (Zf rfl Zn) rfl <| Zb <| Zc <| Za <| JLM rfl <| JLq (pp bG 0) (Pu.nilCheck rfl) <| JLq (pp bG 1) (YO rfl rfl) <| JLr (Ze ty4 rfl (At.bx 0 rfl) rfl ?_))
   refine JLA rfl <| Zb <| Zj <| ⟨.bool (decide (62 < d)), [(BX bG [iv (n + 1), .bool (decide (62 < d))] 104)], Ret.one rfl (RV.tmp rfl), (Sk Sub.nil), ?_⟩
   exact ⟨rfl, rfl⟩
end Go.Proofs.YtkjafeejpmcnkaaGreat.Hs
/-! Walks, printed by a program of this session's own (gen.py). -/
namespace Go.Proofs.YtkjafeejpmcnkaaGreat.Hs
open Go Go.Proofs
set_option maxRecDepth 100000
set_option linter.unusedVariables false
set_option linter.unusedSimpArgs false
attribute [local irreducible] JL J CT wlo DT
theorem more_ct (k j : Int) (H : Heap) : CT Tryz.prog 105 ⟨[iv k, iv j]⟩ [] H (fun v N => v = iv (Z4 k j) ∧ N = []) := by
 refine Zm Tryz.func105 rfl rfl <| Zc <| Za <| JLA rfl <| Zb <| Zc <| Zo <| Zc <| Zc <| Za <| JLM rfl <| JLn (Pu.eql rfl rfl) <| JLA rfl ?_
 refine Zb <| Zg rfl (fun h1 => ?_) (fun h1 => ?_)
 ·replace h1 := dt h1
  refine Zh <| Zg rfl (fun _ => ?_) (fun h2 => absurd h1 (df h2))
  refine Zc <| Za <| JLA rfl <| Zb <| Zj <| ⟨iv 1, [], Ret.one rfl (RV.tmp rfl), Sub.nil, ?_⟩
  exact ⟨by first | (simp_all [Z4]; done) | (congr 1; unfold Z4; simp_all; try omega), rfl⟩
 replace h1 := df h1
 refine Zc <| Za <| JLM rfl <| JLn (Pu.eql rfl rfl) <| JLM rfl <| Zr 2 [11, 12] [(12, cond (decide (k = 5)) (.bool (decide (j = 1))) undef)] ?_ fun f4 => ?_
 ·cases h3 : (decide (k = 5)) with
  | true =>
   replace h3 := dt h3
   refine JLM rfl <| JLn (Pu.eql rfl rfl) ?_
   exact Zb ⟨⟨rfl, trivial⟩, rfl⟩
  | false =>
   exact Zx rfl ⟨rfl, trivial⟩
 refine JLn (Pu.pickAnd rfl rfl rfl) <| JLA rfl <| Zb <| Zg rfl (fun h5 => ?_) (fun h5 => ?_)
 ·obtain ⟨h5a, h5b⟩ := Ym h5
  replace h5a := dt h5a
  replace h5b := dt h5b
  refine Zh <| Zg rfl (fun h6 => ?_) (fun h6 => ?_)
  ·obtain ⟨h6a, h6b⟩ := Ym h6
   replace h6a := dt h6a
   replace h6b := dt h6b
   refine Zc <| Za <| JLA rfl <| Zb <| Zj <| ⟨iv 1, [], Ret.one rfl (RV.tmp rfl), Sub.nil, ?_⟩
   exact ⟨by first | (simp_all [Z4]; done) | (congr 1; unfold Z4; simp_all; try omega), rfl⟩
  refine Zc <| Za <| JLM rfl <| JLn (Pu.eql rfl rfl) <| JLM rfl <| Zr 2 [24, 25] [(25, cond (decide (k = 12)) (.bool (decide (1 < j))) undef)] ?_ fun f8 => ?_
  ·cases h7 : (decide (k = 12)) with
   | true =>
    replace h7 := dt h7
    refine JLM rfl <| JLn (Pu.gtr rfl rfl) ?_
    exact Zb ⟨⟨rfl, trivial⟩, rfl⟩
   | false =>
    exact Zx rfl ⟨rfl, trivial⟩
  refine JLn (Pu.pickAnd rfl rfl rfl) <| JLA rfl <| Zb <| Zg rfl (fun h9 => ?_) (fun h9 => ?_)
  ·obtain ⟨h9a, h9b⟩ := Ym h9
   replace h9a := dt h9a
   replace h9b := dt h9b
   refine Zc <| Za <| JLA rfl <| Zb <| Zj <| ⟨iv 2, [], Ret.one rfl (RV.tmp rfl), Sub.nil, ?_⟩
   exact ⟨by first | (simp_all [Z4]; done) | (congr 1; unfold Z4; simp_all; try omega), rfl⟩
  refine Zh <| Zc <| Za <| JLA rfl <| Zb <| Zj <| ⟨iv 0, [], Ret.one rfl (RV.tmp rfl), Sub.nil, ?_⟩
  exact ⟨by first | (simp_all [Z4]; done) | (congr 1; unfold Z4; simp_all; try omega), rfl⟩
 refine Za <| JLM rfl <| JLn (Pu.eql rfl rfl) <| JLM rfl <| Zr 2 [17, 18] [(18, cond (decide (k = 12)) (.bool (decide (j = 1))) undef)] ?_ fun f11 => ?_
 ·cases h10 : (decide (k = 12)) with
  | true =>
   replace h10 := dt h10
   refine JLM rfl <| JLn (Pu.eql rfl rfl) ?_
   exact Zb ⟨⟨rfl, trivial⟩, rfl⟩
  | false =>
   exact Zx rfl ⟨rfl, trivial⟩
 refine JLn (Pu.pickAnd rfl rfl rfl) <| JLA rfl <| Zb <| Zg rfl (fun h12 => ?_) (fun h12 => ?_)
 ·obtain ⟨h12a, h12b⟩ := Ym h12
  replace h12a := dt h12a
  replace h12b := dt h12b
  refine Zc <| Za <| JLA rfl <| Zb <| Zj <| ⟨iv 1, [], Ret.one rfl (RV.tmp rfl), Sub.nil, ?_⟩
  exact ⟨by first | (simp_all [Z4]; done) | (congr 1; unfold Z4; simp_all; try omega), rfl⟩
 refine Zc <| Za <| JLM rfl <| JLn (Pu.eql rfl rfl) <| JLM rfl <| Zr 2 [24, 25] [(25, cond (decide (k = 12)) (.bool (decide (1 < j))) undef)] ?_ fun f14 => ?_
 ·cases h13 : (decide (k = 12)) with
  | true =>
   replace h13 := dt h13
   refine JLM rfl <| JLn (Pu.gtr rfl rfl) ?_
   exact Zb ⟨⟨rfl, trivial⟩, rfl⟩
  | false =>
   exact Zx rfl ⟨rfl, trivial⟩
 refine JLn (Pu.pickAnd rfl rfl rfl) <| JLA rfl <| Zb <| Zg rfl (fun h15 => ?_) (fun h15 => ?_)
 ·obtain ⟨h15a, h15b⟩ := Ym h15
  replace h15a := dt h15a
  replace h15b := dt h15b
  refine Zc <| Za <| JLA rfl <| Zb <| Zj <| ⟨iv 2, [], Ret.one rfl (RV.tmp rfl), Sub.nil, ?_⟩
  exact ⟨by first | (simp_all [Z4]; done) | (congr 1; unfold Z4; simp_all; try omega), rfl⟩
 refine Zh <| Zc <| Za <| JLA rfl <| Zb <| Zj <| ⟨iv 0, [], Ret.one rfl (RV.tmp rfl), Sub.nil, ?_⟩
 exact ⟨by first | (simp_all [Z4]; done) | (congr 1; unfold Z4; simp_all; try omega), rfl⟩
theorem YG (n lo hi : Int) (H : Heap) : CT Tryz.prog 65 ⟨[iv n, iv lo, iv hi]⟩ [] H (fun v N => v = .bool (decide (n < lo ∨ hi < n)) ∧ N = []) := by
 refine Zm Tryz.func65 rfl rfl <| Zc <| Za <| JLA rfl <| Zb <| Zc <| Za <| JLM rfl <| JLM rfl <| JLn (Pu.lss rfl rfl) <| JLM rfl <| Zr 3 [11, 12, 13] [(13, cond (decide (n < lo)) undef (.bool (decide (hi < n))))] ?_ fun f2 => ?_
 ·cases h1 : (decide (n < lo)) with
  | false =>
   replace h1 := df h1
   refine JLM rfl <| JLM rfl <| JLn (Pu.gtr rfl rfl) ?_
   exact Zb ⟨⟨rfl, trivial⟩, rfl⟩
  | true =>
   exact Zx rfl ⟨rfl, trivial⟩
 refine JLn (Pu.pickOr rfl rfl rfl) <| JLA rfl <| Zb <| Zj <| ⟨.bool ((decide (n < lo)) || (decide (hi < n))), [], Ret.one rfl (RV.tmp rfl), Sub.nil, ?_⟩
 exact ⟨by simp, rfl⟩
theorem binds_ct : ∀ (p : Pt) (cs : List Value) (H : Heap), RP H cs p → binds p ≤ 1000000 → CT Tryz.prog 107 ⟨[.agg ⟨cs⟩]⟩ [] H (fun v N => v = iv (binds p : Int) ∧ N = []) := by
 intro p
 induction p using Pt.ind with
 | h kind num ref kids ih =>
 intro cs H hp hb
 obtain ⟨ks, rfl, hk, hn, hks⟩ := RP_mk.1 hp
 rw [binds] at hb ⊢
 refine Zm Tryz.func107 rfl rfl <| Zc <| Za <| JLr (Zp (l := pkP kind num ref ks) rfl rfl fun b1 => JLA rfl <| Zb <| Zc <| Zc <| Za <| JLq (pp b1 0) (Yp rfl rfl) <| JLr (Ze ty3 rfl (At.bx 0 rfl) (Y6 ..) <| JLn (Pu.eql rfl rfl) <| Zb ?_))
 refine Zg rfl (fun h2 => ?_) (fun h2 => ?_)
 ·replace h2 := dt h2
  refine Zc <| Za <| JLA rfl <| Zb <| Zj <| ⟨iv 1, [], Ret.one rfl (RV.tmp rfl), Sub.nil, ?_⟩
  exact ⟨by rw [if_pos (by assumption)]; rfl, rfl⟩
 replace h2 := df h2
 refine Zh <| Zc <| Za <| JLA rfl <| Zb <| Zc <| Zc <| Za <| JLq (pp b1 34) (Yi rfl rfl) <| JLr (Ze ty79 rfl (At.bx 0 rfl) (Yo ..) ?_)
 obtain ⟨a3, cap3, hv3⟩ := hks.sl
 have hle3 := hks.le
 refine JLn (Pu.lenSl Tryz.runUnderlying79 hv3) <| JLM rfl <| Zb <| Zo <| ZN (fun k ρ M => ∃ (j : Nat), ρ 2 = iv 0 ∧ ρ 3 = iv ((YC (kids.take j) : Int)) ∧ ρ 10 = ks ∧ ρ 11 = iv ((kids.length : Int)) ∧ ρ 12 = iv ((j : Int)) ∧ Sub [(BX b1 (pkP kind num ref ks) 81)] M ∧ j ≤ kids.length ∧ k = kids.length - j) _ ⟨0, rfl, rfl, rfl, rfl, rfl, (Sk Sub.nil), Nat.zero_le _, rfl⟩ ?_
 rintro _ ρ4 _ ⟨j, e5, e6, e7, e8, e9, hm10, hj, rfl⟩
 obtain ⟨ρ11, rfl⟩ := Zs (uc e5 (uc e6 (uc e7 (uc e8 (uc e9 un)))))
 clear e5 e6 e7 e8 e9
 refine ZX hm10 ?_
 have hlen := hks.le
 refine Zc <| Za <| JLn (Pu.lss rfl rfl) <| Zb <| Zc <| Zg rfl (fun h12 => ?_) (fun h12 => ?_)
 ·replace h12 := dt h12
  have h12n : j < kids.length := by omega
  have hm1 := binds_mem kids _ (List.getElem_mem h12n)
  have hm2 := bindsL_take kids _ h12n
  have hm3 := bindsL_take_le kids (j + 1)
  rw [if_neg (by assumption)] at hb
  refine Zh <| Zc <| Zo <| Zc <| Za ?_
  obtain ⟨b13, o13, cap13, row13, T13, fr13, cs13, hv13, hb13, hs13, hE13⟩ := hks.get j (by first | assumption | omega | decide | simp)
  refine JLq (pp b13 (o13 + j * 35)) (Pu.idx j Tryz.runUnderlying79 Z7 hv13 rfl rfl (by first | assumption | omega | decide | simp)) <| JLr (Zl Z7 rfl (At.im hb13) hs13 <| JLr (Zk (l := pkP 0 0 zS nS) Tryz.zeroValue81 rfl fun b14 => JLr (Zd 0 (vs := cs13) (l := cs13) Z7 rfl rfl rfl rfl (ZT hE13) (RP_ok hE13) (ZI (n := 35) rfl (ZT hE13)) <| Zb <| Za <| JLM rfl <| JLr (Zl Z7 rfl (At.bx 0 rfl) (Zu (ZT hE13)) <| Jc Tryz.call107 rfl (fun hin => ih _ (List.getElem_mem h12n) _ _ (RP.mono (Hle.hu _ _) hE13) (by omega)) rfl ?_))))
  rintro _ _ ⟨rfl, rfl⟩
  refine JLn (Pu.add64 rfl rfl (by first | omega | (constructor <;> omega))) <| JLA rfl <| Zb <| Za <| JLn (Pu.inc rfl rfl (by omega)) <| JLM rfl <| Zb <| ⟨_, ?_, (j + 1), rfl, (ieq rfl (by omega)), rfl, rfl, rfl, (Sd (Sk Sub.nil)), ?_, rfl⟩
  ·omega
  omega
 replace h12 := df h12
 have h12n : kids.length ≤ j := by omega
 refine Zz _ rfl <| Zc <| Za <| JLM rfl <| JLA rfl <| Zb <| Zj <| ⟨iv ((YC (kids.take j) : Int)), [], Ret.one rfl (RV.tmp rfl), Sub.nil, ?_⟩
 exact ⟨by rw [if_neg (by assumption), List.take_of_length_le h12n], rfl⟩
end Go.Proofs.YtkjafeejpmcnkaaGreat.Hs
/-! Walks, printed by a program of this session's own (gen.py). -/
namespace Go.Proofs.YtkjafeejpmcnkaaGreat.Hs
open Go Go.Proofs
set_option maxRecDepth 100000
set_option linter.unusedVariables false
set_option linter.unusedSimpArgs false
attribute [local irreducible] JL J CT wlo
theorem moreR_ct (k j : Int) (H : Heap) : CT Tryz.prog 149 ⟨[iv k, iv j]⟩ [] H (fun v N => v = iv (Z4 k j) ∧ N = []) := by
 refine Zm Tryz.func149 rfl rfl <| Zc <| Za <| JLA rfl <| Zb <| Zc <| Zo <| Zc <| Zc <| Za <| JLM rfl <| JLn (Pu.eql rfl rfl) <| JLA rfl ?_
 refine Zb <| Zg rfl (fun h1 => ?_) (fun h1 => ?_)
 ·replace h1 := dt h1
  refine Zh <| Zg rfl (fun _ => ?_) (fun h2 => absurd h1 (df h2))
  refine Zc <| Za <| JLA rfl <| Zb <| Zj <| ⟨iv 1, [], Ret.one rfl (RV.tmp rfl), Sub.nil, ?_⟩
  exact ⟨by first | (simp_all [Z4]; done) | (congr 1; unfold Z4; simp_all; try omega), rfl⟩
 replace h1 := df h1
 refine J_cut (fun ρ M => ρ 0 = iv k ∧ ρ 1 = iv j ∧ ρ 4 = iv 0 ∧ ρ 5 = .bool ((decide (k = 5)) && (decide (j = 1))) ∧ M = []) ?_ ?_
 ·refine Za <| JLM rfl <| JLn (Pu.eql rfl rfl) <| JLM rfl ?_
  cases h3 : (decide (k = 5)) with
  | true =>
   replace h3 := dt h3
   refine JLM rfl <| JLn (Pu.eql rfl rfl) <| JLq (.bool (decide (j = 1))) (Pu.pickT rfl rfl) <| JLA rfl <| Zb ?_
   first | exact ⟨rfl, rfl, rfl, rfl, rfl⟩ | (exfalso; omega)
  | false =>
   replace h3 := df h3
   iterate 2 refine ZB rfl ?_
   refine JLq (.bool false) (Pu.pickF rfl rfl) <| JLA rfl <| Zb ?_
   first | exact ⟨rfl, rfl, rfl, rfl, rfl⟩ | (exfalso; omega)
 rintro ρ4 _ ⟨e5, e6, e7, e8, rfl⟩
 obtain ⟨ρ9, rfl⟩ := Zs (uc e5 (uc e6 (uc e7 (uc e8 un))))
 clear e5 e6 e7 e8
 refine Zg rfl (fun h10 => ?_) (fun h10 => ?_)
 ·obtain ⟨h10a, h10b⟩ := Ym h10
  replace h10a := dt h10a
  replace h10b := dt h10b
  refine Zh <| Zg rfl (fun h11 => ?_) (fun h11 => ?_)
  ·obtain ⟨h11a, h11b⟩ := Ym h11
   replace h11a := dt h11a
   replace h11b := dt h11b
   refine Zc <| Za <| JLA rfl <| Zb <| Zj <| ⟨iv 1, [], Ret.one rfl (RV.tmp rfl), Sub.nil, ?_⟩
   exact ⟨by first | (simp_all [Z4]; done) | (congr 1; unfold Z4; simp_all; try omega), rfl⟩
  refine J_cut (fun ρ M => ρ 4 = iv 0 ∧ ρ 20 = .bool ((decide (k = 12)) && (decide (1 < j))) ∧ M = []) ?_ ?_
  ·refine Za <| JLM rfl <| JLn (Pu.eql rfl rfl) <| JLM rfl ?_
   cases h12 : (decide (k = 12)) with
   | true =>
    replace h12 := dt h12
    refine JLM rfl <| JLn (Pu.gtr rfl rfl) <| JLq (.bool (decide (1 < j))) (Pu.pickT rfl rfl) <| JLA rfl <| Zb ?_
    first | exact ⟨rfl, rfl, rfl⟩ | (exfalso; omega)
   | false =>
    replace h12 := df h12
    iterate 2 refine ZB rfl ?_
    refine JLq (.bool false) (Pu.pickF rfl rfl) <| JLA rfl <| Zb ?_
    first | exact ⟨rfl, rfl, rfl⟩ | (exfalso; omega)
  rintro ρ13 _ ⟨e14, e15, rfl⟩
  obtain ⟨ρ16, rfl⟩ := Zs (uc e14 (uc e15 un))
  clear e14 e15
  refine Zg rfl (fun h17 => ?_) (fun h17 => ?_)
  ·obtain ⟨h17a, h17b⟩ := Ym h17
   replace h17a := dt h17a
   replace h17b := dt h17b
   refine Zc <| Za <| JLA rfl <| Zb <| Zj <| ⟨iv 2, [], Ret.one rfl (RV.tmp rfl), Sub.nil, ?_⟩
   exact ⟨by first | (simp_all [Z4]; done) | (congr 1; unfold Z4; simp_all; try omega), rfl⟩
  refine Zh <| Zc <| Za <| JLA rfl <| Zb <| Zj <| ⟨iv 0, [], Ret.one rfl (RV.tmp rfl), Sub.nil, ?_⟩
  exact ⟨by first | (simp_all [Z4]; done) | (congr 1; unfold Z4; simp_all; try omega), rfl⟩
 refine J_weak (N := fun ρ M => ρ 0 = iv k ∧ ρ 1 = iv j ∧ ρ 4 = iv 0 ∧ ρ 5 = .bool ((decide (k = 12)) && (decide (j = 1))) ∧ M = []) ?_ ?_
 ·refine Za <| JLM rfl <| JLn (Pu.eql rfl rfl) <| JLM rfl ?_
  cases h18 : (decide (k = 12)) with
  | true =>
   replace h18 := dt h18
   refine JLM rfl <| JLn (Pu.eql rfl rfl) <| JLq (.bool (decide (j = 1))) (Pu.pickT rfl rfl) <| JLA rfl <| Zb ?_
   first | exact ⟨rfl, rfl, rfl, rfl, rfl⟩ | (exfalso; omega)
  | false =>
   replace h18 := df h18
   iterate 2 refine ZB rfl ?_
   refine JLq (.bool false) (Pu.pickF rfl rfl) <| JLA rfl <| Zb ?_
   first | exact ⟨rfl, rfl, rfl, rfl, rfl⟩ | (exfalso; omega)
 rintro ρ19 _ ⟨e20, e21, e22, e23, rfl⟩
 obtain ⟨ρ24, rfl⟩ := Zs (uc e20 (uc e21 (uc e22 (uc e23 un))))
 clear e20 e21 e22 e23
 refine Zg rfl (fun h25 => ?_) (fun h25 => ?_)
 ·obtain ⟨h25a, h25b⟩ := Ym h25
  replace h25a := dt h25a
  replace h25b := dt h25b
  refine Zc <| Za <| JLA rfl <| Zb <| Zj <| ⟨iv 1, [], Ret.one rfl (RV.tmp rfl), Sub.nil, ?_⟩
  exact ⟨by first | (simp_all [Z4]; done) | (congr 1; unfold Z4; simp_all; try omega), rfl⟩
 refine J_cut (fun ρ M => ρ 4 = iv 0 ∧ ρ 20 = .bool ((decide (k = 12)) && (decide (1 < j))) ∧ M = []) ?_ ?_
 ·refine Za <| JLM rfl <| JLn (Pu.eql rfl rfl) <| JLM rfl ?_
  cases h26 : (decide (k = 12)) with
  | true =>
   replace h26 := dt h26
   refine JLM rfl <| JLn (Pu.gtr rfl rfl) <| JLq (.bool (decide (1 < j))) (Pu.pickT rfl rfl) <| JLA rfl <| Zb ?_
   first | exact ⟨rfl, rfl, rfl⟩ | (exfalso; omega)
  | false =>
   replace h26 := df h26
   iterate 2 refine ZB rfl ?_
   refine JLq (.bool false) (Pu.pickF rfl rfl) <| JLA rfl <| Zb ?_
   first | exact ⟨rfl, rfl, rfl⟩ | (exfalso; omega)
 rintro ρ27 _ ⟨e28, e29, rfl⟩
 obtain ⟨ρ30, rfl⟩ := Zs (uc e28 (uc e29 un))
 clear e28 e29
 refine Zg rfl (fun h31 => ?_) (fun h31 => ?_)
 ·obtain ⟨h31a, h31b⟩ := Ym h31
  replace h31a := dt h31a
  replace h31b := dt h31b
  refine Zc <| Za <| JLA rfl <| Zb <| Zj <| ⟨iv 2, [], Ret.one rfl (RV.tmp rfl), Sub.nil, ?_⟩
  exact ⟨by first | (simp_all [Z4]; done) | (congr 1; unfold Z4; simp_all; try omega), rfl⟩
 refine Zh <| Zc <| Za <| JLA rfl <| Zb <| Zj <| ⟨iv 0, [], Ret.one rfl (RV.tmp rfl), Sub.nil, ?_⟩
 exact ⟨by first | (simp_all [Z4]; done) | (congr 1; unfold Z4; simp_all; try omega), rfl⟩
theorem offR_ct (n lo hi : Int) (H : Heap) : CT Tryz.prog 145 ⟨[iv n, iv lo, iv hi]⟩ [] H (fun v N => v = .bool (decide (n < lo ∨ hi < n)) ∧ N = []) := by
 refine Zm Tryz.func145 rfl rfl <| Zc <| Za <| JLA rfl <| Zb <| J_cut (fun ρ M => ρ 6 = .bool ((decide (n < lo)) || (decide (hi < n))) ∧ M = []) ?_ ?_
 ·refine Za <| JLM rfl <| JLM rfl <| JLn (Pu.lss rfl rfl) <| JLM rfl ?_
  cases h1 : (decide (n < lo)) with
  | true =>
   replace h1 := dt h1
   iterate 3 refine ZB rfl ?_
   refine JLq (.bool true) (Pu.pickT rfl rfl) <| JLA rfl <| Zb ?_
   first | exact ⟨rfl, rfl⟩ | (exfalso; omega)
  | false =>
   replace h1 := df h1
   refine JLM rfl <| JLM rfl <| JLn (Pu.gtr rfl rfl) <| JLq (.bool (decide (hi < n))) (Pu.pickF rfl rfl) <| JLA rfl <| Zb ?_
   first | exact ⟨rfl, rfl⟩ | (exfalso; omega)
 rintro ρ2 _ ⟨e3, rfl⟩
 obtain ⟨ρ4, rfl⟩ := Zs (uc e3 un)
 clear e3
 refine Zj <| ⟨.bool ((decide (n < lo)) || (decide (hi < n))), [], Ret.one rfl (RV.tmp rfl), Sub.nil, ?_⟩
 exact ⟨by simp, rfl⟩
theorem bindsR_ct : ∀ (p : Pt) (cs : List Value) (H : Heap), RP H cs p → binds p ≤ 1000000 → CT Tryz.prog 150 ⟨[.agg ⟨cs⟩]⟩ [] H (fun v N => v = iv (binds p : Int) ∧ N = []) := by
 intro p
 induction p using Pt.ind with
 | h kind num ref kids ih =>
 intro cs H hp hb
 obtain ⟨ks, rfl, hk, hn, hks⟩ := RP_mk.1 hp
 rw [binds] at hb ⊢
 refine Zm Tryz.func150 rfl rfl <| Zc <| Za <| JLr (Zp (l := pkP kind num ref ks) rfl rfl fun b1 => JLA rfl <| Zb <| Zc <| Zc <| Za <| JLq (pp b1 0) (Yp rfl rfl) <| JLr (Ze ty3 rfl (At.bx 0 rfl) (Y6 ..) <| JLn (Pu.eql rfl rfl) <| Zb ?_))
 refine Zg rfl (fun h2 => ?_) (fun h2 => ?_)
 ·replace h2 := dt h2
  refine Zc <| Za <| JLA rfl <| Zb <| Zj <| ⟨iv 1, [], Ret.one rfl (RV.tmp rfl), Sub.nil, ?_⟩
  exact ⟨by rw [if_pos (by assumption)]; rfl, rfl⟩
 replace h2 := df h2
 refine Zh <| Zc <| Za <| JLA rfl <| Zb <| Zc <| Zc <| Za <| JLA rfl <| Zb <| Zo <| ZN (fun k ρ M => ∃ (j : Nat), ρ 1 = pp b1 0 ∧ ρ 2 = iv 0 ∧ ρ 3 = iv ((YC (kids.take j) : Int)) ∧ ρ 4 = iv ((j : Int)) ∧ Sub [(BX b1 (pkP kind num ref ks) 81)] M ∧ j ≤ kids.length ∧ k = kids.length - j) _ ⟨0, rfl, rfl, rfl, rfl, (Sk Sub.nil), Nat.zero_le _, rfl⟩ ?_
 rintro _ ρ3 _ ⟨j, e4, e5, e6, e7, hm8, hj, rfl⟩
 obtain ⟨ρ9, rfl⟩ := Zs (uc e4 (uc e5 (uc e6 (uc e7 un))))
 clear e4 e5 e6 e7
 refine ZX hm8 ?_
 have hlen := hks.le
 refine Zc <| Zc <| Za <| JLM rfl <| JLq (pp b1 34) (Yi rfl rfl) <| JLr (Ze ty79 rfl (At.bx 0 rfl) (Yo ..) ?_)
 obtain ⟨a10, cap10, hv10⟩ := hks.sl
 have hle10 := hks.le
 refine JLn (Pu.lenSl Tryz.runUnderlying79 hv10) <| JLn (Pu.lss rfl rfl) <| Zb <| Zg rfl (fun h11 => ?_) (fun h11 => ?_)
 ·replace h11 := dt h11
  have h11n : j < kids.length := by omega
  have hm1 := binds_mem kids _ (List.getElem_mem h11n)
  have hm2 := bindsL_take kids _ h11n
  have hm3 := bindsL_take_le kids (j + 1)
  rw [if_neg (by assumption)] at hb
  refine Zh <| Zc <| Zo <| Za <| JLM rfl <| JLq (pp b1 34) (Yi rfl rfl) <| JLr (Ze ty79 rfl (At.bx 0 rfl) (Yo ..) <| JLM rfl ?_)
  obtain ⟨b12, o12, cap12, row12, T12, fr12, cs12, hv12, hb12, hs12, hE12⟩ := hks.get j (by first | assumption | omega | decide | simp)
  refine JLq (pp b12 (o12 + j * 35)) (Pu.idx j Tryz.runUnderlying79 Z7 hv12 rfl rfl (by first | assumption | omega | decide | simp)) <| JLr (Zl Z7 rfl (At.im hb12) hs12 <| Jc Tryz.call150 rfl (fun hin => ih _ (List.getElem_mem h11n) _ _ (RP.mono (Hle.hu _ _) hE12) (by omega)) rfl ?_)
  rintro _ _ ⟨rfl, rfl⟩
  refine JLn (Pu.add64 rfl rfl (by first | omega | (constructor <;> omega))) <| JLA rfl <| Zb <| Za <| JLM rfl <| JLn (Pu.inc rfl rfl (by omega)) <| JLA rfl <| Zb <| ⟨_, ?_, (j + 1), rfl, rfl, (ieq rfl (by omega)), rfl, (Sk Sub.nil), ?_, rfl⟩
  ·omega
  omega
 replace h11 := df h11
 have h11n : kids.length ≤ j := by omega
 refine Zz _ rfl <| Zc <| Za <| JLM rfl <| JLA rfl <| Zb <| Zj <| ⟨iv ((YC (kids.take j) : Int)), [], Ret.one rfl (RV.tmp rfl), Sub.nil, ?_⟩
 exact ⟨by rw [if_neg (by assumption), List.take_of_length_le h11n], rfl⟩
theorem hasNum_ct (k : Int) (H : Heap) : CT Tryz.prog 146 ⟨[iv k]⟩ [] H (fun v N => v = .bool (Xp k) ∧ N = []) := by
 refine Zm Tryz.func146 rfl rfl <| Zc <| Za <| JLA rfl <| Zb <| J_cut (fun ρ M => ρ 2 = .bool ((((((decide (k = 1)) || (decide (k = 2))) || (decide (k = 7))) || (decide (k = 8))) || (decide (k = 10))) || (decide (k = 11))) ∧ M = []) ?_ ?_
 ·refine Za <| JLM rfl <| JLn (Pu.eql rfl rfl) <| JLM rfl ?_
  cases h1 : (decide (k = 1)) with
  | true =>
   replace h1 := dt h1
   iterate 2 refine ZB rfl ?_
   refine JLq (.bool true) (Pu.pickT rfl rfl) <| JLM rfl ?_
   iterate 2 refine ZB rfl ?_
   refine JLq (.bool true) (Pu.pickT rfl rfl) <| JLM rfl ?_
   iterate 2 refine ZB rfl ?_
   refine JLq (.bool true) (Pu.pickT rfl rfl) <| JLM rfl ?_
   iterate 2 refine ZB rfl ?_
   refine JLq (.bool true) (Pu.pickT rfl rfl) <| JLM rfl ?_
   iterate 2 refine ZB rfl ?_
   refine JLq (.bool true) (Pu.pickT rfl rfl) <| JLA rfl <| Zb ?_
   first | exact ⟨rfl, rfl⟩ | (exfalso; omega)
  | false =>
   replace h1 := df h1
   refine JLM rfl <| JLn (Pu.eql rfl rfl) <| JLq (.bool (decide (k = 2))) (Pu.pickF rfl rfl) <| JLM rfl ?_
   cases h2 : (decide (k = 2)) with
   | true =>
    replace h2 := dt h2
    iterate 2 refine ZB rfl ?_
    refine JLq (.bool true) (Pu.pickT rfl rfl) <| JLM rfl ?_
    iterate 2 refine ZB rfl ?_
    refine JLq (.bool true) (Pu.pickT rfl rfl) <| JLM rfl ?_
    iterate 2 refine ZB rfl ?_
    refine JLq (.bool true) (Pu.pickT rfl rfl) <| JLM rfl ?_
    iterate 2 refine ZB rfl ?_
    refine JLq (.bool true) (Pu.pickT rfl rfl) <| JLA rfl <| Zb ?_
    first | exact ⟨rfl, rfl⟩ | (exfalso; omega)
   | false =>
    replace h2 := df h2
    refine JLM rfl <| JLn (Pu.eql rfl rfl) <| JLq (.bool (decide (k = 7))) (Pu.pickF rfl rfl) <| JLM rfl ?_
    cases h3 : (decide (k = 7)) with
    | true =>
     replace h3 := dt h3
     iterate 2 refine ZB rfl ?_
     refine JLq (.bool true) (Pu.pickT rfl rfl) <| JLM rfl ?_
     iterate 2 refine ZB rfl ?_
     refine JLq (.bool true) (Pu.pickT rfl rfl) <| JLM rfl ?_
     iterate 2 refine ZB rfl ?_
     refine JLq (.bool true) (Pu.pickT rfl rfl) <| JLA rfl <| Zb ?_
     first | exact ⟨rfl, rfl⟩ | (exfalso; omega)
    | false =>
     replace h3 := df h3
     refine JLM rfl <| JLn (Pu.eql rfl rfl) <| JLq (.bool (decide (k = 8))) (Pu.pickF rfl rfl) <| JLM rfl ?_
     cases h4 : (decide (k = 8)) with
     | true =>
      replace h4 := dt h4
      iterate 2 refine ZB rfl ?_
      refine JLq (.bool true) (Pu.pickT rfl rfl) <| JLM rfl ?_
      iterate 2 refine ZB rfl ?_
      refine JLq (.bool true) (Pu.pickT rfl rfl) <| JLA rfl <| Zb ?_
      first | exact ⟨rfl, rfl⟩ | (exfalso; omega)
     | false =>
      replace h4 := df h4
      refine JLM rfl <| JLn (Pu.eql rfl rfl) <| JLq (.bool (decide (k = 10))) (Pu.pickF rfl rfl) <| JLM rfl ?_
      cases h5 : (decide (k = 10)) with
      | true =>
       replace h5 := dt h5
       iterate 2 refine ZB rfl ?_
       refine JLq (.bool true) (Pu.pickT rfl rfl) <| JLA rfl <| Zb ?_
       first | exact ⟨rfl, rfl⟩ | (exfalso; omega)
      | false =>
       replace h5 := df h5
       refine JLM rfl <| JLn (Pu.eql rfl rfl) <| JLq (.bool (decide (k = 11))) (Pu.pickF rfl rfl) <| JLA rfl <| Zb ?_
       first | exact ⟨rfl, rfl⟩ | (exfalso; omega)
 rintro ρ6 _ ⟨e7, rfl⟩
 obtain ⟨ρ8, rfl⟩ := Zs (uc e7 un)
 clear e7
 refine Zj <| ⟨.bool ((((((decide (k = 1)) || (decide (k = 2))) || (decide (k = 7))) || (decide (k = 8))) || (decide (k = 10))) || (decide (k = 11))), [], Ret.one rfl (RV.tmp rfl), Sub.nil, ?_⟩
 exact ⟨by simp_all [Xp], rfl⟩
theorem hasRef_ct (k : Int) (H : Heap) : CT Tryz.prog 49 ⟨[iv k]⟩ [] H (fun v N => v = .bool (ZG k) ∧ N = []) := by
 refine Zm Tryz.func49 rfl rfl <| Zc <| Za <| JLA rfl <| Zb <| J_cut (fun ρ M => ρ 2 = .bool ((((decide (k = 6)) || (decide (k = 8))) || (decide (k = 11))) || (decide (k = 12))) ∧ M = []) ?_ ?_
 ·refine Za <| JLM rfl <| JLn (Pu.eql rfl rfl) <| JLM rfl ?_
  cases h1 : (decide (k = 6)) with
  | true =>
   replace h1 := dt h1
   iterate 2 refine ZB rfl ?_
   refine JLq (.bool true) (Pu.pickT rfl rfl) <| JLM rfl ?_
   iterate 2 refine ZB rfl ?_
   refine JLq (.bool true) (Pu.pickT rfl rfl) <| JLM rfl ?_
   iterate 2 refine ZB rfl ?_
   refine JLq (.bool true) (Pu.pickT rfl rfl) <| JLA rfl <| Zb ?_
   first | exact ⟨rfl, rfl⟩ | (exfalso; omega)
  | false =>
   replace h1 := df h1
   refine JLM rfl <| JLn (Pu.eql rfl rfl) <| JLq (.bool (decide (k = 8))) (Pu.pickF rfl rfl) <| JLM rfl ?_
   cases h2 : (decide (k = 8)) with
   | true =>
    replace h2 := dt h2
    iterate 2 refine ZB rfl ?_
    refine JLq (.bool true) (Pu.pickT rfl rfl) <| JLM rfl ?_
    iterate 2 refine ZB rfl ?_
    refine JLq (.bool true) (Pu.pickT rfl rfl) <| JLA rfl <| Zb ?_
    first | exact ⟨rfl, rfl⟩ | (exfalso; omega)
   | false =>
    replace h2 := df h2
    refine JLM rfl <| JLn (Pu.eql rfl rfl) <| JLq (.bool (decide (k = 11))) (Pu.pickF rfl rfl) <| JLM rfl ?_
    cases h3 : (decide (k = 11)) with
    | true =>
     replace h3 := dt h3
     iterate 2 refine ZB rfl ?_
     refine JLq (.bool true) (Pu.pickT rfl rfl) <| JLA rfl <| Zb ?_
     first | exact ⟨rfl, rfl⟩ | (exfalso; omega)
    | false =>
     replace h3 := df h3
     refine JLM rfl <| JLn (Pu.eql rfl rfl) <| JLq (.bool (decide (k = 12))) (Pu.pickF rfl rfl) <| JLA rfl <| Zb ?_
     first | exact ⟨rfl, rfl⟩ | (exfalso; omega)
 rintro ρ4 _ ⟨e5, rfl⟩
 obtain ⟨ρ6, rfl⟩ := Zs (uc e5 un)
 clear e5
 refine Zj <| ⟨.bool ((((decide (k = 6)) || (decide (k = 8))) || (decide (k = 11))) || (decide (k = 12))), [], Ret.one rfl (RV.tmp rfl), Sub.nil, ?_⟩
 exact ⟨by simp_all [ZG], rfl⟩
theorem kidsR_ct (k : Int) (H : Heap) : CT Tryz.prog 147 ⟨[iv k]⟩ [] H (fun v N => v = .tuple ⟨[iv (loK k), iv (hiK k)]⟩ ∧ N = []) := by
 refine Zm Tryz.func147 rfl rfl <| Zc <| Za <| JLA rfl <| JLA rfl <| Zb <| Zc <| Zc <| Za <| JLM rfl <| Zb <| Zo <| Zc ?_
 refine Zc <| Za <| JLn (Pu.eql rfl rfl) <| JLA rfl <| Zb <| Zg rfl (fun h1 => ?_) (fun h1 => ?_)
 ·replace h1 := dt h1
  refine Zh <| Zg rfl (fun _ => ?_) (fun h2 => absurd h1 (df h2))
  refine Zc <| Za <| JLA rfl <| JLA rfl <| Zb <| Zj <| ⟨.tuple ⟨[iv 1, iv 1]⟩, [], Ret.two rfl (RV.tmp rfl) (RV.tmp rfl), Sub.nil, ?_⟩
  exact ⟨by simp_all [loK, hiK], rfl⟩
 replace h1 := df h1
 refine Zc <| Za <| JLn (Pu.eql rfl rfl) <| JLA rfl <| Zb <| Zg rfl (fun h3 => ?_) (fun h3 => ?_)
 ·replace h3 := dt h3
  refine Zh <| Zg rfl (fun _ => ?_) (fun h4 => absurd h3 (df h4))
  refine Zc <| Za <| JLA rfl <| JLA rfl <| Zb <| Zj <| ⟨.tuple ⟨[iv 1, iv 1]⟩, [], Ret.two rfl (RV.tmp rfl) (RV.tmp rfl), Sub.nil, ?_⟩
  exact ⟨by simp_all [loK, hiK], rfl⟩
 replace h3 := df h3
 refine Za <| JLn (Pu.eql rfl rfl) <| JLA rfl <| Zb <| Zg rfl (fun h5 => ?_) (fun h5 => ?_)
 ·replace h5 := dt h5
  refine Zc <| Za <| JLA rfl <| JLA rfl <| Zb <| Zj <| ⟨.tuple ⟨[iv 1, iv 1]⟩, [], Ret.two rfl (RV.tmp rfl) (RV.tmp rfl), Sub.nil, ?_⟩
  exact ⟨by simp_all [loK, hiK], rfl⟩
 replace h5 := df h5
 refine Zc <| Zc <| Za <| JLn (Pu.eql rfl rfl) <| JLA rfl <| Zb <| Zg rfl (fun h6 => ?_) (fun h6 => ?_)
 ·replace h6 := dt h6
  refine Zh <| Zg rfl (fun _ => ?_) (fun h7 => absurd h6 (df h7))
  refine Zc <| Za <| JLA rfl <| JLA rfl <| Zb <| Zj <| ⟨.tuple ⟨[iv 2, iv 2]⟩, [], Ret.two rfl (RV.tmp rfl) (RV.tmp rfl), Sub.nil, ?_⟩
  exact ⟨by simp_all [loK, hiK], rfl⟩
 replace h6 := df h6
 refine Zc <| Za <| JLn (Pu.eql rfl rfl) <| JLA rfl <| Zb <| Zg rfl (fun h8 => ?_) (fun h8 => ?_)
 ·replace h8 := dt h8
  refine Zh <| Zg rfl (fun _ => ?_) (fun h9 => absurd h8 (df h9))
  refine Zc <| Za <| JLA rfl <| JLA rfl <| Zb <| Zj <| ⟨.tuple ⟨[iv 2, iv 2]⟩, [], Ret.two rfl (RV.tmp rfl) (RV.tmp rfl), Sub.nil, ?_⟩
  exact ⟨by simp_all [loK, hiK], rfl⟩
 replace h8 := df h8
 refine Za <| JLn (Pu.eql rfl rfl) <| JLA rfl <| Zb <| Zg rfl (fun h10 => ?_) (fun h10 => ?_)
 ·replace h10 := dt h10
  refine Zc <| Za <| JLA rfl <| JLA rfl <| Zb <| Zj <| ⟨.tuple ⟨[iv 2, iv 2]⟩, [], Ret.two rfl (RV.tmp rfl) (RV.tmp rfl), Sub.nil, ?_⟩
  exact ⟨by simp_all [loK, hiK], rfl⟩
 replace h10 := df h10
 refine Zc <| Za <| JLn (Pu.eql rfl rfl) <| JLA rfl <| Zb <| Zg rfl (fun h11 => ?_) (fun h11 => ?_)
 ·replace h11 := dt h11
  refine Zc <| Za <| JLA rfl <| JLA rfl <| Zb <| Zj <| ⟨.tuple ⟨[iv 0, iv 4]⟩, [], Ret.two rfl (RV.tmp rfl) (RV.tmp rfl), Sub.nil, ?_⟩
  exact ⟨by simp_all [loK, hiK], rfl⟩
 replace h11 := df h11
 refine Zc <| Za <| JLn (Pu.eql rfl rfl) <| JLA rfl <| Zb <| Zg rfl (fun h12 => ?_) (fun h12 => ?_)
 ·replace h12 := dt h12
  refine Zc <| Za <| JLA rfl <| JLA rfl <| Zb <| Zj <| ⟨.tuple ⟨[iv 2, iv 10]⟩, [], Ret.two rfl (RV.tmp rfl) (RV.tmp rfl), Sub.nil, ?_⟩
  exact ⟨by simp_all [loK, hiK], rfl⟩
 replace h12 := df h12
 refine Zh <| Zc <| Za <| JLA rfl <| JLA rfl <| Zb <| Zj <| ⟨.tuple ⟨[iv 0, iv 0]⟩, [], Ret.two rfl (RV.tmp rfl) (RV.tmp rfl), Sub.nil, ?_⟩
 exact ⟨by simp_all [loK, hiK], rfl⟩
theorem fields_ct (k : Int) (H : Heap) : CT Tryz.prog 93 ⟨[iv k]⟩ [] H (fun v N => v = .agg ⟨[.bool (fN k), .bool (fR k), .bool (fC k)]⟩ ∧ N = []) := by
 refine Zm Tryz.func93 rfl rfl <| Zc <| Za <| JLr (Zk (l := [.bool false, .bool false, .bool false]) Tryz.zeroValue152 rfl fun b1 => Zb <| Zc <| Za <| JLr (Zk (l := [.bool false, .bool false, .bool false]) Tryz.zeroValue152 rfl fun b2 => Zb <| Zc <| Zc <| Za <| JLM rfl ?_))
 refine Zb <| Zo <| Zc <| Zc <| Za <| JLn (Pu.eql rfl rfl) <| JLA rfl <| Zb <| Zg rfl (fun h3 => ?_) (fun h3 => ?_)
 ·replace h3 := dt h3
  refine Zh <| Zg rfl (fun _ => ?_) (fun h4 => absurd h3 (df h4))
  refine Za <| JLq (pp b2 0) (Pu.idxA 0 Tryz.runUnderlying152 ty4 rfl rfl (by decide) (by decide)) <| JLr (Zd 0 (vs := [.bool true]) (l := [.bool true, .bool false, .bool false]) ty4 rfl rfl rfl rfl rfl (Zf rfl Zn) rfl <| Zb <| Zc <| Za <| JLr (Zl Z5 rfl (At.bx 0 rfl) rfl <| JLr (Zd 1 (vs := [.bool true, .bool false, .bool false]) (l := [.bool true, .bool false, .bool false]) Z5 rfl rfl rfl rfl rfl (Zf rfl (Zf rfl (Zf rfl Zn))) rfl <| Zb <| Zj <| ⟨.agg ⟨[.bool true, .bool false, .bool false]⟩, [], Ret.one rfl (RV.cell Z5 rfl (At.bx 1 rfl) rfl), Sub.nil, ?_⟩)))
  exact ⟨by simp_all [fN, fR, fC], rfl⟩
 replace h3 := df h3
 refine Zc <| Za <| JLn (Pu.eql rfl rfl) <| JLA rfl <| Zb <| Zg rfl (fun h5 => ?_) (fun h5 => ?_)
 ·replace h5 := dt h5
  refine Zh <| Zg rfl (fun _ => ?_) (fun h6 => absurd h5 (df h6))
  refine Za <| JLq (pp b2 0) (Pu.idxA 0 Tryz.runUnderlying152 ty4 rfl rfl (by decide) (by decide)) <| JLr (Zd 0 (vs := [.bool true]) (l := [.bool true, .bool false, .bool false]) ty4 rfl rfl rfl rfl rfl (Zf rfl Zn) rfl <| Zb <| Zc <| Za <| JLr (Zl Z5 rfl (At.bx 0 rfl) rfl <| JLr (Zd 1 (vs := [.bool true, .bool false, .bool false]) (l := [.bool true, .bool false, .bool false]) Z5 rfl rfl rfl rfl rfl (Zf rfl (Zf rfl (Zf rfl Zn))) rfl <| Zb <| Zj <| ⟨.agg ⟨[.bool true, .bool false, .bool false]⟩, [], Ret.one rfl (RV.cell Z5 rfl (At.bx 1 rfl) rfl), Sub.nil, ?_⟩)))
  exact ⟨by simp_all [fN, fR, fC], rfl⟩
 replace h5 := df h5
 refine Zc <| Za <| JLn (Pu.eql rfl rfl) <| JLA rfl <| Zb <| Zg rfl (fun h7 => ?_) (fun h7 => ?_)
 ·replace h7 := dt h7
  refine Zh <| Zg rfl (fun _ => ?_) (fun h8 => absurd h7 (df h8))
  refine Za <| JLq (pp b2 0) (Pu.idxA 0 Tryz.runUnderlying152 ty4 rfl rfl (by decide) (by decide)) <| JLr (Zd 0 (vs := [.bool true]) (l := [.bool true, .bool false, .bool false]) ty4 rfl rfl rfl rfl rfl (Zf rfl Zn) rfl <| Zb <| Zc <| Za <| JLr (Zl Z5 rfl (At.bx 0 rfl) rfl <| JLr (Zd 1 (vs := [.bool true, .bool false, .bool false]) (l := [.bool true, .bool false, .bool false]) Z5 rfl rfl rfl rfl rfl (Zf rfl (Zf rfl (Zf rfl Zn))) rfl <| Zb <| Zj <| ⟨.agg ⟨[.bool true, .bool false, .bool false]⟩, [], Ret.one rfl (RV.cell Z5 rfl (At.bx 1 rfl) rfl), Sub.nil, ?_⟩)))
  exact ⟨by simp_all [fN, fR, fC], rfl⟩
 replace h7 := df h7
 refine Za <| JLn (Pu.eql rfl rfl) <| JLA rfl <| Zb <| Zg rfl (fun h9 => ?_) (fun h9 => ?_)
 ·replace h9 := dt h9
  refine Za <| JLq (pp b2 0) (Pu.idxA 0 Tryz.runUnderlying152 ty4 rfl rfl (by decide) (by decide)) <| JLr (Zd 0 (vs := [.bool true]) (l := [.bool true, .bool false, .bool false]) ty4 rfl rfl rfl rfl rfl (Zf rfl Zn) rfl <| Zb <| Zc <| Za <| JLr (Zl Z5 rfl (At.bx 0 rfl) rfl <| JLr (Zd 1 (vs := [.bool true, .bool false, .bool false]) (l := [.bool true, .bool false, .bool false]) Z5 rfl rfl rfl rfl rfl (Zf rfl (Zf rfl (Zf rfl Zn))) rfl <| Zb <| Zj <| ⟨.agg ⟨[.bool true, .bool false, .bool false]⟩, [], Ret.one rfl (RV.cell Z5 rfl (At.bx 1 rfl) rfl), Sub.nil, ?_⟩)))
  exact ⟨by simp_all [fN, fR, fC], rfl⟩
 replace h9 := df h9
 refine Zc <| Zc <| Za <| JLn (Pu.eql rfl rfl) <| JLA rfl <| Zb <| Zg rfl (fun h10 => ?_) (fun h10 => ?_)
 ·replace h10 := dt h10
  refine Zh <| Zg rfl (fun _ => ?_) (fun h11 => absurd h10 (df h11))
  refine Za <| JLq (pp b2 0) (Pu.idxA 0 Tryz.runUnderlying152 ty4 rfl rfl (by decide) (by decide)) <| JLr (Zd 0 (vs := [.bool true]) (l := [.bool true, .bool false, .bool false]) ty4 rfl rfl rfl rfl rfl (Zf rfl Zn) rfl <| JLq (pp b2 1) (Pu.idxA 1 Tryz.runUnderlying152 ty4 rfl rfl (by decide) (by decide)) <| JLr (Zd 0 (vs := [.bool true]) (l := [.bool true, .bool true, .bool false]) ty4 rfl rfl rfl rfl rfl (Zf rfl Zn) rfl <| Zb <| Zc <| Za <| JLr (Zl Z5 rfl (At.bx 0 rfl) rfl <| JLr (Zd 1 (vs := [.bool true, .bool true, .bool false]) (l := [.bool true, .bool true, .bool false]) Z5 rfl rfl rfl rfl rfl (Zf rfl (Zf rfl (Zf rfl Zn))) rfl <| Zb <| Zj <| ⟨.agg ⟨[.bool true, .bool true, .bool false]⟩, [], Ret.one rfl (RV.cell Z5 rfl (At.bx 1 rfl) rfl), Sub.nil, ?_⟩))))
  exact ⟨by simp_all [fN, fR, fC], rfl⟩
 replace h10 := df h10
 refine Za <| JLn (Pu.eql rfl rfl) <| JLA rfl <| Zb <| Zg rfl (fun h12 => ?_) (fun h12 => ?_)
 ·replace h12 := dt h12
  refine Za <| JLq (pp b2 0) (Pu.idxA 0 Tryz.runUnderlying152 ty4 rfl rfl (by decide) (by decide)) <| JLr (Zd 0 (vs := [.bool true]) (l := [.bool true, .bool false, .bool false]) ty4 rfl rfl rfl rfl rfl (Zf rfl Zn) rfl <| JLq (pp b2 1) (Pu.idxA 1 Tryz.runUnderlying152 ty4 rfl rfl (by decide) (by decide)) <| JLr (Zd 0 (vs := [.bool true]) (l := [.bool true, .bool true, .bool false]) ty4 rfl rfl rfl rfl rfl (Zf rfl Zn) rfl <| Zb <| Zc <| Za <| JLr (Zl Z5 rfl (At.bx 0 rfl) rfl <| JLr (Zd 1 (vs := [.bool true, .bool true, .bool false]) (l := [.bool true, .bool true, .bool false]) Z5 rfl rfl rfl rfl rfl (Zf rfl (Zf rfl (Zf rfl Zn))) rfl <| Zb <| Zj <| ⟨.agg ⟨[.bool true, .bool true, .bool false]⟩, [], Ret.one rfl (RV.cell Z5 rfl (At.bx 1 rfl) rfl), Sub.nil, ?_⟩))))
  exact ⟨by simp_all [fN, fR, fC], rfl⟩
 replace h12 := df h12
 refine Zc <| Zc <| Za <| JLn (Pu.eql rfl rfl) <| JLA rfl <| Zb <| Zg rfl (fun h13 => ?_) (fun h13 => ?_)
 ·replace h13 := dt h13
  refine Zh <| Zg rfl (fun _ => ?_) (fun h14 => absurd h13 (df h14))
  refine Za <| JLq (pp b2 1) (Pu.idxA 1 Tryz.runUnderlying152 ty4 rfl rfl (by decide) (by decide)) <| JLr (Zd 0 (vs := [.bool true]) (l := [.bool false, .bool true, .bool false]) ty4 rfl rfl rfl rfl rfl (Zf rfl Zn) rfl <| Zb <| Zc <| Za <| JLr (Zl Z5 rfl (At.bx 0 rfl) rfl <| JLr (Zd 1 (vs := [.bool false, .bool true, .bool false]) (l := [.bool false, .bool true, .bool false]) Z5 rfl rfl rfl rfl rfl (Zf rfl (Zf rfl (Zf rfl Zn))) rfl <| Zb <| Zj <| ⟨.agg ⟨[.bool false, .bool true, .bool false]⟩, [], Ret.one rfl (RV.cell Z5 rfl (At.bx 1 rfl) rfl), Sub.nil, ?_⟩)))
  exact ⟨by simp_all [fN, fR, fC], rfl⟩
 replace h13 := df h13
 refine Za <| JLn (Pu.eql rfl rfl) <| JLA rfl <| Zb <| Zg rfl (fun h15 => ?_) (fun h15 => ?_)
 ·replace h15 := dt h15
  refine Za <| JLq (pp b2 1) (Pu.idxA 1 Tryz.runUnderlying152 ty4 rfl rfl (by decide) (by decide)) <| JLr (Zd 0 (vs := [.bool true]) (l := [.bool false, .bool true, .bool false]) ty4 rfl rfl rfl rfl rfl (Zf rfl Zn) rfl <| Zb <| Zc <| Za <| JLr (Zl Z5 rfl (At.bx 0 rfl) rfl <| JLr (Zd 1 (vs := [.bool false, .bool true, .bool false]) (l := [.bool false, .bool true, .bool false]) Z5 rfl rfl rfl rfl rfl (Zf rfl (Zf rfl (Zf rfl Zn))) rfl <| Zb <| Zj <| ⟨.agg ⟨[.bool false, .bool true, .bool false]⟩, [], Ret.one rfl (RV.cell Z5 rfl (At.bx 1 rfl) rfl), Sub.nil, ?_⟩)))
  exact ⟨by simp_all [fN, fR, fC], rfl⟩
 replace h15 := df h15
 refine Zc <| Za <| JLn (Pu.eql rfl rfl) <| JLA rfl <| Zb <| Zg rfl (fun h16 => ?_) (fun h16 => ?_)
 ·replace h16 := dt h16
  refine Za <| JLq (pp b2 2) (Pu.idxA 2 Tryz.runUnderlying152 ty4 rfl rfl (by decide) (by decide)) <| JLr (Zd 0 (vs := [.bool true]) (l := [.bool false, .bool false, .bool true]) ty4 rfl rfl rfl rfl rfl (Zf rfl Zn) rfl <| Zb <| Zc <| Za <| JLr (Zl Z5 rfl (At.bx 0 rfl) rfl <| JLr (Zd 1 (vs := [.bool false, .bool false, .bool true]) (l := [.bool false, .bool false, .bool true]) Z5 rfl rfl rfl rfl rfl (Zf rfl (Zf rfl (Zf rfl Zn))) rfl <| Zb <| Zj <| ⟨.agg ⟨[.bool false, .bool false, .bool true]⟩, [], Ret.one rfl (RV.cell Z5 rfl (At.bx 1 rfl) rfl), Sub.nil, ?_⟩)))
  exact ⟨by simp_all [fN, fR, fC], rfl⟩
 replace h16 := df h16
 refine Zh <| Zc <| Za <| JLr (Zl Z5 rfl (At.bx 0 rfl) rfl <| JLr (Zd 1 (vs := [.bool false, .bool false, .bool false]) (l := [.bool false, .bool false, .bool false]) Z5 rfl rfl rfl rfl rfl (Zf rfl (Zf rfl (Zf rfl Zn))) rfl <| Zb <| Zj <| ⟨.agg ⟨[.bool false, .bool false, .bool false]⟩, [], Ret.one rfl (RV.cell Z5 rfl (At.bx 1 rfl) rfl), Sub.nil, ?_⟩))
 exact ⟨by simp_all [fN, fR, fC], rfl⟩
theorem patternFields_ct (k : Int) (H : Heap) : CT Tryz.prog 158 ⟨[iv k]⟩ [] H (fun v N => v = .agg ⟨[.bool (pfN k), .bool (pfR k), .bool false]⟩ ∧ N = []) := by
 refine Zm Tryz.func158 rfl rfl <| Zc <| Za <| JLr (Zk (l := [.bool false, .bool false, .bool false]) Tryz.zeroValue152 rfl fun b1 => Zb <| Zc <| Zc <| Za <| JLM rfl <| Zb <| Zo <| Zc <| Za ?_)
 refine JLn (Pu.eql rfl rfl) <| JLA rfl <| Zb <| Zg rfl (fun h2 => ?_) (fun h2 => ?_)
 ·replace h2 := dt h2
  refine Zc <| Za <| JLq (.agg ⟨[.bool true, .bool false, .bool false]⟩) (Pu.build (pv := [(0, .bool true), (1, .bool false), (2, .bool false)]) (l := [.bool true, .bool false, .bool false]) rfl (bld152_0_1_2 _ _ _)) <| JLr (Zd 0 (vs := [.bool true, .bool false, .bool false]) (l := [.bool true, .bool false, .bool false]) Z5 rfl rfl rfl rfl rfl (Zf rfl (Zf rfl (Zf rfl Zn))) rfl <| Zb <| Zj <| ⟨.agg ⟨[.bool true, .bool false, .bool false]⟩, [], Ret.one rfl (RV.cell Z5 rfl (At.bx 0 rfl) rfl), Sub.nil, ?_⟩)
  exact ⟨by simp_all [pfN, pfR], rfl⟩
 replace h2 := df h2
 refine Zc <| Za <| JLn (Pu.eql rfl rfl) <| JLA rfl <| Zb <| Zg rfl (fun h3 => ?_) (fun h3 => ?_)
 ·replace h3 := dt h3
  refine Zc <| Za <| JLq (.agg ⟨[.bool true, .bool true, .bool false]⟩) (Pu.build (pv := [(0, .bool true), (1, .bool true), (2, .bool false)]) (l := [.bool true, .bool true, .bool false]) rfl (bld152_0_1_2 _ _ _)) <| JLr (Zd 0 (vs := [.bool true, .bool true, .bool false]) (l := [.bool true, .bool true, .bool false]) Z5 rfl rfl rfl rfl rfl (Zf rfl (Zf rfl (Zf rfl Zn))) rfl <| Zb <| Zj <| ⟨.agg ⟨[.bool true, .bool true, .bool false]⟩, [], Ret.one rfl (RV.cell Z5 rfl (At.bx 0 rfl) rfl), Sub.nil, ?_⟩)
  exact ⟨by simp_all [pfN, pfR], rfl⟩
 replace h3 := df h3
 refine Zh <| Zc <| Za <| JLq (.agg ⟨[.bool false, .bool false, .bool false]⟩) (Pu.build (pv := []) (l := [.bool false, .bool false, .bool false]) rfl bld152_) <| JLr (Zd 0 (vs := [.bool false, .bool false, .bool false]) (l := [.bool false, .bool false, .bool false]) Z5 rfl rfl rfl rfl rfl (Zf rfl (Zf rfl (Zf rfl Zn))) rfl <| Zb <| Zj <| ⟨.agg ⟨[.bool false, .bool false, .bool false]⟩, [], Ret.one rfl (RV.cell Z5 rfl (At.bx 0 rfl) rfl), Sub.nil, ?_⟩)
 exact ⟨by simp_all [pfN, pfR], rfl⟩
theorem clash_ct (a b c : Bool) (n : Int) (r : Sm) (m : Int) (H : Heap) : CT Tryz.prog 136 ⟨[.agg ⟨[.bool a, .bool b, .bool c]⟩, iv n, .agg ⟨sC r⟩, iv m]⟩ [] H (fun v N => v = .bool (clashB a b c n r m) ∧ N = []) := by
 refine Zm Tryz.func136 rfl rfl <| Zc <| Za <| JLr (Zp (l := [.bool a, .bool b, .bool c]) rfl rfl fun b1 => JLr (Zp (l := sC r) rfl rfl fun b2 => JLA rfl <| Zb <| Zc <| Za <| JLM rfl <| JLn (Pu.neq rfl rfl) <| JLr (Zl YR rfl (At.bx 0 rfl) (Zu rfl) <| JLq (.agg ⟨sC zS⟩) (Pu.build (pv := []) (l := sC zS) rfl bld26_) ?_)))
 refine JLn (neqS rfl rfl) <| JLM rfl <| JLn (Pu.gtr rfl rfl) <| JLq (.agg ⟨[.bool (!decide (n = 0)), .bool (!decide (r = zS)), .bool (decide (0 < m))]⟩) (Pu.build (pv := [(0, .bool (!decide (n = 0))), (1, .bool (!decide (r = zS))), (2, .bool (decide (0 < m)))]) (l := [.bool (!decide (n = 0)), .bool (!decide (r = zS)), .bool (decide (0 < m))]) rfl (bld152_0_1_2 _ _ _)) <| JLr (Zk (l := [.bool false, .bool false, .bool false]) Tryz.zeroValue152 rfl fun b3 => JLr (Zd 0 (vs := [.bool (!decide (n = 0)), .bool (!decide (r = zS)), .bool (decide (0 < m))]) (l := [.bool (!decide (n = 0)), .bool (!decide (r = zS)), .bool (decide (0 < m))]) Z5 rfl rfl rfl rfl rfl (Zf rfl (Zf rfl (Zf rfl Zn))) rfl <| Zb <| Zc <| Za <| JLr (Zl Z5 rfl (At.bx 0 rfl) rfl <| JLr (Zk (l := [.bool false, .bool false, .bool false]) Tryz.zeroValue152 rfl fun b4 => JLr (Zd 0 (vs := [.bool (!decide (n = 0)), .bool (!decide (r = zS)), .bool (decide (0 < m))]) (l := [.bool (!decide (n = 0)), .bool (!decide (r = zS)), .bool (decide (0 < m))]) Z5 rfl rfl rfl rfl rfl (Zf rfl (Zf rfl (Zf rfl Zn))) rfl <| Zb ?_)))))
 refine Zc <| Zc <| Za <| JLM rfl <| Zb <| Zo <| Yu 4 <| ZQ <| Zc <| Za <| JLq (.bool true) (show Pu _ _ _ (.bool (decide ((0 : Int) < 3))) from Pu.lss rfl rfl) <| Zb <| Zc ?_
 refine Zg (b := true) rfl (fun _ => ?_) (fun h => absurd h (by simp))
 refine Zh <| Zc <| Zo <| Zc <| Za <| JLM rfl <| JLA rfl <| Zb <| J_weak (N := fun ρ M => ρ 4 = pp b1 0 ∧ ρ 8 = .bool false ∧ ρ 9 = pp b3 0 ∧ ρ 10 = pp b4 0 ∧ ρ 21 = iv 0 ∧ M = [(BX b4 [.bool ((!decide (n = 0)) && a), .bool (!decide (r = zS)), .bool (decide (0 < m))] 152), (BX b3 [.bool (!decide (n = 0)), .bool (!decide (r = zS)), .bool (decide (0 < m))] 152), (BX b2 (sC r) 26), (BX b1 [.bool a, .bool b, .bool c] 152)]) ?_ ?_
 ·refine Za <| JLM rfl <| JLM rfl <| JLq (pp b3 0) (Pu.idxA 0 Tryz.runUnderlying152 ty4 rfl rfl (by decide) (by decide)) <| JLr (Ze ty4 rfl (At.bx 1 rfl) rfl <| JLM rfl ?_)
  cases h5 : (!decide (n = 0)) with
  | true =>
   replace h5 := nt h5
   replace h5 := df h5
   refine JLM rfl <| JLq (pp b1 0) (Pu.idxA 0 Tryz.runUnderlying152 ty4 rfl rfl (by decide) (by decide)) <| JLr (Ze ty4 rfl (At.bx 3 rfl) rfl <| JLq (.bool a) (Pu.pickT rfl rfl) <| JLq (pp b4 0) (Pu.idxA 0 Tryz.runUnderlying152 ty4 rfl rfl (by decide) (by decide)) <| JLr (Zd 0 (vs := [.bool a]) (l := [.bool a, .bool (!decide (r = zS)), .bool (decide (0 < m))]) ty4 rfl rfl rfl rfl rfl (Zf rfl Zn) rfl <| Zb ?_))
   first | exact ⟨rfl, rfl, rfl, rfl, rfl, rfl⟩ | (exfalso; omega)
  | false =>
   replace h5 := nf h5
   replace h5 := dt h5
   iterate 3 refine ZB rfl ?_
   refine JLq (.bool false) (Pu.pickF rfl rfl) <| JLq (pp b4 0) (Pu.idxA 0 Tryz.runUnderlying152 ty4 rfl rfl (by decide) (by decide)) <| JLr (Zd 0 (vs := [.bool false]) (l := [.bool false, .bool (!decide (r = zS)), .bool (decide (0 < m))]) ty4 rfl rfl rfl rfl rfl (Zf rfl Zn) rfl <| Zb ?_)
   first | exact ⟨rfl, rfl, rfl, rfl, rfl, rfl⟩ | (exfalso; omega)
 rintro ρ6 _ ⟨e7, e8, e9, e10, e11, rfl⟩
 obtain ⟨ρ12, rfl⟩ := Zs (uc e7 (uc e8 (uc e9 (uc e10 (uc e11 un)))))
 clear e7 e8 e9 e10 e11
 refine Za <| JLq (iv 1) (Pu.arith rfl rfl rfl) <| JLM rfl <| Zb <| ZQ <| Zc <| Za <| JLq (.bool true) (show Pu _ _ _ (.bool (decide ((1 : Int) < 3))) from Pu.lss rfl rfl) <| Zb <| Zc <| Zg (b := true) rfl (fun _ => ?_) (fun h => absurd h (by simp))
 refine Zh <| Zc <| Zo <| Zc <| Za <| JLM rfl <| JLA rfl <| Zb <| J_weak (N := fun ρ M => ρ 4 = pp b1 0 ∧ ρ 8 = .bool false ∧ ρ 9 = pp b3 0 ∧ ρ 10 = pp b4 0 ∧ ρ 21 = iv 1 ∧ M = [(BX b4 [.bool ((!decide (n = 0)) && a), .bool ((!decide (r = zS)) && b), .bool (decide (0 < m))] 152), (BX b3 [.bool (!decide (n = 0)), .bool (!decide (r = zS)), .bool (decide (0 < m))] 152), (BX b2 (sC r) 26), (BX b1 [.bool a, .bool b, .bool c] 152)]) ?_ ?_
 ·refine Za <| JLM rfl <| JLM rfl <| JLq (pp b3 1) (Pu.idxA 1 Tryz.runUnderlying152 ty4 rfl rfl (by decide) (by decide)) <| JLr (Ze ty4 rfl (At.bx 1 rfl) rfl <| JLM rfl ?_)
  cases h13 : (!decide (r = zS)) with
  | true =>
   replace h13 := nt h13
   replace h13 := df h13
   refine JLM rfl <| JLq (pp b1 1) (Pu.idxA 1 Tryz.runUnderlying152 ty4 rfl rfl (by decide) (by decide)) <| JLr (Ze ty4 rfl (At.bx 3 rfl) rfl <| JLq (.bool b) (Pu.pickT rfl rfl) <| JLq (pp b4 1) (Pu.idxA 1 Tryz.runUnderlying152 ty4 rfl rfl (by decide) (by decide)) <| JLr (Zd 0 (vs := [.bool b]) (l := [.bool ((!decide (n = 0)) && a), .bool b, .bool (decide (0 < m))]) ty4 rfl rfl rfl rfl rfl (Zf rfl Zn) rfl <| Zb ?_))
   first | exact ⟨rfl, rfl, rfl, rfl, rfl, rfl⟩ | (exfalso; omega)
  | false =>
   replace h13 := nf h13
   replace h13 := dt h13
   iterate 3 refine ZB rfl ?_
   refine JLq (.bool false) (Pu.pickF rfl rfl) <| JLq (pp b4 1) (Pu.idxA 1 Tryz.runUnderlying152 ty4 rfl rfl (by decide) (by decide)) <| JLr (Zd 0 (vs := [.bool false]) (l := [.bool ((!decide (n = 0)) && a), .bool false, .bool (decide (0 < m))]) ty4 rfl rfl rfl rfl rfl (Zf rfl Zn) rfl <| Zb ?_)
   first | exact ⟨rfl, rfl, rfl, rfl, rfl, rfl⟩ | (exfalso; omega)
 rintro ρ14 _ ⟨e15, e16, e17, e18, e19, rfl⟩
 obtain ⟨ρ20, rfl⟩ := Zs (uc e15 (uc e16 (uc e17 (uc e18 (uc e19 un)))))
 clear e15 e16 e17 e18 e19
 refine Za <| JLq (iv 2) (Pu.arith rfl rfl rfl) <| JLM rfl <| Zb <| ZQ <| Zc <| Za <| JLq (.bool true) (show Pu _ _ _ (.bool (decide ((2 : Int) < 3))) from Pu.lss rfl rfl) <| Zb <| Zc <| Zg (b := true) rfl (fun _ => ?_) (fun h => absurd h (by simp))
 refine Zh <| Zc <| Zo <| Zc <| Za <| JLM rfl <| JLA rfl <| Zb <| J_weak (N := fun ρ M => ρ 4 = pp b1 0 ∧ ρ 8 = .bool false ∧ ρ 9 = pp b3 0 ∧ ρ 10 = pp b4 0 ∧ ρ 21 = iv 2 ∧ M = [(BX b4 [.bool ((!decide (n = 0)) && a), .bool ((!decide (r = zS)) && b), .bool ((decide (0 < m)) && c)] 152), (BX b3 [.bool (!decide (n = 0)), .bool (!decide (r = zS)), .bool (decide (0 < m))] 152), (BX b2 (sC r) 26), (BX b1 [.bool a, .bool b, .bool c] 152)]) ?_ ?_
 ·refine Za <| JLM rfl <| JLM rfl <| JLq (pp b3 2) (Pu.idxA 2 Tryz.runUnderlying152 ty4 rfl rfl (by decide) (by decide)) <| JLr (Ze ty4 rfl (At.bx 1 rfl) rfl <| JLM rfl ?_)
  cases h21 : (decide (0 < m)) with
  | true =>
   replace h21 := dt h21
   refine JLM rfl <| JLq (pp b1 2) (Pu.idxA 2 Tryz.runUnderlying152 ty4 rfl rfl (by decide) (by decide)) <| JLr (Ze ty4 rfl (At.bx 3 rfl) rfl <| JLq (.bool c) (Pu.pickT rfl rfl) <| JLq (pp b4 2) (Pu.idxA 2 Tryz.runUnderlying152 ty4 rfl rfl (by decide) (by decide)) <| JLr (Zd 0 (vs := [.bool c]) (l := [.bool ((!decide (n = 0)) && a), .bool ((!decide (r = zS)) && b), .bool c]) ty4 rfl rfl rfl rfl rfl (Zf rfl Zn) rfl <| Zb ?_))
   first | exact ⟨rfl, rfl, rfl, rfl, rfl, rfl⟩ | (exfalso; omega)
  | false =>
   replace h21 := df h21
   iterate 3 refine ZB rfl ?_
   refine JLq (.bool false) (Pu.pickF rfl rfl) <| JLq (pp b4 2) (Pu.idxA 2 Tryz.runUnderlying152 ty4 rfl rfl (by decide) (by decide)) <| JLr (Zd 0 (vs := [.bool false]) (l := [.bool ((!decide (n = 0)) && a), .bool ((!decide (r = zS)) && b), .bool false]) ty4 rfl rfl rfl rfl rfl (Zf rfl Zn) rfl <| Zb ?_)
   first | exact ⟨rfl, rfl, rfl, rfl, rfl, rfl⟩ | (exfalso; omega)
 rintro ρ22 _ ⟨e23, e24, e25, e26, e27, rfl⟩
 obtain ⟨ρ28, rfl⟩ := Zs (uc e23 (uc e24 (uc e25 (uc e26 (uc e27 un)))))
 clear e23 e24 e25 e26 e27
 refine Za <| JLq (iv 3) (Pu.arith rfl rfl rfl) <| JLM rfl <| Zb <| ZQ <| Zc <| Za <| JLq (.bool false) (show Pu _ _ _ (.bool (decide ((3 : Int) < 3))) from Pu.lss rfl rfl) <| Zb <| Zc <| Zg (b := false) rfl (fun h => absurd h (by simp)) (fun _ => Zz _ rfl <| Zc ?_)
 refine Za <| JLr (Zl Z5 rfl (At.bx 0 rfl) rfl <| JLr (Zl Z5 rfl (At.bx 1 rfl) rfl <| JLq (.bool (!((((!decide (n = 0)) && a) == (!decide (n = 0))) && ((((!decide (r = zS)) && b) == (!decide (r = zS))) && (((decide (0 < m)) && c) == (decide (0 < m))))))) (neqB3 rfl rfl) <| JLA rfl <| Zb <| Zj <| ⟨.bool (!((((!decide (n = 0)) && a) == (!decide (n = 0))) && ((((!decide (r = zS)) && b) == (!decide (r = zS))) && (((decide (0 < m)) && c) == (decide (0 < m)))))), [], Ret.one rfl (RV.tmp rfl), Sub.nil, ?_⟩))
 exact ⟨by unfold clashB; congr 1; cases a <;> cases b <;> cases c <;> simp, rfl⟩
theorem kidsT_ct (k n : Int) (H : Heap) : CT Tryz.prog 137 ⟨[iv k, iv n]⟩ [] H (fun v N => v = .bool (kidsB k n) ∧ N = []) := by
 refine Zm Tryz.func137 rfl rfl <| Zc <| Za <| JLA rfl <| Zb <| Zc <| Zc <| Za <| JLM rfl <| Zb <| Zo <| Zc <| Zc ?_
 refine Za <| JLn (Pu.eql rfl rfl) <| JLA rfl <| Zb <| Zg rfl (fun h1 => ?_) (fun h1 => ?_)
 ·replace h1 := dt h1
  refine Zh <| Zg rfl (fun _ => ?_) (fun h2 => absurd h1 (df h2))
  refine Zc <| Za <| JLM rfl <| JLn (Pu.eql rfl rfl) <| JLA rfl <| Zb <| Zj <| ⟨.bool (decide (n = 1)), [], Ret.one rfl (RV.tmp rfl), Sub.nil, ?_⟩
  exact ⟨by simp_all [kidsB], rfl⟩
 replace h1 := df h1
 refine Zc <| Za <| JLn (Pu.eql rfl rfl) <| JLA rfl <| Zb <| Zg rfl (fun h3 => ?_) (fun h3 => ?_)
 ·replace h3 := dt h3
  refine Zh <| Zg rfl (fun _ => ?_) (fun h4 => absurd h3 (df h4))
  refine Zc <| Za <| JLM rfl <| JLn (Pu.eql rfl rfl) <| JLA rfl <| Zb <| Zj <| ⟨.bool (decide (n = 1)), [], Ret.one rfl (RV.tmp rfl), Sub.nil, ?_⟩
  exact ⟨by simp_all [kidsB], rfl⟩
 replace h3 := df h3
 refine Za <| JLn (Pu.eql rfl rfl) <| JLA rfl <| Zb <| Zg rfl (fun h5 => ?_) (fun h5 => ?_)
 ·replace h5 := dt h5
  refine Zc <| Za <| JLM rfl <| JLn (Pu.eql rfl rfl) <| JLA rfl <| Zb <| Zj <| ⟨.bool (decide (n = 1)), [], Ret.one rfl (RV.tmp rfl), Sub.nil, ?_⟩
  exact ⟨by simp_all [kidsB], rfl⟩
 replace h5 := df h5
 refine Zc <| Zc <| Za <| JLn (Pu.eql rfl rfl) <| JLA rfl <| Zb <| Zg rfl (fun h6 => ?_) (fun h6 => ?_)
 ·replace h6 := dt h6
  refine Zh <| Zg rfl (fun _ => ?_) (fun h7 => absurd h6 (df h7))
  refine Zc <| Za <| JLM rfl <| JLn (Pu.eql rfl rfl) <| JLA rfl <| Zb <| Zj <| ⟨.bool (decide (n = 2)), [], Ret.one rfl (RV.tmp rfl), Sub.nil, ?_⟩
  exact ⟨by simp_all [kidsB], rfl⟩
 replace h6 := df h6
 refine Zc <| Za <| JLn (Pu.eql rfl rfl) <| JLA rfl <| Zb <| Zg rfl (fun h8 => ?_) (fun h8 => ?_)
 ·replace h8 := dt h8
  refine Zh <| Zg rfl (fun _ => ?_) (fun h9 => absurd h8 (df h9))
  refine Zc <| Za <| JLM rfl <| JLn (Pu.eql rfl rfl) <| JLA rfl <| Zb <| Zj <| ⟨.bool (decide (n = 2)), [], Ret.one rfl (RV.tmp rfl), Sub.nil, ?_⟩
  exact ⟨by simp_all [kidsB], rfl⟩
 replace h8 := df h8
 refine Za <| JLn (Pu.eql rfl rfl) <| JLA rfl <| Zb <| Zg rfl (fun h10 => ?_) (fun h10 => ?_)
 ·replace h10 := dt h10
  refine Zc <| Za <| JLM rfl <| JLn (Pu.eql rfl rfl) <| JLA rfl <| Zb <| Zj <| ⟨.bool (decide (n = 2)), [], Ret.one rfl (RV.tmp rfl), Sub.nil, ?_⟩
  exact ⟨by simp_all [kidsB], rfl⟩
 replace h10 := df h10
 refine Zc <| Za <| JLn (Pu.eql rfl rfl) <| JLA rfl <| Zb <| Zg rfl (fun h11 => ?_) (fun h11 => ?_)
 ·replace h11 := dt h11
  refine Zc <| Za <| JLM rfl <| JLn (Pu.leq rfl rfl) <| JLA rfl <| Zb <| Zj <| ⟨.bool (decide (n ≤ 4)), [], Ret.one rfl (RV.tmp rfl), Sub.nil, ?_⟩
  exact ⟨by simp_all [kidsB], rfl⟩
 replace h11 := df h11
 refine Zc <| Za <| JLn (Pu.eql rfl rfl) <| JLA rfl <| Zb <| Zg rfl (fun h12 => ?_) (fun h12 => ?_)
 ·replace h12 := dt h12
  refine Zc <| Za <| JLM rfl <| Jc Tryz.call65 rfl (fun hin => YG _ _ _ _) rfl ?_
  rintro _ _ ⟨rfl, rfl⟩
  refine JLn (Pu.not rfl) <| JLA rfl <| Zb <| Zj <| ⟨.bool (!(decide (n < 2 ∨ 10 < n))), [], Ret.one rfl (RV.tmp rfl), Sub.nil, ?_⟩
  exact ⟨by simp_all [kidsB], rfl⟩
 replace h12 := df h12
 refine Zh <| Zc <| Za <| JLM rfl <| JLn (Pu.eql rfl rfl) <| JLA rfl <| Zb <| Zj <| ⟨.bool (decide (n = 0)), [], Ret.one rfl (RV.tmp rfl), Sub.nil, ?_⟩
 exact ⟨by simp_all [kidsB], rfl⟩
end Go.Proofs.YtkjafeejpmcnkaaGreat.Hs
/-! Walks, printed by a program of this session's own (gen.py). -/
namespace Go.Proofs.YtkjafeejpmcnkaaGreat.Hs
open Go Go.Proofs
set_option maxRecDepth 100000
set_option linter.unusedVariables false
set_option linter.unusedSimpArgs false
attribute [local irreducible] JL J CT wlo DT
theorem patternError_ct (kind num : Int) (ref : Sm) (ks : Value) (kids : List Pt) (H : Heap) (hks : rdS RP 35 H ks kids) : CT Tryz.prog 138 ⟨[.agg ⟨pkP kind num ref ks⟩]⟩ [] H (fun v N => v = iv (pErr kind num ref kids.length) ∧ N = []) := by
 refine Zm Tryz.func138 rfl rfl <| Zc <| Za <| JLr (Zp (l := pkP kind num ref ks) rfl rfl fun b1 => JLA rfl <| Zb <| Zc <| Za <| JLA rfl <| Zb <| Zc <| Zc <| Za ?_)
 refine JLq (pp b1 0) (Yp rfl rfl) <| JLr (Ze ty3 rfl (At.bx 0 rfl) (Y6 ..) <| JLn (Pu.eql rfl rfl) <| Zb <| Zg rfl (fun h2 => ?_) (fun h2 => ?_))
 ·replace h2 := dt h2
  refine Za <| JLA rfl <| Zb <| Zc <| Zo <| Zc <| Za <| JLq (pp b1 0) (Yp rfl rfl) <| JLr (Ze ty3 rfl (At.bx 0 rfl) (Y6 ..) <| Jc Tryz.call65 rfl (fun hin => YG _ _ _ _) rfl ?_)
  rintro _ _ ⟨rfl, rfl⟩
  refine JLA rfl <| Zb <| Zg rfl (fun h3 => ?_) (fun h3 => ?_)
  ·replace h3 := dt h3
   refine Zc <| Za <| JLA rfl <| Zb <| Zj <| ⟨iv 3, [], Ret.one rfl (RV.tmp rfl), Sub.nil, ?_⟩
   exact ⟨by refine congrArg (Value.int .i64) ?_; simp only [pErr]; (repeat' split) <;> first | rfl | omega | (exfalso; simp_all; done) | (exfalso; simp_all; omega) | grind, rfl⟩
  replace h3 := df h3
  refine Zc <| Zy mixed #[0, 1, 3, 0, 8, 0, 32, 127, 255] 7 [some 12, some 13, some 14, some 15, some 16, some 17, some 18] [] [(2, fun _ _ vw qw => vw = .agg ⟨[.bool (pfN kind), .bool (pfR kind), .bool false]⟩ ∧ qw = [])] rfl (by kernel_rfl) rfl (by kernel_rfl) <| Dq (pp b1 0) (fun _ => Yp rfl rfl) <| Dl1 ty3 (At.bx 0 rfl) (Y6 ..) <| Dc rfl Tryz.call158 (fun _ => rfl) (fun hin => patternFields_ct _ _) ?_
  rintro _ _ ⟨rfl, rfl⟩
  refine Dq (pp b1 1) (fun _ => fa81_1 rfl rfl) <| Dl1 ty3 (At.bx 0 rfl) (pkP_1 ..) <| Dq (pp b1 2) (fun _ => fa81_2 rfl rfl) <| Dl YR (At.bx 0 rfl) (pkP_2 ..) <| ZH (M' := [(BX b1 (pkP kind num ref ks) 81)]) rfl ?_
  show JL _ _ _ [_, _] _ _ _
  refine Jc Tryz.call136 rfl (fun hin => clash_ct _ _ _ _ _ _ _) rfl ?_
  rintro _ _ ⟨rfl, rfl⟩
  refine JLA rfl <| Zb <| Zg rfl (fun h4 => ?_) (fun h4 => ?_)
  ·refine Zc <| Za <| JLA rfl <| Zb <| Zj <| ⟨iv 7, [], Ret.one rfl (RV.tmp rfl), Sub.nil, ?_⟩
   exact ⟨by refine congrArg (Value.int .i64) ?_; simp only [pErr]; (repeat' split) <;> first | rfl | omega | (exfalso; simp_all; done) | (exfalso; simp_all; omega) | grind, rfl⟩
  refine Zc <| Za <| JLq (pp b1 34) (Yi rfl rfl) <| JLr (Ze ty79 rfl (At.bx 0 rfl) (Yo ..) ?_)
  obtain ⟨a5, cap5, hv5⟩ := hks.sl
  have hle5 := hks.le
  refine JLn (Pu.lenSl Tryz.runUnderlying79 hv5) <| JLM rfl <| JLn (Pu.gtr rfl rfl) <| JLA rfl <| Zb <| Zg rfl (fun h6 => ?_) (fun h6 => ?_)
  ·replace h6 := dt h6
   refine Zc <| Za <| JLA rfl <| Zb <| Zj <| ⟨iv 2, [], Ret.one rfl (RV.tmp rfl), Sub.nil, ?_⟩
   exact ⟨by refine congrArg (Value.int .i64) ?_; simp only [pErr]; (repeat' split) <;> first | rfl | omega | (exfalso; simp_all; done) | (exfalso; simp_all; omega) | grind, rfl⟩
  replace h6 := df h6
  refine Zc <| Zc <| Za <| JLq (pp b1 0) (Yp rfl rfl) <| JLr (Ze ty3 rfl (At.bx 0 rfl) (Y6 ..) <| JLn (Pu.eql rfl rfl) <| JLM rfl <| Zr 3 [31, 32, 33] [(33, cond (decide (kind = 2)) (.bool (decide (num < 0 ∨ 1073741824 < num))) undef)] ?_ fun f8 => ?_)
  ·cases h7 : (decide (kind = 2)) with
   | true =>
    replace h7 := dt h7
    refine JLq (pp b1 1) (fa81_1 rfl rfl) <| JLr (Ze ty3 rfl (At.bx 0 rfl) (pkP_1 ..) <| Jc Tryz.call65 rfl (fun hin => YG _ _ _ _) rfl ?_)
    rintro _ _ ⟨rfl, rfl⟩
    exact Zb ⟨⟨rfl, trivial⟩, rfl⟩
   | false =>
    exact Zx rfl ⟨rfl, trivial⟩
  refine JLn (Pu.pickAnd rfl rfl rfl) <| JLA rfl <| Zb <| Zg rfl (fun h9 => ?_) (fun h9 => ?_)
  ·obtain ⟨h9a, h9b⟩ := Ym h9
   replace h9a := dt h9a
   replace h9b := dt h9b
   refine Zh <| Zg rfl (fun h10 => ?_) (fun h10 => ?_)
   ·obtain ⟨h10a, h10b⟩ := Ym h10
    replace h10a := dt h10a
    replace h10b := dt h10b
    refine Zc <| Za <| JLA rfl <| Zb <| Zj <| ⟨iv 3, [], Ret.one rfl (RV.tmp rfl), Sub.nil, ?_⟩
    exact ⟨by refine congrArg (Value.int .i64) ?_; simp only [pErr]; (repeat' split) <;> first | rfl | omega | (exfalso; simp_all; done) | (exfalso; simp_all; omega) | grind, rfl⟩
   refine Zh <| Zc <| Za <| JLA rfl <| Zb <| Zj <| ⟨iv 0, [], Ret.one rfl (RV.tmp rfl), Sub.nil, ?_⟩
   exact ⟨by refine congrArg (Value.int .i64) ?_; simp only [pErr]; (repeat' split) <;> first | rfl | omega | (exfalso; simp_all; done) | (exfalso; simp_all; omega) | grind, rfl⟩
  refine Za <| JLq (pp b1 0) (Yp rfl rfl) <| JLr (Ze ty3 rfl (At.bx 0 rfl) (Y6 ..) <| JLn (Pu.eql rfl rfl) <| JLM rfl <| Zr 3 [39, 40, 41] [(41, cond (decide (kind = 3)) (.bool (decide (num < 0 ∨ 7 < num))) undef)] ?_ fun f12 => ?_)
  ·cases h11 : (decide (kind = 3)) with
   | true =>
    replace h11 := dt h11
    refine JLq (pp b1 1) (fa81_1 rfl rfl) <| JLr (Ze ty3 rfl (At.bx 0 rfl) (pkP_1 ..) <| Jc Tryz.call65 rfl (fun hin => YG _ _ _ _) rfl ?_)
    rintro _ _ ⟨rfl, rfl⟩
    exact Zb ⟨⟨rfl, trivial⟩, rfl⟩
   | false =>
    exact Zx rfl ⟨rfl, trivial⟩
  refine JLn (Pu.pickAnd rfl rfl rfl) <| JLA rfl <| Zb <| Zg rfl (fun h13 => ?_) (fun h13 => ?_)
  ·obtain ⟨h13a, h13b⟩ := Ym h13
   replace h13a := dt h13a
   replace h13b := dt h13b
   refine Zc <| Za <| JLA rfl <| Zb <| Zj <| ⟨iv 3, [], Ret.one rfl (RV.tmp rfl), Sub.nil, ?_⟩
   exact ⟨by refine congrArg (Value.int .i64) ?_; simp only [pErr]; (repeat' split) <;> first | rfl | omega | (exfalso; simp_all; done) | (exfalso; simp_all; omega) | grind, rfl⟩
  refine Zh <| Zc <| Za <| JLA rfl <| Zb <| Zj <| ⟨iv 0, [], Ret.one rfl (RV.tmp rfl), Sub.nil, ?_⟩
  exact ⟨by refine congrArg (Value.int .i64) ?_; simp only [pErr]; (repeat' split) <;> first | rfl | omega | (exfalso; simp_all; done) | (exfalso; simp_all; omega) | grind, rfl⟩
 replace h2 := df h2
 refine Zh <| Zc <| Zo <| Zc <| Za <| JLq (pp b1 0) (Yp rfl rfl) <| JLr (Ze ty3 rfl (At.bx 0 rfl) (Y6 ..) <| Jc Tryz.call65 rfl (fun hin => YG _ _ _ _) rfl ?_)
 rintro _ _ ⟨rfl, rfl⟩
 refine JLA rfl <| Zb <| Zg rfl (fun h14 => ?_) (fun h14 => ?_)
 ·replace h14 := dt h14
  refine Zc <| Za <| JLA rfl <| Zb <| Zj <| ⟨iv 3, [], Ret.one rfl (RV.tmp rfl), Sub.nil, ?_⟩
  exact ⟨by refine congrArg (Value.int .i64) ?_; simp only [pErr]; (repeat' split) <;> first | rfl | omega | (exfalso; simp_all; done) | (exfalso; simp_all; omega) | grind, rfl⟩
 replace h14 := df h14
 refine Zc <| Zy mixed #[0, 1, 3, 0, 8, 0, 32, 127, 255] 7 [some 12, some 13, some 14, some 15, some 16, some 17, some 18] [] [(2, fun _ _ vw qw => vw = .agg ⟨[.bool (pfN kind), .bool (pfR kind), .bool false]⟩ ∧ qw = [])] rfl (by kernel_rfl) rfl (by kernel_rfl) <| Dq (pp b1 0) (fun _ => Yp rfl rfl) <| Dl1 ty3 (At.bx 0 rfl) (Y6 ..) <| Dc rfl Tryz.call158 (fun _ => rfl) (fun hin => patternFields_ct _ _) ?_
 rintro _ _ ⟨rfl, rfl⟩
 refine Dq (pp b1 1) (fun _ => fa81_1 rfl rfl) <| Dl1 ty3 (At.bx 0 rfl) (pkP_1 ..) <| Dq (pp b1 2) (fun _ => fa81_2 rfl rfl) <| Dl YR (At.bx 0 rfl) (pkP_2 ..) <| ZH (M' := [(BX b1 (pkP kind num ref ks) 81)]) rfl ?_
 show JL _ _ _ [_, _] _ _ _
 refine Jc Tryz.call136 rfl (fun hin => clash_ct _ _ _ _ _ _ _) rfl ?_
 rintro _ _ ⟨rfl, rfl⟩
 refine JLA rfl <| Zb <| Zg rfl (fun h15 => ?_) (fun h15 => ?_)
 ·refine Zc <| Za <| JLA rfl <| Zb <| Zj <| ⟨iv 7, [], Ret.one rfl (RV.tmp rfl), Sub.nil, ?_⟩
  exact ⟨by refine congrArg (Value.int .i64) ?_; simp only [pErr]; (repeat' split) <;> first | rfl | omega | (exfalso; simp_all; done) | (exfalso; simp_all; omega) | grind, rfl⟩
 refine Zc <| Za <| JLq (pp b1 34) (Yi rfl rfl) <| JLr (Ze ty79 rfl (At.bx 0 rfl) (Yo ..) ?_)
 obtain ⟨a16, cap16, hv16⟩ := hks.sl
 have hle16 := hks.le
 refine JLn (Pu.lenSl Tryz.runUnderlying79 hv16) <| JLM rfl <| JLn (Pu.gtr rfl rfl) <| JLA rfl <| Zb <| Zg rfl (fun h17 => ?_) (fun h17 => ?_)
 ·replace h17 := dt h17
  refine Zc <| Za <| JLA rfl <| Zb <| Zj <| ⟨iv 2, [], Ret.one rfl (RV.tmp rfl), Sub.nil, ?_⟩
  exact ⟨by refine congrArg (Value.int .i64) ?_; simp only [pErr]; (repeat' split) <;> first | rfl | omega | (exfalso; simp_all; done) | (exfalso; simp_all; omega) | grind, rfl⟩
 replace h17 := df h17
 refine Zc <| Zc <| Za <| JLq (pp b1 0) (Yp rfl rfl) <| JLr (Ze ty3 rfl (At.bx 0 rfl) (Y6 ..) <| JLn (Pu.eql rfl rfl) <| JLM rfl <| Zr 3 [31, 32, 33] [(33, cond (decide (kind = 2)) (.bool (decide (num < 0 ∨ 1073741824 < num))) undef)] ?_ fun f19 => ?_)
 ·cases h18 : (decide (kind = 2)) with
  | true =>
   replace h18 := dt h18
   refine JLq (pp b1 1) (fa81_1 rfl rfl) <| JLr (Ze ty3 rfl (At.bx 0 rfl) (pkP_1 ..) <| Jc Tryz.call65 rfl (fun hin => YG _ _ _ _) rfl ?_)
   rintro _ _ ⟨rfl, rfl⟩
   exact Zb ⟨⟨rfl, trivial⟩, rfl⟩
  | false =>
   exact Zx rfl ⟨rfl, trivial⟩
 refine JLn (Pu.pickAnd rfl rfl rfl) <| JLA rfl <| Zb <| Zg rfl (fun h20 => ?_) (fun h20 => ?_)
 ·obtain ⟨h20a, h20b⟩ := Ym h20
  replace h20a := dt h20a
  replace h20b := dt h20b
  refine Zh <| Zg rfl (fun h21 => ?_) (fun h21 => ?_)
  ·obtain ⟨h21a, h21b⟩ := Ym h21
   replace h21a := dt h21a
   replace h21b := dt h21b
   refine Zc <| Za <| JLA rfl <| Zb <| Zj <| ⟨iv 3, [], Ret.one rfl (RV.tmp rfl), Sub.nil, ?_⟩
   exact ⟨by refine congrArg (Value.int .i64) ?_; simp only [pErr]; (repeat' split) <;> first | rfl | omega | (exfalso; simp_all; done) | (exfalso; simp_all; omega) | grind, rfl⟩
  refine Zh <| Zc <| Za <| JLA rfl <| Zb <| Zj <| ⟨iv 0, [], Ret.one rfl (RV.tmp rfl), Sub.nil, ?_⟩
  exact ⟨by refine congrArg (Value.int .i64) ?_; simp only [pErr]; (repeat' split) <;> first | rfl | omega | (exfalso; simp_all; done) | (exfalso; simp_all; omega) | grind, rfl⟩
 refine Za <| JLq (pp b1 0) (Yp rfl rfl) <| JLr (Ze ty3 rfl (At.bx 0 rfl) (Y6 ..) <| JLn (Pu.eql rfl rfl) <| JLM rfl <| Zr 3 [39, 40, 41] [(41, cond (decide (kind = 3)) (.bool (decide (num < 0 ∨ 7 < num))) undef)] ?_ fun f23 => ?_)
 ·cases h22 : (decide (kind = 3)) with
  | true =>
   replace h22 := dt h22
   refine JLq (pp b1 1) (fa81_1 rfl rfl) <| JLr (Ze ty3 rfl (At.bx 0 rfl) (pkP_1 ..) <| Jc Tryz.call65 rfl (fun hin => YG _ _ _ _) rfl ?_)
   rintro _ _ ⟨rfl, rfl⟩
   exact Zb ⟨⟨rfl, trivial⟩, rfl⟩
  | false =>
   exact Zx rfl ⟨rfl, trivial⟩
 refine JLn (Pu.pickAnd rfl rfl rfl) <| JLA rfl <| Zb <| Zg rfl (fun h24 => ?_) (fun h24 => ?_)
 ·obtain ⟨h24a, h24b⟩ := Ym h24
  replace h24a := dt h24a
  replace h24b := dt h24b
  refine Zc <| Za <| JLA rfl <| Zb <| Zj <| ⟨iv 3, [], Ret.one rfl (RV.tmp rfl), Sub.nil, ?_⟩
  exact ⟨by refine congrArg (Value.int .i64) ?_; simp only [pErr]; (repeat' split) <;> first | rfl | omega | (exfalso; simp_all; done) | (exfalso; simp_all; omega) | grind, rfl⟩
 refine Zh <| Zc <| Za <| JLA rfl <| Zb <| Zj <| ⟨iv 0, [], Ret.one rfl (RV.tmp rfl), Sub.nil, ?_⟩
 exact ⟨by refine congrArg (Value.int .i64) ?_; simp only [pErr]; (repeat' split) <;> first | rfl | omega | (exfalso; simp_all; done) | (exfalso; simp_all; omega) | grind, rfl⟩
theorem patternsError_ct : ∀ (p : Pt) (cs : List Value) (H : Heap), RP H cs p → CT Tryz.prog 116 ⟨[.agg ⟨cs⟩]⟩ [] H (fun v N => v = iv (pErrs p) ∧ N = []) := by
 intro p
 induction p using Pt.ind with
 | h kind num ref kids ih =>
 intro cs H hp
 obtain ⟨ks, rfl, hk, hn, hks⟩ := RP_mk.1 hp
 refine Zm Tryz.func116 rfl rfl <| Zc <| Za <| JLr (Zp (l := pkP kind num ref ks) rfl rfl fun b1 => JLA rfl <| Zb <| Zc <| Za <| JLr (Zl Z7 rfl (At.bx 0 rfl) (pkP_a ..) <| Jc Tryz.call138 rfl (fun hin => patternError_ct _ _ _ _ _ _ (RPs.mono (Hle.hu _ _) hks)) rfl ?_))
 rintro _ _ ⟨rfl, rfl⟩
 refine JLA rfl <| Zb <| Zc <| Zc <| Za <| JLA rfl <| Zb <| Zo <| ZN (fun k ρ M => ∃ (j : Nat) (e : Int), ρ 1 = pp b1 0 ∧ ρ 2 = iv 0 ∧ ρ 3 = iv e ∧ ρ 4 = iv ((j : Int)) ∧ Sub [(BX b1 (pkP kind num ref ks) 81)] M ∧ j ≤ kids.length ∧ (if e = 0 then pErrsL (kids.drop j) else e) = pErrs (.mk kind num ref kids) ∧ k = kids.length - j) _ ⟨0, (pErr kind num ref kids.length), rfl, rfl, rfl, rfl, (Sk Sub.nil), Nat.zero_le _, (by rw [pErrs]; rfl), rfl⟩ ?_
 rintro _ ρ2 _ ⟨j, e, e3, e4, e5, e6, hm7, hj, hinv, rfl⟩
 obtain ⟨ρ8, rfl⟩ := Zs (uc e3 (uc e4 (uc e5 (uc e6 un))))
 clear e3 e4 e5 e6
 refine ZX hm7 ?_
 have hlen := hks.le
 refine Zc <| Zc <| Za <| JLM rfl <| JLq (pp b1 34) (Yi rfl rfl) <| JLr (Ze ty79 rfl (At.bx 0 rfl) (Yo ..) ?_)
 obtain ⟨a9, cap9, hv9⟩ := hks.sl
 have hle9 := hks.le
 refine JLn (Pu.lenSl Tryz.runUnderlying79 hv9) <| JLn (Pu.lss rfl rfl) <| JLM rfl <| Zr 2 [13, 14] [(14, cond (decide ((j : Int) < (kids.length : Int))) (.bool (decide (e = 0))) undef)] ?_ fun f11 => ?_
 ·cases h10 : (decide ((j : Int) < (kids.length : Int))) with
  | true =>
   replace h10 := dt h10
   have h10n : j < kids.length := by omega
   refine JLM rfl <| JLn (Pu.eql rfl rfl) ?_
   exact Zb ⟨⟨rfl, trivial⟩, rfl⟩
  | false =>
   exact Zx rfl ⟨rfl, trivial⟩
 refine JLn (Pu.pickAnd rfl rfl rfl) <| Zb <| Zg rfl (fun h12 => ?_) (fun h12 => ?_)
 ·obtain ⟨h12a, h12b⟩ := Ym h12
  replace h12a := dt h12a
  have h12an : j < kids.length := by omega
  replace h12b := dt h12b
  refine Zh <| Zc <| Zo <| Za <| JLq (pp b1 34) (Yi rfl rfl) <| JLr (Ze ty79 rfl (At.bx 0 rfl) (Yo ..) <| JLM rfl ?_)
  obtain ⟨b13, o13, cap13, row13, T13, fr13, cs13, hv13, hb13, hs13, hE13⟩ := hks.get j (by first | assumption | omega | decide | simp)
  refine JLq (pp b13 (o13 + j * 35)) (Pu.idx j Tryz.runUnderlying79 Z7 hv13 rfl rfl (by first | assumption | omega | decide | simp)) <| JLr (Zl Z7 rfl (At.im hb13) hs13 <| Jc Tryz.call116 rfl (fun hin => ih _ (List.getElem_mem h12an) _ _ (RP.mono (Hle.hu _ _) hE13)) rfl ?_)
  rintro _ _ ⟨rfl, rfl⟩
  refine JLA rfl <| Zb <| Za <| JLM rfl <| JLn (Pu.inc rfl rfl (by omega)) <| JLA rfl <| Zb <| ⟨_, ?_, (j + 1), (pErrs (kids[j])), rfl, rfl, rfl, rfl, (Sk Sub.nil), ?_, ?_, rfl⟩
  ·omega
  ·omega
  rw [if_pos (by assumption), ZW h12an, pErrsL] at hinv; exact hinv
 refine Zz _ rfl <| Zc <| Za <| JLM rfl <| JLA rfl <| Zb <| Zj <| ⟨iv e, [], Ret.one rfl (RV.tmp rfl), Sub.nil, ?_⟩
 refine ⟨?_, rfl⟩
 rw [← hinv]; by_cases he : e = 0
 ·have hj2 : kids.length ≤ j := by
   apply Nat.le_of_not_lt; intro hlt; have : (j : Int) < (kids.length : Int) := by omega
   simp_all
  rw [if_pos he, YZ hj2, he]; rfl
 rw [if_neg he]
theorem patternErrorR_ct : ∀ (p : Pt) (cs : List Value) (H : Heap), RP H cs p → CT Tryz.prog 148 ⟨[.agg ⟨cs⟩]⟩ [] H (fun v N => v = iv (pErrR p) ∧ N = []) := by
 intro p
 induction p using Pt.ind with
 | h kind num ref kids ih =>
 intro cs H hp
 obtain ⟨ks, rfl, hk, hn, hks⟩ := RP_mk.1 hp
 refine Zm Tryz.func148 rfl rfl <| Zc <| Za <| JLr (Zp (l := pkP kind num ref ks) rfl rfl fun b1 => JLA rfl <| Zb <| Zc <| Zc <| Za <| JLq (pp b1 0) (Yp rfl rfl) <| JLr (Ze ty3 rfl (At.bx 0 rfl) (Y6 ..) <| Jc Tryz.call145 rfl (fun hin => offR_ct _ _ _ _) rfl ?_))
 rintro _ _ ⟨rfl, rfl⟩
 refine Zb <| Zg rfl (fun h2 => ?_) (fun h2 => ?_)
 ·replace h2 := dt h2
  refine Zc <| Za <| JLA rfl <| Zb <| Zj <| ⟨iv 3, [], Ret.one rfl (RV.tmp rfl), Sub.nil, ?_⟩
  have hx : pHead kind num ref kids.length = 3 := by simp only [pHead]; (repeat' split) <;> first | rfl | omega | (exfalso; simp_all; done) | (exfalso; simp_all; omega) | grind
  exact ⟨by rw [pErrR, hx]; rfl, rfl⟩
 replace h2 := df h2
 refine Zh <| Zc <| Zc <| Za <| JLq (pp b1 0) (Yp rfl rfl) <| JLr (Ze ty3 rfl (At.bx 0 rfl) (Y6 ..) <| JLn (Pu.eql rfl rfl) <| JLM rfl <| Zr 3 [12, 13, 14] [(14, cond (decide (kind = 1)) (.bool (!decide (num = 0))) undef)] ?_ fun f4 => ?_)
 ·cases h3 : (decide (kind = 1)) with
  | true =>
   replace h3 := dt h3
   refine JLq (pp b1 1) (fa81_1 rfl rfl) <| JLr (Ze ty3 rfl (At.bx 0 rfl) (pkP_1 ..) <| JLn (Pu.neq rfl rfl) ?_)
   exact Zb ⟨⟨rfl, trivial⟩, rfl⟩
  | false =>
   exact Zx rfl ⟨rfl, trivial⟩
 refine JLn (Pu.pickAnd rfl rfl rfl) <| JLM rfl <| Zr 9 [17, 18, 19, 20, 21, 22, 23, 24, 25] [(25, cond ((decide (kind = 1)) && (!decide (num = 0))) undef (.bool ((!decide (kind = 3)) && (!decide (ref = zS)))))] ?_ fun f8 => ?_
 ·cases h5 : ((decide (kind = 1)) && (!decide (num = 0))) with
  | false =>
   refine JLq (pp b1 0) (Yp rfl rfl) <| JLr (Ze ty3 rfl (At.bx 0 rfl) (Y6 ..) <| JLn (Pu.neq rfl rfl) <| JLM rfl <| Zr 4 [21, 22, 23, 24] [(24, cond (!decide (kind = 3)) (.bool (!decide (ref = zS))) undef)] ?_ fun f7 => ?_)
   ·cases h6 : (!decide (kind = 3)) with
    | true =>
     replace h6 := nt h6
     replace h6 := df h6
     refine JLq (pp b1 2) (fa81_2 rfl rfl) <| JLr (Zl YR rfl (At.bx 0 rfl) (pkP_2 ..) <| JLq (.agg ⟨sC zS⟩) (Pu.build (pv := []) (l := sC zS) rfl bld26_) <| JLn (neqS rfl rfl) ?_)
     exact Zb ⟨⟨rfl, trivial⟩, rfl⟩
    | false =>
     exact Zx rfl ⟨rfl, trivial⟩
   refine JLn (Pu.pickAnd rfl rfl rfl) ?_
   exact Zb ⟨⟨rfl, trivial⟩, rfl⟩
  | true =>
   exact Zx rfl ⟨rfl, trivial⟩
 refine JLn (Pu.pickOr rfl rfl rfl) <| Zb <| Zg rfl (fun h9 => ?_) (fun h9 => ?_)
 ·refine Zc <| Za <| JLA rfl <| Zb <| Zj <| ⟨iv 7, [], Ret.one rfl (RV.tmp rfl), Sub.nil, ?_⟩
  have hx : pHead kind num ref kids.length = 7 := by simp only [pHead]; (repeat' split) <;> first | rfl | omega | (exfalso; simp_all; done) | (exfalso; simp_all; omega) | grind
  exact ⟨by rw [pErrR, hx]; rfl, rfl⟩
 obtain ⟨h9a, h9b⟩ := orF h9
 refine Zh <| Zc <| Zc <| Za <| JLq (pp b1 0) (Yp rfl rfl) <| JLr (Ze ty3 rfl (At.bx 0 rfl) (Y6 ..) <| JLn (Pu.neq rfl rfl) <| JLM rfl <| Zr 4 [31, 32, 33, 34] [(34, cond (!decide (kind = 3)) (.bool (decide (0 < (kids.length : Int)))) undef)] ?_ fun f12 => ?_)
 ·cases h10 : (!decide (kind = 3)) with
  | true =>
   replace h10 := nt h10
   replace h10 := df h10
   refine JLq (pp b1 34) (Yi rfl rfl) <| JLr (Ze ty79 rfl (At.bx 0 rfl) (Yo ..) ?_)
   obtain ⟨a11, cap11, hv11⟩ := hks.sl
   have hle11 := hks.le
   refine JLn (Pu.lenSl Tryz.runUnderlying79 hv11) <| JLn (Pu.gtr rfl rfl) ?_
   exact Zb ⟨⟨rfl, trivial⟩, rfl⟩
  | false =>
   exact Zx rfl ⟨rfl, trivial⟩
 refine JLn (Pu.pickAnd rfl rfl rfl) <| JLM rfl <| Zr 4 [37, 38, 39, 40] [(40, cond ((!decide (kind = 3)) && (decide (0 < (kids.length : Int)))) undef (.bool (decide (4 < (kids.length : Int)))))] ?_ fun f15 => ?_
 ·cases h13 : ((!decide (kind = 3)) && (decide (0 < (kids.length : Int)))) with
  | false =>
   refine JLq (pp b1 34) (Yi rfl rfl) <| JLr (Ze ty79 rfl (At.bx 0 rfl) (Yo ..) ?_)
   obtain ⟨a14, cap14, hv14⟩ := hks.sl
   have hle14 := hks.le
   refine JLn (Pu.lenSl Tryz.runUnderlying79 hv14) <| JLn (Pu.gtr rfl rfl) ?_
   exact Zb ⟨⟨rfl, trivial⟩, rfl⟩
  | true =>
   exact Zx rfl ⟨rfl, trivial⟩
 refine JLn (Pu.pickOr rfl rfl rfl) <| Zb <| Zg rfl (fun h16 => ?_) (fun h16 => ?_)
 ·refine Zc <| Za <| JLA rfl <| Zb <| Zj <| ⟨iv 2, [], Ret.one rfl (RV.tmp rfl), Sub.nil, ?_⟩
  have hx : pHead kind num ref kids.length = 2 := by simp only [pHead]; (repeat' split) <;> first | rfl | omega | (exfalso; simp_all; done) | (exfalso; simp_all; omega) | grind
  exact ⟨by rw [pErrR, hx]; rfl, rfl⟩
 obtain ⟨h16a, h16b⟩ := orF h16
 replace h16b := df h16b
 refine Zh <| Zc <| Zc <| Za <| JLq (pp b1 0) (Yp rfl rfl) <| JLr (Ze ty3 rfl (At.bx 0 rfl) (Y6 ..) <| JLn (Pu.eql rfl rfl) <| JLM rfl <| Zr 3 [46, 47, 48] [(48, cond (decide (kind = 2)) (.bool (decide (num < 0 ∨ 1073741824 < num))) undef)] ?_ fun f18 => ?_)
 ·cases h17 : (decide (kind = 2)) with
  | true =>
   replace h17 := dt h17
   refine JLq (pp b1 1) (fa81_1 rfl rfl) <| JLr (Ze ty3 rfl (At.bx 0 rfl) (pkP_1 ..) <| Jc Tryz.call145 rfl (fun hin => offR_ct _ _ _ _) rfl ?_)
   rintro _ _ ⟨rfl, rfl⟩
   exact Zb ⟨⟨rfl, trivial⟩, rfl⟩
  | false =>
   exact Zx rfl ⟨rfl, trivial⟩
 refine JLn (Pu.pickAnd rfl rfl rfl) <| JLM rfl <| Zr 8 [51, 52, 53, 54, 55, 56, 57, 58] [(58, cond ((decide (kind = 2)) && (decide (num < 0 ∨ 1073741824 < num))) undef (.bool ((decide (kind = 3)) && (decide (num < 0 ∨ 7 < num)))))] ?_ fun f22 => ?_
 ·cases h19 : ((decide (kind = 2)) && (decide (num < 0 ∨ 1073741824 < num))) with
  | false =>
   refine JLq (pp b1 0) (Yp rfl rfl) <| JLr (Ze ty3 rfl (At.bx 0 rfl) (Y6 ..) <| JLn (Pu.eql rfl rfl) <| JLM rfl <| Zr 3 [55, 56, 57] [(57, cond (decide (kind = 3)) (.bool (decide (num < 0 ∨ 7 < num))) undef)] ?_ fun f21 => ?_)
   ·cases h20 : (decide (kind = 3)) with
    | true =>
     replace h20 := dt h20
     refine JLq (pp b1 1) (fa81_1 rfl rfl) <| JLr (Ze ty3 rfl (At.bx 0 rfl) (pkP_1 ..) <| Jc Tryz.call145 rfl (fun hin => offR_ct _ _ _ _) rfl ?_)
     rintro _ _ ⟨rfl, rfl⟩
     exact Zb ⟨⟨rfl, trivial⟩, rfl⟩
    | false =>
     exact Zx rfl ⟨rfl, trivial⟩
   refine JLn (Pu.pickAnd rfl rfl rfl) ?_
   exact Zb ⟨⟨rfl, trivial⟩, rfl⟩
  | true =>
   exact Zx rfl ⟨rfl, trivial⟩
 refine JLn (Pu.pickOr rfl rfl rfl) <| Zb <| Zg rfl (fun h23 => ?_) (fun h23 => ?_)
 ·refine Zc <| Za <| JLA rfl <| Zb <| Zj <| ⟨iv 3, [], Ret.one rfl (RV.tmp rfl), Sub.nil, ?_⟩
  have hx : pHead kind num ref kids.length = 3 := by simp only [pHead]; (repeat' split) <;> first | rfl | omega | (exfalso; simp_all; done) | (exfalso; simp_all; omega) | grind
  exact ⟨by rw [pErrR, hx]; rfl, rfl⟩
 obtain ⟨h23a, h23b⟩ := orF h23
 refine Zh <| Zc <| Zc <| Za <| JLA rfl <| Zb <| Zo <| ZN (fun k ρ M => ∃ (j : Nat), ρ 1 = pp b1 0 ∧ ρ 2 = iv 0 ∧ ρ 3 = iv ((j : Int)) ∧ Sub [(BX b1 (pkP kind num ref ks) 81)] M ∧ j ≤ kids.length ∧ pHead kind num ref kids.length = 0 ∧ pErrRL (kids.drop j) = pErrRL kids ∧ k = kids.length - j) _ ⟨0, rfl, rfl, rfl, (Sk Sub.nil), Nat.zero_le _, (by simp only [pHead]; (repeat' split) <;> first | rfl | omega | (exfalso; simp_all; done) | (exfalso; simp_all; omega) | grind), rfl, rfl⟩ ?_
 rintro _ ρ24 _ ⟨j, e25, e26, e27, hm28, hj, hh, hinv, rfl⟩
 obtain ⟨ρ29, rfl⟩ := Zs (uc e25 (uc e26 (uc e27 un)))
 clear e25 e26 e27
 refine ZX hm28 ?_
 have hlen := hks.le
 refine Zc <| Zc <| Za <| JLM rfl <| JLq (pp b1 34) (Yi rfl rfl) <| JLr (Ze ty79 rfl (At.bx 0 rfl) (Yo ..) ?_)
 obtain ⟨a30, cap30, hv30⟩ := hks.sl
 have hle30 := hks.le
 refine JLn (Pu.lenSl Tryz.runUnderlying79 hv30) <| JLn (Pu.lss rfl rfl) <| Zb <| Zg rfl (fun h31 => ?_) (fun h31 => ?_)
 ·replace h31 := dt h31
  have h31n : j < kids.length := by omega
  refine Zh <| Zc <| Zo <| Zc <| Za <| JLq (pp b1 34) (Yi rfl rfl) <| JLr (Ze ty79 rfl (At.bx 0 rfl) (Yo ..) <| JLM rfl ?_)
  obtain ⟨b32, o32, cap32, row32, T32, fr32, cs32, hv32, hb32, hs32, hE32⟩ := hks.get j (by first | assumption | omega | decide | simp)
  refine JLq (pp b32 (o32 + j * 35)) (Pu.idx j Tryz.runUnderlying79 Z7 hv32 rfl rfl (by first | assumption | omega | decide | simp)) <| JLr (Zl Z7 rfl (At.im hb32) hs32 <| Jc Tryz.call148 rfl (fun hin => ih _ (List.getElem_mem h31n) _ _ (RP.mono (Hle.hu _ _) hE32)) rfl ?_)
  rintro _ _ ⟨rfl, rfl⟩
  refine JLA rfl <| Zb <| Zc <| Za <| JLM rfl <| JLn (Pu.neq rfl rfl) <| Zb <| Zg rfl (fun h33 => ?_) (fun h33 => ?_)
  ·replace h33 := nt h33
   replace h33 := df h33
   refine Zc <| Za <| JLM rfl <| JLA rfl <| Zb <| Zj <| ⟨iv (pErrR (kids[j])), [], Ret.one rfl (RV.tmp rfl), Sub.nil, ?_⟩
   exact ⟨by rw [pErrR, if_pos hh, ← hinv, ZW h31n, pErrRL, if_neg h33], rfl⟩
  replace h33 := nf h33
  replace h33 := dt h33
  refine Zh <| Za <| JLM rfl <| JLn (Pu.inc rfl rfl (by omega)) <| JLA rfl <| Zb <| ⟨_, ?_, (j + 1), rfl, rfl, rfl, (Sk Sub.nil), ?_, ?_, ?_, rfl⟩
  ·omega
  ·omega
  ·assumption
  rw [ZW h31n, pErrRL, if_pos h33] at hinv; exact hinv
 replace h31 := df h31
 have h31n : kids.length ≤ j := by omega
 refine Zz _ rfl <| Zc <| Za <| JLA rfl <| Zb <| Zj <| ⟨iv 0, [], Ret.one rfl (RV.tmp rfl), Sub.nil, ?_⟩
 exact ⟨by rw [pErrR, if_pos hh, ← hinv, YZ h31n]; rfl, rfl⟩
theorem nodeError_ct : ∀ (t : Tm) (d m b : Int) (cs : List Value) (H : Heap), RT H cs t → 0 ≤ b → b + 2 * sizeT t ≤ 1000000 → CT Tryz.prog 124 ⟨[.agg ⟨cs⟩, iv d, iv m, iv b]⟩ [] H (fun v N => v = iv (Y8 d m b t) ∧ N = []) := by
 intro t
 induction t using Tm.ind with
 | h kind num ref kids cases ih ih' =>
 intro d m b cs H ht hb0 hb
 obtain ⟨ks, cv, rfl, hk, hn, hks, hcv⟩ := RT_mk.1 ht
 rw [sizeT] at hb
 have hn1 : -9223372036854775808 ≤ num := hn.1
 have hn2 : num ≤ 9223372036854775807 := hn.2
 refine Zm Tryz.func124 rfl rfl <| Zc <| Za <| JLr (Zp (l := pkT kind num ref ks cv) rfl rfl fun b1 => JLA rfl <| Zb <| Zc <| Zc <| Za <| JLq (pp b1 0) (ZL rfl rfl) <| JLr (Ze ty3 rfl (At.bx 0 rfl) (ZY ..) <| Jc Tryz.call145 rfl (fun hin => offR_ct _ _ _ _) rfl ?_))
 rintro _ _ ⟨rfl, rfl⟩
 refine Zb <| Zg rfl (fun h2 => ?_) (fun h2 => ?_)
 ·replace h2 := dt h2
  refine Zc <| Za <| JLA rfl <| Zb <| Zj <| ⟨iv 3, [], Ret.one rfl (RV.tmp rfl), Sub.nil, ?_⟩
  have hx : Xd d m b kind num ref kids.length cases.length = 3 := by simp only [Xd]; (repeat' split) <;> first | rfl | omega | (exfalso; simp_all; done) | (exfalso; simp_all; omega) | grind
  exact ⟨by rw [Y8, hx]; rfl, rfl⟩
 replace h2 := df h2
 refine Zh <| Zc <| Zc <| Za <| JLq (pp b1 0) (ZL rfl rfl) <| JLr (Ze ty3 rfl (At.bx 0 rfl) (ZY ..) <| Jc Tryz.call146 rfl (fun hin => hasNum_ct _ _) rfl ?_)
 rintro _ _ ⟨rfl, rfl⟩
 refine JLn (Pu.not rfl) <| JLM rfl <| Zr 3 [25, 26, 27] [(27, cond (!(Xp kind)) (.bool (!decide (num = 0))) undef)] ?_ fun f4 => ?_
 ·cases h3 : (!(Xp kind)) with
  | true =>
   replace h3 := nt h3
   refine JLq (pp b1 1) (Z8 rfl rfl) <| JLr (Ze ty3 rfl (At.bx 0 rfl) (Ys ..) <| JLn (Pu.neq rfl rfl) ?_)
   exact Zb ⟨⟨rfl, trivial⟩, rfl⟩
  | false =>
   exact Zx rfl ⟨rfl, trivial⟩
 refine JLn (Pu.pickAnd rfl rfl rfl) <| JLM rfl <| Zr 10 [30, 31, 32, 33, 34, 35, 36, 37, 38, 39] [(39, cond ((!(Xp kind)) && (!decide (num = 0))) undef (.bool ((!(ZG kind)) && (!decide (ref = zS)))))] ?_ fun f8 => ?_
 ·cases h5 : ((!(Xp kind)) && (!decide (num = 0))) with
  | false =>
   refine JLq (pp b1 0) (ZL rfl rfl) <| JLr (Ze ty3 rfl (At.bx 0 rfl) (ZY ..) <| Jc Tryz.call49 rfl (fun hin => hasRef_ct _ _) rfl ?_)
   rintro _ _ ⟨rfl, rfl⟩
   refine JLn (Pu.not rfl) <| JLM rfl <| Zr 4 [35, 36, 37, 38] [(38, cond (!(ZG kind)) (.bool (!decide (ref = zS))) undef)] ?_ fun f7 => ?_
   ·cases h6 : (!(ZG kind)) with
    | true =>
     replace h6 := nt h6
     refine JLq (pp b1 2) (fa30_2 rfl rfl) <| JLr (Zl YR rfl (At.bx 0 rfl) (pkT_2 ..) <| JLq (.agg ⟨sC zS⟩) (Pu.build (pv := []) (l := sC zS) rfl bld26_) <| JLn (neqS rfl rfl) ?_)
     exact Zb ⟨⟨rfl, trivial⟩, rfl⟩
    | false =>
     exact Zx rfl ⟨rfl, trivial⟩
   refine JLn (Pu.pickAnd rfl rfl rfl) ?_
   exact Zb ⟨⟨rfl, trivial⟩, rfl⟩
  | true =>
   exact Zx rfl ⟨rfl, trivial⟩
 refine JLn (Pu.pickOr rfl rfl rfl) <| JLM rfl <| Zr 9 [42, 43, 44, 45, 46, 47, 48, 49, 50] [(50, cond (((!(Xp kind)) && (!decide (num = 0))) || ((!(ZG kind)) && (!decide (ref = zS)))) undef (.bool ((!decide (kind = 9)) && (decide (0 < (cases.length : Int))))))] ?_ fun f13 => ?_
 ·cases h9 : (((!(Xp kind)) && (!decide (num = 0))) || ((!(ZG kind)) && (!decide (ref = zS)))) with
  | false =>
   obtain ⟨h9a, h9b⟩ := orF h9
   refine JLq (pp b1 0) (ZL rfl rfl) <| JLr (Ze ty3 rfl (At.bx 0 rfl) (ZY ..) <| JLn (Pu.neq rfl rfl) <| JLM rfl <| Zr 4 [46, 47, 48, 49] [(49, cond (!decide (kind = 9)) (.bool (decide (0 < (cases.length : Int)))) undef)] ?_ fun f12 => ?_)
   ·cases h10 : (!decide (kind = 9)) with
    | true =>
     replace h10 := nt h10
     replace h10 := df h10
     refine JLq (pp b1 35) (Z0 rfl rfl) <| JLr (Ze Y2 rfl (At.bx 0 rfl) (ZZ ..) ?_)
     obtain ⟨a11, cap11, hv11⟩ := hcv.sl
     have hle11 := hcv.le
     refine JLn (Pu.lenSl Tryz.runUnderlying28 hv11) <| JLn (Pu.gtr rfl rfl) ?_
     exact Zb ⟨⟨rfl, trivial⟩, rfl⟩
    | false =>
     exact Zx rfl ⟨rfl, trivial⟩
   refine JLn (Pu.pickAnd rfl rfl rfl) ?_
   exact Zb ⟨⟨rfl, trivial⟩, rfl⟩
  | true =>
   exact Zx rfl ⟨rfl, trivial⟩
 refine JLn (Pu.pickOr rfl rfl rfl) <| Zb <| Zg rfl (fun h14 => ?_) (fun h14 => ?_)
 ·refine Zc <| Za <| JLA rfl <| Zb <| Zj <| ⟨iv 7, [], Ret.one rfl (RV.tmp rfl), Sub.nil, ?_⟩
  have hx : Xd d m b kind num ref kids.length cases.length = 7 := by simp only [Xd]; (repeat' split) <;> first | rfl | omega | (exfalso; simp_all; done) | (exfalso; simp_all; omega) | grind
  exact ⟨by rw [Y8, hx]; rfl, rfl⟩
 obtain ⟨h14a, h14b⟩ := orF h14
 obtain ⟨h14aa, h14ab⟩ := orF h14a
 refine Zh <| Zc <| Za <| JLq (pp b1 0) (ZL rfl rfl) <| JLr (Ze ty3 rfl (At.bx 0 rfl) (ZY ..) <| Jc Tryz.call147 rfl (fun hin => kidsR_ct _ _) rfl ?_)
 rintro _ _ ⟨rfl, rfl⟩
 refine JLM rfl <| JLn (Pu.extract rfl rfl) <| JLn (Pu.extract rfl rfl) <| JLA rfl <| JLA rfl <| Zb <| Zc <| Zc <| Za <| JLq (pp b1 34) (Ye rfl rfl) <| JLr (Ze ty27 rfl (At.bx 0 rfl) (Ya ..) ?_)
 obtain ⟨a15, cap15, hv15⟩ := hks.sl
 have hle15 := hks.le
 refine JLn (Pu.lenSl Tryz.runUnderlying27 hv15) <| JLM rfl <| JLM rfl <| Jc Tryz.call145 rfl (fun hin => offR_ct _ _ _ _) rfl ?_
 rintro _ _ ⟨rfl, rfl⟩
 refine JLM rfl <| Zr 4 [65, 66, 67, 68] [(68, cond (decide ((kids.length : Int) < loK kind ∨ hiK kind < (kids.length : Int))) undef (.bool (decide (8 < (cases.length : Int)))))] ?_ fun f18 => ?_
 ·cases h16 : (decide ((kids.length : Int) < loK kind ∨ hiK kind < (kids.length : Int))) with
  | false =>
   replace h16 := df h16
   refine JLq (pp b1 35) (Z0 rfl rfl) <| JLr (Ze Y2 rfl (At.bx 0 rfl) (ZZ ..) ?_)
   obtain ⟨a17, cap17, hv17⟩ := hcv.sl
   have hle17 := hcv.le
   refine JLn (Pu.lenSl Tryz.runUnderlying28 hv17) <| JLn (Pu.gtr rfl rfl) ?_
   exact Zb ⟨⟨rfl, trivial⟩, rfl⟩
  | true =>
   exact Zx rfl ⟨rfl, trivial⟩
 refine JLn (Pu.pickOr rfl rfl rfl) <| Zb <| Zg rfl (fun h19 => ?_) (fun h19 => ?_)
 ·refine Zc <| Za <| JLA rfl <| Zb <| Zj <| ⟨iv 2, [], Ret.one rfl (RV.tmp rfl), Sub.nil, ?_⟩
  have hx : Xd d m b kind num ref kids.length cases.length = 2 := by simp only [Xd]; (repeat' split) <;> first | rfl | omega | (exfalso; simp_all; done) | (exfalso; simp_all; omega) | grind
  exact ⟨by rw [Y8, hx]; rfl, rfl⟩
 obtain ⟨h19a, h19b⟩ := orF h19
 replace h19a := df h19a
 replace h19b := df h19b
 refine Zh <| Zc <| Zc <| Za <| JLq (pp b1 0) (ZL rfl rfl) <| JLr (Ze ty3 rfl (At.bx 0 rfl) (ZY ..) <| JLn (Pu.eql rfl rfl) <| JLM rfl <| Zr 3 [74, 75, 76] [(76, cond (decide (kind = 2)) (.bool (decide (num < 0 ∨ 1073741824 < num))) undef)] ?_ fun f21 => ?_)
 ·cases h20 : (decide (kind = 2)) with
  | true =>
   replace h20 := dt h20
   refine JLq (pp b1 1) (Z8 rfl rfl) <| JLr (Ze ty3 rfl (At.bx 0 rfl) (Ys ..) <| Jc Tryz.call145 rfl (fun hin => offR_ct _ _ _ _) rfl ?_)
   rintro _ _ ⟨rfl, rfl⟩
   exact Zb ⟨⟨rfl, trivial⟩, rfl⟩
  | false =>
   exact Zx rfl ⟨rfl, trivial⟩
 refine JLn (Pu.pickAnd rfl rfl rfl) <| JLM rfl <| Zr 8 [79, 80, 81, 82, 83, 84, 85, 86] [(86, cond ((decide (kind = 2)) && (decide (num < 0 ∨ 1073741824 < num))) undef (.bool ((decide (kind = 10)) && (decide (num < 1 ∨ 5 < num)))))] ?_ fun f25 => ?_
 ·cases h22 : ((decide (kind = 2)) && (decide (num < 0 ∨ 1073741824 < num))) with
  | false =>
   refine JLq (pp b1 0) (ZL rfl rfl) <| JLr (Ze ty3 rfl (At.bx 0 rfl) (ZY ..) <| JLn (Pu.eql rfl rfl) <| JLM rfl <| Zr 3 [83, 84, 85] [(85, cond (decide (kind = 10)) (.bool (decide (num < 1 ∨ 5 < num))) undef)] ?_ fun f24 => ?_)
   ·cases h23 : (decide (kind = 10)) with
    | true =>
     replace h23 := dt h23
     refine JLq (pp b1 1) (Z8 rfl rfl) <| JLr (Ze ty3 rfl (At.bx 0 rfl) (Ys ..) <| Jc Tryz.call145 rfl (fun hin => offR_ct _ _ _ _) rfl ?_)
     rintro _ _ ⟨rfl, rfl⟩
     exact Zb ⟨⟨rfl, trivial⟩, rfl⟩
    | false =>
     exact Zx rfl ⟨rfl, trivial⟩
   refine JLn (Pu.pickAnd rfl rfl rfl) ?_
   exact Zb ⟨⟨rfl, trivial⟩, rfl⟩
  | true =>
   exact Zx rfl ⟨rfl, trivial⟩
 refine JLn (Pu.pickOr rfl rfl rfl) <| JLM rfl <| Zr 13 [89, 90, 91, 92, 93, 94, 95, 96, 97, 98, 99, 100, 101] [(101, cond (((decide (kind = 2)) && (decide (num < 0 ∨ 1073741824 < num))) || ((decide (kind = 10)) && (decide (num < 1 ∨ 5 < num)))) undef (.bool (((decide (kind = 8)) || (decide (kind = 11))) && (decide (num < 0 ∨ 7 < num)))))] ?_ fun f31 => ?_
 ·cases h26 : (((decide (kind = 2)) && (decide (num < 0 ∨ 1073741824 < num))) || ((decide (kind = 10)) && (decide (num < 1 ∨ 5 < num)))) with
  | false =>
   obtain ⟨h26a, h26b⟩ := orF h26
   refine JLq (pp b1 0) (ZL rfl rfl) <| JLr (Ze ty3 rfl (At.bx 0 rfl) (ZY ..) <| JLn (Pu.eql rfl rfl) <| JLM rfl <| Zr 3 [93, 94, 95] [(95, cond (decide (kind = 8)) undef (.bool (decide (kind = 11))))] ?_ fun f28 => ?_)
   ·cases h27 : (decide (kind = 8)) with
    | false =>
     replace h27 := df h27
     refine JLq (pp b1 0) (ZL rfl rfl) <| JLr (Ze ty3 rfl (At.bx 0 rfl) (ZY ..) <| JLn (Pu.eql rfl rfl) ?_)
     exact Zb ⟨⟨rfl, trivial⟩, rfl⟩
    | true =>
     exact Zx rfl ⟨rfl, trivial⟩
   refine JLn (Pu.pickOr rfl rfl rfl) <| JLM rfl <| Zr 3 [98, 99, 100] [(100, cond ((decide (kind = 8)) || (decide (kind = 11))) (.bool (decide (num < 0 ∨ 7 < num))) undef)] ?_ fun f30 => ?_
   ·cases h29 : ((decide (kind = 8)) || (decide (kind = 11))) with
    | true =>
     refine JLq (pp b1 1) (Z8 rfl rfl) <| JLr (Ze ty3 rfl (At.bx 0 rfl) (Ys ..) <| Jc Tryz.call145 rfl (fun hin => offR_ct _ _ _ _) rfl ?_)
     rintro _ _ ⟨rfl, rfl⟩
     exact Zb ⟨⟨rfl, trivial⟩, rfl⟩
    | false =>
     exact Zx rfl ⟨rfl, trivial⟩
   refine JLn (Pu.pickAnd rfl rfl rfl) ?_
   exact Zb ⟨⟨rfl, trivial⟩, rfl⟩
  | true =>
   exact Zx rfl ⟨rfl, trivial⟩
 refine JLn (Pu.pickOr rfl rfl rfl) <| Zb <| Zg rfl (fun h32 => ?_) (fun h32 => ?_)
 ·refine Zc <| Za <| JLA rfl <| Zb <| Zj <| ⟨iv 3, [], Ret.one rfl (RV.tmp rfl), Sub.nil, ?_⟩
  have hx : Xd d m b kind num ref kids.length cases.length = 3 := by simp only [Xd]; (repeat' split) <;> first | rfl | omega | (exfalso; simp_all; done) | (exfalso; simp_all; omega) | grind
  exact ⟨by rw [Y8, hx]; rfl, rfl⟩
 obtain ⟨h32a, h32b⟩ := orF h32
 obtain ⟨h32aa, h32ab⟩ := orF h32a
 refine Zh <| Zc <| Zc <| Za <| JLq (pp b1 0) (ZL rfl rfl) <| JLr (Ze ty3 rfl (At.bx 0 rfl) (ZY ..) <| JLn (Pu.eql rfl rfl) <| JLM rfl <| Zr 17 [107, 108, 109, 110, 111, 112, 113, 114, 115, 116, 117, 118, 119, 120, 121, 122, 123] [(123, cond (decide (kind = 1)) (.bool ((decide (num < 0)) || ((decide (b ≤ num)) && (decide (d ≤ num - b))))) undef)] ?_ fun f38 => ?_)
 ·cases h33 : (decide (kind = 1)) with
  | true =>
   replace h33 := dt h33
   refine JLq (pp b1 1) (Z8 rfl rfl) <| JLr (Ze ty3 rfl (At.bx 0 rfl) (Ys ..) <| JLn (Pu.lss rfl rfl) <| JLM rfl <| Zr 12 [111, 112, 113, 114, 115, 116, 117, 118, 119, 120, 121, 122] [(122, cond (decide (num < 0)) undef (.bool ((decide (b ≤ num)) && (decide (d ≤ num - b)))))] ?_ fun f37 => ?_)
   ·cases h34 : (decide (num < 0)) with
    | false =>
     replace h34 := df h34
     refine JLq (pp b1 1) (Z8 rfl rfl) <| JLr (Ze ty3 rfl (At.bx 0 rfl) (Ys ..) <| JLM rfl <| JLn (Pu.geq rfl rfl) <| JLM rfl <| Zr 6 [116, 117, 118, 119, 120, 121] [(121, cond (decide (b ≤ num)) (.bool (decide (d ≤ num - b))) undef)] ?_ fun f36 => ?_)
     ·cases h35 : (decide (b ≤ num)) with
      | true =>
       replace h35 := dt h35
       refine JLq (pp b1 1) (Z8 rfl rfl) <| JLr (Ze ty3 rfl (At.bx 0 rfl) (Ys ..) <| JLM rfl <| JLn (Pu.sub64 rfl rfl (by first | omega | (constructor <;> omega))) <| JLM rfl <| JLn (Pu.geq rfl rfl) ?_)
       exact Zb ⟨⟨rfl, trivial⟩, rfl⟩
      | false =>
       exact Zx rfl ⟨rfl, trivial⟩
     refine JLn (Pu.pickAnd rfl rfl rfl) ?_
     exact Zb ⟨⟨rfl, trivial⟩, rfl⟩
    | true =>
     exact Zx rfl ⟨rfl, trivial⟩
   refine JLn (Pu.pickOr rfl rfl rfl) ?_
   exact Zb ⟨⟨rfl, trivial⟩, rfl⟩
  | false =>
   exact Zx rfl ⟨rfl, trivial⟩
 refine JLn (Pu.pickAnd rfl rfl rfl) <| JLM rfl <| Zr 14 [126, 127, 128, 129, 130, 131, 132, 133, 134, 135, 136, 137, 138, 139] [(139, cond ((decide (kind = 1)) && ((decide (num < 0)) || ((decide (b ≤ num)) && (decide (d ≤ num - b))))) undef (.bool ((decide (kind = 7)) && ((decide (num < 0)) || (decide (m ≤ num))))))] ?_ fun f44 => ?_
 ·cases h39 : ((decide (kind = 1)) && ((decide (num < 0)) || ((decide (b ≤ num)) && (decide (d ≤ num - b))))) with
  | false =>
   refine JLq (pp b1 0) (ZL rfl rfl) <| JLr (Ze ty3 rfl (At.bx 0 rfl) (ZY ..) <| JLn (Pu.eql rfl rfl) <| JLM rfl <| Zr 9 [130, 131, 132, 133, 134, 135, 136, 137, 138] [(138, cond (decide (kind = 7)) (.bool ((decide (num < 0)) || (decide (m ≤ num)))) undef)] ?_ fun f43 => ?_)
   ·cases h40 : (decide (kind = 7)) with
    | true =>
     replace h40 := dt h40
     refine JLq (pp b1 1) (Z8 rfl rfl) <| JLr (Ze ty3 rfl (At.bx 0 rfl) (Ys ..) <| JLn (Pu.lss rfl rfl) <| JLM rfl <| Zr 4 [134, 135, 136, 137] [(137, cond (decide (num < 0)) undef (.bool (decide (m ≤ num))))] ?_ fun f42 => ?_)
     ·cases h41 : (decide (num < 0)) with
      | false =>
       replace h41 := df h41
       refine JLq (pp b1 1) (Z8 rfl rfl) <| JLr (Ze ty3 rfl (At.bx 0 rfl) (Ys ..) <| JLM rfl <| JLn (Pu.geq rfl rfl) ?_)
       exact Zb ⟨⟨rfl, trivial⟩, rfl⟩
      | true =>
       exact Zx rfl ⟨rfl, trivial⟩
     refine JLn (Pu.pickOr rfl rfl rfl) ?_
     exact Zb ⟨⟨rfl, trivial⟩, rfl⟩
    | false =>
     exact Zx rfl ⟨rfl, trivial⟩
   refine JLn (Pu.pickAnd rfl rfl rfl) ?_
   exact Zb ⟨⟨rfl, trivial⟩, rfl⟩
  | true =>
   exact Zx rfl ⟨rfl, trivial⟩
 refine JLn (Pu.pickOr rfl rfl rfl) <| Zb <| Zg rfl (fun h45 => ?_) (fun h45 => ?_)
 ·refine Zc <| Za <| JLA rfl <| Zb <| Zj <| ⟨iv 1, [], Ret.one rfl (RV.tmp rfl), Sub.nil, ?_⟩
  have hx : Xd d m b kind num ref kids.length cases.length = 1 := by simp only [Xd]; (repeat' split) <;> first | rfl | omega | (exfalso; simp_all; done) | (exfalso; simp_all; omega) | grind
  exact ⟨by rw [Y8, hx]; rfl, rfl⟩
 obtain ⟨h45a, h45b⟩ := orF h45
 refine Zh <| Zc <| Zc <| Za <| JLA rfl <| Zb <| Zo <| ZN (fun k ρ M => ∃ (j : Nat), ρ 1 = iv d ∧ ρ 2 = iv m ∧ ρ 3 = iv b ∧ ρ 4 = pp b1 0 ∧ ρ 8 = iv 0 ∧ ρ 11 = iv ((j : Int)) ∧ Sub [(BX b1 (pkT kind num ref ks cv) 30)] M ∧ j ≤ cases.length ∧ Xd d m b kind num ref kids.length cases.length = 0 ∧ pErrRC (cases.drop j) = pErrRC cases ∧ k = cases.length - j) _ ⟨0, rfl, rfl, rfl, rfl, rfl, rfl, (Sk Sub.nil), Nat.zero_le _, (by simp only [Xd]; (repeat' split) <;> first | rfl | omega | (exfalso; simp_all; done) | (exfalso; simp_all; omega) | grind), rfl, rfl⟩ ?_
 rintro _ ρ46 _ ⟨j, e47, e48, e49, e50, e51, e52, hm53, hj, hh, hinv, rfl⟩
 obtain ⟨ρ54, rfl⟩ := Zs (uc e47 (uc e48 (uc e49 (uc e50 (uc e51 (uc e52 un))))))
 clear e47 e48 e49 e50 e51 e52
 refine ZX hm53 ?_
 have hlen := hcv.le
 refine Zc <| Zc <| Za <| JLM rfl <| JLq (pp b1 35) (Z0 rfl rfl) <| JLr (Ze Y2 rfl (At.bx 0 rfl) (ZZ ..) ?_)
 obtain ⟨a55, cap55, hv55⟩ := hcv.sl
 have hle55 := hcv.le
 refine JLn (Pu.lenSl Tryz.runUnderlying28 hv55) <| JLn (Pu.lss rfl rfl) <| Zb <| Zg rfl (fun h56 => ?_) (fun h56 => ?_)
 ·replace h56 := dt h56
  have h56n : j < cases.length := by omega
  refine Zh <| Zc <| Zo <| Zc <| Za <| JLq (pp b1 35) (Z0 rfl rfl) <| JLr (Ze Y2 rfl (At.bx 0 rfl) (ZZ ..) <| JLM rfl ?_)
  obtain ⟨b57, o57, cap57, row57, T57, fr57, cs57, hv57, hb57, hs57, hE57⟩ := hcv.get j (by first | assumption | omega | decide | simp)
  obtain ⟨ca57, cb57, rfl, hA57, hB57⟩ := hE57
  refine JLq (pp b57 (o57 + j * 71)) (Pu.idx j Tryz.runUnderlying28 Xk hv57 rfl rfl (by first | assumption | omega | decide | simp)) <| JLq (pp b57 (o57 + j * 71)) (fa86_0 rfl rfl) <| JLr (Zl Z7 rfl (At.im hb57) (sub_sub0 hs57 (sub_l (ZT hA57))) <| Jc Tryz.call148 rfl (fun hin => patternErrorR_ct _ _ _ (RP.mono (Hle.hu _ _) hA57)) rfl ?_)
  rintro _ _ ⟨rfl, rfl⟩
  refine JLA rfl <| Zb <| Zc <| Za <| JLM rfl <| JLn (Pu.neq rfl rfl) <| Zb <| Zg rfl (fun h58 => ?_) (fun h58 => ?_)
  ·replace h58 := nt h58
   replace h58 := df h58
   refine Zc <| Za <| JLM rfl <| JLA rfl <| Zb <| Zj <| ⟨iv (pErrR (cases[j].1)), [], Ret.one rfl (RV.tmp rfl), Sub.nil, ?_⟩
   exact ⟨by rw [Y8, if_pos hh, ← hinv, ZW h56n, pErrRC, if_neg h58, if_neg h58], rfl⟩
  replace h58 := nf h58
  replace h58 := dt h58
  refine Zh <| Za <| JLM rfl <| JLn (Pu.inc rfl rfl (by omega)) <| JLA rfl <| Zb <| ⟨_, ?_, (j + 1), rfl, rfl, rfl, rfl, rfl, rfl, (Sk Sub.nil), ?_, ?_, ?_, rfl⟩
  ·omega
  ·omega
  ·assumption
  rw [ZW h56n, pErrRC, if_pos h58] at hinv; exact hinv
 replace h56 := df h56
 have h56n : cases.length ≤ j := by omega
 refine Zz _ rfl <| Zc <| Zc <| Za <| JLA rfl <| Zb <| Zo <| ZN (fun k ρ M => ∃ (j : Nat), ρ 1 = iv d ∧ ρ 2 = iv m ∧ ρ 3 = iv b ∧ ρ 4 = pp b1 0 ∧ ρ 8 = iv 0 ∧ ρ 13 = iv ((j : Int)) ∧ Sub [(BX b1 (pkT kind num ref ks cv) 30)] M ∧ j ≤ kids.length ∧ pErrRC cases = 0 ∧ nErrK d m b kind j (kids.drop j) = nErrK d m b kind 0 kids ∧ k = kids.length - j) _ ⟨0, rfl, rfl, rfl, rfl, rfl, rfl, (Sk Sub.nil), Nat.zero_le _, (by rw [← hinv, YZ h56n]; rfl), rfl, rfl⟩ ?_
 rintro _ ρ59 _ ⟨j, e60, e61, e62, e63, e64, e65, hm66, hj, h1, hinv, rfl⟩
 obtain ⟨ρ67, rfl⟩ := Zs (uc e60 (uc e61 (uc e62 (uc e63 (uc e64 (uc e65 un))))))
 clear e60 e61 e62 e63 e64 e65
 refine ZX hm66 ?_
 have hlen := hks.le
 refine Zc <| Zc <| Za <| JLM rfl <| JLq (pp b1 34) (Ye rfl rfl) <| JLr (Ze ty27 rfl (At.bx 0 rfl) (Ya ..) ?_)
 obtain ⟨a68, cap68, hv68⟩ := hks.sl
 have hle68 := hks.le
 refine JLn (Pu.lenSl Tryz.runUnderlying27 hv68) <| JLn (Pu.lss rfl rfl) <| Zb <| Zg rfl (fun h69 => ?_) (fun h69 => ?_)
 ·replace h69 := dt h69
  have h69n : j < kids.length := by omega
  have hs1 := sizeTs_mem _ (List.getElem_mem h69n)
  have hm1 := more_le kind j
  refine Zh <| Zc <| Zo <| Zc <| Zy mixed #[0, 1, 0, 7, 15, 0, 0, 0, 0, 256, 0, 1792, 3968, 8191, 16383] 13 [some 165, some 166, some 167, some 168, some 169, some 170, some 171, some 172, some 173, some 174, some 175, some 176, some 177] [] [(11, fun _ _ vw qw => vw = iv (Z4 kind ((j : Int))) ∧ qw = [])] rfl (by kernel_rfl) rfl (by kernel_rfl) <| Dq (pp b1 34) (fun _ => Ye rfl rfl) <| Dl1 ty27 (At.bx 0 rfl) (Ya ..) <| DM (fun _ => rfl) ?_
  obtain ⟨b71, o71, cap71, row71, T71, fr71, cs71, hv71, hb71, hs71, hE71⟩ := hks.get j (by first | assumption | omega | decide | simp)
  refine Dq (pp b71 (o71 + j * 36)) (fun _ => Pu.idx j Tryz.runUnderlying27 Zt hv71 rfl rfl (by first | assumption | omega | decide | simp)) <| Dl Zt (At.im hb71) hs71 <| DM (fun _ => rfl) <| DM (fun _ => rfl) <| DM (fun _ => rfl) <| Dq (pp b1 0) (fun _ => ZL rfl rfl) <| Dl1 ty3 (At.bx 0 rfl) (ZY ..) <| DM (fun _ => rfl) <| Dc rfl Tryz.call149 (fun _ => rfl) (fun hin => moreR_ct _ _ _) ?_
  rintro _ _ ⟨rfl, rfl⟩
  refine Dn (fun _ => Pu.add64 rfl rfl (by first | omega | (constructor <;> omega))) <| ZH (M' := [(BX b1 (pkT kind num ref ks cv) 30)]) rfl ?_
  show JL _ _ _ [_, _] _ _ _
  refine Jc Tryz.call124 rfl (fun hin => ih _ (List.getElem_mem h69n) _ _ _ _ _ (RT.mono (Hle.hu _ _) hE71) (by omega) (by omega)) rfl ?_
  rintro _ _ ⟨rfl, rfl⟩
  refine JLA rfl <| Zb <| Zc <| Za <| JLM rfl <| JLn (Pu.neq rfl rfl) <| Zb <| Zg rfl (fun h72 => ?_) (fun h72 => ?_)
  ·replace h72 := nt h72
   replace h72 := df h72
   refine Zc <| Za <| JLM rfl <| JLA rfl <| Zb <| Zj <| ⟨iv (Y8 d m (b + (Z4 kind ((j : Int)))) (kids[j])), [], Ret.one rfl (RV.tmp rfl), Sub.nil, ?_⟩
   exact ⟨by rw [Y8, if_pos hh, if_pos h1, ← hinv, ZW h69n, nErrK, if_neg h72, if_neg h72], rfl⟩
  replace h72 := nf h72
  replace h72 := dt h72
  refine Zh <| Za <| JLM rfl <| JLn (Pu.inc rfl rfl (by omega)) <| JLA rfl <| Zb <| ⟨_, ?_, (j + 1), rfl, rfl, rfl, rfl, rfl, rfl, (Sk Sub.nil), ?_, ?_, ?_, rfl⟩
  ·omega
  ·omega
  ·assumption
  rw [ZW h69n, nErrK, if_pos h72] at hinv; exact hinv
 replace h69 := df h69
 have h69n : kids.length ≤ j := by omega
 refine Zz _ rfl <| Zc <| Zc <| Za <| JLA rfl <| Zb <| Zo <| ZN (fun k ρ M => ∃ (j : Nat), ρ 1 = iv d ∧ ρ 2 = iv m ∧ ρ 3 = iv b ∧ ρ 4 = pp b1 0 ∧ ρ 8 = iv 0 ∧ ρ 15 = iv ((j : Int)) ∧ Sub [(BX b1 (pkT kind num ref ks cv) 30)] M ∧ j ≤ cases.length ∧ nErrK d m b kind 0 kids = 0 ∧ nErrC d m b (cases.drop j) = nErrC d m b cases ∧ k = cases.length - j) _ ⟨0, rfl, rfl, rfl, rfl, rfl, rfl, (Sk Sub.nil), Nat.zero_le _, (by rw [← hinv, YZ h69n]; rfl), rfl, rfl⟩ ?_
 rintro _ ρ73 _ ⟨j, e74, e75, e76, e77, e78, e79, hm80, hj, h2, hinv, rfl⟩
 obtain ⟨ρ81, rfl⟩ := Zs (uc e74 (uc e75 (uc e76 (uc e77 (uc e78 (uc e79 un))))))
 clear e74 e75 e76 e77 e78 e79
 refine ZX hm80 ?_
 have hlen := hcv.le
 refine Zc <| Zc <| Za <| JLM rfl <| JLq (pp b1 35) (Z0 rfl rfl) <| JLr (Ze Y2 rfl (At.bx 0 rfl) (ZZ ..) ?_)
 obtain ⟨a82, cap82, hv82⟩ := hcv.sl
 have hle82 := hcv.le
 refine JLn (Pu.lenSl Tryz.runUnderlying28 hv82) <| JLn (Pu.lss rfl rfl) <| Zb <| Zg rfl (fun h83 => ?_) (fun h83 => ?_)
 ·replace h83 := dt h83
  have h83n : j < cases.length := by omega
  have hs1 := sizeCs_mem _ (List.getElem_mem h83n)
  have hm1 := binds_le (cases[j]).1
  refine Zh <| Zc <| Zo <| Zc <| Zy mixed #[0, 1, 0, 7, 15, 31, 0, 0, 0, 0, 512, 0, 3584, 7680, 15872, 32256, 65280, 131071, 262143] 17 [some 189, some 190, some 191, some 192, some 193, some 194, some 195, some 196, some 197, some 198, some 199, some 200, some 201, some 202, some 203, some 204, some 205] [] [(15, fun _ _ vw qw => vw = iv ((binds (cases[j].1) : Int)) ∧ qw = [])] rfl (by kernel_rfl) rfl (by kernel_rfl) <| Dq (pp b1 35) (fun _ => Z0 rfl rfl) <| Dl1 Y2 (At.bx 0 rfl) (ZZ ..) <| DM (fun _ => rfl) ?_
  obtain ⟨b86, o86, cap86, row86, T86, fr86, cs86, hv86, hb86, hs86, hE86⟩ := hcv.get j (by first | assumption | omega | decide | simp)
  obtain ⟨ca86, cb86, rfl, hA86, hB86⟩ := hE86
  refine Dq (pp b86 (o86 + j * 71)) (fun _ => Pu.idx j Tryz.runUnderlying28 Xk hv86 rfl rfl (by first | assumption | omega | decide | simp)) <| Dq (pp b86 (o86 + j * 71 + 35)) (fun _ => fa86_1 rfl rfl) <| Dl Zt (At.im hb86) (sub_sub hs86 (sub_r (ZT hA86) (Zw hB86))) <| DM (fun _ => rfl) <| DM (fun _ => rfl) <| DM (fun _ => rfl) <| Dq (pp b1 35) (fun _ => Z0 rfl rfl) <| Dl1 Y2 (At.bx 0 rfl) (ZZ ..) <| DM (fun _ => rfl) ?_
  obtain ⟨b87, o87, cap87, row87, T87, fr87, cs87, hv87, hb87, hs87, hE87⟩ := hcv.get j (by first | assumption | omega | decide | simp)
  obtain ⟨ca87, cb87, rfl, hA87, hB87⟩ := hE87
  refine Dq (pp b87 (o87 + j * 71)) (fun _ => Pu.idx j Tryz.runUnderlying28 Xk hv87 rfl rfl (by first | assumption | omega | decide | simp)) <| Dq (pp b87 (o87 + j * 71)) (fun _ => fa86_0 rfl rfl) <| Dl Z7 (At.im hb87) (sub_sub0 hs87 (sub_l (ZT hA87))) ?_
  refine Dc rfl Tryz.call150 (fun _ => rfl) (fun hin => bindsR_ct _ _ _ (RP.mono (Hle.hu _ _) hA87) (by omega)) ?_
  rintro _ _ ⟨rfl, rfl⟩
  refine Dn (fun _ => Pu.add64 rfl rfl (by first | omega | (constructor <;> omega))) <| ZH (M' := [(BX b1 (pkT kind num ref ks cv) 30)]) rfl ?_
  show JL _ _ _ [_, _] _ _ _
  refine Jc Tryz.call124 rfl (fun hin => ih' _ (List.getElem_mem h83n) _ _ _ _ _ (RT.mono (Hle.hu _ _) hB86) (by omega) (by omega)) rfl ?_
  rintro _ _ ⟨rfl, rfl⟩
  refine JLA rfl <| Zb <| Zc <| Za <| JLM rfl <| JLn (Pu.neq rfl rfl) <| Zb <| Zg rfl (fun h88 => ?_) (fun h88 => ?_)
  ·replace h88 := nt h88
   replace h88 := df h88
   refine Zc <| Za <| JLM rfl <| JLA rfl <| Zb <| Zj <| ⟨iv (Y8 d m (b + ((binds (cases[j].1) : Int))) (cases[j].2)), [], Ret.one rfl (RV.tmp rfl), Sub.nil, ?_⟩
   exact ⟨by rw [Y8, if_pos hh, if_pos h1, if_pos h2, ← hinv, ZW h83n, nErrC, if_neg h88], rfl⟩
  replace h88 := nf h88
  replace h88 := dt h88
  refine Zh <| Za <| JLM rfl <| JLn (Pu.inc rfl rfl (by omega)) <| JLA rfl <| Zb <| ⟨_, ?_, (j + 1), rfl, rfl, rfl, rfl, rfl, rfl, (Sk Sub.nil), ?_, ?_, ?_, rfl⟩
  ·omega
  ·omega
  ·assumption
  rw [ZW h83n, nErrC, if_pos h88] at hinv; exact hinv
 replace h83 := df h83
 have h83n : cases.length ≤ j := by omega
 refine Zz _ rfl <| Zc <| Za <| JLA rfl <| Zb <| Zj <| ⟨iv 0, [], Ret.one rfl (RV.tmp rfl), Sub.nil, ?_⟩
 exact ⟨by rw [Y8, if_pos hh, if_pos h1, if_pos h2, ← hinv, YZ h83n]; rfl, rfl⟩
end Go.Proofs.YtkjafeejpmcnkaaGreat.Hs
/-! Walks, printed by a program of this session's own (gen.py). -/
namespace Go.Proofs.YtkjafeejpmcnkaaGreat.Hs
open Go Go.Proofs
set_option maxRecDepth 100000
set_option linter.unusedVariables false
set_option linter.unusedSimpArgs false
attribute [local irreducible] JL J CT wlo DT
theorem patternSize_ct : ∀ (p : Pt) (m : Int) (cs : List Value) (H : Heap), RP H cs p → sizeP p ≤ 1000000000 → sizeP p ≤ m + 2000000000 → m ≤ 2000000000 → CT Tryz.prog 159 ⟨[.agg ⟨cs⟩, iv m]⟩ [] H (fun v N => v = .tuple ⟨[iv (Xr m p).1, iv (Xr m p).2]⟩ ∧ N = []) := by
 intro p
 induction p using Pt.ind with
 | h kind num ref kids ih =>
 intro m cs H hp hz1 hz2 hz3
 obtain ⟨ks, rfl, hk, hn, hks⟩ := RP_mk.1 hp
 rw [sizeP] at hz1 hz2
 refine Zm Tryz.func159 rfl rfl <| Zc <| Za <| JLr (Zp (l := pkP kind num ref ks) rfl rfl fun b1 => JLA rfl <| JLA rfl <| Zb <| Zc <| Za <| JLA rfl <| JLA rfl <| Zb <| Zc ?_)
 refine Zc <| Za <| JLA rfl <| Zb <| Zo <| ZN (fun k ρ M => ∃ (j : Nat) (n d : Int), ρ 1 = iv m ∧ ρ 2 = pp b1 0 ∧ ρ 4 = iv 0 ∧ ρ 5 = iv 0 ∧ ρ 6 = iv n ∧ ρ 7 = iv d ∧ ρ 8 = iv ((j : Int)) ∧ Sub [(BX b1 (pkP kind num ref ks) 81)] M ∧ j ≤ kids.length ∧ Xq m (kids.drop j) n d = Xq m kids 1 0 ∧ 0 ≤ d ∧ d < n ∧ n + ZR (kids.drop j) ≤ 1 + ZR kids ∧ k = kids.length - j) _ ⟨0, 1, 0, rfl, rfl, rfl, rfl, rfl, rfl, rfl, (Sk Sub.nil), Nat.zero_le _, rfl, (by omega), (by omega), (by simp), rfl⟩ ?_
 rintro _ ρ2 _ ⟨j, n, d, e3, e4, e5, e6, e7, e8, e9, hm10, hj, hinv, hd0, hdn, hnn, rfl⟩
 obtain ⟨ρ11, rfl⟩ := Zs (uc e3 (uc e4 (uc e5 (uc e6 (uc e7 (uc e8 (uc e9 un)))))))
 clear e3 e4 e5 e6 e7 e8 e9
 refine ZX hm10 ?_
 have hlen := hks.le
 refine Zc <| Zc <| Za <| JLM rfl <| JLq (pp b1 34) (Yi rfl rfl) <| JLr (Ze ty79 rfl (At.bx 0 rfl) (Yo ..) ?_)
 obtain ⟨a12, cap12, hv12⟩ := hks.sl
 have hle12 := hks.le
 refine JLn (Pu.lenSl Tryz.runUnderlying79 hv12) <| JLn (Pu.lss rfl rfl) <| JLM rfl <| Zr 3 [17, 18, 19] [(19, cond (decide ((j : Int) < (kids.length : Int))) (.bool (decide (n ≤ m))) undef)] ?_ fun f14 => ?_
 ·cases h13 : (decide ((j : Int) < (kids.length : Int))) with
  | true =>
   replace h13 := dt h13
   have h13n : j < kids.length := by omega
   have hs1 := sizePs_mem _ (List.getElem_mem h13n)
   have hs2 : ZR (kids.drop j) = sizeP kids[j] + ZR (kids.drop (j + 1)) := by rw [ZW h13n, ZR]
   have hs3 := extP_le kids[j] (m - 1)
   refine JLM rfl <| JLM rfl <| JLn (Pu.leq rfl rfl) ?_
   exact Zb ⟨⟨rfl, trivial⟩, rfl⟩
  | false =>
   exact Zx rfl ⟨rfl, trivial⟩
 refine JLn (Pu.pickAnd rfl rfl rfl) <| Zb <| Zg rfl (fun h15 => ?_) (fun h15 => ?_)
 ·obtain ⟨h15a, h15b⟩ := Ym h15
  replace h15a := dt h15a
  have h15an : j < kids.length := by omega
  have hs1 := sizePs_mem _ (List.getElem_mem h15an)
  have hs2 : ZR (kids.drop j) = sizeP kids[j] + ZR (kids.drop (j + 1)) := by rw [ZW h15an, ZR]
  have hs3 := extP_le kids[j] (m - 1)
  replace h15b := dt h15b
  refine Zh <| Zc <| Zo <| Zc <| Za <| JLq (pp b1 34) (Yi rfl rfl) <| JLr (Ze ty79 rfl (At.bx 0 rfl) (Yo ..) <| JLM rfl ?_)
  obtain ⟨b16, o16, cap16, row16, T16, fr16, cs16, hv16, hb16, hs16, hE16⟩ := hks.get j (by first | assumption | omega | decide | simp)
  refine JLq (pp b16 (o16 + j * 35)) (Pu.idx j Tryz.runUnderlying79 Z7 hv16 rfl rfl (by first | assumption | omega | decide | simp)) <| JLr (Zl Z7 rfl (At.im hb16) hs16 <| JLM rfl <| JLn (Pu.sub64 rfl rfl (by first | omega | (constructor <;> omega))) <| Jc Tryz.call159 rfl (fun hin => ih _ (List.getElem_mem h15an) _ _ _ (RP.mono (Hle.hu _ _) hE16) (by omega) (by omega) (by omega)) rfl ?_)
  rintro _ _ ⟨rfl, rfl⟩
  refine JLM rfl <| JLn (Pu.extract rfl rfl) <| JLn (Pu.extract rfl rfl) <| JLA rfl <| JLA rfl <| Zb <| Za <| JLM rfl <| JLM rfl <| JLn (Pu.add64 rfl rfl (by first | omega | (constructor <;> omega))) <| JLM rfl <| JLM rfl <| JLq (iv (max d ((Xr (m - 1) (kids[j])).2))) (Pu.max2 rfl rfl) ?_
  refine JLA rfl <| JLA rfl <| Zb <| Za <| JLM rfl <| JLn (Pu.inc rfl rfl (by omega)) <| JLA rfl <| Zb <| ⟨_, ?_, (j + 1), (n + ((Xr (m - 1) (kids[j])).1)), (max d ((Xr (m - 1) (kids[j])).2)), rfl, rfl, rfl, rfl, rfl, rfl, rfl, (Sk Sub.nil), ?_, ?_, ?_, ?_, ?_, rfl⟩
  ·omega
  ·omega
  ·rw [ZW h15an, Xq, if_pos (by omega)] at hinv; exact hinv
  ·omega
  ·omega
  omega
 refine Zz _ rfl <| Zc <| Za <| JLM rfl <| JLM rfl <| JLn (Pu.add64 rfl rfl (by first | omega | (constructor <;> omega))) <| JLA rfl <| JLA rfl <| Zb <| Zj <| ⟨.tuple ⟨[iv n, iv (d + 1)]⟩, [], Ret.two rfl (RV.tmp rfl) (RV.tmp rfl), Sub.nil, ?_⟩
 have hf : ¬ ((j : Int) < (kids.length : Int) ∧ n ≤ m) := by
  intro ⟨hx1, hx2⟩
  have := h15
  simp [hx1, hx2] at this
  try omega
 have hr : Xq m kids 1 0 = (n, d) := by
  rw [← hinv]; rcases Nat.lt_or_ge j kids.length with hl | hl
  ·have hnm : ¬ n ≤ m := fun hle => hf ⟨by omega, hle⟩
   rw [ZW hl, Xq, if_neg hnm]
  ·rw [YZ hl, Xq]
 exact ⟨by rw [Xr, hr], rfl⟩
theorem extent_ct : ∀ (t : Tm) (m : Int) (cs : List Value) (H : Heap), RT H cs t → sizeT t ≤ 1000000000 → sizeT t ≤ m + 2000000000 → m ≤ 2000000000 → CT Tryz.prog 144 ⟨[.agg ⟨cs⟩, iv m]⟩ [] H (fun v N => v = .tuple ⟨[iv (YE m t).1, iv (YE m t).2]⟩ ∧ N = []) := by
 intro t
 induction t using Tm.ind with
 | h kind num ref kids cases ih ih' =>
 intro m cs H ht hz1 hz2 hz3
 obtain ⟨ks, cv, rfl, hk, hn, hks, hcv⟩ := RT_mk.1 ht
 rw [sizeT] at hz1 hz2
 refine Zm Tryz.func144 rfl rfl <| Zc <| Za <| JLr (Zp (l := pkT kind num ref ks cv) rfl rfl fun b1 => JLA rfl <| JLA rfl <| Zb <| Zc <| Za <| JLA rfl <| JLA rfl <| Zb <| Zc ?_)
 refine Zc <| Za <| JLA rfl <| Zb <| Zo <| ZN (fun k ρ M => ∃ (j : Nat) (n d : Int), ρ 1 = iv m ∧ ρ 2 = pp b1 0 ∧ ρ 4 = iv 0 ∧ ρ 5 = iv 0 ∧ ρ 6 = iv n ∧ ρ 7 = iv d ∧ ρ 8 = iv ((j : Int)) ∧ Sub [(BX b1 (pkT kind num ref ks cv) 30)] M ∧ j ≤ kids.length ∧ Yv m (kids.drop j) n d = Yv m kids 1 0 ∧ 0 ≤ d ∧ d < n ∧ n + ZC (kids.drop j) ≤ 1 + ZC kids ∧ k = kids.length - j) _ ⟨0, 1, 0, rfl, rfl, rfl, rfl, rfl, rfl, rfl, (Sk Sub.nil), Nat.zero_le _, rfl, (by omega), (by omega), (by simp), rfl⟩ ?_
 rintro _ ρ2 _ ⟨j, n, d, e3, e4, e5, e6, e7, e8, e9, hm10, hj, hinv, hd0, hdn, hnn, rfl⟩
 obtain ⟨ρ11, rfl⟩ := Zs (uc e3 (uc e4 (uc e5 (uc e6 (uc e7 (uc e8 (uc e9 un)))))))
 clear e3 e4 e5 e6 e7 e8 e9
 refine ZX hm10 ?_
 have hlen := hks.le
 refine Zc <| Zc <| Za <| JLM rfl <| JLq (pp b1 34) (Ye rfl rfl) <| JLr (Ze ty27 rfl (At.bx 0 rfl) (Ya ..) ?_)
 obtain ⟨a12, cap12, hv12⟩ := hks.sl
 have hle12 := hks.le
 refine JLn (Pu.lenSl Tryz.runUnderlying27 hv12) <| JLn (Pu.lss rfl rfl) <| JLM rfl <| Zr 3 [22, 23, 24] [(24, cond (decide ((j : Int) < (kids.length : Int))) (.bool (decide (n ≤ m))) undef)] ?_ fun f14 => ?_
 ·cases h13 : (decide ((j : Int) < (kids.length : Int))) with
  | true =>
   replace h13 := dt h13
   have h13n : j < kids.length := by omega
   have hs1 := sizeTs_mem _ (List.getElem_mem h13n)
   have hs2 : ZC (kids.drop j) = sizeT kids[j] + ZC (kids.drop (j + 1)) := by rw [ZW h13n, ZC]
   have hs3 := extT_le kids[j] (m - 1)
   refine JLM rfl <| JLM rfl <| JLn (Pu.leq rfl rfl) ?_
   exact Zb ⟨⟨rfl, trivial⟩, rfl⟩
  | false =>
   exact Zx rfl ⟨rfl, trivial⟩
 refine JLn (Pu.pickAnd rfl rfl rfl) <| Zb <| Zg rfl (fun h15 => ?_) (fun h15 => ?_)
 ·obtain ⟨h15a, h15b⟩ := Ym h15
  replace h15a := dt h15a
  have h15an : j < kids.length := by omega
  have hs1 := sizeTs_mem _ (List.getElem_mem h15an)
  have hs2 : ZC (kids.drop j) = sizeT kids[j] + ZC (kids.drop (j + 1)) := by rw [ZW h15an, ZC]
  have hs3 := extT_le kids[j] (m - 1)
  replace h15b := dt h15b
  refine Zh <| Zc <| Zo <| Zc <| Za <| JLq (pp b1 34) (Ye rfl rfl) <| JLr (Ze ty27 rfl (At.bx 0 rfl) (Ya ..) <| JLM rfl ?_)
  obtain ⟨b16, o16, cap16, row16, T16, fr16, cs16, hv16, hb16, hs16, hE16⟩ := hks.get j (by first | assumption | omega | decide | simp)
  refine JLq (pp b16 (o16 + j * 36)) (Pu.idx j Tryz.runUnderlying27 Zt hv16 rfl rfl (by first | assumption | omega | decide | simp)) <| JLr (Zl Zt rfl (At.im hb16) hs16 <| JLM rfl <| JLn (Pu.sub64 rfl rfl (by first | omega | (constructor <;> omega))) <| Jc Tryz.call144 rfl (fun hin => ih _ (List.getElem_mem h15an) _ _ _ (RT.mono (Hle.hu _ _) hE16) (by omega) (by omega) (by omega)) rfl ?_)
  rintro _ _ ⟨rfl, rfl⟩
  refine JLM rfl <| JLn (Pu.extract rfl rfl) <| JLn (Pu.extract rfl rfl) <| JLA rfl <| JLA rfl <| Zb <| Za <| JLM rfl <| JLM rfl <| JLn (Pu.add64 rfl rfl (by first | omega | (constructor <;> omega))) <| JLM rfl <| JLM rfl <| JLq (iv (max d ((YE (m - 1) (kids[j])).2))) (Pu.max2 rfl rfl) ?_
  refine JLA rfl <| JLA rfl <| Zb <| Za <| JLM rfl <| JLn (Pu.inc rfl rfl (by omega)) <| JLA rfl <| Zb <| ⟨_, ?_, (j + 1), (n + ((YE (m - 1) (kids[j])).1)), (max d ((YE (m - 1) (kids[j])).2)), rfl, rfl, rfl, rfl, rfl, rfl, rfl, (Sk Sub.nil), ?_, ?_, ?_, ?_, ?_, rfl⟩
  ·omega
  ·omega
  ·rw [ZW h15an, Yv, if_pos (by omega)] at hinv; exact hinv
  ·omega
  ·omega
  omega
 refine Zz _ rfl <| Zc <| Zc <| Za <| JLA rfl <| Zb <| Zo ?_
 have hf : ¬ ((j : Int) < (kids.length : Int) ∧ n ≤ m) := by
  intro ⟨hx1, hx2⟩
  have := h15
  simp [hx1, hx2] at this
  try omega
 have hr : Yv m kids 1 0 = (n, d) := by
  rw [← hinv]; rcases Nat.lt_or_ge j kids.length with hl | hl
  ·have hnm : ¬ n ≤ m := fun hle => hf ⟨by omega, hle⟩
   rw [ZW hl, Yv, if_neg hnm]
  ·rw [YZ hl, Yv]
 refine ZN (fun k ρ M => ∃ (j : Nat) (n d : Int), ρ 1 = iv m ∧ ρ 2 = pp b1 0 ∧ ρ 4 = iv 0 ∧ ρ 5 = iv 0 ∧ ρ 6 = iv n ∧ ρ 7 = iv d ∧ ρ 11 = iv ((j : Int)) ∧ Sub [(BX b1 (pkT kind num ref ks cv) 30)] M ∧ j ≤ cases.length ∧ Xs m (cases.drop j) n d = Xs m cases (Yv m kids 1 0).1 (Yv m kids 1 0).2 ∧ 0 ≤ d ∧ d < n ∧ n + ZJ (cases.drop j) ≤ 1 + ZC kids + ZJ cases ∧ k = cases.length - j) _ ⟨0, n, d, rfl, rfl, rfl, rfl, rfl, rfl, rfl, (Sk Sub.nil), Nat.zero_le _, (by rw [hr]; rfl), (by omega), (by omega), (by simp only [List.drop_zero]; omega), rfl⟩ ?_
 rintro _ ρ17 _ ⟨j, n, d, e18, e19, e20, e21, e22, e23, e24, hm25, hj, hinv, hd0, hdn, hnn, rfl⟩
 obtain ⟨ρ26, rfl⟩ := Zs (uc e18 (uc e19 (uc e20 (uc e21 (uc e22 (uc e23 (uc e24 un)))))))
 clear e18 e19 e20 e21 e22 e23 e24
 refine ZX hm25 ?_
 have hlen := hcv.le
 refine Zc <| Zc <| Za <| JLM rfl <| JLq (pp b1 35) (Z0 rfl rfl) <| JLr (Ze Y2 rfl (At.bx 0 rfl) (ZZ ..) ?_)
 obtain ⟨a27, cap27, hv27⟩ := hcv.sl
 have hle27 := hcv.le
 refine JLn (Pu.lenSl Tryz.runUnderlying28 hv27) <| JLn (Pu.lss rfl rfl) <| JLM rfl <| Zr 3 [51, 52, 53] [(53, cond (decide ((j : Int) < (cases.length : Int))) (.bool (decide (n ≤ m))) undef)] ?_ fun f29 => ?_
 ·cases h28 : (decide ((j : Int) < (cases.length : Int))) with
  | true =>
   replace h28 := dt h28
   have h28n : j < cases.length := by omega
   have hs1 := sizeCs_mem _ (List.getElem_mem h28n)
   have hs2 : ZJ (cases.drop j) = sizeP cases[j].1 + sizeT cases[j].2 + ZJ (cases.drop (j + 1)) := by rw [ZW h28n, ZJ]
   have hs3 := extT_le cases[j].2 (m - 1)
   have hs4 := extP_le cases[j].1 (m - 1)
   refine JLM rfl <| JLM rfl <| JLn (Pu.leq rfl rfl) ?_
   exact Zb ⟨⟨rfl, trivial⟩, rfl⟩
  | false =>
   exact Zx rfl ⟨rfl, trivial⟩
 refine JLn (Pu.pickAnd rfl rfl rfl) <| Zb <| Zg rfl (fun h30 => ?_) (fun h30 => ?_)
 ·obtain ⟨h30a, h30b⟩ := Ym h30
  replace h30a := dt h30a
  have h30an : j < cases.length := by omega
  have hs1 := sizeCs_mem _ (List.getElem_mem h30an)
  have hs2 : ZJ (cases.drop j) = sizeP cases[j].1 + sizeT cases[j].2 + ZJ (cases.drop (j + 1)) := by rw [ZW h30an, ZJ]
  have hs3 := extT_le cases[j].2 (m - 1)
  have hs4 := extP_le cases[j].1 (m - 1)
  replace h30b := dt h30b
  refine Zh <| Zc <| Zo <| Zc <| Za <| JLq (pp b1 35) (Z0 rfl rfl) <| JLr (Ze Y2 rfl (At.bx 0 rfl) (ZZ ..) <| JLM rfl ?_)
  obtain ⟨b31, o31, cap31, row31, T31, fr31, cs31, hv31, hb31, hs31, hE31⟩ := hcv.get j (by first | assumption | omega | decide | simp)
  obtain ⟨ca31, cb31, rfl, hA31, hB31⟩ := hE31
  refine JLq (pp b31 (o31 + j * 71)) (Pu.idx j Tryz.runUnderlying28 Xk hv31 rfl rfl (by first | assumption | omega | decide | simp)) <| JLq (pp b31 (o31 + j * 71)) (fa86_0 rfl rfl) <| JLr (Zl Z7 rfl (At.im hb31) (sub_sub0 hs31 (sub_l (ZT hA31))) <| JLM rfl <| JLn (Pu.sub64 rfl rfl (by first | omega | (constructor <;> omega))) <| Jc Tryz.call159 rfl (fun hin => patternSize_ct _ _ _ _ (RP.mono (Hle.hu _ _) hA31) (by omega) (by omega) (by omega)) rfl ?_)
  rintro _ _ ⟨rfl, rfl⟩
  refine JLM rfl <| JLn (Pu.extract rfl rfl) <| JLn (Pu.extract rfl rfl) <| JLA rfl <| JLA rfl <| Zb <| Zc <| Za <| JLq (pp b1 35) (Z0 rfl rfl) <| JLr (Ze Y2 rfl (At.bx 0 rfl) (ZZ ..) <| JLM rfl ?_)
  obtain ⟨b32, o32, cap32, row32, T32, fr32, cs32, hv32, hb32, hs32, hE32⟩ := hcv.get j (by first | assumption | omega | decide | simp)
  obtain ⟨ca32, cb32, rfl, hA32, hB32⟩ := hE32
  refine JLq (pp b32 (o32 + j * 71)) (Pu.idx j Tryz.runUnderlying28 Xk hv32 rfl rfl (by first | assumption | omega | decide | simp)) <| JLq (pp b32 (o32 + j * 71 + 35)) (fa86_1 rfl rfl) <| JLr (Zl Zt rfl (At.im hb32) (sub_sub hs32 (sub_r (ZT hA32) (Zw hB32))) <| JLM rfl <| JLn (Pu.sub64 rfl rfl (by first | omega | (constructor <;> omega))) <| Jc Tryz.call144 rfl (fun hin => ih' _ (List.getElem_mem h30an) _ _ _ (RT.mono (Hle.hu _ _) hB32) (by omega) (by omega) (by omega)) rfl ?_)
  rintro _ _ ⟨rfl, rfl⟩
  refine JLM rfl <| JLn (Pu.extract rfl rfl) <| JLn (Pu.extract rfl rfl) <| JLA rfl <| JLA rfl <| Zb <| Za <| JLM rfl <| JLM rfl <| JLn (Pu.add64 rfl rfl (by first | omega | (constructor <;> omega))) <| JLM rfl <| JLn (Pu.add64 rfl rfl (by first | omega | (constructor <;> omega))) <| JLM rfl ?_
  refine JLM rfl <| JLM rfl <| JLq (iv (max (max d ((Xr (m - 1) (cases[j].1)).2)) ((YE (m - 1) (cases[j].2)).2))) (Pu.max3 rfl rfl rfl) <| JLA rfl <| JLA rfl <| Zb <| Za <| JLM rfl <| JLn (Pu.inc rfl rfl (by omega)) <| JLA rfl <| Zb <| ⟨_, ?_, (j + 1), (n + ((Xr (m - 1) (cases[j].1)).1) + ((YE (m - 1) (cases[j].2)).1)), (max (max d ((Xr (m - 1) (cases[j].1)).2)) ((YE (m - 1) (cases[j].2)).2)), rfl, rfl, rfl, rfl, rfl, rfl, rfl, (Sk Sub.nil), ?_, ?_, ?_, ?_, ?_, rfl⟩
  ·omega
  ·omega
  ·rw [ZW h30an, Xs, if_pos (by omega)] at hinv; exact hinv
  ·omega
  ·omega
  omega
 refine Zz _ rfl <| Zc <| Za <| JLM rfl <| JLM rfl <| JLn (Pu.add64 rfl rfl (by first | omega | (constructor <;> omega))) <| JLA rfl <| JLA rfl <| Zb <| Zj <| ⟨.tuple ⟨[iv n, iv (d + 1)]⟩, [], Ret.two rfl (RV.tmp rfl) (RV.tmp rfl), Sub.nil, ?_⟩
 have hf : ¬ ((j : Int) < (cases.length : Int) ∧ n ≤ m) := by
  intro ⟨hx1, hx2⟩
  have := h30
  simp [hx1, hx2] at this
  try omega
 have hr : Xs m cases (Yv m kids 1 0).1 (Yv m kids 1 0).2 = (n, d) := by
  rw [← hinv]; rcases Nat.lt_or_ge j cases.length with hl | hl
  ·have hnm : ¬ n ≤ m := fun hle => hf ⟨by omega, hle⟩
   rw [ZW hl, Xs, if_neg hnm]
  ·rw [YZ hl, Xs]
 exact ⟨by rw [YE, hr], rfl⟩
theorem longR_ct (t : Tm) (cs : List Value) (H : Heap) (ht : RT H cs t) (hz : sizeT t ≤ 1000000000) : CT Tryz.prog 123 ⟨[.agg ⟨cs⟩]⟩ [] H (fun v N => v = .bool (Xh t) ∧ N = []) := by
 refine Zm Tryz.func123 rfl rfl <| Zc <| Za <| JLr (Zp (l := cs) rfl rfl fun b1 => JLA rfl <| Zb <| Zc <| Za <| JLr (Zl Zt rfl (At.bx 0 rfl) (Zu (Zw ht)) <| Jc Tryz.call144 rfl (fun hin => extent_ct _ _ _ _ (RT.mono (Hle.hu _ _) ht) (by omega) (by omega) (by omega)) rfl ?_))
 rintro _ _ ⟨rfl, rfl⟩
 refine JLM rfl <| JLn (Pu.extract rfl rfl) <| JLn (Pu.extract rfl rfl) <| JLA rfl <| JLA rfl <| Zb <| Zc <| Za <| JLM rfl <| JLn (Pu.gtr rfl rfl) <| JLM rfl <| Zr 2 [13, 14] [(14, cond (decide (300 < (YE 400 t).1)) undef (.bool (decide (60 < (YE 400 t).2))))] ?_ fun f3 => ?_
 ·cases h2 : (decide (300 < (YE 400 t).1)) with
  | false =>
   replace h2 := df h2
   refine JLM rfl <| JLn (Pu.gtr rfl rfl) ?_
   exact Zb ⟨⟨rfl, trivial⟩, rfl⟩
  | true =>
   exact Zx rfl ⟨rfl, trivial⟩
 refine JLn (Pu.pickOr rfl rfl rfl) <| JLA rfl <| Zb <| Zj <| ⟨.bool ((decide (300 < (YE 400 t).1)) || (decide (60 < (YE 400 t).2))), [], Ret.one rfl (RV.tmp rfl), Sub.nil, ?_⟩
 exact ⟨rfl, rfl⟩
theorem checkR_ct (t : Tm) (d m : Int) (cs : List Value) (H : Heap) (ht : RT H cs t) (hz : sizeT t ≤ 400000) : CT Tryz.prog 88 ⟨[.agg ⟨cs⟩, iv d, iv m]⟩ [] H (fun v N => v = iv (YB d m t) ∧ N = []) := by
 refine Zm Tryz.func88 rfl rfl <| Zc <| Za <| JLr (Zp (l := cs) rfl rfl fun b1 => JLA rfl <| Zb <| Zc <| Zc <| Za <| JLr (Zl Zt rfl (At.bx 0 rfl) (Zu (Zw ht)) <| Jc Tryz.call123 rfl (fun hin => longR_ct _ _ _ (RT.mono (Hle.hu _ _) ht) (by omega)) rfl ?_))
 rintro _ _ ⟨rfl, rfl⟩
 refine Zb <| Zg rfl (fun h2 => ?_) (fun h2 => ?_)
 ·refine Zc <| Za <| JLA rfl <| Zb <| Zj <| ⟨iv 11, [], Ret.one rfl (RV.tmp rfl), Sub.nil, ?_⟩
  exact ⟨by rw [YB, if_pos (by simp [h2])], rfl⟩
 refine Zh <| Zc <| Za <| JLr (Zl Zt rfl (At.bx 0 rfl) (Zu (Zw ht)) <| JLM rfl <| JLM rfl <| Jc Tryz.call124 rfl (fun hin => nodeError_ct _ _ _ _ _ _ (RT.mono (Hle.hu _ _) ht) (by omega) (by omega)) rfl ?_)
 rintro _ _ ⟨rfl, rfl⟩
 refine JLA rfl <| Zb <| Zj <| ⟨iv (Y8 d m 0 t), [], Ret.one rfl (RV.tmp rfl), Sub.nil, ?_⟩
 exact ⟨by rw [YB, if_neg (by simp [h2])], rfl⟩
theorem rightR_ct (t : Tm) (cs : List Value) (H : Heap) (ht : RT H cs t) (hz : sizeT t ≤ 400000) : CT Tryz.prog 48 ⟨[.agg ⟨cs⟩]⟩ [] H (fun v N => v = iv (YB 60 8 t) ∧ N = []) := by
 refine Zm Tryz.func48 rfl rfl <| Zc <| Za <| JLr (Zp (l := cs) rfl rfl fun b1 => JLA rfl <| Zb <| Zc <| Za <| JLr (Zl Zt rfl (At.bx 0 rfl) (Zu (Zw ht)) <| Jc Tryz.call88 rfl (fun hin => checkR_ct _ _ _ _ _ (RT.mono (Hle.hu _ _) ht) (by omega)) rfl ?_))
 rintro _ _ ⟨rfl, rfl⟩
 refine JLA rfl <| Zb <| Zj <| ⟨iv (YB 60 8 t), [], Ret.one rfl (RV.tmp rfl), Sub.nil, ?_⟩
 exact ⟨rfl, rfl⟩
end Go.Proofs.YtkjafeejpmcnkaaGreat.Hs
/-! Walks, printed by a program of this session's own (gen.py). -/
namespace Go.Proofs.YtkjafeejpmcnkaaGreat.Hs
open Go Go.Proofs
set_option maxRecDepth 100000
set_option linter.unusedVariables false
set_option linter.unusedSimpArgs false
attribute [local irreducible] JL J CT wlo DT
theorem eqFuncP_ct (g : Nat) (fs cv : List Value) (hcall : ∀ args w, (callFunc g args).run Tryz.prog w = .ok (.enter g args) w) (l m : List Pt) (v u : Value) (H : Heap) (hl : rdS RP 35 H v l) (hm : rdS RP 35 H u m) (hg : ∀ x ∈ l, ∀ y ∈ m, ∀ a b h, Hle H h → RP h a x → RP h b y → CT Tryz.prog g ⟨fs ++ [.agg ⟨a⟩, .agg ⟨b⟩] ++ cv⟩ [] h (fun v N => v = .bool (decide (x = y)) ∧ N = [])) : CT Tryz.prog 102 ⟨[v, u, .func (.func g) ⟨fs⟩ ⟨cv⟩]⟩ [] H (fun v N => v = .bool (decide (l = m)) ∧ N = []) := by
 refine Zm Tryz.func102 rfl rfl <| Zc <| Za <| JLA rfl <| Zb <| Zc <| Zc <| Za <| JLm v ?_
 obtain ⟨a1, cap1, hv1⟩ := hl.sl
 have hle1 := hl.le
 refine JLn (Pu.lenSl Tryz.runUnderlying79 hv1) <| JLm u ?_
 obtain ⟨a2, cap2, hv2⟩ := hm.sl
 have hle2 := hm.le
 refine JLn (Pu.lenSl Tryz.runUnderlying79 hv2) <| JLn (Pu.neq rfl rfl) <| Zb <| Zg rfl (fun h3 => ?_) (fun h3 => ?_)
 ·replace h3 := nt h3
  replace h3 := df h3
  refine Zc <| Za <| JLA rfl <| Zb <| Zj <| ⟨.bool false, [], Ret.one rfl (RV.tmp rfl), Sub.nil, ?_⟩
  exact ⟨by rw [decide_eq_false]; intro e; subst e; exact h3 rfl, rfl⟩
 replace h3 := nf h3
 replace h3 := dt h3
 refine Zh <| Zc <| Zc <| Za <| JLm v ?_
 obtain ⟨a4, cap4, hv4⟩ := hl.sl
 have hle4 := hl.le
 refine JLn (Pu.lenSl Tryz.runUnderlying79 hv4) <| JLM rfl <| Zb <| Zo <| ZN (fun k ρ M => ∃ (j : Nat), ρ 1 = u ∧ ρ 2 = .func (.func g) ⟨fs⟩ ⟨cv⟩ ∧ ρ 6 = .bool false ∧ ρ 15 = v ∧ ρ 16 = iv ((l.length : Int)) ∧ ρ 17 = iv ((j : Int)) ∧ Sub [] M ∧ j ≤ l.length ∧ l.length = m.length ∧ l.take j = m.take j ∧ k = l.length - j) _ ⟨0, rfl, rfl, rfl, rfl, rfl, rfl, Sub.nil, Nat.zero_le _, (by omega), rfl, rfl⟩ ?_
 rintro _ ρ5 _ ⟨j, e6, e7, e8, e9, e10, e11, hm12, hj, hlen, htake, rfl⟩
 obtain ⟨ρ13, rfl⟩ := Zs (uc e6 (uc e7 (uc e8 (uc e9 (uc e10 (uc e11 un))))))
 clear e6 e7 e8 e9 e10 e11
 refine ZX hm12 <| Zc <| Za <| JLn (Pu.lss rfl rfl) <| Zb <| Zc <| Zg rfl (fun h14 => ?_) (fun h14 => ?_)
 ·replace h14 := dt h14
  have h14n : j < l.length := by omega
  have hlenl := hl.le
  have hltm : j < m.length := by omega
  refine Zh <| Zc <| Zo <| Zc <| Za <| JLM rfl ?_
  obtain ⟨b15, o15, cap15, row15, T15, fr15, cs15, hv15, hb15, hs15, hE15⟩ := hl.get j (by first | assumption | omega | decide | simp)
  refine JLq (pp b15 (o15 + j * 35)) (Pu.idx j Tryz.runUnderlying79 Z7 hv15 rfl rfl (by first | assumption | omega | decide | simp)) <| JLr (Zl Z7 rfl (At.im hb15) hs15 <| JLr (Zk (l := pkP 0 0 zS nS) Tryz.zeroValue81 rfl fun b16 => JLA rfl <| JLr (Zd 0 (vs := cs15) (l := cs15) Z7 rfl rfl rfl rfl (ZT hE15) (RP_ok hE15) (ZI (n := 35) rfl (ZT hE15)) <| Zb <| Zc <| Za <| JLm u <| JLM rfl ?_)))
  obtain ⟨b17, o17, cap17, row17, T17, fr17, cs17, hv17, hb17, hs17, hE17⟩ := hm.get j (by first | assumption | omega | decide | simp)
  refine JLq (pp b17 (o17 + j * 35)) (Pu.idx j Tryz.runUnderlying79 Z7 hv17 rfl rfl (by first | assumption | omega | decide | simp)) <| JLr (Zl Z7 rfl (At.im hb17) hs17 <| JLr (Zk (l := pkP 0 0 zS nS) Tryz.zeroValue81 rfl fun b18 => JLr (Zd 0 (vs := cs17) (l := cs17) Z7 rfl rfl rfl rfl (ZT hE17) (RP_ok hE17) (ZI (n := 35) rfl (ZT hE17)) <| Zb <| Zc <| Za <| JLM rfl <| JLr (Zl Z7 rfl (At.bx 1 rfl) (Zu (ZT hE15)) <| JLr (Zl Z7 rfl (At.bx 0 rfl) (Zu (ZT hE17)) <| Jc hcall rfl (fun hin => hg _ (List.getElem_mem h14n) _ (List.getElem_mem (by omega)) _ _ _ (Hle.hu _ _) (RP.mono (Hle.hu _ _) hE15) (RP.mono (Hle.hu _ _) hE17)) rfl ?_)))))
  rintro _ _ ⟨rfl, rfl⟩
  refine JLn (Pu.not rfl) <| Zb <| Zg rfl (fun h19 => ?_) (fun h19 => ?_)
  ·replace h19 := nt h19
   replace h19 := df h19
   refine Zc <| Za <| JLA rfl <| Zb <| Zj <| ⟨.bool false, [], Ret.one rfl (RV.tmp rfl), Sub.nil, ?_⟩
   exact ⟨by rw [decide_eq_false]; intro e; subst e; exact h19 rfl, rfl⟩
  replace h19 := nf h19
  replace h19 := dt h19
  refine Zh <| Za <| JLn (Pu.inc rfl rfl (by omega)) <| JLM rfl <| Zb <| ⟨_, ?_, (j + 1), rfl, rfl, rfl, rfl, rfl, rfl, Sub.nil, ?_, ?_, ?_, rfl⟩
  ·omega
  ·omega
  ·assumption
  rw [List.take_succ_eq_append_getElem h14n, List.take_succ_eq_append_getElem (by omega), htake, h19]
 replace h14 := df h14
 have h14n : l.length ≤ j := by omega
 refine Zz _ rfl <| Zc <| Za <| JLA rfl <| Zb <| Zj <| ⟨.bool true, [], Ret.one rfl (RV.tmp rfl), Sub.nil, ?_⟩
 exact ⟨by rw [decide_eq_true]; have e := htake; rw [List.take_of_length_le h14n, List.take_of_length_le (by omega)] at e; exact e, rfl⟩
theorem eqFuncT_ct (g : Nat) (fs cv : List Value) (hcall : ∀ args w, (callFunc g args).run Tryz.prog w = .ok (.enter g args) w) (l m : List Tm) (v u : Value) (H : Heap) (hl : rdS RT 36 H v l) (hm : rdS RT 36 H u m) (hg : ∀ x ∈ l, ∀ y ∈ m, ∀ a b h, Hle H h → RT h a x → RT h b y → CT Tryz.prog g ⟨fs ++ [.agg ⟨a⟩, .agg ⟨b⟩] ++ cv⟩ [] h (fun v N => v = .bool (decide (x = y)) ∧ N = [])) : CT Tryz.prog 101 ⟨[v, u, .func (.func g) ⟨fs⟩ ⟨cv⟩]⟩ [] H (fun v N => v = .bool (decide (l = m)) ∧ N = []) := by
 refine Zm Tryz.func101 rfl rfl <| Zc <| Za <| JLA rfl <| Zb <| Zc <| Zc <| Za <| JLm v ?_
 obtain ⟨a1, cap1, hv1⟩ := hl.sl
 have hle1 := hl.le
 refine JLn (Pu.lenSl Tryz.runUnderlying27 hv1) <| JLm u ?_
 obtain ⟨a2, cap2, hv2⟩ := hm.sl
 have hle2 := hm.le
 refine JLn (Pu.lenSl Tryz.runUnderlying27 hv2) <| JLn (Pu.neq rfl rfl) <| Zb <| Zg rfl (fun h3 => ?_) (fun h3 => ?_)
 ·replace h3 := nt h3
  replace h3 := df h3
  refine Zc <| Za <| JLA rfl <| Zb <| Zj <| ⟨.bool false, [], Ret.one rfl (RV.tmp rfl), Sub.nil, ?_⟩
  exact ⟨by rw [decide_eq_false]; intro e; subst e; exact h3 rfl, rfl⟩
 replace h3 := nf h3
 replace h3 := dt h3
 refine Zh <| Zc <| Zc <| Za <| JLm v ?_
 obtain ⟨a4, cap4, hv4⟩ := hl.sl
 have hle4 := hl.le
 refine JLn (Pu.lenSl Tryz.runUnderlying27 hv4) <| JLM rfl <| Zb <| Zo <| ZN (fun k ρ M => ∃ (j : Nat), ρ 1 = u ∧ ρ 2 = .func (.func g) ⟨fs⟩ ⟨cv⟩ ∧ ρ 6 = .bool false ∧ ρ 15 = v ∧ ρ 16 = iv ((l.length : Int)) ∧ ρ 17 = iv ((j : Int)) ∧ Sub [] M ∧ j ≤ l.length ∧ l.length = m.length ∧ l.take j = m.take j ∧ k = l.length - j) _ ⟨0, rfl, rfl, rfl, rfl, rfl, rfl, Sub.nil, Nat.zero_le _, (by omega), rfl, rfl⟩ ?_
 rintro _ ρ5 _ ⟨j, e6, e7, e8, e9, e10, e11, hm12, hj, hlen, htake, rfl⟩
 obtain ⟨ρ13, rfl⟩ := Zs (uc e6 (uc e7 (uc e8 (uc e9 (uc e10 (uc e11 un))))))
 clear e6 e7 e8 e9 e10 e11
 refine ZX hm12 <| Zc <| Za <| JLn (Pu.lss rfl rfl) <| Zb <| Zc <| Zg rfl (fun h14 => ?_) (fun h14 => ?_)
 ·replace h14 := dt h14
  have h14n : j < l.length := by omega
  have hlenl := hl.le
  have hltm : j < m.length := by omega
  refine Zh <| Zc <| Zo <| Zc <| Za <| JLM rfl ?_
  obtain ⟨b15, o15, cap15, row15, T15, fr15, cs15, hv15, hb15, hs15, hE15⟩ := hl.get j (by first | assumption | omega | decide | simp)
  refine JLq (pp b15 (o15 + j * 36)) (Pu.idx j Tryz.runUnderlying27 Zt hv15 rfl rfl (by first | assumption | omega | decide | simp)) <| JLr (Zl Zt rfl (At.im hb15) hs15 <| JLr (Zk (l := pkT 0 0 zS nS nS) Tryz.zeroValue30 rfl fun b16 => JLA rfl <| JLr (Zd 0 (vs := cs15) (l := cs15) Zt rfl rfl rfl rfl (Zw hE15) (RT_ok hE15) (ZI (n := 36) rfl (Zw hE15)) <| Zb <| Zc <| Za <| JLm u <| JLM rfl ?_)))
  obtain ⟨b17, o17, cap17, row17, T17, fr17, cs17, hv17, hb17, hs17, hE17⟩ := hm.get j (by first | assumption | omega | decide | simp)
  refine JLq (pp b17 (o17 + j * 36)) (Pu.idx j Tryz.runUnderlying27 Zt hv17 rfl rfl (by first | assumption | omega | decide | simp)) <| JLr (Zl Zt rfl (At.im hb17) hs17 <| JLr (Zk (l := pkT 0 0 zS nS nS) Tryz.zeroValue30 rfl fun b18 => JLr (Zd 0 (vs := cs17) (l := cs17) Zt rfl rfl rfl rfl (Zw hE17) (RT_ok hE17) (ZI (n := 36) rfl (Zw hE17)) <| Zb <| Zc <| Za <| JLM rfl <| JLr (Zl Zt rfl (At.bx 1 rfl) (Zu (Zw hE15)) <| JLr (Zl Zt rfl (At.bx 0 rfl) (Zu (Zw hE17)) <| Jc hcall rfl (fun hin => hg _ (List.getElem_mem h14n) _ (List.getElem_mem (by omega)) _ _ _ (Hle.hu _ _) (RT.mono (Hle.hu _ _) hE15) (RT.mono (Hle.hu _ _) hE17)) rfl ?_)))))
  rintro _ _ ⟨rfl, rfl⟩
  refine JLn (Pu.not rfl) <| Zb <| Zg rfl (fun h19 => ?_) (fun h19 => ?_)
  ·replace h19 := nt h19
   replace h19 := df h19
   refine Zc <| Za <| JLA rfl <| Zb <| Zj <| ⟨.bool false, [], Ret.one rfl (RV.tmp rfl), Sub.nil, ?_⟩
   exact ⟨by rw [decide_eq_false]; intro e; subst e; exact h19 rfl, rfl⟩
  replace h19 := nf h19
  replace h19 := dt h19
  refine Zh <| Za <| JLn (Pu.inc rfl rfl (by omega)) <| JLM rfl <| Zb <| ⟨_, ?_, (j + 1), rfl, rfl, rfl, rfl, rfl, rfl, Sub.nil, ?_, ?_, ?_, rfl⟩
  ·omega
  ·omega
  ·assumption
  rw [List.take_succ_eq_append_getElem h14n, List.take_succ_eq_append_getElem (by omega), htake, h19]
 replace h14 := df h14
 have h14n : l.length ≤ j := by omega
 refine Zz _ rfl <| Zc <| Za <| JLA rfl <| Zb <| Zj <| ⟨.bool true, [], Ret.one rfl (RV.tmp rfl), Sub.nil, ?_⟩
 exact ⟨by rw [decide_eq_true]; have e := htake; rw [List.take_of_length_le h14n, List.take_of_length_le (by omega)] at e; exact e, rfl⟩
theorem eqFuncC_ct (g : Nat) (fs cv : List Value) (hcall : ∀ args w, (callFunc g args).run Tryz.prog w = .ok (.enter g args) w) (l m : List (Pt × Tm)) (v u : Value) (H : Heap) (hl : rdS RC 71 H v l) (hm : rdS RC 71 H u m) (hg : ∀ x ∈ l, ∀ y ∈ m, ∀ a b h, Hle H h → RC h a x → RC h b y → CT Tryz.prog g ⟨fs ++ [.agg ⟨a⟩, .agg ⟨b⟩] ++ cv⟩ [] h (fun v N => v = .bool (decide (x = y)) ∧ N = [])) : CT Tryz.prog 61 ⟨[v, u, .func (.func g) ⟨fs⟩ ⟨cv⟩]⟩ [] H (fun v N => v = .bool (decide (l = m)) ∧ N = []) := by
 refine Zm Tryz.func61 rfl rfl <| Zc <| Za <| JLA rfl <| Zb <| Zc <| Zc <| Za <| JLm v ?_
 obtain ⟨a1, cap1, hv1⟩ := hl.sl
 have hle1 := hl.le
 refine JLn (Pu.lenSl Tryz.runUnderlying28 hv1) <| JLm u ?_
 obtain ⟨a2, cap2, hv2⟩ := hm.sl
 have hle2 := hm.le
 refine JLn (Pu.lenSl Tryz.runUnderlying28 hv2) <| JLn (Pu.neq rfl rfl) <| Zb <| Zg rfl (fun h3 => ?_) (fun h3 => ?_)
 ·replace h3 := nt h3
  replace h3 := df h3
  refine Zc <| Za <| JLA rfl <| Zb <| Zj <| ⟨.bool false, [], Ret.one rfl (RV.tmp rfl), Sub.nil, ?_⟩
  exact ⟨by rw [decide_eq_false]; intro e; subst e; exact h3 rfl, rfl⟩
 replace h3 := nf h3
 replace h3 := dt h3
 refine Zh <| Zc <| Zc <| Za <| JLm v ?_
 obtain ⟨a4, cap4, hv4⟩ := hl.sl
 have hle4 := hl.le
 refine JLn (Pu.lenSl Tryz.runUnderlying28 hv4) <| JLM rfl <| Zb <| Zo <| ZN (fun k ρ M => ∃ (j : Nat), ρ 1 = u ∧ ρ 2 = .func (.func g) ⟨fs⟩ ⟨cv⟩ ∧ ρ 6 = .bool false ∧ ρ 15 = v ∧ ρ 16 = iv ((l.length : Int)) ∧ ρ 17 = iv ((j : Int)) ∧ Sub [] M ∧ j ≤ l.length ∧ l.length = m.length ∧ l.take j = m.take j ∧ k = l.length - j) _ ⟨0, rfl, rfl, rfl, rfl, rfl, rfl, Sub.nil, Nat.zero_le _, (by omega), rfl, rfl⟩ ?_
 rintro _ ρ5 _ ⟨j, e6, e7, e8, e9, e10, e11, hm12, hj, hlen, htake, rfl⟩
 obtain ⟨ρ13, rfl⟩ := Zs (uc e6 (uc e7 (uc e8 (uc e9 (uc e10 (uc e11 un))))))
 clear e6 e7 e8 e9 e10 e11
 refine ZX hm12 <| Zc <| Za <| JLn (Pu.lss rfl rfl) <| Zb <| Zc <| Zg rfl (fun h14 => ?_) (fun h14 => ?_)
 ·replace h14 := dt h14
  have h14n : j < l.length := by omega
  have hlenl := hl.le
  have hltm : j < m.length := by omega
  refine Zh <| Zc <| Zo <| Zc <| Za <| JLM rfl ?_
  obtain ⟨b15, o15, cap15, row15, T15, fr15, cs15, hv15, hb15, hs15, hE15⟩ := hl.get j (by first | assumption | omega | decide | simp)
  obtain ⟨ca15, cb15, rfl, hA15, hB15⟩ := hE15
  refine JLq (pp b15 (o15 + j * 71)) (Pu.idx j Tryz.runUnderlying28 Xk hv15 rfl rfl (by first | assumption | omega | decide | simp)) <| JLr (Zl Xk rfl (At.im hb15) hs15 <| JLr (Zk (l := (pkP 0 0 zS nS) ++ (pkT 0 0 zS nS nS)) Tryz.zeroValue86 rfl fun b16 => JLA rfl <| JLr (Zd 0 (vs := ca15 ++ cb15) (l := ca15 ++ cb15) Xk rfl rfl rfl rfl (Yg (ZT hA15) (Zw hB15)) (Yk (RP_ok hA15) (RT_ok hB15)) (ZI (n := 71) rfl (Yg (ZT hA15) (Zw hB15))) <| Zb <| Zc <| Za <| JLm u <| JLM rfl ?_)))
  obtain ⟨b17, o17, cap17, row17, T17, fr17, cs17, hv17, hb17, hs17, hE17⟩ := hm.get j (by first | assumption | omega | decide | simp)
  obtain ⟨ca17, cb17, rfl, hA17, hB17⟩ := hE17
  refine JLq (pp b17 (o17 + j * 71)) (Pu.idx j Tryz.runUnderlying28 Xk hv17 rfl rfl (by first | assumption | omega | decide | simp)) <| JLr (Zl Xk rfl (At.im hb17) hs17 <| JLr (Zk (l := (pkP 0 0 zS nS) ++ (pkT 0 0 zS nS nS)) Tryz.zeroValue86 rfl fun b18 => JLr (Zd 0 (vs := ca17 ++ cb17) (l := ca17 ++ cb17) Xk rfl rfl rfl rfl (Yg (ZT hA17) (Zw hB17)) (Yk (RP_ok hA17) (RT_ok hB17)) (ZI (n := 71) rfl (Yg (ZT hA17) (Zw hB17))) <| Zb <| Zc <| Za <| JLM rfl <| JLr (Zl Xk rfl (At.bx 1 rfl) (Zu (Yg (ZT hA15) (Zw hB15))) <| JLr (Zl Xk rfl (At.bx 0 rfl) (Zu (Yg (ZT hA17) (Zw hB17))) <| Jc hcall rfl (fun hin => hg _ (List.getElem_mem h14n) _ (List.getElem_mem (by omega)) _ _ _ (Hle.hu _ _) (RC.mono (Hle.hu _ _) (RC_mk hA15 hB15)) (RC.mono (Hle.hu _ _) (RC_mk hA17 hB17))) rfl ?_)))))
  rintro _ _ ⟨rfl, rfl⟩
  refine JLn (Pu.not rfl) <| Zb <| Zg rfl (fun h19 => ?_) (fun h19 => ?_)
  ·replace h19 := nt h19
   replace h19 := df h19
   refine Zc <| Za <| JLA rfl <| Zb <| Zj <| ⟨.bool false, [], Ret.one rfl (RV.tmp rfl), Sub.nil, ?_⟩
   exact ⟨by rw [decide_eq_false]; intro e; subst e; exact h19 rfl, rfl⟩
  replace h19 := nf h19
  replace h19 := dt h19
  refine Zh <| Za <| JLn (Pu.inc rfl rfl (by omega)) <| JLM rfl <| Zb <| ⟨_, ?_, (j + 1), rfl, rfl, rfl, rfl, rfl, rfl, Sub.nil, ?_, ?_, ?_, rfl⟩
  ·omega
  ·omega
  ·assumption
  rw [List.take_succ_eq_append_getElem h14n, List.take_succ_eq_append_getElem (by omega), htake, h19]
 replace h14 := df h14
 have h14n : l.length ≤ j := by omega
 refine Zz _ rfl <| Zc <| Za <| JLA rfl <| Zb <| Zj <| ⟨.bool true, [], Ret.one rfl (RV.tmp rfl), Sub.nil, ?_⟩
 exact ⟨by rw [decide_eq_true]; have e := htake; rw [List.take_of_length_le h14n, List.take_of_length_le (by omega)] at e; exact e, rfl⟩
theorem samePattern_ct : ∀ (p q : Pt) (cs ds : List Value) (H : Heap), RP H cs p → RP H ds q → CT Tryz.prog 63 ⟨[.agg ⟨cs⟩, .agg ⟨ds⟩]⟩ [] H (fun v N => v = .bool (decide (p = q)) ∧ N = []) := by
 intro p
 induction p using Pt.ind with
 | h kind num ref kids ih =>
 intro q cs ds H hp hq
 obtain ⟨ks, rfl, hk, hn, hks⟩ := RP_mk.1 hp
 obtain ⟨ksq, rfl, hkq, hnq, hksq⟩ := RP_open hq
 refine Zm Tryz.func63 rfl rfl <| Zc <| Za <| JLr (Zp (l := pkP kind num ref ks) rfl rfl fun b1 => JLr (Zp (l := pkP (q.kind) (q.num) (q.ref) ksq) rfl rfl fun b2 => JLA rfl <| Zb <| Zc <| Za <| JLq (pp b1 0) (Yp rfl rfl) <| JLr (Ze ty3 rfl (At.bx 1 rfl) (Y6 ..) <| JLq (pp b2 0) (Yp rfl rfl) <| JLr (Ze ty3 rfl (At.bx 0 rfl) (Y6 ..) ?_))))
 refine JLn (Pu.eql rfl rfl) <| JLM rfl <| Zr 5 [11, 12, 13, 14, 15] [(15, cond (decide (kind = q.kind)) (.bool (decide (num = q.num))) undef)] ?_ fun f4 => ?_
 ·cases h3 : (decide (kind = q.kind)) with
  | true =>
   replace h3 := dt h3
   refine JLq (pp b1 1) (fa81_1 rfl rfl) <| JLr (Ze ty3 rfl (At.bx 1 rfl) (pkP_1 ..) <| JLq (pp b2 1) (fa81_1 rfl rfl) <| JLr (Ze ty3 rfl (At.bx 0 rfl) (pkP_1 ..) <| JLn (Pu.eql rfl rfl) ?_))
   exact Zb ⟨⟨rfl, trivial⟩, rfl⟩
  | false =>
   exact Zx rfl ⟨rfl, trivial⟩
 refine JLn (Pu.pickAnd rfl rfl rfl) <| JLM rfl <| Zr 5 [18, 19, 20, 21, 22] [(22, cond ((decide (kind = q.kind)) && (decide (num = q.num))) (.bool (decide (ref = q.ref))) undef)] ?_ fun f6 => ?_
 ·cases h5 : ((decide (kind = q.kind)) && (decide (num = q.num))) with
  | true =>
   obtain ⟨h5a, h5b⟩ := Ym h5
   replace h5a := dt h5a
   replace h5b := dt h5b
   refine JLq (pp b1 2) (fa81_2 rfl rfl) <| JLr (Zl YR rfl (At.bx 1 rfl) (pkP_2 ..) <| JLq (pp b2 2) (fa81_2 rfl rfl) <| JLr (Zl YR rfl (At.bx 0 rfl) (pkP_2 ..) <| JLn (eqS rfl rfl) ?_))
   exact Zb ⟨⟨rfl, trivial⟩, rfl⟩
  | false =>
   exact Zx rfl ⟨rfl, trivial⟩
 refine JLn (Pu.pickAnd rfl rfl rfl) <| JLM rfl <| Zr 5 [25, 26, 27, 28, 29] [(29, cond (((decide (kind = q.kind)) && (decide (num = q.num))) && (decide (ref = q.ref))) (.bool (decide (kids = (q.kids)))) undef)] ?_ fun f8 => ?_
 ·cases h7 : (((decide (kind = q.kind)) && (decide (num = q.num))) && (decide (ref = q.ref))) with
  | true =>
   obtain ⟨h7a, h7b⟩ := Ym h7
   obtain ⟨h7aa, h7ab⟩ := Ym h7a
   replace h7aa := dt h7aa
   replace h7ab := dt h7ab
   replace h7b := dt h7b
   refine JLq (pp b1 34) (Yi rfl rfl) <| JLr (Ze ty79 rfl (At.bx 1 rfl) (Yo ..) <| JLq (pp b2 34) (Yi rfl rfl) <| JLr (Ze ty79 rfl (At.bx 0 rfl) (Yo ..) <| Jc Tryz.call102 rfl (fun hin => eqFuncP_ct 63 [] [] (fun _ _ => rfl) _ _ _ _ _ (RPs.mono (Hle.hu _ _) hks) (RPs.mono (Hle.hu _ _) hksq) (fun x hx y hy a b h hh ra rb => ih x hx y a b h ra rb)) rfl ?_))
   rintro _ _ ⟨rfl, rfl⟩
   exact Zb ⟨⟨rfl, trivial⟩, rfl⟩
  | false =>
   exact Zx rfl ⟨rfl, trivial⟩
 refine JLn (Pu.pickAnd rfl rfl rfl) <| JLA rfl <| Zb <| Zj <| ⟨.bool ((((decide (kind = q.kind)) && (decide (num = q.num))) && (decide (ref = q.ref))) && (decide (kids = (q.kids)))), [], Ret.one rfl (RV.tmp rfl), Sub.nil, ?_⟩
 exact ⟨congrArg Value.bool (eqPd ..), rfl⟩
theorem sameCase_ct : ∀ (c d : Pt × Tm) (a b : List Value) (H : Heap), RC H a c → RC H b d → (∀ h a b, Hle H h → RT h a c.2 → RT h b d.2 → CT Tryz.prog 23 ⟨[.agg ⟨a⟩, .agg ⟨b⟩]⟩ [] h (fun v N => v = .bool (decide (c.2 = d.2)) ∧ N = [])) → CT Tryz.prog 62 ⟨[.agg ⟨a⟩, .agg ⟨b⟩]⟩ [] H (fun v N => v = .bool (decide (c = d)) ∧ N = []) := by
 intro c d a b H ⟨ca, cb, e1, ra1, ra2⟩ ⟨da, db, e2, rb1, rb2⟩ hg
 subst e1 e2
 refine Zm Tryz.func62 rfl rfl <| Zc <| Za <| JLr (Zp (l := ca ++ cb) rfl rfl fun b1 => JLr (Zp (l := da ++ db) rfl rfl fun b2 => JLA rfl <| Zb <| Zc <| Za <| JLq (pp b1 0) (fa86_0 rfl rfl) <| JLr (Zl Z7 rfl (At.bx 1 rfl) (sub_l (ZT ra1)) <| JLq (pp b2 0) (fa86_0 rfl rfl) <| JLr (Zl Z7 rfl (At.bx 0 rfl) (sub_l (ZT rb1)) ?_))))
 refine Jc Tryz.call63 rfl (fun hin => samePattern_ct _ _ _ _ _ (RP.mono (Hle.hu _ _) ra1) (RP.mono (Hle.hu _ _) rb1)) rfl ?_
 rintro _ _ ⟨rfl, rfl⟩
 refine JLM rfl <| Zr 5 [11, 12, 13, 14, 15] [(15, cond (decide ((c.1) = (d.1))) (.bool (decide ((c.2) = (d.2)))) undef)] ?_ fun f4 => ?_
 ·cases h3 : (decide ((c.1) = (d.1))) with
  | true =>
   replace h3 := dt h3
   refine JLq (pp b1 35) (fa86_1 rfl rfl) <| JLr (Zl Zt rfl (At.bx 1 rfl) (sub_r (ZT ra1) (Zw ra2)) <| JLq (pp b2 35) (fa86_1 rfl rfl) <| JLr (Zl Zt rfl (At.bx 0 rfl) (sub_r (ZT rb1) (Zw rb2)) <| Jc Tryz.call23 rfl (fun hin => hg _ _ _ (Hle.hu _ _) (RT.mono (Hle.hu _ _) ra2) (RT.mono (Hle.hu _ _) rb2)) rfl ?_))
   rintro _ _ ⟨rfl, rfl⟩
   exact Zb ⟨⟨rfl, trivial⟩, rfl⟩
  | false =>
   exact Zx rfl ⟨rfl, trivial⟩
 refine JLn (Pu.pickAnd rfl rfl rfl) <| JLA rfl <| Zb <| Zj <| ⟨.bool ((decide ((c.1) = (d.1))) && (decide ((c.2) = (d.2)))), [], Ret.one rfl (RV.tmp rfl), Sub.nil, ?_⟩
 exact ⟨by obtain ⟨c1, c2⟩ := c; obtain ⟨d1, d2⟩ := d; refine congrArg Value.bool ?_; rw [Bool.eq_iff_iff]; simp, rfl⟩
theorem sameTerms_ct : ∀ (l m : List Tm) (v u : Value) (H : Heap) (_ : rdS RT 36 H v l) (_ : rdS RT 36 H u m) (_ : ∀ x ∈ l, ∀ y a b h, Hle H h → RT h a x → RT h b y → CT Tryz.prog 23 ⟨[.agg ⟨a⟩, .agg ⟨b⟩]⟩ [] h (fun v N => v = .bool (decide (x = y)) ∧ N = [])), CT Tryz.prog 60 ⟨[v, u]⟩ [] H (fun v N => v = .bool (decide (l = m)) ∧ N = []) := by
 intro l m v u H hl hm hg
 refine Zm Tryz.func60 rfl rfl <| Zc <| Za <| JLA rfl <| Zb <| Zc <| Za <| JLm v <| JLm u <| Jc Tryz.call101 rfl (fun hin => eqFuncT_ct 23 [] [] (fun _ _ => rfl) _ _ _ _ _ (RTs.mono (Hle.hu _ _) hl) (RTs.mono (Hle.hu _ _) hm) (fun x hx y hy a b h hh ra rb => hg x hx y a b h (Hle.trans (Hle.hu _ _) hh) ra rb)) rfl ?_
 rintro _ _ ⟨rfl, rfl⟩
 refine JLA rfl <| Zb <| Zj <| ⟨.bool (decide (l = m)), [], Ret.one rfl (RV.tmp rfl), Sub.nil, ?_⟩
 exact ⟨rfl, rfl⟩
theorem sameTerm_ct : ∀ (t u : Tm) (cs ds : List Value) (H : Heap), RT H cs t → RT H ds u → CT Tryz.prog 23 ⟨[.agg ⟨cs⟩, .agg ⟨ds⟩]⟩ [] H (fun v N => v = .bool (decide (t = u)) ∧ N = []) := by
 intro t
 induction t using Tm.ind with
 | h kind num ref kids cases ih ih' =>
 intro u cs ds H ht hu
 obtain ⟨ks, cv, rfl, hk, hn, hks, hcv⟩ := RT_mk.1 ht
 obtain ⟨ksu, cvu, rfl, hku, hnu, hksu, hcvu⟩ := RT_open hu
 refine Zm Tryz.func23 rfl rfl <| Zc <| Za <| JLr (Zp (l := pkT kind num ref ks cv) rfl rfl fun b1 => JLr (Zp (l := pkT (u.kind) (u.num) (u.ref) ksu cvu) rfl rfl fun b2 => JLA rfl <| Zb <| Zc <| Za <| JLq (pp b1 0) (ZL rfl rfl) <| JLr (Ze ty3 rfl (At.bx 1 rfl) (ZY ..) <| JLq (pp b2 0) (ZL rfl rfl) <| JLr (Ze ty3 rfl (At.bx 0 rfl) (ZY ..) ?_))))
 refine JLn (Pu.eql rfl rfl) <| JLM rfl <| Zr 5 [11, 12, 13, 14, 15] [(15, cond (decide (kind = u.kind)) (.bool (decide (num = u.num))) undef)] ?_ fun f4 => ?_
 ·cases h3 : (decide (kind = u.kind)) with
  | true =>
   replace h3 := dt h3
   refine JLq (pp b1 1) (Z8 rfl rfl) <| JLr (Ze ty3 rfl (At.bx 1 rfl) (Ys ..) <| JLq (pp b2 1) (Z8 rfl rfl) <| JLr (Ze ty3 rfl (At.bx 0 rfl) (Ys ..) <| JLn (Pu.eql rfl rfl) ?_))
   exact Zb ⟨⟨rfl, trivial⟩, rfl⟩
  | false =>
   exact Zx rfl ⟨rfl, trivial⟩
 refine JLn (Pu.pickAnd rfl rfl rfl) <| JLM rfl <| Zr 5 [18, 19, 20, 21, 22] [(22, cond ((decide (kind = u.kind)) && (decide (num = u.num))) (.bool (decide (ref = u.ref))) undef)] ?_ fun f6 => ?_
 ·cases h5 : ((decide (kind = u.kind)) && (decide (num = u.num))) with
  | true =>
   obtain ⟨h5a, h5b⟩ := Ym h5
   replace h5a := dt h5a
   replace h5b := dt h5b
   refine JLq (pp b1 2) (fa30_2 rfl rfl) <| JLr (Zl YR rfl (At.bx 1 rfl) (pkT_2 ..) <| JLq (pp b2 2) (fa30_2 rfl rfl) <| JLr (Zl YR rfl (At.bx 0 rfl) (pkT_2 ..) <| JLn (eqS rfl rfl) ?_))
   exact Zb ⟨⟨rfl, trivial⟩, rfl⟩
  | false =>
   exact Zx rfl ⟨rfl, trivial⟩
 refine JLn (Pu.pickAnd rfl rfl rfl) <| JLM rfl <| Zr 5 [25, 26, 27, 28, 29] [(29, cond (((decide (kind = u.kind)) && (decide (num = u.num))) && (decide (ref = u.ref))) (.bool (decide (kids = (u.kids)))) undef)] ?_ fun f8 => ?_
 ·cases h7 : (((decide (kind = u.kind)) && (decide (num = u.num))) && (decide (ref = u.ref))) with
  | true =>
   obtain ⟨h7a, h7b⟩ := Ym h7
   obtain ⟨h7aa, h7ab⟩ := Ym h7a
   replace h7aa := dt h7aa
   replace h7ab := dt h7ab
   replace h7b := dt h7b
   refine JLq (pp b1 34) (Ye rfl rfl) <| JLr (Ze ty27 rfl (At.bx 1 rfl) (Ya ..) <| JLq (pp b2 34) (Ye rfl rfl) <| JLr (Ze ty27 rfl (At.bx 0 rfl) (Ya ..) <| Jc Tryz.call60 rfl (fun hin => sameTerms_ct _ _ _ _ _ (RTs.mono (Hle.hu _ _) hks) (RTs.mono (Hle.hu _ _) hksu) (fun x hx y a b h _ ra rb => ih x hx y a b h ra rb)) rfl ?_))
   rintro _ _ ⟨rfl, rfl⟩
   exact Zb ⟨⟨rfl, trivial⟩, rfl⟩
  | false =>
   exact Zx rfl ⟨rfl, trivial⟩
 refine JLn (Pu.pickAnd rfl rfl rfl) <| JLM rfl <| Zr 5 [32, 33, 34, 35, 36] [(36, cond ((((decide (kind = u.kind)) && (decide (num = u.num))) && (decide (ref = u.ref))) && (decide (kids = (u.kids)))) (.bool (decide (cases = (u.cases)))) undef)] ?_ fun f10 => ?_
 ·cases h9 : ((((decide (kind = u.kind)) && (decide (num = u.num))) && (decide (ref = u.ref))) && (decide (kids = (u.kids)))) with
  | true =>
   obtain ⟨h9a, h9b⟩ := Ym h9
   obtain ⟨h9aa, h9ab⟩ := Ym h9a
   obtain ⟨h9aaa, h9aab⟩ := Ym h9aa
   replace h9aaa := dt h9aaa
   replace h9aab := dt h9aab
   replace h9ab := dt h9ab
   replace h9b := dt h9b
   refine JLq (pp b1 35) (Z0 rfl rfl) <| JLr (Ze Y2 rfl (At.bx 1 rfl) (ZZ ..) <| JLq (pp b2 35) (Z0 rfl rfl) <| JLr (Ze Y2 rfl (At.bx 0 rfl) (ZZ ..) <| Jc Tryz.call61 rfl (fun hin => eqFuncC_ct 62 [] [] (fun _ _ => rfl) _ _ _ _ _ (RCs.mono (Hle.hu _ _) hcv) (RCs.mono (Hle.hu _ _) hcvu) (fun x hx y hy a b h hh ra rb => sameCase_ct x y a b h ra rb (fun h' a' b' _ r1 r2 => ih' x hx y.2 a' b' h' r1 r2))) rfl ?_))
   rintro _ _ ⟨rfl, rfl⟩
   exact Zb ⟨⟨rfl, trivial⟩, rfl⟩
  | false =>
   exact Zx rfl ⟨rfl, trivial⟩
 refine JLn (Pu.pickAnd rfl rfl rfl) <| JLA rfl <| Zb <| Zj <| ⟨.bool (((((decide (kind = u.kind)) && (decide (num = u.num))) && (decide (ref = u.ref))) && (decide (kids = (u.kids)))) && (decide (cases = (u.cases)))), [], Ret.one rfl (RV.tmp rfl), Sub.nil, ?_⟩
 exact ⟨congrArg Value.bool (eqTd ..), rfl⟩
end Go.Proofs.YtkjafeejpmcnkaaGreat.Hs
/-! Walks, printed by a program of this session's own (gen.py). -/
namespace Go.Proofs.YtkjafeejpmcnkaaGreat.Hs
open Go Go.Proofs
set_option maxRecDepth 100000
set_option linter.unusedVariables false
set_option linter.unusedSimpArgs false
attribute [local irreducible] JL J CT wlo DT
theorem idxP_ct (g : Nat) (fs cv : List Value) (hcall : ∀ args w, (callFunc g args).run Tryz.prog w = .ok (.enter g args) w) {σ : Type} (Sc : σ → Zi) (Inv : σ → Prop) (step : Pt → σ → Bool × σ) (l : List Pt) (v : Value) (H : Heap) (hl : rdS RP 35 H v l) (s0 : σ) (h0 : Inv s0) (hI : ∀ x ∈ l, ∀ s, Inv s → (step x s).1 = false → Inv (step x s).2) (hg : ∀ x ∈ l, ∀ s, Inv s → ∀ a h, Hle H h → RP h a x → CT Tryz.prog g ⟨fs ++ [.agg ⟨a⟩] ++ cv⟩ [Sc s] h (fun v N => v = .bool (step x s).1 ∧ N = [Sc (step x s).2])) : CT Tryz.prog 84 ⟨[v, .func (.func g) ⟨fs⟩ ⟨cv⟩]⟩ [Sc s0] H (fun v N => v = iv (idxS step l 0 s0).1 ∧ N = [Sc (idxS step l 0 s0).2]) := by
 refine Zm Tryz.func84 rfl rfl <| Zc <| Za <| JLA rfl <| Zb <| Zc <| Zc <| Za <| JLm v ?_
 obtain ⟨a1, cap1, hv1⟩ := hl.sl
 have hle1 := hl.le
 refine JLn (Pu.lenSl Tryz.runUnderlying79 hv1) <| JLM rfl <| Zb <| Zo <| ZN (fun k ρ M => ∃ (j : Nat) (s : σ), ρ 0 = v ∧ ρ 1 = .func (.func g) ⟨fs⟩ ⟨cv⟩ ∧ ρ 4 = iv 0 ∧ ρ 7 = iv ((l.length : Int)) ∧ ρ 8 = iv ((j : Int)) ∧ Sub [Sc s] M ∧ j ≤ l.length ∧ Inv s ∧ idxS step (l.drop j) j s = idxS step l 0 s0 ∧ k = l.length - j) _ ⟨0, s0, rfl, rfl, rfl, rfl, rfl, (Sk Sub.nil), Nat.zero_le _, h0, rfl, rfl⟩ ?_
 rintro _ ρ2 _ ⟨j, s, e3, e4, e5, e6, e7, hm8, hj, hs, hinv, rfl⟩
 obtain ⟨ρ9, rfl⟩ := Zs (uc e3 (uc e4 (uc e5 (uc e6 (uc e7 un)))))
 clear e3 e4 e5 e6 e7
 refine ZX hm8 <| Zc <| Za <| JLn (Pu.lss rfl rfl) <| Zb <| Zc <| Zg rfl (fun h10 => ?_) (fun h10 => ?_)
 ·replace h10 := dt h10
  have h10n : j < l.length := by omega
  have hlenl := hl.le
  refine Zh <| Zc <| Zo <| Zc <| Za <| JLM rfl <| JLA rfl <| Zb <| Zc <| Za <| JLM rfl <| JLm v <| JLM rfl ?_
  obtain ⟨b11, o11, cap11, row11, T11, fr11, cs11, hv11, hb11, hs11, hE11⟩ := hl.get j (by first | assumption | omega | decide | simp)
  refine JLq (pp b11 (o11 + j * 35)) (Pu.idx j Tryz.runUnderlying79 Z7 hv11 rfl rfl (by first | assumption | omega | decide | simp)) <| JLr (Zl Z7 rfl (At.im hb11) hs11 <| Zv 0 rfl hcall rfl rfl (fun hin => hg _ (List.getElem_mem h10n) _ hs _ _ (Hle.hu _ _) (RP.mono (Hle.hu _ _) hE11)) rfl ?_)
  rintro _ _ ⟨rfl, rfl⟩
  refine Zb <| Zg rfl (fun h12 => ?_) (fun h12 => ?_)
  ·refine Zc <| Za <| JLM rfl <| JLA rfl <| Zb <| Zj <| ⟨iv ((j : Int)), [Sc (step (l[j]) s).2], Ret.one rfl (RV.tmp rfl), (Sk Sub.nil), ?_⟩
   refine ⟨?_, ?_⟩ <;> rw [← hinv, ZW h10n, idxS, if_pos h12]
  refine Zh <| Za <| JLn (Pu.inc rfl rfl (by omega)) <| JLM rfl <| Zb <| ⟨_, ?_, (j + 1), ((step (l[j]) s).2), rfl, rfl, rfl, rfl, rfl, (Sk Sub.nil), ?_, ?_, ?_, rfl⟩
  ·omega
  ·omega
  ·exact hI _ (List.getElem_mem h10n) s hs h12
  rw [ZW h10n, idxS, if_neg (by simp [h12])] at hinv; exact hinv
 replace h10 := df h10
 have h10n : l.length ≤ j := by omega
 refine Zz _ rfl <| Zc <| Za <| JLA rfl <| Zb <| Zj <| ⟨iv (-1), [Sc s], Ret.one rfl (RV.tmp rfl), (Sk Sub.nil), ?_⟩
 refine ⟨?_, ?_⟩ <;> rw [← hinv, YZ h10n] <;> rfl
theorem idxT_ct (g : Nat) (fs cv : List Value) (hcall : ∀ args w, (callFunc g args).run Tryz.prog w = .ok (.enter g args) w) {σ : Type} (Sc : σ → Zi) (Inv : σ → Prop) (step : Tm → σ → Bool × σ) (l : List Tm) (v : Value) (H : Heap) (hl : rdS RT 36 H v l) (s0 : σ) (h0 : Inv s0) (hI : ∀ x ∈ l, ∀ s, Inv s → (step x s).1 = false → Inv (step x s).2) (hg : ∀ x ∈ l, ∀ s, Inv s → ∀ a h, Hle H h → RT h a x → CT Tryz.prog g ⟨fs ++ [.agg ⟨a⟩] ++ cv⟩ [Sc s] h (fun v N => v = .bool (step x s).1 ∧ N = [Sc (step x s).2])) : CT Tryz.prog 85 ⟨[v, .func (.func g) ⟨fs⟩ ⟨cv⟩]⟩ [Sc s0] H (fun v N => v = iv (idxS step l 0 s0).1 ∧ N = [Sc (idxS step l 0 s0).2]) := by
 refine Zm Tryz.func85 rfl rfl <| Zc <| Za <| JLA rfl <| Zb <| Zc <| Zc <| Za <| JLm v ?_
 obtain ⟨a1, cap1, hv1⟩ := hl.sl
 have hle1 := hl.le
 refine JLn (Pu.lenSl Tryz.runUnderlying27 hv1) <| JLM rfl <| Zb <| Zo <| ZN (fun k ρ M => ∃ (j : Nat) (s : σ), ρ 0 = v ∧ ρ 1 = .func (.func g) ⟨fs⟩ ⟨cv⟩ ∧ ρ 4 = iv 0 ∧ ρ 7 = iv ((l.length : Int)) ∧ ρ 8 = iv ((j : Int)) ∧ Sub [Sc s] M ∧ j ≤ l.length ∧ Inv s ∧ idxS step (l.drop j) j s = idxS step l 0 s0 ∧ k = l.length - j) _ ⟨0, s0, rfl, rfl, rfl, rfl, rfl, (Sk Sub.nil), Nat.zero_le _, h0, rfl, rfl⟩ ?_
 rintro _ ρ2 _ ⟨j, s, e3, e4, e5, e6, e7, hm8, hj, hs, hinv, rfl⟩
 obtain ⟨ρ9, rfl⟩ := Zs (uc e3 (uc e4 (uc e5 (uc e6 (uc e7 un)))))
 clear e3 e4 e5 e6 e7
 refine ZX hm8 <| Zc <| Za <| JLn (Pu.lss rfl rfl) <| Zb <| Zc <| Zg rfl (fun h10 => ?_) (fun h10 => ?_)
 ·replace h10 := dt h10
  have h10n : j < l.length := by omega
  have hlenl := hl.le
  refine Zh <| Zc <| Zo <| Zc <| Za <| JLM rfl <| JLA rfl <| Zb <| Zc <| Za <| JLM rfl <| JLm v <| JLM rfl ?_
  obtain ⟨b11, o11, cap11, row11, T11, fr11, cs11, hv11, hb11, hs11, hE11⟩ := hl.get j (by first | assumption | omega | decide | simp)
  refine JLq (pp b11 (o11 + j * 36)) (Pu.idx j Tryz.runUnderlying27 Zt hv11 rfl rfl (by first | assumption | omega | decide | simp)) <| JLr (Zl Zt rfl (At.im hb11) hs11 <| Zv 0 rfl hcall rfl rfl (fun hin => hg _ (List.getElem_mem h10n) _ hs _ _ (Hle.hu _ _) (RT.mono (Hle.hu _ _) hE11)) rfl ?_)
  rintro _ _ ⟨rfl, rfl⟩
  refine Zb <| Zg rfl (fun h12 => ?_) (fun h12 => ?_)
  ·refine Zc <| Za <| JLM rfl <| JLA rfl <| Zb <| Zj <| ⟨iv ((j : Int)), [Sc (step (l[j]) s).2], Ret.one rfl (RV.tmp rfl), (Sk Sub.nil), ?_⟩
   refine ⟨?_, ?_⟩ <;> rw [← hinv, ZW h10n, idxS, if_pos h12]
  refine Zh <| Za <| JLn (Pu.inc rfl rfl (by omega)) <| JLM rfl <| Zb <| ⟨_, ?_, (j + 1), ((step (l[j]) s).2), rfl, rfl, rfl, rfl, rfl, (Sk Sub.nil), ?_, ?_, ?_, rfl⟩
  ·omega
  ·omega
  ·exact hI _ (List.getElem_mem h10n) s hs h12
  rw [ZW h10n, idxS, if_neg (by simp [h12])] at hinv; exact hinv
 replace h10 := df h10
 have h10n : l.length ≤ j := by omega
 refine Zz _ rfl <| Zc <| Za <| JLA rfl <| Zb <| Zj <| ⟨iv (-1), [Sc s], Ret.one rfl (RV.tmp rfl), (Sk Sub.nil), ?_⟩
 refine ⟨?_, ?_⟩ <;> rw [← hinv, YZ h10n] <;> rfl
theorem idxC_ct (g : Nat) (fs cv : List Value) (hcall : ∀ args w, (callFunc g args).run Tryz.prog w = .ok (.enter g args) w) {σ : Type} (Sc : σ → Zi) (Inv : σ → Prop) (step : (Pt × Tm) → σ → Bool × σ) (l : List (Pt × Tm)) (v : Value) (H : Heap) (hl : rdS RC 71 H v l) (s0 : σ) (h0 : Inv s0) (hI : ∀ x ∈ l, ∀ s, Inv s → (step x s).1 = false → Inv (step x s).2) (hg : ∀ x ∈ l, ∀ s, Inv s → ∀ a h, Hle H h → RC h a x → CT Tryz.prog g ⟨fs ++ [.agg ⟨a⟩] ++ cv⟩ [Sc s] h (fun v N => v = .bool (step x s).1 ∧ N = [Sc (step x s).2])) : CT Tryz.prog 86 ⟨[v, .func (.func g) ⟨fs⟩ ⟨cv⟩]⟩ [Sc s0] H (fun v N => v = iv (idxS step l 0 s0).1 ∧ N = [Sc (idxS step l 0 s0).2]) := by
 refine Zm Tryz.func86 rfl rfl <| Zc <| Za <| JLA rfl <| Zb <| Zc <| Zc <| Za <| JLm v ?_
 obtain ⟨a1, cap1, hv1⟩ := hl.sl
 have hle1 := hl.le
 refine JLn (Pu.lenSl Tryz.runUnderlying28 hv1) <| JLM rfl <| Zb <| Zo <| ZN (fun k ρ M => ∃ (j : Nat) (s : σ), ρ 0 = v ∧ ρ 1 = .func (.func g) ⟨fs⟩ ⟨cv⟩ ∧ ρ 4 = iv 0 ∧ ρ 7 = iv ((l.length : Int)) ∧ ρ 8 = iv ((j : Int)) ∧ Sub [Sc s] M ∧ j ≤ l.length ∧ Inv s ∧ idxS step (l.drop j) j s = idxS step l 0 s0 ∧ k = l.length - j) _ ⟨0, s0, rfl, rfl, rfl, rfl, rfl, (Sk Sub.nil), Nat.zero_le _, h0, rfl, rfl⟩ ?_
 rintro _ ρ2 _ ⟨j, s, e3, e4, e5, e6, e7, hm8, hj, hs, hinv, rfl⟩
 obtain ⟨ρ9, rfl⟩ := Zs (uc e3 (uc e4 (uc e5 (uc e6 (uc e7 un)))))
 clear e3 e4 e5 e6 e7
 refine ZX hm8 <| Zc <| Za <| JLn (Pu.lss rfl rfl) <| Zb <| Zc <| Zg rfl (fun h10 => ?_) (fun h10 => ?_)
 ·replace h10 := dt h10
  have h10n : j < l.length := by omega
  have hlenl := hl.le
  refine Zh <| Zc <| Zo <| Zc <| Za <| JLM rfl <| JLA rfl <| Zb <| Zc <| Za <| JLM rfl <| JLm v <| JLM rfl ?_
  obtain ⟨b11, o11, cap11, row11, T11, fr11, cs11, hv11, hb11, hs11, hE11⟩ := hl.get j (by first | assumption | omega | decide | simp)
  obtain ⟨ca11, cb11, rfl, hA11, hB11⟩ := hE11
  refine JLq (pp b11 (o11 + j * 71)) (Pu.idx j Tryz.runUnderlying28 Xk hv11 rfl rfl (by first | assumption | omega | decide | simp)) <| JLr (Zl Xk rfl (At.im hb11) hs11 <| Zv 0 rfl hcall rfl rfl (fun hin => hg _ (List.getElem_mem h10n) _ hs _ _ (Hle.hu _ _) (RC.mono (Hle.hu _ _) (RC_mk hA11 hB11))) rfl ?_)
  rintro _ _ ⟨rfl, rfl⟩
  refine Zb <| Zg rfl (fun h12 => ?_) (fun h12 => ?_)
  ·refine Zc <| Za <| JLM rfl <| JLA rfl <| Zb <| Zj <| ⟨iv ((j : Int)), [Sc (step (l[j]) s).2], Ret.one rfl (RV.tmp rfl), (Sk Sub.nil), ?_⟩
   refine ⟨?_, ?_⟩ <;> rw [← hinv, ZW h10n, idxS, if_pos h12]
  refine Zh <| Za <| JLn (Pu.inc rfl rfl (by omega)) <| JLM rfl <| Zb <| ⟨_, ?_, (j + 1), ((step (l[j]) s).2), rfl, rfl, rfl, rfl, rfl, (Sk Sub.nil), ?_, ?_, ?_, rfl⟩
  ·omega
  ·omega
  ·exact hI _ (List.getElem_mem h10n) s hs h12
  rw [ZW h10n, idxS, if_neg (by simp [h12])] at hinv; exact hinv
 replace h10 := df h10
 have h10n : l.length ≤ j := by omega
 refine Zz _ rfl <| Zc <| Za <| JLA rfl <| Zb <| Zj <| ⟨iv (-1), [Sc s], Ret.one rfl (RV.tmp rfl), (Sk Sub.nil), ?_⟩
 refine ⟨?_, ?_⟩ <;> rw [← hinv, YZ h10n] <;> rfl
theorem containsP_ct (g : Nat) (fs cv : List Value) (hcall : ∀ args w, (callFunc g args).run Tryz.prog w = .ok (.enter g args) w) {σ : Type} (Sc : σ → Zi) (Inv : σ → Prop) (step : Pt → σ → Bool × σ) (l : List Pt) (v : Value) (H : Heap) (hl : rdS RP 35 H v l) (s0 : σ) (h0 : Inv s0) (hI : ∀ x ∈ l, ∀ s, Inv s → (step x s).1 = false → Inv (step x s).2) (hg : ∀ x ∈ l, ∀ s, Inv s → ∀ a h, Hle H h → RP h a x → CT Tryz.prog g ⟨fs ++ [.agg ⟨a⟩] ++ cv⟩ [Sc s] h (fun v N => v = .bool (step x s).1 ∧ N = [Sc (step x s).2])) : CT Tryz.prog 40 ⟨[v, .func (.func g) ⟨fs⟩ ⟨cv⟩]⟩ [Sc s0] H (fun v N => v = .bool (YN step l s0).1 ∧ N = [Sc (YN step l s0).2]) := by
 refine Zm Tryz.func40 rfl rfl <| Zc <| Za <| JLA rfl <| Zb <| Zc <| Za <| JLm v <| JLM rfl <| Zv 0 rfl Tryz.call84 rfl rfl (fun hin => idxP_ct g fs cv hcall Sc Inv step _ _ _ (RPs.mono (Hle.hu _ _) hl) s0 h0 hI (fun x hx s hs a h hh ra => hg x hx s hs a h (Hle.trans (Hle.hu _ _) hh) ra)) rfl ?_
 rintro _ _ ⟨rfl, rfl⟩
 refine JLn (Pu.geq rfl rfl) <| JLA rfl <| Zb <| Zj <| ⟨.bool (decide (0 ≤ (idxS step l 0 s0).1)), [Sc (idxS step l 0 s0).2], Ret.one rfl (RV.tmp rfl), (Sk Sub.nil), ?_⟩
 exact ⟨by rw [(idxS_any step l 0 s0).1], by rw [(idxS_any step l 0 s0).2]⟩
theorem containsT_ct (g : Nat) (fs cv : List Value) (hcall : ∀ args w, (callFunc g args).run Tryz.prog w = .ok (.enter g args) w) {σ : Type} (Sc : σ → Zi) (Inv : σ → Prop) (step : Tm → σ → Bool × σ) (l : List Tm) (v : Value) (H : Heap) (hl : rdS RT 36 H v l) (s0 : σ) (h0 : Inv s0) (hI : ∀ x ∈ l, ∀ s, Inv s → (step x s).1 = false → Inv (step x s).2) (hg : ∀ x ∈ l, ∀ s, Inv s → ∀ a h, Hle H h → RT h a x → CT Tryz.prog g ⟨fs ++ [.agg ⟨a⟩] ++ cv⟩ [Sc s] h (fun v N => v = .bool (step x s).1 ∧ N = [Sc (step x s).2])) : CT Tryz.prog 42 ⟨[v, .func (.func g) ⟨fs⟩ ⟨cv⟩]⟩ [Sc s0] H (fun v N => v = .bool (YN step l s0).1 ∧ N = [Sc (YN step l s0).2]) := by
 refine Zm Tryz.func42 rfl rfl <| Zc <| Za <| JLA rfl <| Zb <| Zc <| Za <| JLm v <| JLM rfl <| Zv 0 rfl Tryz.call85 rfl rfl (fun hin => idxT_ct g fs cv hcall Sc Inv step _ _ _ (RTs.mono (Hle.hu _ _) hl) s0 h0 hI (fun x hx s hs a h hh ra => hg x hx s hs a h (Hle.trans (Hle.hu _ _) hh) ra)) rfl ?_
 rintro _ _ ⟨rfl, rfl⟩
 refine JLn (Pu.geq rfl rfl) <| JLA rfl <| Zb <| Zj <| ⟨.bool (decide (0 ≤ (idxS step l 0 s0).1)), [Sc (idxS step l 0 s0).2], Ret.one rfl (RV.tmp rfl), (Sk Sub.nil), ?_⟩
 exact ⟨by rw [(idxS_any step l 0 s0).1], by rw [(idxS_any step l 0 s0).2]⟩
theorem containsC_ct (g : Nat) (fs cv : List Value) (hcall : ∀ args w, (callFunc g args).run Tryz.prog w = .ok (.enter g args) w) {σ : Type} (Sc : σ → Zi) (Inv : σ → Prop) (step : (Pt × Tm) → σ → Bool × σ) (l : List (Pt × Tm)) (v : Value) (H : Heap) (hl : rdS RC 71 H v l) (s0 : σ) (h0 : Inv s0) (hI : ∀ x ∈ l, ∀ s, Inv s → (step x s).1 = false → Inv (step x s).2) (hg : ∀ x ∈ l, ∀ s, Inv s → ∀ a h, Hle H h → RC h a x → CT Tryz.prog g ⟨fs ++ [.agg ⟨a⟩] ++ cv⟩ [Sc s] h (fun v N => v = .bool (step x s).1 ∧ N = [Sc (step x s).2])) : CT Tryz.prog 43 ⟨[v, .func (.func g) ⟨fs⟩ ⟨cv⟩]⟩ [Sc s0] H (fun v N => v = .bool (YN step l s0).1 ∧ N = [Sc (YN step l s0).2]) := by
 refine Zm Tryz.func43 rfl rfl <| Zc <| Za <| JLA rfl <| Zb <| Zc <| Za <| JLm v <| JLM rfl <| Zv 0 rfl Tryz.call86 rfl rfl (fun hin => idxC_ct g fs cv hcall Sc Inv step _ _ _ (RCs.mono (Hle.hu _ _) hl) s0 h0 hI (fun x hx s hs a h hh ra => hg x hx s hs a h (Hle.trans (Hle.hu _ _) hh) ra)) rfl ?_
 rintro _ _ ⟨rfl, rfl⟩
 refine JLn (Pu.geq rfl rfl) <| JLA rfl <| Zb <| Zj <| ⟨.bool (decide (0 ≤ (idxS step l 0 s0).1)), [Sc (idxS step l 0 s0).2], Ret.one rfl (RV.tmp rfl), (Sk Sub.nil), ?_⟩
 exact ⟨by rw [(idxS_any step l 0 s0).1], by rw [(idxS_any step l 0 s0).2]⟩
end Go.Proofs.YtkjafeejpmcnkaaGreat.Hs
/-! Walks, printed by a program of this session's own (gen.py). -/
namespace Go.Proofs.YtkjafeejpmcnkaaGreat.Hs
open Go Go.Proofs
set_option maxRecDepth 100000
set_option linter.unusedVariables false
set_option linter.unusedSimpArgs false
attribute [local irreducible] JL J CT wlo DT
end Go.Proofs.YtkjafeejpmcnkaaGreat.Hs
/-! Walks, printed by a program of this session's own (gen.py). -/
namespace Go.Proofs.YtkjafeejpmcnkaaGreat.Hs
open Go Go.Proofs
set_option maxRecDepth 100000
set_option linter.unusedVariables false
set_option linter.unusedSimpArgs false
attribute [local irreducible] JL J CT wlo DT
theorem longPK_ct : ∀ (x : Pt) (d s : Int) (a : List Value) (H : Heap) (bL bA bD : Nat), RP H a x → H bA = some (.cells ⟨[pp bL 0]⟩ 124 (0, 0)) → H bD = some (.cells ⟨[iv d]⟩ 3 (0, 0)) → 0 ≤ d → d ≤ 100 → (∀ h a, Hle H h → RP h a x → CT Tryz.prog 114 ⟨[pp bL 0, .agg ⟨a⟩, iv (d + 1)]⟩ [(BX bL [iv s] 102)] h (fun v N => v = .bool (cnP stL (d + 1) x s).1 ∧ N = [(BX bL [iv ((cnP stL (d + 1) x s).2)] 102)])) → CT Tryz.prog 135 ⟨[.agg ⟨a⟩, pp bA 0, pp bD 0]⟩ [(BX bL [iv s] 102)] H (fun v N => v = .bool (cnP stL (d + 1) x s).1 ∧ N = [(BX bL [iv ((cnP stL (d + 1) x s).2)] 102)]) := by
 intro x d s a H bL bA bD ra hH1 hH5 hd0 hd1 hg
 refine Zm Tryz.func135 rfl rfl <| Zc <| Za <| JLr (Zp (l := a) rfl rfl fun b1 => JLA rfl <| Zb <| Zc <| Za <| JLr (Ze ty124 rfl (At.im hH1) rfl <| JLr (Zl Z7 rfl (At.bx 0 rfl) (Zu (ZT ra)) <| JLr (Ze ty3 rfl (At.im hH5) rfl <| JLn (Pu.add64 rfl rfl (by first | omega | (constructor <;> omega))) <| Zv 1 rfl Tryz.call114 rfl rfl (fun hin => hg _ _ (Hle.hu _ _) (RP.mono (Hle.hu _ _) ra)) rfl ?_))))
 rintro _ _ ⟨rfl, rfl⟩
 refine JLA rfl <| Zb <| Zj <| ⟨.bool ((cnP stL (d + 1) x s).1), [(BX bL [iv ((cnP stL (d + 1) x s).2)] 102)], Ret.one rfl (RV.tmp rfl), (Sk Sub.nil), ?_⟩
 exact ⟨rfl, rfl⟩
theorem longTK_ct : ∀ (x : Tm) (d s : Int) (a : List Value) (H : Heap) (bL bA bD : Nat), RT H a x → H bA = some (.cells ⟨[pp bL 0]⟩ 124 (0, 0)) → H bD = some (.cells ⟨[iv d]⟩ 3 (0, 0)) → 0 ≤ d → d ≤ 100 → (∀ h a, Hle H h → RT h a x → CT Tryz.prog 77 ⟨[pp bL 0, .agg ⟨a⟩, iv (d + 1)]⟩ [(BX bL [iv s] 102)] h (fun v N => v = .bool (cnT stL (d + 1) x s).1 ∧ N = [(BX bL [iv ((cnT stL (d + 1) x s).2)] 102)])) → CT Tryz.prog 112 ⟨[.agg ⟨a⟩, pp bA 0, pp bD 0]⟩ [(BX bL [iv s] 102)] H (fun v N => v = .bool (cnT stL (d + 1) x s).1 ∧ N = [(BX bL [iv ((cnT stL (d + 1) x s).2)] 102)]) := by
 intro x d s a H bL bA bD ra hH1 hH5 hd0 hd1 hg
 refine Zm Tryz.func112 rfl rfl <| Zc <| Za <| JLr (Zp (l := a) rfl rfl fun b1 => JLA rfl <| Zb <| Zc <| Za <| JLr (Ze ty124 rfl (At.im hH1) rfl <| JLr (Zl Zt rfl (At.bx 0 rfl) (Zu (Zw ra)) <| JLr (Ze ty3 rfl (At.im hH5) rfl <| JLn (Pu.add64 rfl rfl (by first | omega | (constructor <;> omega))) <| Zv 1 rfl Tryz.call77 rfl rfl (fun hin => hg _ _ (Hle.hu _ _) (RT.mono (Hle.hu _ _) ra)) rfl ?_))))
 rintro _ _ ⟨rfl, rfl⟩
 refine JLA rfl <| Zb <| Zj <| ⟨.bool ((cnT stL (d + 1) x s).1), [(BX bL [iv ((cnT stL (d + 1) x s).2)] 102)], Ret.one rfl (RV.tmp rfl), (Sk Sub.nil), ?_⟩
 exact ⟨rfl, rfl⟩
theorem longP_ct : ∀ (p : Pt) (d n : Int) (cs : List Value) (H : Heap) (bL : Nat), RP H cs p → 0 ≤ n → n ≤ 300 → 0 ≤ d → d ≤ 61 → CT Tryz.prog 114 ⟨[pp bL 0, .agg ⟨cs⟩, iv d]⟩ [(BX bL [iv n] 102)] H (fun v N => v = .bool (cnP stL d p n).1 ∧ N = [(BX bL [iv ((cnP stL d p n).2)] 102)]) := by
 intro p
 induction p using Pt.ind with
 | h kind num ref kids ih =>
 intro d n cs H bL hp hn0 hn1 hd0 hd1
 obtain ⟨ks, rfl, hk, hn, hks⟩ := RP_mk.1 hp
 refine Zm Tryz.func114 rfl rfl <| Zc <| Za <| JLr (Zp (l := [pp bL 0]) rfl rfl fun b1 => JLr (Zp (l := pkP kind num ref ks) rfl rfl fun b2 => JLr (Zp (l := [iv d]) rfl rfl fun b3 => JLA rfl <| Zb <| Zc <| Zc <| Za <| JLr (Ze ty124 rfl (At.bx 2 rfl) rfl <| JLq (pp bL 0) (Pu.nilCheck rfl) ?_))))
 refine JLq (pp bL 0) (fa102_0 rfl rfl) <| JLr (Ze ty3 rfl (At.bx 3 rfl) rfl <| JLn (Pu.add64 rfl rfl (by first | omega | (constructor <;> omega))) <| JLq (pp bL 0) (Pu.nilCheck rfl) <| JLq (pp bL 0) (fa102_0 rfl rfl) <| JLr (Zd 3 (vs := [iv (n + 1)]) (l := [iv (n + 1)]) ty3 rfl rfl rfl rfl rfl (Zf rfl Zn) rfl <| Zb <| Zc <| Za <| JLr (Ze ty124 rfl (At.bx 2 rfl) rfl <| JLq (pp bL 0) (Pu.nilCheck rfl) <| JLq (pp bL 0) (fa102_0 rfl rfl) <| JLr (Ze ty3 rfl (At.bx 3 rfl) rfl ?_))))
 refine JLn (Pu.gtr rfl rfl) <| JLM rfl <| Zr 2 [20, 21] [(21, cond (decide (300 < n + 1)) undef (.bool (decide (60 < d))))] ?_ fun f5 => ?_
 ·cases h4 : (decide (300 < n + 1)) with
  | false =>
   replace h4 := df h4
   refine JLr (Ze ty3 rfl (At.bx 0 rfl) rfl <| JLn (Pu.gtr rfl rfl) ?_)
   exact Zb ⟨⟨rfl, trivial⟩, rfl⟩
  | true =>
   exact Zx rfl ⟨rfl, trivial⟩
 refine JLn (Pu.pickOr rfl rfl rfl) <| Zb <| Zg rfl (fun h6 => ?_) (fun h6 => ?_)
 ·refine Zc <| Za <| JLA rfl <| Zb <| Zj <| ⟨.bool true, [(BX bL [iv (n + 1)] 102)], Ret.one rfl (RV.tmp rfl), (Sd (Sd (Sd (Sk Sub.nil)))), ?_⟩
  refine ⟨?_, ?_⟩ <;> rw [cnP, if_pos (by simpa [stL] using h6)]
 obtain ⟨h6a, h6b⟩ := orF h6
 replace h6a := df h6a
 replace h6b := df h6b
 refine Zh <| Zc <| Za <| JLq (pp b2 34) (Yi rfl rfl) <| JLr (Ze ty79 rfl (At.bx 1 rfl) (Yo ..) <| JLq (.func (.func 135) ⟨[]⟩ ⟨[pp b1 0, pp b3 0]⟩) (Pu.makeFunc rfl rfl) <| Zv 3 rfl Tryz.call40 rfl rfl (fun hin => containsP_ct 135 [] [pp b1 0, pp b3 0] (fun _ _ => rfl) (fun n => (BX bL [iv n] 102)) (fun n => 0 ≤ n ∧ n ≤ 300) (cnP stL (d + 1)) _ _ _ (RPs.mono (Hle.hu _ _) hks) (n + 1) ⟨by omega, by omega⟩ (fun x hx s hs hf => cnP_keep stL_le x _ s hs.1 hf) (fun x hx s hs a h hh ra => longPK_ct x d s a h bL b1 b3 ra (hh _ _ (hin 2 _ rfl _ _ List.mem_cons_self)) (hh _ _ (hin 0 _ rfl _ _ List.mem_cons_self)) (by omega) (by omega) (fun h' a' hh' ra' => ih x hx (d + 1) s a' h' bL ra' hs.1 hs.2 (by omega) (by omega)))) rfl ?_)
 rintro _ _ ⟨rfl, rfl⟩
 refine JLA rfl <| Zb <| Zj <| ⟨.bool ((YN (cnP stL (d + 1)) kids (n + 1)).1), [(BX bL [iv ((YN (cnP stL (d + 1)) kids (n + 1)).2)] 102)], Ret.one rfl (RV.tmp rfl), (Sk Sub.nil), ?_⟩
 refine ⟨?_, ?_⟩ <;> rw [cnP, if_neg (by simp [stL]; omega), cnPs_any]
theorem longC_ct : ∀ (c : Pt × Tm) (d n : Int) (a : List Value) (H : Heap) (bL bA bD bK : Nat), RC H a c → 0 ≤ n → n ≤ 300 → 0 ≤ d → d ≤ 60 → H bA = some (.cells ⟨[pp bL 0]⟩ 124 (0, 0)) → H bD = some (.cells ⟨[iv d]⟩ 3 (0, 0)) → H bK = some (.cells ⟨[.func (.func 112) ⟨[]⟩ ⟨[pp bA 0, pp bD 0]⟩]⟩ 40 (0, 0)) → (∀ s a h, Hle H h → RT h a c.2 → 0 ≤ s → s ≤ 300 → CT Tryz.prog 77 ⟨[pp bL 0, .agg ⟨a⟩, iv (d + 1)]⟩ [(BX bL [iv s] 102)] h (fun v N => v = .bool (cnT stL (d + 1) c.2 s).1 ∧ N = [(BX bL [iv ((cnT stL (d + 1) c.2 s).2)] 102)])) → CT Tryz.prog 113 ⟨[.agg ⟨a⟩, pp bA 0, pp bD 0, pp bK 0]⟩ [(BX bL [iv n] 102)] H (fun v N => v = .bool (cnC stL (d + 1) c n).1 ∧ N = [(BX bL [iv ((cnC stL (d + 1) c n).2)] 102)]) := by
 intro c d n a H bL bA bD bK ⟨ca, cb, e1, ra1, ra2⟩ hn0 hn1 hd0 hd1 hH1 hH5 hH7 hg
 subst e1
 refine Zm Tryz.func113 rfl rfl <| Zc <| Za <| JLr (Zp (l := ca ++ cb) rfl rfl fun b1 => JLA rfl <| Zb <| Zc <| Za <| JLr (Ze ty124 rfl (At.im hH1) rfl <| JLq (pp b1 0) (fa86_0 rfl rfl) <| JLr (Zl Z7 rfl (At.bx 0 rfl) (sub_l (ZT ra1)) <| JLr (Ze ty3 rfl (At.im hH5) rfl <| JLn (Pu.add64 rfl rfl (by first | omega | (constructor <;> omega))) ?_))))
 refine Zv 1 rfl Tryz.call114 rfl rfl (fun hin => longP_ct _ _ _ _ _ _ (RP.mono (Hle.hu _ _) ra1) (by omega) (by omega) (by omega) (by omega)) rfl ?_
 rintro _ _ ⟨rfl, rfl⟩
 refine JLM rfl ?_
 cases h3 : ((cnP stL (d + 1) (c.1) n).1) with
 | true =>
  iterate 4 refine ZB rfl ?_
  refine JLq (.bool true) (Pu.pickT rfl rfl) <| JLA rfl <| Zb <| Zj <| ⟨.bool true, [(BX bL [iv ((cnP stL (d + 1) (c.1) n).2)] 102)], Ret.one rfl (RV.tmp rfl), (Sk Sub.nil), ?_⟩
  refine ⟨?_, ?_⟩ <;> rw [cnC, if_pos h3]
 | false =>
  refine JLr (Ze ty40 rfl (At.im hH7) rfl <| JLq (pp b1 35) (fa86_1 rfl rfl) <| JLr (Zl Zt rfl (At.bx 1 rfl) (sub_r (ZT ra1) (Zw ra2)) <| Zv 0 rfl Tryz.call112 rfl rfl (fun hin => longTK_ct _ d _ _ _ bL bA bD (RT.mono (Hle.hu _ _) ra2) (Hle.hu _ _ _ _ hH1) (Hle.hu _ _ _ _ hH5) (by omega) (by omega) (fun h' a' hh' ra' => hg _ _ _ (Hle.trans (Hle.hu _ _) hh') ra' (cnP_keep stL_le _ _ _ hn0 h3).1 (cnP_keep stL_le _ _ _ hn0 h3).2)) rfl ?_))
  rintro _ _ ⟨rfl, rfl⟩
  refine JLq (.bool ((cnT stL (d + 1) (c.2) ((cnP stL (d + 1) (c.1) n).2)).1)) (Pu.pickF rfl rfl) <| JLA rfl <| Zb <| Zj <| ⟨.bool ((cnT stL (d + 1) (c.2) ((cnP stL (d + 1) (c.1) n).2)).1), [(BX bL [iv ((cnT stL (d + 1) (c.2) ((cnP stL (d + 1) (c.1) n).2)).2)] 102)], Ret.one rfl (RV.tmp rfl), (Sk Sub.nil), ?_⟩
  refine ⟨?_, ?_⟩ <;> rw [cnC, if_neg (by simp [h3])]
theorem longT_ct : ∀ (t : Tm) (d n : Int) (cs : List Value) (H : Heap) (bL : Nat), RT H cs t → 0 ≤ n → n ≤ 300 → 0 ≤ d → d ≤ 61 → CT Tryz.prog 77 ⟨[pp bL 0, .agg ⟨cs⟩, iv d]⟩ [(BX bL [iv n] 102)] H (fun v N => v = .bool (cnT stL d t n).1 ∧ N = [(BX bL [iv ((cnT stL d t n).2)] 102)]) := by
 intro t
 induction t using Tm.ind with
 | h kind num ref kids cases ih ih' =>
 intro d n cs H bL ht hn0 hn1 hd0 hd1
 obtain ⟨ks, cv, rfl, hk, hn, hks, hcv⟩ := RT_mk.1 ht
 refine Zm Tryz.func77 rfl rfl <| Zc <| Za <| JLr (Zp (l := [pp bL 0]) rfl rfl fun b1 => JLr (Zp (l := pkT kind num ref ks cv) rfl rfl fun b2 => JLr (Zp (l := [iv d]) rfl rfl fun b3 => JLA rfl <| Zb <| Zc <| Zc <| Za <| JLr (Ze ty124 rfl (At.bx 2 rfl) rfl <| JLq (pp bL 0) (Pu.nilCheck rfl) ?_))))
 refine JLq (pp bL 0) (fa102_0 rfl rfl) <| JLr (Ze ty3 rfl (At.bx 3 rfl) rfl <| JLn (Pu.add64 rfl rfl (by first | omega | (constructor <;> omega))) <| JLq (pp bL 0) (Pu.nilCheck rfl) <| JLq (pp bL 0) (fa102_0 rfl rfl) <| JLr (Zd 3 (vs := [iv (n + 1)]) (l := [iv (n + 1)]) ty3 rfl rfl rfl rfl rfl (Zf rfl Zn) rfl <| Zb <| Zc <| Za <| JLr (Ze ty124 rfl (At.bx 2 rfl) rfl <| JLq (pp bL 0) (Pu.nilCheck rfl) <| JLq (pp bL 0) (fa102_0 rfl rfl) <| JLr (Ze ty3 rfl (At.bx 3 rfl) rfl ?_))))
 refine JLn (Pu.gtr rfl rfl) <| JLM rfl <| Zr 2 [21, 22] [(22, cond (decide (300 < n + 1)) undef (.bool (decide (60 < d))))] ?_ fun f5 => ?_
 ·cases h4 : (decide (300 < n + 1)) with
  | false =>
   replace h4 := df h4
   refine JLr (Ze ty3 rfl (At.bx 0 rfl) rfl <| JLn (Pu.gtr rfl rfl) ?_)
   exact Zb ⟨⟨rfl, trivial⟩, rfl⟩
  | true =>
   exact Zx rfl ⟨rfl, trivial⟩
 refine JLn (Pu.pickOr rfl rfl rfl) <| Zb <| Zg rfl (fun h6 => ?_) (fun h6 => ?_)
 ·refine Zc <| Za <| JLA rfl <| Zb <| Zj <| ⟨.bool true, [(BX bL [iv (n + 1)] 102)], Ret.one rfl (RV.tmp rfl), (Sd (Sd (Sd (Sk Sub.nil)))), ?_⟩
  refine ⟨?_, ?_⟩ <;> rw [cnT, if_pos (by simpa [stL] using h6)]
 obtain ⟨h6a, h6b⟩ := orF h6
 replace h6a := df h6a
 replace h6b := df h6b
 refine Zh <| Zc <| Za <| JLq (.func (.func 112) ⟨[]⟩ ⟨[pp b1 0, pp b3 0]⟩) (Pu.makeFunc rfl rfl) <| JLr (Zk (l := [.nilFunc]) Tryz.zeroValue40 rfl fun b7 => JLr (Zd 0 (vs := [.func (.func 112) ⟨[]⟩ ⟨[pp b1 0, pp b3 0]⟩]) (l := [.func (.func 112) ⟨[]⟩ ⟨[pp b1 0, pp b3 0]⟩]) ty40 rfl rfl rfl rfl rfl (Zf rfl Zn) rfl <| Zb <| Zc <| Za <| JLq (pp b2 34) (Ye rfl rfl) <| JLr (Ze ty27 rfl (At.bx 2 rfl) (Ya ..) <| JLr (Ze ty40 rfl (At.bx 0 rfl) rfl <| Zv 4 rfl Tryz.call42 rfl rfl (fun hin => containsT_ct 112 [] [pp b1 0, pp b3 0] (fun _ _ => rfl) (fun n => (BX bL [iv n] 102)) (fun n => 0 ≤ n ∧ n ≤ 300) (cnT stL (d + 1)) _ _ _ (RTs.mono (Hle.hu _ _) hks) (n + 1) ⟨by omega, by omega⟩ (fun x hx s hs hf => cnT_keep stL_le x _ s hs.1 hf) (fun x hx s hs a h hh ra => longTK_ct x d s a h bL b1 b3 ra (hh _ _ (hin 3 _ rfl _ _ List.mem_cons_self)) (hh _ _ (hin 1 _ rfl _ _ List.mem_cons_self)) (by omega) (by omega) (fun h' a' hh' ra' => ih x hx (d + 1) s a' h' bL ra' hs.1 hs.2 (by omega) (by omega)))) rfl ?_))))
 rintro _ _ ⟨rfl, rfl⟩
 refine JLM rfl ?_
 cases h9 : ((YN (cnT stL (d + 1)) kids (n + 1)).1) with
 | true =>
  iterate 4 refine ZB rfl ?_
  refine JLq (.bool true) (Pu.pickT rfl rfl) <| JLA rfl <| Zb <| Zj <| ⟨.bool true, [(BX bL [iv ((YN (cnT stL (d + 1)) kids (n + 1)).2)] 102)], Ret.one rfl (RV.tmp rfl), (Sk Sub.nil), ?_⟩
  refine ⟨?_, ?_⟩ <;> rw [cnT, if_neg (by simp [stL]; omega), cnTs_any, if_pos h9]
 | false =>
  refine JLq (pp b2 35) (Z0 rfl rfl) <| JLr (Ze Y2 rfl (At.bx 3 rfl) (ZZ ..) <| JLq (.func (.func 113) ⟨[]⟩ ⟨[pp b1 0, pp b3 0, pp b7 0]⟩) (Pu.makeFunc rfl rfl) <| Zv 0 rfl Tryz.call43 rfl rfl (fun hin => containsC_ct 113 [] [pp b1 0, pp b3 0, pp b7 0] (fun _ _ => rfl) (fun n => (BX bL [iv n] 102)) (fun n => 0 ≤ n ∧ n ≤ 300) (cnC stL (d + 1)) _ _ _ (RCs.mono (Hle.hu _ _) hcv) ((YN (cnT stL (d + 1)) kids (n + 1)).2) (anyT_keep stL_le _ _ _ (by omega) (by omega) h9) (fun x hx s hs hf => cnC_keep stL_le x _ s hs.1 hf) (fun x hx s hs a h hh ra => longC_ct x d s a h bL b1 b3 b7 ra hs.1 hs.2 (by omega) (by omega) (hh _ _ (hin 3 _ rfl _ _ List.mem_cons_self)) (hh _ _ (hin 1 _ rfl _ _ List.mem_cons_self)) (hh _ _ (hin 0 _ rfl _ _ List.mem_cons_self)) (fun s' a' h' hh' ra' k1 k2 => ih' x hx (d + 1) s' a' h' bL ra' k1 k2 (by omega) (by omega)))) rfl ?_)
  rintro _ _ ⟨rfl, rfl⟩
  refine JLq (.bool ((YN (cnC stL (d + 1)) cases ((YN (cnT stL (d + 1)) kids (n + 1)).2)).1)) (Pu.pickF rfl rfl) <| JLA rfl <| Zb <| Zj <| ⟨.bool ((YN (cnC stL (d + 1)) cases ((YN (cnT stL (d + 1)) kids (n + 1)).2)).1), [(BX bL [iv ((YN (cnC stL (d + 1)) cases ((YN (cnT stL (d + 1)) kids (n + 1)).2)).2)] 102)], Ret.one rfl (RV.tmp rfl), (Sk Sub.nil), ?_⟩
  refine ⟨?_, ?_⟩ <;> rw [cnT, if_neg (by simp [stL]; omega), cnTs_any, if_neg (by simp [h9]), cnCs_any]
end Go.Proofs.YtkjafeejpmcnkaaGreat.Hs
/-! Walks, printed by a program of this session's own (gen.py). -/
namespace Go.Proofs.YtkjafeejpmcnkaaGreat.Hs
open Go Go.Proofs
set_option maxRecDepth 100000
set_option linter.unusedVariables false
set_option linter.unusedSimpArgs false
attribute [local irreducible] JL J CT wlo DT
theorem known_ct (n b d : Int) (H : Heap) (bD : Nat) (hD : H bD = some (.cells ⟨[iv d]⟩ 3 (0, 0))) (hb0 : 0 ≤ b) (hb1 : b ≤ 1000000) (hn1 : -9223372036854775808 ≤ n) (hn2 : n ≤ 9223372036854775807) : CT Tryz.prog 78 ⟨[iv n, iv b, pp bD 0]⟩ [] H (fun v N => v = .bool (knownB d n b) ∧ N = []) := by
 refine Zm Tryz.func78 rfl rfl <| Zc <| Za <| JLA rfl <| Zb <| Zc <| Za <| JLM rfl <| JLn (Pu.geq rfl rfl) <| JLM rfl <| Zr 10 [9, 10, 11, 12, 13, 14, 15, 16, 17, 18] [(18, cond (decide (0 ≤ n)) (.bool ((decide (n < b)) || (decide (n - b < d)))) undef)] ?_ fun f4 => ?_
 ·cases h1 : (decide (0 ≤ n)) with
  | true =>
   replace h1 := dt h1
   refine JLM rfl <| JLM rfl <| JLn (Pu.lss rfl rfl) <| JLM rfl <| Zr 5 [13, 14, 15, 16, 17] [(17, cond (decide (n < b)) undef (.bool (decide (n - b < d))))] ?_ fun f3 => ?_
   ·cases h2 : (decide (n < b)) with
    | false =>
     replace h2 := df h2
     refine JLM rfl <| JLM rfl <| JLn (Pu.sub64 rfl rfl (by first | omega | (constructor <;> omega))) <| JLr (Ze ty3 rfl (At.im hD) rfl <| JLn (Pu.lss rfl rfl) ?_)
     exact Zb ⟨⟨rfl, trivial⟩, rfl⟩
    | true =>
     exact Zx rfl ⟨rfl, trivial⟩
   refine JLn (Pu.pickOr rfl rfl rfl) ?_
   exact Zb ⟨⟨rfl, trivial⟩, rfl⟩
  | false =>
   exact Zx rfl ⟨rfl, trivial⟩
 refine JLn (Pu.pickAnd rfl rfl rfl) <| JLA rfl <| Zb <| Zj <| ⟨.bool ((decide (0 ≤ n)) && ((decide (n < b)) || (decide (n - b < d)))), [], Ret.one rfl (RV.tmp rfl), Sub.nil, ?_⟩
 exact ⟨rfl, rfl⟩
set_option maxHeartbeats 2000000 in
theorem chkTerm_ct (kind num : Int) (ref : Sm) (ks cv : Value) (kids : List Tm) (cases : List (Pt × Tm)) (d m b : Int) (H : Heap) (bD : Nat) (hks : rdS RT 36 H ks kids) (hcv : rdS RC 71 H cv cases) (hD : H bD = some (.cells ⟨[iv d]⟩ 3 (0, 0))) (hb0 : 0 ≤ b) (hb1 : b ≤ 1000000) (hn1 : -9223372036854775808 ≤ num) (hn2 : num ≤ 9223372036854775807) : CT Tryz.prog 115 ⟨[.agg ⟨[iv m, .func (.func 78) ⟨[]⟩ ⟨[pp bD 0]⟩]⟩, .agg ⟨pkT kind num ref ks cv⟩, iv b]⟩ [] H (fun v N => v = iv (Yx d m b kind num ref kids.length cases.length) ∧ N = []) := by
 refine Zm Tryz.func115 rfl rfl <| Zc <| Za <| JLr (Zp (l := [iv m, .func (.func 78) ⟨[]⟩ ⟨[pp bD 0]⟩]) rfl rfl fun b1 => JLr (Zp (l := pkT kind num ref ks cv) rfl rfl fun b2 => JLA rfl <| Zb <| Zc <| Zo <| Zc <| Za <| JLq (pp b2 0) (ZL rfl rfl) <| JLr (Ze ty3 rfl (At.bx 0 rfl) (ZY ..) ?_)))
 refine Jc Tryz.call65 rfl (fun hin => YG _ _ _ _) rfl ?_
 rintro _ _ ⟨rfl, rfl⟩
 refine JLA rfl <| Zb <| Zg rfl (fun h3 => ?_) (fun h3 => ?_)
 ·replace h3 := dt h3
  refine Zc <| Za <| JLA rfl <| Zb <| Zj <| ⟨iv 3, [], Ret.one rfl (RV.tmp rfl), Sub.nil, ?_⟩
  exact ⟨by refine congrArg (Value.int .i64) ?_; simp only [Yx]; (repeat' split) <;> first | rfl | omega | (exfalso; simp_all; done) | (exfalso; simp_all; omega) | grind, rfl⟩
 replace h3 := df h3
 refine Zc <| Zy mixed #[0, 1, 3, 0, 8, 0, 32, 0, 128, 384, 1023, 2047] 10 [some 13, some 14, some 15, some 16, some 17, some 18, some 19, some 20, some 21, some 22] [] [(2, fun _ _ vw qw => vw = .agg ⟨[.bool (fN kind), .bool (fR kind), .bool (fC kind)]⟩ ∧ qw = [])] rfl (by kernel_rfl) rfl (by kernel_rfl) <| Dq (pp b2 0) (fun _ => ZL rfl rfl) <| Dl1 ty3 (At.bx 0 rfl) (ZY ..) <| Dc rfl Tryz.call93 (fun _ => rfl) (fun hin => fields_ct _ _) ?_
 rintro _ _ ⟨rfl, rfl⟩
 refine Dq (pp b2 1) (fun _ => Z8 rfl rfl) <| Dl1 ty3 (At.bx 0 rfl) (Ys ..) <| Dq (pp b2 2) (fun _ => fa30_2 rfl rfl) <| Dl YR (At.bx 0 rfl) (pkT_2 ..) <| Dq (pp b2 35) (fun _ => Z0 rfl rfl) <| Dl1 Y2 (At.bx 0 rfl) (ZZ ..) ?_
 obtain ⟨a5, cap5, hv5⟩ := hcv.sl
 have hle5 := hcv.le
 refine Dn (fun _ => Pu.lenSl Tryz.runUnderlying28 hv5) <| ZH (M' := [(BX b2 (pkT kind num ref ks cv) 30), (BX b1 [iv m, .func (.func 78) ⟨[]⟩ ⟨[pp bD 0]⟩] 128)]) rfl ?_
 show JL _ _ _ [_, _] _ _ _
 refine Jc Tryz.call136 rfl (fun hin => clash_ct _ _ _ _ _ _ _) rfl ?_
 rintro _ _ ⟨rfl, rfl⟩
 refine JLA rfl <| Zb <| Zg rfl (fun h6 => ?_) (fun h6 => ?_)
 ·refine Zc <| Za <| JLA rfl <| Zb <| Zj <| ⟨iv 7, [], Ret.one rfl (RV.tmp rfl), Sub.nil, ?_⟩
  exact ⟨by refine congrArg (Value.int .i64) ?_; simp only [Yx]; (repeat' split) <;> first | rfl | omega | (exfalso; simp_all; done) | (exfalso; simp_all; omega) | grind, rfl⟩
 refine Zc <| Za <| JLq (pp b2 0) (ZL rfl rfl) <| JLr (Ze ty3 rfl (At.bx 0 rfl) (ZY ..) <| JLq (pp b2 34) (Ye rfl rfl) <| JLr (Ze ty27 rfl (At.bx 0 rfl) (Ya ..) ?_))
 obtain ⟨a7, cap7, hv7⟩ := hks.sl
 have hle7 := hks.le
 refine JLn (Pu.lenSl Tryz.runUnderlying27 hv7) <| Jc Tryz.call137 rfl (fun hin => kidsT_ct _ _ _) rfl ?_
 rintro _ _ ⟨rfl, rfl⟩
 refine JLn (Pu.not rfl) <| JLM rfl <| Zr 4 [33, 34, 35, 36] [(36, cond (!(kidsB kind ((kids.length : Int)))) undef (.bool (decide (8 < (cases.length : Int)))))] ?_ fun f10 => ?_
 ·cases h8 : (!(kidsB kind ((kids.length : Int)))) with
  | false =>
   replace h8 := nf h8
   refine JLq (pp b2 35) (Z0 rfl rfl) <| JLr (Ze Y2 rfl (At.bx 0 rfl) (ZZ ..) ?_)
   obtain ⟨a9, cap9, hv9⟩ := hcv.sl
   have hle9 := hcv.le
   refine JLn (Pu.lenSl Tryz.runUnderlying28 hv9) <| JLn (Pu.gtr rfl rfl) ?_
   exact Zb ⟨⟨rfl, trivial⟩, rfl⟩
  | true =>
   exact Zx rfl ⟨rfl, trivial⟩
 refine JLn (Pu.pickOr rfl rfl rfl) <| JLA rfl <| Zb <| Zg rfl (fun h11 => ?_) (fun h11 => ?_)
 ·refine Zc <| Za <| JLA rfl <| Zb <| Zj <| ⟨iv 2, [], Ret.one rfl (RV.tmp rfl), Sub.nil, ?_⟩
  exact ⟨by refine congrArg (Value.int .i64) ?_; simp only [Yx]; (repeat' split) <;> first | rfl | omega | (exfalso; simp_all; done) | (exfalso; simp_all; omega) | grind, rfl⟩
 obtain ⟨h11a, h11b⟩ := orF h11
 replace h11a := nf h11a
 replace h11b := df h11b
 refine Zh <| Zc <| Za <| JLA rfl <| Zb <| Zc <| Zc <| Za <| JLq (pp b2 0) (ZL rfl rfl) <| JLr (Ze ty3 rfl (At.bx 0 rfl) (ZY ..) <| Zb <| Zo <| Zc ?_)
 refine Za <| JLn (Pu.eql rfl rfl) <| JLA rfl <| Zb <| Zg rfl (fun h12 => ?_) (fun h12 => ?_)
 ·replace h12 := dt h12
  refine Zc <| Za <| JLq (pp b2 1) (Z8 rfl rfl) <| JLr (Ze ty3 rfl (At.bx 0 rfl) (Ys ..) <| Jc Tryz.call65 rfl (fun hin => YG _ _ _ _) rfl ?_)
  rintro _ _ ⟨rfl, rfl⟩
  refine Zb <| Zg rfl (fun h13 => ?_) (fun h13 => ?_)
  ·replace h13 := dt h13
   refine Zc <| Za <| JLA rfl <| Zb <| Zj <| ⟨iv 3, [], Ret.one rfl (RV.tmp rfl), Sub.nil, ?_⟩
   exact ⟨by refine congrArg (Value.int .i64) ?_; simp only [Yx]; (repeat' split) <;> first | rfl | omega | (exfalso; simp_all; done) | (exfalso; simp_all; omega) | grind, rfl⟩
  replace h13 := df h13
  refine Zh <| Zc <| Zc <| Za <| JLq (pp b2 0) (ZL rfl rfl) <| JLr (Ze ty3 rfl (At.bx 0 rfl) (ZY ..) <| JLn (Pu.eql rfl rfl) <| JLM rfl <| Zr 3 [73, 74, 75] [(75, cond (decide (kind = 2)) undef (.bool (decide (kind = 8))))] ?_ fun f15 => ?_)
  ·cases h14 : (decide (kind = 2)) with
   | false =>
    replace h14 := df h14
    refine JLq (pp b2 0) (ZL rfl rfl) <| JLr (Ze ty3 rfl (At.bx 0 rfl) (ZY ..) <| JLn (Pu.eql rfl rfl) ?_)
    exact Zb ⟨⟨rfl, trivial⟩, rfl⟩
   | true =>
    exact Zx rfl ⟨rfl, trivial⟩
  refine JLn (Pu.pickOr rfl rfl rfl) <| JLM rfl <| Zr 3 [78, 79, 80] [(80, cond ((decide (kind = 2)) || (decide (kind = 8))) undef (.bool (decide (kind = 11))))] ?_ fun f17 => ?_
  ·cases h16 : ((decide (kind = 2)) || (decide (kind = 8))) with
   | false =>
    obtain ⟨h16a, h16b⟩ := orF h16
    replace h16a := df h16a
    replace h16b := df h16b
    refine JLq (pp b2 0) (ZL rfl rfl) <| JLr (Ze ty3 rfl (At.bx 0 rfl) (ZY ..) <| JLn (Pu.eql rfl rfl) ?_)
    exact Zb ⟨⟨rfl, trivial⟩, rfl⟩
   | true =>
    exact Zx rfl ⟨rfl, trivial⟩
  refine JLn (Pu.pickOr rfl rfl rfl) <| JLM rfl <| Zr 4 [83, 84, 85, 86] [(86, cond (((decide (kind = 2)) || (decide (kind = 8))) || (decide (kind = 11))) (.bool (decide (num < 0 ∨ 1073741824 < num))) undef)] ?_ fun f19 => ?_
  ·cases h18 : (((decide (kind = 2)) || (decide (kind = 8))) || (decide (kind = 11))) with
   | true =>
    refine JLq (pp b2 1) (Z8 rfl rfl) <| JLr (Ze ty3 rfl (At.bx 0 rfl) (Ys ..) <| JLM rfl <| Jc Tryz.call65 rfl (fun hin => YG _ _ _ _) rfl ?_)
    rintro _ _ ⟨rfl, rfl⟩
    exact Zb ⟨⟨rfl, trivial⟩, rfl⟩
   | false =>
    exact Zx rfl ⟨rfl, trivial⟩
  refine JLn (Pu.pickAnd rfl rfl rfl) <| Zb <| Zg rfl (fun h20 => ?_) (fun h20 => ?_)
  ·obtain ⟨h20a, h20b⟩ := Ym h20
   replace h20b := dt h20b
   refine Zc <| Za <| JLA rfl <| Zb <| Zj <| ⟨iv 3, [], Ret.one rfl (RV.tmp rfl), Sub.nil, ?_⟩
   exact ⟨by refine congrArg (Value.int .i64) ?_; simp only [Yx]; (repeat' split) <;> first | rfl | omega | (exfalso; simp_all; done) | (exfalso; simp_all; omega) | grind, rfl⟩
  refine Zh <| Zc <| Za <| JLA rfl <| Zb <| Zj <| ⟨iv 0, [], Ret.one rfl (RV.tmp rfl), Sub.nil, ?_⟩
  exact ⟨by refine congrArg (Value.int .i64) ?_; simp only [Yx]; (repeat' split) <;> first | rfl | omega | (exfalso; simp_all; done) | (exfalso; simp_all; omega) | grind, rfl⟩
 replace h12 := df h12
 refine Zc <| Zc <| Za <| JLn (Pu.eql rfl rfl) <| JLA rfl <| Zb <| Zg rfl (fun h21 => ?_) (fun h21 => ?_)
 ·replace h21 := dt h21
  refine Zh <| Zg rfl (fun _ => ?_) (fun h22 => absurd h21 (df h22))
  refine Za <| JLA rfl <| Zb <| Zc <| Zc <| Za <| JLq (pp b2 0) (ZL rfl rfl) <| JLr (Ze ty3 rfl (At.bx 0 rfl) (ZY ..) <| JLn (Pu.eql rfl rfl) <| JLM rfl <| Zr 3 [73, 74, 75] [(75, cond (decide (kind = 2)) undef (.bool (decide (kind = 8))))] ?_ fun f24 => ?_)
  ·cases h23 : (decide (kind = 2)) with
   | false =>
    replace h23 := df h23
    refine JLq (pp b2 0) (ZL rfl rfl) <| JLr (Ze ty3 rfl (At.bx 0 rfl) (ZY ..) <| JLn (Pu.eql rfl rfl) ?_)
    exact Zb ⟨⟨rfl, trivial⟩, rfl⟩
   | true =>
    exact Zx rfl ⟨rfl, trivial⟩
  refine JLn (Pu.pickOr rfl rfl rfl) <| JLM rfl <| Zr 3 [78, 79, 80] [(80, cond ((decide (kind = 2)) || (decide (kind = 8))) undef (.bool (decide (kind = 11))))] ?_ fun f26 => ?_
  ·cases h25 : ((decide (kind = 2)) || (decide (kind = 8))) with
   | false =>
    obtain ⟨h25a, h25b⟩ := orF h25
    replace h25a := df h25a
    replace h25b := df h25b
    refine JLq (pp b2 0) (ZL rfl rfl) <| JLr (Ze ty3 rfl (At.bx 0 rfl) (ZY ..) <| JLn (Pu.eql rfl rfl) ?_)
    exact Zb ⟨⟨rfl, trivial⟩, rfl⟩
   | true =>
    exact Zx rfl ⟨rfl, trivial⟩
  refine JLn (Pu.pickOr rfl rfl rfl) <| JLM rfl <| Zr 4 [83, 84, 85, 86] [(86, cond (((decide (kind = 2)) || (decide (kind = 8))) || (decide (kind = 11))) (.bool (decide (num < 0 ∨ 7 < num))) undef)] ?_ fun f28 => ?_
  ·cases h27 : (((decide (kind = 2)) || (decide (kind = 8))) || (decide (kind = 11))) with
   | true =>
    refine JLq (pp b2 1) (Z8 rfl rfl) <| JLr (Ze ty3 rfl (At.bx 0 rfl) (Ys ..) <| JLM rfl <| Jc Tryz.call65 rfl (fun hin => YG _ _ _ _) rfl ?_)
    rintro _ _ ⟨rfl, rfl⟩
    exact Zb ⟨⟨rfl, trivial⟩, rfl⟩
   | false =>
    exact Zx rfl ⟨rfl, trivial⟩
  refine JLn (Pu.pickAnd rfl rfl rfl) <| Zb <| Zg rfl (fun h29 => ?_) (fun h29 => ?_)
  ·obtain ⟨h29a, h29b⟩ := Ym h29
   replace h29b := dt h29b
   refine Zc <| Za <| JLA rfl <| Zb <| Zj <| ⟨iv 3, [], Ret.one rfl (RV.tmp rfl), Sub.nil, ?_⟩
   exact ⟨by refine congrArg (Value.int .i64) ?_; simp only [Yx]; (repeat' split) <;> first | rfl | omega | (exfalso; simp_all; done) | (exfalso; simp_all; omega) | grind, rfl⟩
  refine Zh <| Zc <| Za <| JLA rfl <| Zb <| Zj <| ⟨iv 0, [], Ret.one rfl (RV.tmp rfl), Sub.nil, ?_⟩
  exact ⟨by refine congrArg (Value.int .i64) ?_; simp only [Yx]; (repeat' split) <;> first | rfl | omega | (exfalso; simp_all; done) | (exfalso; simp_all; omega) | grind, rfl⟩
 replace h21 := df h21
 refine Za <| JLn (Pu.eql rfl rfl) <| JLA rfl <| Zb <| Zg rfl (fun h30 => ?_) (fun h30 => ?_)
 ·replace h30 := dt h30
  refine Za <| JLA rfl <| Zb <| Zc <| Zc <| Za <| JLq (pp b2 0) (ZL rfl rfl) <| JLr (Ze ty3 rfl (At.bx 0 rfl) (ZY ..) <| JLn (Pu.eql rfl rfl) <| JLM rfl <| Zr 3 [73, 74, 75] [(75, cond (decide (kind = 2)) undef (.bool (decide (kind = 8))))] ?_ fun f32 => ?_)
  ·cases h31 : (decide (kind = 2)) with
   | false =>
    replace h31 := df h31
    refine JLq (pp b2 0) (ZL rfl rfl) <| JLr (Ze ty3 rfl (At.bx 0 rfl) (ZY ..) <| JLn (Pu.eql rfl rfl) ?_)
    exact Zb ⟨⟨rfl, trivial⟩, rfl⟩
   | true =>
    exact Zx rfl ⟨rfl, trivial⟩
  refine JLn (Pu.pickOr rfl rfl rfl) <| JLM rfl <| Zr 3 [78, 79, 80] [(80, cond ((decide (kind = 2)) || (decide (kind = 8))) undef (.bool (decide (kind = 11))))] ?_ fun f34 => ?_
  ·cases h33 : ((decide (kind = 2)) || (decide (kind = 8))) with
   | false =>
    obtain ⟨h33a, h33b⟩ := orF h33
    replace h33a := df h33a
    replace h33b := df h33b
    refine JLq (pp b2 0) (ZL rfl rfl) <| JLr (Ze ty3 rfl (At.bx 0 rfl) (ZY ..) <| JLn (Pu.eql rfl rfl) ?_)
    exact Zb ⟨⟨rfl, trivial⟩, rfl⟩
   | true =>
    exact Zx rfl ⟨rfl, trivial⟩
  refine JLn (Pu.pickOr rfl rfl rfl) <| JLM rfl <| Zr 4 [83, 84, 85, 86] [(86, cond (((decide (kind = 2)) || (decide (kind = 8))) || (decide (kind = 11))) (.bool (decide (num < 0 ∨ 7 < num))) undef)] ?_ fun f36 => ?_
  ·cases h35 : (((decide (kind = 2)) || (decide (kind = 8))) || (decide (kind = 11))) with
   | true =>
    refine JLq (pp b2 1) (Z8 rfl rfl) <| JLr (Ze ty3 rfl (At.bx 0 rfl) (Ys ..) <| JLM rfl <| Jc Tryz.call65 rfl (fun hin => YG _ _ _ _) rfl ?_)
    rintro _ _ ⟨rfl, rfl⟩
    exact Zb ⟨⟨rfl, trivial⟩, rfl⟩
   | false =>
    exact Zx rfl ⟨rfl, trivial⟩
  refine JLn (Pu.pickAnd rfl rfl rfl) <| Zb <| Zg rfl (fun h37 => ?_) (fun h37 => ?_)
  ·obtain ⟨h37a, h37b⟩ := Ym h37
   replace h37b := dt h37b
   refine Zc <| Za <| JLA rfl <| Zb <| Zj <| ⟨iv 3, [], Ret.one rfl (RV.tmp rfl), Sub.nil, ?_⟩
   exact ⟨by refine congrArg (Value.int .i64) ?_; simp only [Yx]; (repeat' split) <;> first | rfl | omega | (exfalso; simp_all; done) | (exfalso; simp_all; omega) | grind, rfl⟩
  refine Zh <| Zc <| Za <| JLA rfl <| Zb <| Zj <| ⟨iv 0, [], Ret.one rfl (RV.tmp rfl), Sub.nil, ?_⟩
  exact ⟨by refine congrArg (Value.int .i64) ?_; simp only [Yx]; (repeat' split) <;> first | rfl | omega | (exfalso; simp_all; done) | (exfalso; simp_all; omega) | grind, rfl⟩
 replace h30 := df h30
 refine Zc <| Za <| JLn (Pu.eql rfl rfl) <| JLA rfl <| Zb <| Zg rfl (fun h38 => ?_) (fun h38 => ?_)
 ·replace h38 := dt h38
  refine Zc <| Za <| JLq (pp b1 1) (fa128_1 rfl rfl) <| JLr (Ze ty126 rfl (At.bx 1 rfl) rfl <| JLq (pp b2 1) (Z8 rfl rfl) <| JLr (Ze ty3 rfl (At.bx 0 rfl) (Ys ..) <| JLM rfl <| Jc Tryz.call78 rfl (fun hin => known_ct _ _ _ _ bD (Hle.hu _ _ _ _ hD) hb0 hb1 hn1 hn2) rfl ?_))
  rintro _ _ ⟨rfl, rfl⟩
  refine JLn (Pu.not rfl) <| Zb <| Zg rfl (fun h39 => ?_) (fun h39 => ?_)
  ·replace h39 := nt h39
   refine Zc <| Za <| JLA rfl <| Zb <| Zj <| ⟨iv 1, [], Ret.one rfl (RV.tmp rfl), Sub.nil, ?_⟩
   exact ⟨by refine congrArg (Value.int .i64) ?_; simp only [Yx]; (repeat' split) <;> first | rfl | omega | (exfalso; simp_all; done) | (exfalso; simp_all; omega) | grind, rfl⟩
  replace h39 := nf h39
  refine Zh <| Zc <| Zc <| Za <| JLq (pp b2 0) (ZL rfl rfl) <| JLr (Ze ty3 rfl (At.bx 0 rfl) (ZY ..) <| JLn (Pu.eql rfl rfl) <| JLM rfl <| Zr 3 [73, 74, 75] [(75, cond (decide (kind = 2)) undef (.bool (decide (kind = 8))))] ?_ fun f41 => ?_)
  ·cases h40 : (decide (kind = 2)) with
   | false =>
    replace h40 := df h40
    refine JLq (pp b2 0) (ZL rfl rfl) <| JLr (Ze ty3 rfl (At.bx 0 rfl) (ZY ..) <| JLn (Pu.eql rfl rfl) ?_)
    exact Zb ⟨⟨rfl, trivial⟩, rfl⟩
   | true =>
    exact Zx rfl ⟨rfl, trivial⟩
  refine JLn (Pu.pickOr rfl rfl rfl) <| JLM rfl <| Zr 3 [78, 79, 80] [(80, cond ((decide (kind = 2)) || (decide (kind = 8))) undef (.bool (decide (kind = 11))))] ?_ fun f43 => ?_
  ·cases h42 : ((decide (kind = 2)) || (decide (kind = 8))) with
   | false =>
    obtain ⟨h42a, h42b⟩ := orF h42
    replace h42a := df h42a
    replace h42b := df h42b
    refine JLq (pp b2 0) (ZL rfl rfl) <| JLr (Ze ty3 rfl (At.bx 0 rfl) (ZY ..) <| JLn (Pu.eql rfl rfl) ?_)
    exact Zb ⟨⟨rfl, trivial⟩, rfl⟩
   | true =>
    exact Zx rfl ⟨rfl, trivial⟩
  refine JLn (Pu.pickOr rfl rfl rfl) <| JLM rfl <| Zr 4 [83, 84, 85, 86] [(86, cond (((decide (kind = 2)) || (decide (kind = 8))) || (decide (kind = 11))) (.bool (decide (num < 0 ∨ 1073741824 < num))) undef)] ?_ fun f45 => ?_
  ·cases h44 : (((decide (kind = 2)) || (decide (kind = 8))) || (decide (kind = 11))) with
   | true =>
    refine JLq (pp b2 1) (Z8 rfl rfl) <| JLr (Ze ty3 rfl (At.bx 0 rfl) (Ys ..) <| JLM rfl <| Jc Tryz.call65 rfl (fun hin => YG _ _ _ _) rfl ?_)
    rintro _ _ ⟨rfl, rfl⟩
    exact Zb ⟨⟨rfl, trivial⟩, rfl⟩
   | false =>
    exact Zx rfl ⟨rfl, trivial⟩
  refine JLn (Pu.pickAnd rfl rfl rfl) <| Zb <| Zg rfl (fun h46 => ?_) (fun h46 => ?_)
  ·obtain ⟨h46a, h46b⟩ := Ym h46
   replace h46b := dt h46b
   refine Zc <| Za <| JLA rfl <| Zb <| Zj <| ⟨iv 3, [], Ret.one rfl (RV.tmp rfl), Sub.nil, ?_⟩
   exact ⟨by refine congrArg (Value.int .i64) ?_; simp only [Yx]; (repeat' split) <;> first | rfl | omega | (exfalso; simp_all; done) | (exfalso; simp_all; omega) | grind, rfl⟩
  refine Zh <| Zc <| Za <| JLA rfl <| Zb <| Zj <| ⟨iv 0, [], Ret.one rfl (RV.tmp rfl), Sub.nil, ?_⟩
  exact ⟨by refine congrArg (Value.int .i64) ?_; simp only [Yx]; (repeat' split) <;> first | rfl | omega | (exfalso; simp_all; done) | (exfalso; simp_all; omega) | grind, rfl⟩
 replace h38 := df h38
 refine Zc <| Za <| JLn (Pu.eql rfl rfl) <| JLA rfl <| Zb <| Zg rfl (fun h47 => ?_) (fun h47 => ?_)
 ·replace h47 := dt h47
  refine Zc <| Za <| JLq (pp b2 1) (Z8 rfl rfl) <| JLr (Ze ty3 rfl (At.bx 0 rfl) (Ys ..) <| JLn (Pu.lss rfl rfl) <| JLM rfl <| Zr 5 [63, 64, 65, 66, 67] [(67, cond (decide (num < 0)) undef (.bool (decide (m ≤ num))))] ?_ fun f49 => ?_)
  ·cases h48 : (decide (num < 0)) with
   | false =>
    replace h48 := df h48
    refine JLq (pp b2 1) (Z8 rfl rfl) <| JLr (Ze ty3 rfl (At.bx 0 rfl) (Ys ..) <| JLq (pp b1 0) (fa128_0 rfl rfl) <| JLr (Ze ty3 rfl (At.bx 1 rfl) rfl <| JLn (Pu.geq rfl rfl) ?_))
    exact Zb ⟨⟨rfl, trivial⟩, rfl⟩
   | true =>
    exact Zx rfl ⟨rfl, trivial⟩
  refine JLn (Pu.pickOr rfl rfl rfl) <| Zb <| Zg rfl (fun h50 => ?_) (fun h50 => ?_)
  ·refine Zc <| Za <| JLA rfl <| Zb <| Zj <| ⟨iv 1, [], Ret.one rfl (RV.tmp rfl), Sub.nil, ?_⟩
   exact ⟨by refine congrArg (Value.int .i64) ?_; simp only [Yx]; (repeat' split) <;> first | rfl | omega | (exfalso; simp_all; done) | (exfalso; simp_all; omega) | grind, rfl⟩
  obtain ⟨h50a, h50b⟩ := orF h50
  replace h50a := df h50a
  replace h50b := df h50b
  refine Zh <| Zc <| Zc <| Za <| JLq (pp b2 0) (ZL rfl rfl) <| JLr (Ze ty3 rfl (At.bx 0 rfl) (ZY ..) <| JLn (Pu.eql rfl rfl) <| JLM rfl <| Zr 3 [73, 74, 75] [(75, cond (decide (kind = 2)) undef (.bool (decide (kind = 8))))] ?_ fun f52 => ?_)
  ·cases h51 : (decide (kind = 2)) with
   | false =>
    replace h51 := df h51
    refine JLq (pp b2 0) (ZL rfl rfl) <| JLr (Ze ty3 rfl (At.bx 0 rfl) (ZY ..) <| JLn (Pu.eql rfl rfl) ?_)
    exact Zb ⟨⟨rfl, trivial⟩, rfl⟩
   | true =>
    exact Zx rfl ⟨rfl, trivial⟩
  refine JLn (Pu.pickOr rfl rfl rfl) <| JLM rfl <| Zr 3 [78, 79, 80] [(80, cond ((decide (kind = 2)) || (decide (kind = 8))) undef (.bool (decide (kind = 11))))] ?_ fun f54 => ?_
  ·cases h53 : ((decide (kind = 2)) || (decide (kind = 8))) with
   | false =>
    obtain ⟨h53a, h53b⟩ := orF h53
    replace h53a := df h53a
    replace h53b := df h53b
    refine JLq (pp b2 0) (ZL rfl rfl) <| JLr (Ze ty3 rfl (At.bx 0 rfl) (ZY ..) <| JLn (Pu.eql rfl rfl) ?_)
    exact Zb ⟨⟨rfl, trivial⟩, rfl⟩
   | true =>
    exact Zx rfl ⟨rfl, trivial⟩
  refine JLn (Pu.pickOr rfl rfl rfl) <| JLM rfl <| Zr 4 [83, 84, 85, 86] [(86, cond (((decide (kind = 2)) || (decide (kind = 8))) || (decide (kind = 11))) (.bool (decide (num < 0 ∨ 1073741824 < num))) undef)] ?_ fun f56 => ?_
  ·cases h55 : (((decide (kind = 2)) || (decide (kind = 8))) || (decide (kind = 11))) with
   | true =>
    refine JLq (pp b2 1) (Z8 rfl rfl) <| JLr (Ze ty3 rfl (At.bx 0 rfl) (Ys ..) <| JLM rfl <| Jc Tryz.call65 rfl (fun hin => YG _ _ _ _) rfl ?_)
    rintro _ _ ⟨rfl, rfl⟩
    exact Zb ⟨⟨rfl, trivial⟩, rfl⟩
   | false =>
    exact Zx rfl ⟨rfl, trivial⟩
  refine JLn (Pu.pickAnd rfl rfl rfl) <| Zb <| Zg rfl (fun h57 => ?_) (fun h57 => ?_)
  ·obtain ⟨h57a, h57b⟩ := Ym h57
   replace h57b := dt h57b
   refine Zc <| Za <| JLA rfl <| Zb <| Zj <| ⟨iv 3, [], Ret.one rfl (RV.tmp rfl), Sub.nil, ?_⟩
   exact ⟨by refine congrArg (Value.int .i64) ?_; simp only [Yx]; (repeat' split) <;> first | rfl | omega | (exfalso; simp_all; done) | (exfalso; simp_all; omega) | grind, rfl⟩
  refine Zh <| Zc <| Za <| JLA rfl <| Zb <| Zj <| ⟨iv 0, [], Ret.one rfl (RV.tmp rfl), Sub.nil, ?_⟩
  exact ⟨by refine congrArg (Value.int .i64) ?_; simp only [Yx]; (repeat' split) <;> first | rfl | omega | (exfalso; simp_all; done) | (exfalso; simp_all; omega) | grind, rfl⟩
 replace h47 := df h47
 refine Zh <| Zc <| Zc <| Za <| JLq (pp b2 0) (ZL rfl rfl) <| JLr (Ze ty3 rfl (At.bx 0 rfl) (ZY ..) <| JLn (Pu.eql rfl rfl) <| JLM rfl <| Zr 3 [73, 74, 75] [(75, cond (decide (kind = 2)) undef (.bool (decide (kind = 8))))] ?_ fun f59 => ?_)
 ·cases h58 : (decide (kind = 2)) with
  | false =>
   replace h58 := df h58
   refine JLq (pp b2 0) (ZL rfl rfl) <| JLr (Ze ty3 rfl (At.bx 0 rfl) (ZY ..) <| JLn (Pu.eql rfl rfl) ?_)
   exact Zb ⟨⟨rfl, trivial⟩, rfl⟩
  | true =>
   exact Zx rfl ⟨rfl, trivial⟩
 refine JLn (Pu.pickOr rfl rfl rfl) <| JLM rfl <| Zr 3 [78, 79, 80] [(80, cond ((decide (kind = 2)) || (decide (kind = 8))) undef (.bool (decide (kind = 11))))] ?_ fun f61 => ?_
 ·cases h60 : ((decide (kind = 2)) || (decide (kind = 8))) with
  | false =>
   obtain ⟨h60a, h60b⟩ := orF h60
   replace h60a := df h60a
   replace h60b := df h60b
   refine JLq (pp b2 0) (ZL rfl rfl) <| JLr (Ze ty3 rfl (At.bx 0 rfl) (ZY ..) <| JLn (Pu.eql rfl rfl) ?_)
   exact Zb ⟨⟨rfl, trivial⟩, rfl⟩
  | true =>
   exact Zx rfl ⟨rfl, trivial⟩
 refine JLn (Pu.pickOr rfl rfl rfl) <| JLM rfl <| Zr 4 [83, 84, 85, 86] [(86, cond (((decide (kind = 2)) || (decide (kind = 8))) || (decide (kind = 11))) (.bool (decide (num < 0 ∨ 1073741824 < num))) undef)] ?_ fun f63 => ?_
 ·cases h62 : (((decide (kind = 2)) || (decide (kind = 8))) || (decide (kind = 11))) with
  | true =>
   refine JLq (pp b2 1) (Z8 rfl rfl) <| JLr (Ze ty3 rfl (At.bx 0 rfl) (Ys ..) <| JLM rfl <| Jc Tryz.call65 rfl (fun hin => YG _ _ _ _) rfl ?_)
   rintro _ _ ⟨rfl, rfl⟩
   exact Zb ⟨⟨rfl, trivial⟩, rfl⟩
  | false =>
   exact Zx rfl ⟨rfl, trivial⟩
 refine JLn (Pu.pickAnd rfl rfl rfl) <| Zb <| Zg rfl (fun h64 => ?_) (fun h64 => ?_)
 ·obtain ⟨h64a, h64b⟩ := Ym h64
  replace h64b := dt h64b
  refine Zc <| Za <| JLA rfl <| Zb <| Zj <| ⟨iv 3, [], Ret.one rfl (RV.tmp rfl), Sub.nil, ?_⟩
  exact ⟨by refine congrArg (Value.int .i64) ?_; simp only [Yx]; (repeat' split) <;> first | rfl | omega | (exfalso; simp_all; done) | (exfalso; simp_all; omega) | grind, rfl⟩
 refine Zh <| Zc <| Za <| JLA rfl <| Zb <| Zj <| ⟨iv 0, [], Ret.one rfl (RV.tmp rfl), Sub.nil, ?_⟩
 exact ⟨by refine congrArg (Value.int .i64) ?_; simp only [Yx]; (repeat' split) <;> first | rfl | omega | (exfalso; simp_all; done) | (exfalso; simp_all; omega) | grind, rfl⟩
end Go.Proofs.YtkjafeejpmcnkaaGreat.Hs
/-! Walks, printed by a program of this session's own (gen.py). -/
namespace Go.Proofs.YtkjafeejpmcnkaaGreat.Hs
open Go Go.Proofs
set_option maxRecDepth 100000
set_option linter.unusedVariables false
set_option linter.unusedSimpArgs false
attribute [local irreducible] JL J CT wlo DT
theorem parts_ct (cs : List Value) (H : Heap) (hl : cs.length = 36) : CT Tryz.prog 117 ⟨[.agg ⟨cs⟩]⟩ [] H (fun v N => ∃ b, v = .func (.func 139) ⟨[]⟩ ⟨[pp b 0]⟩ ∧ N = [(BX b cs 30)]) := by
 refine Zm Tryz.func117 rfl rfl <| Zc <| Za <| JLr (Zp (l := cs) rfl rfl fun b1 => JLa .nilFunc <| Zb <| Zc <| Za <| JLq (.func (.func 139) ⟨[]⟩ ⟨[pp b1 0]⟩) (Pu.makeFunc rfl rfl) <| JLA rfl <| Zb <| Zj <| ⟨.func (.func 139) ⟨[]⟩ ⟨[pp b1 0]⟩, [(BX b1 cs 30)], Ret.one rfl (RV.tmp rfl), (Sk Sub.nil), ?_⟩)
 exact ⟨_, rfl, rfl⟩
theorem parts1_ct (kind num : Int) (ref : Sm) (ks cv : Value) (kids : List Tm) (cases : List (Pt × Tm)) (H : Heap) (bT : Nat) (hks : rdS RT 36 H ks kids) (hcv : rdS RC 71 H cv cases) (hT : H bT = some (.cells ⟨pkT kind num ref ks cv⟩ 30 (0, 0))) (hsz : ∀ c ∈ cases, binds c.1 ≤ 1000000) (hkl : kids.length ≤ 1000000) (hcl : cases.length ≤ 1000000) (l : Nat) {σ : Type} (yc : σ → Zi) (Inv : σ → Prop) (step : Tm → Int → σ → Bool × σ) (s0 : σ) (h0 : Inv s0) (It : Tm → Int → Prop) (hIK : ∀ (j : Nat) (hj : j < kids.length), It kids[j] (Z4 kind j)) (hIC : ∀ (j : Nat) (hj : j < cases.length), It cases[j].2 (binds cases[j].1 : Int)) (hI : ∀ x mo s, Inv s → (step x mo s).1 = true → Inv (step x mo s).2) (hy : ∀ x mo, It x mo → ∀ s (i : Int) a h, Inv s → Hle H h → RT h a x → YT Tryz.prog l ⟨[iv i, .agg ⟨a ++ [iv mo]⟩]⟩ [yc s] h (fun v N => v = .bool (step x mo s).1 ∧ N = [yc (step x mo s).2])) : CT Tryz.prog 139 ⟨[.func (.yield l) ⟨[]⟩ ⟨[]⟩, pp bT 0]⟩ [yc s0] H (fun _ N => N = [yc (yP step kind kids cases s0)]) := by
 refine Zm Tryz.func139 rfl rfl <| Zc <| Zc <| Za <| JLq (pp bT 34) (Ye rfl rfl) <| JLr (Ze ty27 rfl (At.im hT) (Ya ..) ?_)
 obtain ⟨a1, cap1, hv1⟩ := hks.sl
 have hle1 := hks.le
 refine JLn (Pu.lenSl Tryz.runUnderlying27 hv1) <| JLM rfl <| Zb <| Zo <| ZN (fun k ρ M => ∃ (j : Nat) (s : σ), ρ 0 = .func (.yield l) ⟨[]⟩ ⟨[]⟩ ∧ ρ 1 = pp bT 0 ∧ ρ 8 = ks ∧ ρ 9 = iv ((kids.length : Int)) ∧ ρ 10 = iv ((j : Int)) ∧ Sub [yc s] M ∧ j ≤ kids.length ∧ Inv s ∧ yK step kind j (kids.drop j) s = yK step kind 0 kids s0 ∧ k = kids.length - j) _ ⟨0, s0, rfl, rfl, rfl, rfl, rfl, (Sk Sub.nil), Nat.zero_le _, h0, rfl, rfl⟩ ?_
 rintro _ ρ2 _ ⟨j, s, e3, e4, e5, e6, e7, hm8, hj, hs, hinv, rfl⟩
 obtain ⟨ρ9, rfl⟩ := Zs (uc e3 (uc e4 (uc e5 (uc e6 (uc e7 un)))))
 clear e3 e4 e5 e6 e7
 refine ZX hm8 ?_
 have hlen := hks.le
 refine Zc <| Za <| JLn (Pu.lss rfl rfl) <| Zb <| Zc <| Zg rfl (fun h10 => ?_) (fun h10 => ?_)
 ·replace h10 := dt h10
  have h10n : j < kids.length := by omega
  refine Zh <| Zc <| Zo <| Zc <| Za <| JLM rfl ?_
  obtain ⟨b11, o11, cap11, row11, T11, fr11, cs11, hv11, hb11, hs11, hE11⟩ := hks.get j (by first | assumption | omega | decide | simp)
  refine JLq (pp b11 (o11 + j * 36)) (Pu.idx j Tryz.runUnderlying27 Zt hv11 rfl rfl (by first | assumption | omega | decide | simp)) <| JLr (Zl Zt rfl (At.im hb11) hs11 <| JLr (Zk (l := pkT 0 0 zS nS nS) Tryz.zeroValue30 rfl fun b12 => JLA rfl <| JLr (Zd 0 (vs := cs11) (l := cs11) Zt rfl rfl rfl rfl (Zw hE11) (RT_ok hE11) (ZI (n := 36) rfl (Zw hE11)) <| Zb <| Zc <| Zy mixed #[0, 0, 0, 0, 8, 0, 56, 124, 255, 511] 8 [some 15, some 16, some 17, some 18, some 19, some 20, some 21, some 22] [] [(6, fun _ _ vw qw => vw = iv (Z4 kind ((j : Int))) ∧ qw = [])] rfl (by kernel_rfl) rfl (by kernel_rfl) <| DM (fun _ => rfl) <| DM (fun _ => rfl) <| Dl Zt (At.bx 0 rfl) (Zu (Zw hE11)) <| Dq (pp bT 0) (fun _ => ZL rfl rfl) <| Dl1 ty3 (At.im hT) (ZY ..) ?_)))
  refine DM (fun _ => rfl) <| Dc rfl Tryz.call105 (fun _ => rfl) (fun hin => more_ct _ _ _) ?_
  rintro _ _ ⟨rfl, rfl⟩
  refine Dq (.agg ⟨cs11 ++ ([iv (Z4 kind ((j : Int)))] : List Value)⟩) (fun _ => Pu.build (pv := [(0, .agg ⟨cs11⟩), (1, iv (Z4 kind ((j : Int))))]) (l := cs11 ++ ([iv (Z4 kind ((j : Int)))] : List Value)) rfl (bld175_0_1 (Zw hE11))) <| ZH (M' := [(BX b12 cs11 30), yc s]) rfl ?_
  show JL _ _ _ [_, _] _ _ _
  refine JL_yield1 1 rfl rfl rfl (fun hin => hy _ _ (hIK j h10n) _ _ _ _ hs (Hle.hu _ _) (RT.mono (Hle.hu _ _) hE11)) rfl ?_
  rintro _ _ ⟨rfl, rfl⟩
  refine JLn (Pu.not rfl) <| Zb <| Zg rfl (fun h13 => ?_) (fun h13 => ?_)
  ·replace h13 := nt h13
   refine Zj <| ⟨.tuple ⟨[]⟩, [yc (step (kids[j]) (Z4 kind ((j : Int))) s).2], Ret.none rfl, (Sk Sub.nil), ?_⟩
   rw [ZW h10n, yK, if_neg (by simp [h13])] at hinv
   show _ = _; rw [yP, ← hinv]; rfl
  replace h13 := nf h13
  refine Zh <| Za <| JLn (Pu.inc rfl rfl (by omega)) <| JLM rfl <| Zb <| ⟨_, ?_, (j + 1), ((step (kids[j]) (Z4 kind ((j : Int))) s).2), rfl, rfl, rfl, rfl, rfl, (Sk Sub.nil), ?_, ?_, ?_, rfl⟩
  ·omega
  ·omega
  ·exact hI _ _ s hs h13
  rw [ZW h10n, yK, if_pos h13] at hinv; exact hinv
 replace h10 := df h10
 have h10n : kids.length ≤ j := by omega
 refine Zz _ rfl <| Zc <| Za <| JLq (pp bT 35) (Z0 rfl rfl) <| JLr (Ze Y2 rfl (At.im hT) (ZZ ..) ?_)
 obtain ⟨a14, cap14, hv14⟩ := hcv.sl
 have hle14 := hcv.le
 refine JLn (Pu.lenSl Tryz.runUnderlying28 hv14) <| JLM rfl <| Zb <| Zo ?_
 have hk1 : yK step kind 0 kids s0 = (true, s) := by rw [← hinv, YZ h10n]; rfl
 refine ZN (fun k ρ M => ∃ (j : Nat) (s2 : σ), ρ 0 = .func (.yield l) ⟨[]⟩ ⟨[]⟩ ∧ ρ 1 = pp bT 0 ∧ ρ 27 = cv ∧ ρ 28 = iv ((cases.length : Int)) ∧ ρ 29 = iv ((j : Int)) ∧ Sub [yc s2] M ∧ j ≤ cases.length ∧ Inv s2 ∧ yC step (cases.drop j) s2 = yC step cases s ∧ k = cases.length - j) _ ⟨0, s, rfl, rfl, rfl, rfl, rfl, (Sk Sub.nil), Nat.zero_le _, hs, rfl, rfl⟩ ?_
 rintro _ ρ15 _ ⟨j, s2, e16, e17, e18, e19, e20, hm21, hj, hs, hinv, rfl⟩
 obtain ⟨ρ22, rfl⟩ := Zs (uc e16 (uc e17 (uc e18 (uc e19 (uc e20 un)))))
 clear e16 e17 e18 e19 e20
 refine ZX hm21 ?_
 have hlen := hcv.le
 refine Zc <| Za <| JLn (Pu.lss rfl rfl) <| Zb <| Zc <| Zg rfl (fun h23 => ?_) (fun h23 => ?_)
 ·replace h23 := dt h23
  have h23n : j < cases.length := by omega
  have hbm := hsz _ (List.getElem_mem h23n)
  have hlenk := hks.le
  refine Zh <| Zc <| Zo <| Zc <| Za <| JLM rfl ?_
  obtain ⟨b24, o24, cap24, row24, T24, fr24, cs24, hv24, hb24, hs24, hE24⟩ := hcv.get j (by first | assumption | omega | decide | simp)
  obtain ⟨ca24, cb24, rfl, hA24, hB24⟩ := hE24
  refine JLq (pp b24 (o24 + j * 71)) (Pu.idx j Tryz.runUnderlying28 Xk hv24 rfl rfl (by first | assumption | omega | decide | simp)) <| JLr (Zl Xk rfl (At.im hb24) hs24 <| JLr (Zk (l := (pkP 0 0 zS nS) ++ (pkT 0 0 zS nS nS)) Tryz.zeroValue86 rfl fun b25 => JLA rfl <| JLr (Zd 0 (vs := ca24 ++ cb24) (l := ca24 ++ cb24) Xk rfl rfl rfl rfl (Yg (ZT hA24) (Zw hB24)) (Yk (RP_ok hA24) (RT_ok hB24)) (ZI (n := 71) rfl (Yg (ZT hA24) (Zw hB24))) <| Zb <| Zc <| Zy mixed #[0, 0, 2, 6, 0, 30, 0, 64, 0, 256, 768, 1984, 4095, 8191] 12 [some 34, some 35, some 36, some 37, some 38, some 39, some 40, some 41, some 42, some 43, some 44, some 45] [] [(10, fun _ _ vw qw => vw = iv ((binds (cases[j].1) : Int)) ∧ qw = [])] rfl (by kernel_rfl) rfl (by kernel_rfl) <| DM (fun _ => rfl) <| Dq (pp bT 34) (fun _ => Ye rfl rfl) <| Dl1 ty27 (At.im hT) (Ya ..) ?_)))
  obtain ⟨a27, cap27, hv27⟩ := hks.sl
  have hle27 := hks.le
  refine Dn (fun _ => Pu.lenSl Tryz.runUnderlying27 hv27) <| DM (fun _ => rfl) ?_
  refine Dn (fun _ => Pu.add64 rfl rfl (by first | omega | (constructor <;> omega))) <| Dq (pp b25 35) (fun _ => fa86_1 rfl rfl) <| Dl Zt (At.bx 0 rfl) (sub_r (ZT hA24) (Zw hB24)) <| Dq (pp b25 0) (fun _ => fa86_0 rfl rfl) <| Dl Z7 (At.bx 0 rfl) (sub_l (ZT hA24)) ?_
  refine Dc rfl Tryz.call107 (fun _ => rfl) (fun hin => binds_ct _ _ _ (RP.mono (Hle.hu _ _) hA24) (by omega)) ?_
  rintro _ _ ⟨rfl, rfl⟩
  refine Dq (.agg ⟨cb24 ++ ([iv ((binds (cases[j].1) : Int))] : List Value)⟩) (fun _ => Pu.build (pv := [(0, .agg ⟨cb24⟩), (1, iv ((binds (cases[j].1) : Int)))]) (l := cb24 ++ ([iv ((binds (cases[j].1) : Int))] : List Value)) rfl (bld175_0_1 (Zw hB24))) <| ZH (M' := [(BX b25 (ca24 ++ cb24) 86), yc s2]) rfl ?_
  show JL _ _ _ [_, _] _ _ _
  refine JL_yield1 1 rfl rfl rfl (fun hin => hy _ _ (hIC j h23n) _ _ _ _ hs (Hle.hu _ _) (RT.mono (Hle.hu _ _) hB24)) rfl ?_
  rintro _ _ ⟨rfl, rfl⟩
  refine JLn (Pu.not rfl) <| Zb <| Zg rfl (fun h28 => ?_) (fun h28 => ?_)
  ·replace h28 := nt h28
   refine Zj <| ⟨.tuple ⟨[]⟩, [yc (step (cases[j].2) ((binds (cases[j].1) : Int)) s2).2], Ret.none rfl, (Sk Sub.nil), ?_⟩
   rw [ZW h23n, yC, if_neg (by simp [h28])] at hinv
   show _ = _; rw [yP, hk1, if_pos rfl, ← hinv]
  replace h28 := nf h28
  refine Zh <| Za <| JLn (Pu.inc rfl rfl (by omega)) <| JLM rfl <| Zb <| ⟨_, ?_, (j + 1), ((step (cases[j].2) ((binds (cases[j].1) : Int)) s2).2), rfl, rfl, rfl, rfl, rfl, (Sk Sub.nil), ?_, ?_, ?_, rfl⟩
  ·omega
  ·omega
  ·exact hI _ _ s2 hs h28
  rw [ZW h23n, yC, if_pos h28] at hinv; exact hinv
 replace h23 := df h23
 have h23n : cases.length ≤ j := by omega
 refine Zz _ rfl <| ⟨.tuple ⟨[]⟩, [yc s2], Ret.none rfl, (Sk Sub.nil), ?_⟩
 show _ = _; rw [yP, hk1, if_pos rfl, ← hinv, YZ h23n]; rfl
end Go.Proofs.YtkjafeejpmcnkaaGreat.Hs
