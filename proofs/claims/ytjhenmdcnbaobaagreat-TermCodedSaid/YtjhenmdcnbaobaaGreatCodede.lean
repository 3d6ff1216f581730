import Derived.Test.YtjhenmdcnbaobaaGreatCodedd
import Derived.KernelRfl
import Derived.Stop.BytesEq
/-! Building structs; digests compared. Generic: no program is named. -/
namespace Go.Proofs.YtjhenmdcnbaobaaGreat.Hs
open Go

theorem ZF {P : Program} {t : TypeId} {fields : Array Field} {z : Value} {pl : Array (Nat × Nat)} {parts : List (Nat × Value)} {cells : List Value} (hz : ∀ w, (zeroValue t).run P w = .ok z w) (hu : ∀ w, (underlying t).run P w = .ok (.struct fields) w)
    (hpl : ∀ w, (fields.mapM fun f => (do pure (f.offset, ← Go.sizeOf f.type) : Sem (Nat × Nat))).run P w = .ok pl w) (hf : Instr.fill (pl[·]?) z.cells parts = some ⟨cells⟩) :
    ∀ w, (Instr.build t ⟨parts⟩).run P w = .ok (.agg ⟨cells⟩) w := fun w => by
  simp only [Instr.build, Sem.run_bind, hz, Result.andThen_ok, hu, hpl, hf, Sem.run_pure]

theorem run_buildA {P : Program} {t el n sz : Nat} {z : Value} {parts : List (Nat × Value)} {cells : List Value} (hz : ∀ w, (zeroValue t).run P w = .ok z w) (hu : ∀ w, (underlying t).run P w = .ok (.array n el) w)
    (hs : ∀ w, (Go.sizeOf el).run P w = .ok sz w) (hf : Instr.fill (fun i => some (i * sz, sz)) z.cells parts = some ⟨cells⟩) :
    ∀ w, (Instr.build t ⟨parts⟩).run P w = .ok (.agg ⟨cells⟩) w := fun w => by
  simp only [Instr.build, Sem.run_bind, hz, Result.andThen_ok, hu, hs, hf, Sem.run_pure]

theorem fill_cons {place : Nat → Option (Nat × Nat)} {i off sz : Nat} {v : Value} {l pre mid post : List Value} {rest : List (Nat × Value)} {r : Option (Array Value)} (hp : place i = some (off, sz)) (hv : v.cells = ⟨l⟩) (hl : l.length = sz)
    (h1 : pre.length = off) (h2 : mid.length = sz) (h : Instr.fill place ⟨pre ++ (l ++ post)⟩ rest = r) : Instr.fill place ⟨pre ++ (mid ++ post)⟩ ((i, v) :: rest) = r := by
  subst h
  have hsz : v.cells.size = sz := by rw [hv]; simpa using hl
  simp only [Instr.fill, hp]
  rw [hsz]
  have hc : (decide (sz ≠ sz) || decide (off + sz > (⟨pre ++ (mid ++ post)⟩ : Array Value).size)) = false := by
    simp [h1, h2]
  rw [hc]
  simp only [Bool.false_eq_true, if_false]
  have hf := foldl_set v.cells.toList ⟨pre ++ (mid ++ post)⟩ off 0 (by simp [hv, hl, h1, h2])
  have hz : v.cells.zipIdx.foldl (fun (cs : Array Value) (p : Value × Nat) => cs.setIfInBounds (off + p.2) p.1) (⟨pre ++ (mid ++ post)⟩ : Array Value) = ⟨pre ++ (l ++ post)⟩ := by
    rw [← Array.foldl_toList, Array.toList_zipIdx, hf]
    simp only [Nat.add_zero, hv, hl, ← h1]
    congr 1
    rw [List.take_left, ← List.drop_drop, List.drop_left, ← h2, List.drop_left]
  exact congrArg (fun q => Instr.fill place q rest) hz

section
variable {P : Program} {e : Operand → Value} {d : Option Nat} {ot : TypeId} {pos : String} {af : Array Edge} {g : Option (Nat × Bool)} {T T' : TypeId} {x y : Operand}

theorem sC_map (r : Sm) : sC r = r.toList.map Extern.Stop.cell := by
  apply List.ext_getElem
  · simp [sC_len]
  · intro i h1 h2
    have h3 : i < 32 := h1
    have h := sC_get r i h3
    rw [List.getElem?_eq_getElem h1] at h
    rw [Option.some.inj h]
    simp [Extern.Stop.cell]

theorem Pu_eqlSum {E : TypeId} (hm : P.eqGuardType P.depth T = false) (hT : P.underlying T = some (.array 32 E)) (hE : P.underlying E = some (.int .u8)) (hsz : ∀ w, (Go.sizeOf E).run P w = .ok 1 w) {r s : Sm} (hx : e x = .agg ⟨sC r⟩) (hy : e y = .agg ⟨sC s⟩) :
    Pu P e ⟨d, .binOp .eql T x y T', ot, pos, af, g⟩ (.bool (decide (r = s))) := fun w => by
  have h := run_eql_bytes (P := P) w T E 32 hT hE hsz r.toList s.toList (by simp) (by simp)
  have hg := run_eqGuard_agg (P := P) w .eql T x y ⟨sC r⟩ ⟨sC s⟩ hm
  rw [← sC_map, ← sC_map] at h
  have hd : (r.toList == s.toList) = decide (r = s) := by
    rw [Bool.eq_iff_iff]; simp
  rw [hd] at h
  simp only [execOp, hx, hy, Sem.run_bind, hg, Result.andThen_ok]
  rw [h]; rfl
theorem Pu_neqSum {E : TypeId} (hm : P.eqGuardType P.depth T = false) (hT : P.underlying T = some (.array 32 E)) (hE : P.underlying E = some (.int .u8)) (hsz : ∀ w, (Go.sizeOf E).run P w = .ok 1 w) {r s : Sm} (hx : e x = .agg ⟨sC r⟩) (hy : e y = .agg ⟨sC s⟩) :
    Pu P e ⟨d, .binOp .neq T x y T', ot, pos, af, g⟩ (.bool (!decide (r = s))) := fun w => by
  have h := run_equalIn_bytes (P := P) w 9998 T E 32 hT hE hsz r.toList s.toList (by simp) (by simp)
  have hg := run_eqGuard_agg (P := P) w .neq T x y ⟨sC r⟩ ⟨sC s⟩ hm
  rw [← sC_map, ← sC_map] at h
  have hd : (r.toList == s.toList) = decide (r = s) := by
    rw [Bool.eq_iff_iff]; simp
  rw [hd] at h
  simp only [execOp, hx, hy, Sem.run_bind, hg, Result.andThen_ok]
  rw [run_neq_struct]
  simp [h]

theorem run_equalIn_b3 {T E : TypeId} (d : Nat) (w : World) (hT : P.underlying T = some (.array 3 E)) (hE : P.underlying E = some .bool) (hsz : ∀ w, (Go.sizeOf E).run P w = .ok 1 w) (a b c a' b' c' : Bool) :
    (Op.equalIn (d + 2) T (.agg #[.bool a, .bool b, .bool c]) (.agg #[.bool a', .bool b', .bool c'])).run P w = .ok (a == a' && (b == b' && c == c')) w := by
  have hb : ∀ x y : Bool, (Op.equalIn (d + 1) E (.bool x) (.bool y)).run P w = .ok (x == y) w := fun x y => run_equalIn_bool d w (fun _ => run_underlying hE _)
  rw [Op.equalIn]
  have p0 : ∀ (x y z : Bool), (part E #[.bool x, .bool y, .bool z] (0 * 1)).run P w = .ok (.bool x) w := fun x y z => by simp [part, isAgg, run_underlying hE]
  have p1 : ∀ (x y z : Bool), (part E #[.bool x, .bool y, .bool z] (1 * 1)).run P w = .ok (.bool y) w := fun x y z => by simp [part, isAgg, run_underlying hE]
  have p2 : ∀ (x y z : Bool), (part E #[.bool x, .bool y, .bool z] ((1 + 1) * 1)).run P w = .ok (.bool z) w := fun x y z => by simp [part, isAgg, run_underlying hE]
  simp only [Sem.run_bind, run_underlying hT, Result.andThen_ok, hsz, Std.Legacy.Range.forIn_eq_forIn_range', Std.Legacy.Range.size, Nat.sub_zero, Nat.add_sub_cancel, Nat.div_one, List.range'_succ, List.range'_zero, List.forIn_cons, List.forIn_nil, Nat.zero_add, p0, hb]
  cases a <;> cases a' <;> cases b <;> cases b' <;> cases c <;> cases c' <;> simp [p1, p2, hb]

theorem Pu_neqB3 {E : TypeId} (hm : P.eqGuardType P.depth T = false) (hT : P.underlying T = some (.array 3 E)) (hE : P.underlying E = some .bool) (hsz : ∀ w, (Go.sizeOf E).run P w = .ok 1 w) {a b c a' b' c' : Bool}
    (hx : e x = .agg ⟨[.bool a, .bool b, .bool c]⟩) (hy : e y = .agg ⟨[.bool a', .bool b', .bool c']⟩) : Pu P e ⟨d, .binOp .neq T x y T', ot, pos, af, g⟩ (.bool (!(a == a' && (b == b' && c == c')))) := fun w => by
  have hg := run_eqGuard_agg (P := P) w .neq T x y ⟨[.bool a, .bool b, .bool c]⟩ ⟨[.bool a', .bool b', .bool c']⟩ hm
  simp only [execOp, hx, hy, Sem.run_bind]
  rw [hg, Result.andThen_ok, run_neq_struct, run_equalIn_b3 9998 w hT hE hsz]
  rfl
end
end Go.Proofs.YtjhenmdcnbaobaaGreat.Hs
/-! Patterns and terms that are owned: rows of their own, one for each list. -/
namespace Go.Proofs.YtjhenmdcnbaobaaGreat.Hs
open Go

mutual
def OP : Pt → List Value → Zh → Prop
  | .mk k n r kids, cs, c => ∃ ks es k1 k2, cs = pkP k n r ks ∧ inI k ∧ inI n ∧ Own 85 35 ks es k1 ∧ OPs kids es k2 ∧ c = k1 ++ k2 ∧ kids.length ≤ 9223372036854775807
def OPs : List Pt → List (List Value) → Zh → Prop
  | [], es, c => es = [] ∧ c = []
  | p :: ps, es, c => ∃ e es' k k', es = e :: es' ∧ OP p e k ∧ OPs ps es' k' ∧ c = k ++ k'
end

mutual
def OT : Tm → List Value → Zh → Prop
  | .mk k n r kids cases, cs, c => ∃ ks cv es es' k1 k2 k3 k4, cs = pkT k n r ks cv ∧ inI k ∧ inI n ∧ Own 28 36 ks es k1 ∧ OTs kids es k2 ∧ Own 87 71 cv es' k3 ∧ OCs cases es' k4 ∧ c = k1 ++ (k2 ++ (k3 ++ k4)) ∧
      kids.length ≤ 9223372036854775807 ∧ cases.length ≤ 9223372036854775807
def OTs : List Tm → List (List Value) → Zh → Prop
  | [], es, c => es = [] ∧ c = []
  | p :: ps, es, c => ∃ e es' k k', es = e :: es' ∧ OT p e k ∧ OTs ps es' k' ∧ c = k ++ k'
def OCs : List (Pt × Tm) → List (List Value) → Zh → Prop
  | [], es, c => es = [] ∧ c = []
  | (p, t) :: ps, es, c => ∃ a b es' ka kb k', es = (a ++ b) :: es' ∧ OP p a ka ∧ OT t b kb ∧ OCs ps es' k' ∧ c = ka ++ (kb ++ k')
end

theorem OP_mk {k n : Int} {r : Sm} {kids : List Pt} {cs : List Value} {c : Zh} : OP (.mk k n r kids) cs c ↔ ∃ ks es k1 k2, cs = pkP k n r ks ∧ inI k ∧ inI n ∧ Own 85 35 ks es k1 ∧ OPs kids es k2 ∧ c = k1 ++ k2 ∧ kids.length ≤ 9223372036854775807 := by
  rw [OP]
theorem OT_mk {k n : Int} {r : Sm} {kids : List Tm} {cases : List (Pt × Tm)} {cs : List Value} {c : Zh} : OT (.mk k n r kids cases) cs c ↔ ∃ ks cv es es' k1 k2 k3 k4, cs = pkT k n r ks cv ∧ inI k ∧ inI n ∧ Own 28 36 ks es k1 ∧ OTs kids es k2 ∧ Own 87 71 cv es' k3 ∧ OCs cases es' k4 ∧ c = k1 ++ (k2 ++ (k3 ++ k4)) ∧
      kids.length ≤ 9223372036854775807 ∧ cases.length ≤ 9223372036854775807 := by
  rw [OT]

theorem OPs_len {l : List Pt} : ∀ {es c}, OPs l es c → es.length = l.length := by
  induction l with
  | nil => rintro es c h; rw [OPs] at h; rw [h.1]; rfl
  | cons p l ih => intro es c h; rw [OPs] at h; obtain ⟨e, es', k, k', rfl, _, h, _⟩ := h; simp [ih h]
theorem OTs_len {l : List Tm} : ∀ {es c}, OTs l es c → es.length = l.length := by
  induction l with
  | nil => rintro es c h; rw [OTs] at h; rw [h.1]; rfl
  | cons p l ih => intro es c h; rw [OTs] at h; obtain ⟨e, es', k, k', rfl, _, h, _⟩ := h; simp [ih h]
theorem OCs_len {l : List (Pt × Tm)} : ∀ {es c}, OCs l es c → es.length = l.length := by
  induction l with
  | nil => rintro es c h; rw [OCs] at h; rw [h.1]; rfl
  | cons p l ih => intro es c h; obtain ⟨p, t⟩ := p; rw [OCs] at h; obtain ⟨a, b, es', ka, kb, k', rfl, _, _, h, _⟩ := h; simp [ih h]

theorem OPs.nil : OPs [] [] [] := by rw [OPs]; exact ⟨rfl, rfl⟩
theorem OTs.nil : OTs [] [] [] := by rw [OTs]; exact ⟨rfl, rfl⟩
theorem OCs.nil : OCs [] [] [] := by rw [OCs]; exact ⟨rfl, rfl⟩
theorem OPs.snoc {l : List Pt} {p : Pt} {e : List Value} {k : Zh} (h' : OP p e k) : ∀ {es c}, OPs l es c → OPs (l ++ [p]) (es ++ [e]) (c ++ k) := by
  induction l with
  | nil => intro es c h; rw [OPs] at h; rw [h.1, h.2]; simp only [List.nil_append]; rw [OPs]; exact ⟨e, [], k, [], rfl, h', OPs.nil, by simp⟩
  | cons q l ih =>
    intro es c h
    rw [OPs] at h
    obtain ⟨f, es', k1, k2, rfl, h1, h2, rfl⟩ := h
    simp only [List.cons_append]
    rw [OPs]
    exact ⟨f, _, k1, _, rfl, h1, ih h2, by rw [List.append_assoc]⟩
theorem OTs.snoc {l : List Tm} {p : Tm} {e : List Value} {k : Zh} (h' : OT p e k) : ∀ {es c}, OTs l es c → OTs (l ++ [p]) (es ++ [e]) (c ++ k) := by
  induction l with
  | nil => intro es c h; rw [OTs] at h; rw [h.1, h.2]; simp only [List.nil_append]; rw [OTs]; exact ⟨e, [], k, [], rfl, h', OTs.nil, by simp⟩
  | cons q l ih =>
    intro es c h
    rw [OTs] at h
    obtain ⟨f, es', k1, k2, rfl, h1, h2, rfl⟩ := h
    simp only [List.cons_append]
    rw [OTs]
    exact ⟨f, _, k1, _, rfl, h1, ih h2, by rw [List.append_assoc]⟩
theorem OCs.snoc {l : List (Pt × Tm)} {p : Pt} {t : Tm} {a b : List Value} {ka kb : Zh} (hp : OP p a ka) (ht : OT t b kb) : ∀ {es c}, OCs l es c → OCs (l ++ [(p, t)]) (es ++ [a ++ b]) (c ++ (ka ++ kb)) := by
  induction l with
  | nil => intro es c h; rw [OCs] at h; rw [h.1, h.2]; simp only [List.nil_append]; rw [OCs]; exact ⟨a, b, [], ka, kb, [], rfl, hp, ht, OCs.nil, by simp⟩
  | cons q l ih =>
    intro es c h
    obtain ⟨q, u⟩ := q
    rw [OCs] at h
    obtain ⟨a', b', es', k1, k2, k3, rfl, h1, h2, h3, rfl⟩ := h
    simp only [List.cons_append]
    rw [OCs]
    exact ⟨a', b', _, k1, k2, _, rfl, h1, h2, ih h3, by simp only [List.append_assoc]⟩

theorem OP.len {p : Pt} {cs : List Value} {c : Zh} (h : OP p cs c) : cs.length = 35 := by cases p; obtain ⟨_, _, _, _, rfl, _⟩ := OP_mk.1 h; rfl
theorem OT.len {t : Tm} {cs : List Value} {c : Zh} (h : OT t cs c) : cs.length = 36 := by cases t; obtain ⟨_, _, _, _, _, _, _, _, rfl, _⟩ := OT_mk.1 h; rfl
theorem OP.ok {p : Pt} {cs : List Value} {c : Zh} (h : OP p cs c) : okc cs := by cases p; obtain ⟨_, _, _, _, rfl, _, _, h, _⟩ := OP_mk.1 h; exact Xl h.one
theorem OT.ok {t : Tm} {cs : List Value} {c : Zh} (h : OT t cs c) : okc cs := by cases t; obtain ⟨_, _, _, _, _, _, _, _, rfl, _, _, h, _, h', _⟩ := OT_mk.1 h; exact ZC h.one h'.one

theorem Has.left {a b : Zh} {h : Heap} (x : Has (a ++ b) h) : Has a h := fun i o hi => x i o (List.mem_append.2 (.inl hi))
theorem Has.right {a b : Zh} {h : Heap} (x : Has (a ++ b) h) : Has b h := fun i o hi => x i o (List.mem_append.2 (.inr hi))
theorem Has.nil {h : Heap} : Has [] h := fun _ _ hi => by cases hi

theorem OPs_rows {h : Heap} {l : List Pt} (ih : ∀ p ∈ l, ∀ cs c, OP p cs c → Has c h → RP h cs p) : ∀ {es c}, OPs l es c → Has c h → ∀ i (h1 : i < es.length) (h2 : i < l.length), RP h es[i] l[i] := by
  induction l with
  | nil => intro es c _ _ i _ h2; exact absurd h2 (by simp)
  | cons p l ih' =>
    intro es c ho hh i h1 h2
    rw [OPs] at ho
    obtain ⟨e, es', k, k', rfl, hp, hs, rfl⟩ := ho
    cases i with
    | zero => exact ih p (by simp) e k hp hh.left
    | succ i => exact ih' (fun q hq => ih q (by simp [hq])) hs hh.right i (by simpa using h1) (by simpa using h2)
theorem OTs_rows {h : Heap} {l : List Tm} (ih : ∀ p ∈ l, ∀ cs c, OT p cs c → Has c h → RT h cs p) : ∀ {es c}, OTs l es c → Has c h → ∀ i (h1 : i < es.length) (h2 : i < l.length), RT h es[i] l[i] := by
  induction l with
  | nil => intro es c _ _ i _ h2; exact absurd h2 (by simp)
  | cons p l ih' =>
    intro es c ho hh i h1 h2
    rw [OTs] at ho
    obtain ⟨e, es', k, k', rfl, hp, hs, rfl⟩ := ho
    cases i with
    | zero => exact ih p (by simp) e k hp hh.left
    | succ i => exact ih' (fun q hq => ih q (by simp [hq])) hs hh.right i (by simpa using h1) (by simpa using h2)

theorem OP.rd {h : Heap} {p : Pt} : ∀ {cs c}, OP p cs c → Has c h → RP h cs p := by
  induction p using Pt.ind with
  | h k n r kids ih =>
    intro cs c ho hh
    obtain ⟨ks, es, k1, k2, rfl, hk, hn, ho1, ho2, rfl, hl⟩ := OP_mk.1 ho
    exact RP_mk.2 ⟨ks, rfl, hk, hn, ho1.rdS (OPs_len ho2).symm hl hh.left (OPs_rows (fun p hp cs c => ih p hp) ho2 hh.right)⟩

theorem OCs_rows {h : Heap} {l : List (Pt × Tm)} (ih : ∀ p ∈ l, ∀ cs c, OT p.2 cs c → Has c h → RT h cs p.2) : ∀ {es c}, OCs l es c → Has c h → ∀ i (h1 : i < es.length) (h2 : i < l.length), RC h es[i] l[i] := by
  induction l with
  | nil => intro es c _ _ i _ h2; exact absurd h2 (by simp)
  | cons p l ih' =>
    intro es c ho hh i h1 h2
    obtain ⟨p, t⟩ := p
    rw [OCs] at ho
    obtain ⟨a, b, es', ka, kb, k', rfl, hp, ht, hs, rfl⟩ := ho
    cases i with
    | zero => exact ⟨a, b, rfl, hp.rd hh.left, ih (p, t) (by simp) b kb ht hh.right.left⟩
    | succ i => exact ih' (fun q hq => ih q (by simp [hq])) hs hh.right.right i (by simpa using h1) (by simpa using h2)

theorem OT.rd {h : Heap} {t : Tm} : ∀ {cs c}, OT t cs c → Has c h → RT h cs t := by
  induction t using Tm.ind with
  | h k n r kids cases ih ih' =>
    intro cs c ho hh
    obtain ⟨ks, cv, es, es', k1, k2, k3, k4, rfl, hk, hn, ho1, ho2, ho3, ho4, rfl, hl, hl'⟩ := OT_mk.1 ho
    exact RT_mk.2 ⟨ks, cv, rfl, hk, hn, ho1.rdS (OTs_len ho2).symm hl hh.left (OTs_rows (fun p hp cs c => ih p hp) ho2 hh.right.left),
      ho3.rdS (OCs_len ho4).symm hl' hh.right.right.left (OCs_rows (fun p hp cs c => ih' p hp) ho4 hh.right.right.right)⟩

theorem Sub.join {a b : Zh} {R M : List Zh} (h : Sub (a :: b :: R) M) : Sub ((a ++ b) :: R) M := h.flat (by simp)
theorem Sub.emp {R M : List Zh} (h : Sub R M) : Sub ([] :: R) M := h.flat (by simp)

theorem OT_leaf {k n : Int} {r : Sm} (hk : inI k) (hn : inI n) : OT (.mk k n r [] []) (pkT k n r (.slice none 0 0) (.slice none 0 0)) [] :=
  OT_mk.2 ⟨_, _, [], [], [], [], [], [], rfl, hk, hn, Own.nil, OTs.nil, Own.nil, OCs.nil, rfl, by simp, by simp⟩
theorem OP_leaf {k n : Int} {r : Sm} (hk : inI k) (hn : inI n) : OP (.mk k n r []) (pkP k n r (.slice none 0 0)) [] :=
  OP_mk.2 ⟨_, [], [], [], rfl, hk, hn, Own.nil, OPs.nil, rfl, by simp⟩
end Go.Proofs.YtjhenmdcnbaobaaGreat.Hs
/-! Layer 4 in Y8 Lean, eighth part: lists of numbers; an element of an owned row. -/
namespace Go.Proofs.YtjhenmdcnbaobaaGreat.Hs
open Go
theorem Own.at {T : TypeId} {sz : Nat} {v : Value} {es : List (List Value)} {k : Zh} (o : Own T sz v es k) {j : Nat} (hj : j < es.length) :
    ∃ b cap row, v = .slice (some ⟨b, 0, none⟩) es.length cap ∧ (b, Obj.cells ⟨row⟩ T (0, 0)) ∈ k ∧ sub row (0 + j * sz) sz = some es[j] := by
  rcases o.2 with ⟨e, e2, e3⟩ | ⟨b, cap, sp, e, e2, e3, e4⟩
  · subst e2; exact absurd hj (by simp)
  · exact ⟨b, cap, es.flatten ++ sp, e, by rw [e2]; simp, by rw [Nat.zero_add]; exact sub_row o.1 j hj⟩
def ints (l : List Int) : List (List Value) := l.map fun n => [.int .i64 n]
theorem ints_len (l : List Int) : (ints l).length = l.length := by simp [ints]
theorem ints_snoc (l : List Int) (n : Int) : ints (l ++ [n]) = ints l ++ [[.int .i64 n]] := by simp [ints]
theorem ints_get (l : List Int) (j : Nat) (h : j < l.length) : (ints l)[j]'(by rw [ints_len]; exact h) = [.int .i64 l[j]] := by simp [ints]
def RI (_ : Heap) (cs : List Value) (n : Int) : Prop := cs = [.int .i64 n]
theorem own_ints {T : TypeId} {v : Value} {l : List Int} {k : Zh} {h : Heap} (o : Own T 1 v (ints l) k) (hn : l.length ≤ 9223372036854775807) (hk : Has k h) : Hs.rdS RI 1 h v l :=
  o.rdS (ints_len l).symm hn hk fun i _ h2 => ints_get l i h2
/-- the places, up to a number, that are marked -/
def upTo (f : List Bool) (j : Nat) : List Int := ((List.range j).filter (fun i => f.getD i false)).map (fun i : Nat => (i : Int))
theorem upTo_succ (f : List Bool) (j : Nat) : upTo f (j + 1) = if f.getD j false = true then upTo f j ++ [(j : Int)] else upTo f j := by
  unfold upTo
  rw [List.range_succ, List.filter_append, List.map_append]
  by_cases h : f.getD j false = true
  · rw [if_pos h]; simp only [List.filter_cons, h, if_true, List.filter_nil, List.map_cons, List.map_nil]
  · rw [if_neg h]; simp only [List.filter_cons, h, List.filter_nil]; simp
theorem upTo_len (f : List Bool) (j : Nat) : (upTo f j).length ≤ j := by
  unfold upTo
  rw [List.length_map]
  have := List.length_filter_le (fun i => f.getD i false) (List.range j)
  rwa [List.length_range] at this
end Go.Proofs.YtjhenmdcnbaobaaGreat.Hs
/-! Layer 4 in Y8 Lean, ninth part: Shift and Subst of the reference. -/
namespace Go.Proofs.YtjhenmdcnbaobaaGreat.Hs
open Go
def zT : Tm := .mk 0 0 zS [] []
theorem OT_zero : OT zT (pkT 0 0 zS (.slice none 0 0) (.slice none 0 0)) [] := OT_leaf (by unfold inI; omega) (by unfold inI; omega)
theorem upTo_bound (f : List Bool) (j : Nat) : ∀ x ∈ upTo f j, 0 ≤ x ∧ x < (j : Int) := by
  intro x hx
  unfold upTo at hx
  obtain ⟨i, hi, rfl⟩ := List.mem_map.1 hx
  have := List.mem_range.1 (List.mem_filter.1 hi).1
  exact ⟨Int.natCast_nonneg _, by exact_mod_cast this⟩
end Go.Proofs.YtjhenmdcnbaobaaGreat.Hs
/-! Items as data: what cells read as them, and items that are owned. -/
namespace Go.Proofs.YtjhenmdcnbaobaaGreat.Hs
open Go
inductive It where
  | mk (kind num : Int) (text : ByteArray) (kids : List It)
namespace It
def kind : It → Int | .mk k _ _ _ => k
def num : It → Int | .mk _ n _ _ => n
def text : It → ByteArray | .mk _ _ t _ => t
def kids : It → List It | .mk _ _ _ l => l
end It
theorem It.ind {P : It → Prop} (h : ∀ k n t kids, (∀ x ∈ kids, P x) → P (.mk k n t kids)) : ∀ p, P p := by
  have key : ∀ n (p : It), SizeOf.sizeOf p ≤ n → P p := by
    intro n
    induction n with
    | zero => intro p hp; cases p; simp at hp
    | succ n ih =>
      intro p hp
      cases p with
      | mk k m r kids =>
        refine h k m r kids fun x hx => ih x ?_
        have := List.sizeOf_lt_of_mem hx
        simp at hp
        omega
  exact fun p => key _ p (Nat.le_refl _)
/-- The cells of an item. -/
abbrev pkI (k n : Int) (t : ByteArray) (ks : Value) : List Value := [.int .i64 k, .int .i64 n, .string t, ks]
mutual
def rdI (h : Heap) : It → List Value → Prop
  | .mk k n t kids, cs => ∃ ks, cs = pkI k n t ks ∧ inI k ∧ inI n ∧ rdSl h kids.length ks (rdIs h kids)
def rdIs (h : Heap) : List It → List Value → Nat → Prop
  | [], _, _ => True
  | p :: ps, row, o => (∃ cs, sub row o 4 = some cs ∧ rdI h p cs) ∧ rdIs h ps row (o + 4)
end
def RIt (h : Heap) (cs : List Value) (p : It) : Prop := rdI h p cs
theorem rdIs_eq (h : Heap) (l : List It) : ∀ row o, rdIs h l row o = rows (RIt h) 4 row o l := by
  induction l with
  | nil => intro row o; simp only [rdIs, rows]
  | cons p ps ih => intro row o; simp only [rdIs, rows, ih, RIt]
theorem RIt_mk {h : Heap} {cs : List Value} {k n : Int} {t : ByteArray} {kids : List It} : RIt h cs (.mk k n t kids) ↔ ∃ ks, cs = pkI k n t ks ∧ inI k ∧ inI n ∧ rdS RIt 4 h ks kids := by
  unfold rdS
  rw [show RIt h cs (.mk k n t kids) = rdI h (.mk k n t kids) cs from rfl]
  simp only [rdI]
  have : rdIs h kids = fun row o => rows (RIt h) 4 row o kids := by funext row o; exact rdIs_eq h kids row o
  rw [this]
theorem RIt_len {h : Heap} {cs : List Value} {p : It} (r : RIt h cs p) : cs.length = 4 := by cases p; obtain ⟨ks, rfl, _⟩ := RIt_mk.1 r; rfl
theorem pkI_ok {k n : Int} {t : ByteArray} {ks : Value} (h : ks.oneCell' = true) : okc (pkI k n t ks) := by
  intro v hv
  simp only [pkI, List.mem_cons, List.not_mem_nil, or_false] at hv
  rcases hv with rfl | rfl | rfl | rfl
  · rfl
  · rfl
  · rfl
  · exact h
theorem RIt.mono {h h' : Heap} (hh : Hle h h') : ∀ {p cs}, RIt h cs p → RIt h' cs p := by
  intro p
  induction p using It.ind with
  | h k n t kids ih =>
    intro cs q
    obtain ⟨ks, e, h1, h2, h3⟩ := RIt_mk.1 q
    exact RIt_mk.2 ⟨ks, e, h1, h2, h3.mono hh fun x hx cs q => ih x hx q⟩
theorem RIts.mono {h h' : Heap} (hh : Hle h h') {v l} (q : rdS RIt 4 h v l) : rdS RIt 4 h' v l := rdS.mono q hh fun _ _ _ => RIt.mono hh
theorem RIt_open {h : Heap} {cs : List Value} {p : It} (q : RIt h cs p) : ∃ ks, cs = pkI p.kind p.num p.text ks ∧ inI p.kind ∧ inI p.num ∧ rdS RIt 4 h ks p.kids := by cases p; exact RIt_mk.1 q
theorem RIt_shut {h : Heap} {p : It} {ks : Value} (h1 : inI p.kind) (h2 : inI p.num) (h3 : rdS RIt 4 h ks p.kids) : RIt h (pkI p.kind p.num p.text ks) p := by cases p; exact RIt_mk.2 ⟨ks, rfl, h1, h2, h3⟩
mutual
def OIt : It → List Value → Zh → Prop
  | .mk k n t kids, cs, c => ∃ ks es k1 k2, cs = pkI k n t ks ∧ inI k ∧ inI n ∧ Own 40 4 ks es k1 ∧ OIts kids es k2 ∧ c = k1 ++ k2 ∧ kids.length ≤ 9223372036854775807
def OIts : List It → List (List Value) → Zh → Prop
  | [], es, c => es = [] ∧ c = []
  | p :: ps, es, c => ∃ e es' k k', es = e :: es' ∧ OIt p e k ∧ OIts ps es' k' ∧ c = k ++ k'
end
theorem OIt_mk {k n : Int} {t : ByteArray} {kids : List It} {cs : List Value} {c : Zh} : OIt (.mk k n t kids) cs c ↔ ∃ ks es k1 k2, cs = pkI k n t ks ∧ inI k ∧ inI n ∧ Own 40 4 ks es k1 ∧ OIts kids es k2 ∧ c = k1 ++ k2 ∧ kids.length ≤ 9223372036854775807 := by
  rw [OIt]
theorem OIts_len {l : List It} : ∀ {es c}, OIts l es c → es.length = l.length := by
  induction l with
  | nil => rintro es c h; rw [OIts] at h; rw [h.1]; rfl
  | cons p l ih => intro es c h; rw [OIts] at h; obtain ⟨e, es', k, k', rfl, _, h, _⟩ := h; simp [ih h]
theorem OIts.nil : OIts [] [] [] := by rw [OIts]; exact ⟨rfl, rfl⟩
theorem OIts.snoc {l : List It} {p : It} {e : List Value} {k : Zh} (h' : OIt p e k) : ∀ {es c}, OIts l es c → OIts (l ++ [p]) (es ++ [e]) (c ++ k) := by
  induction l with
  | nil => intro es c h; rw [OIts] at h; rw [h.1, h.2]; simp only [List.nil_append]; rw [OIts]; exact ⟨e, [], k, [], rfl, h', OIts.nil, by simp⟩
  | cons q l ih =>
    intro es c h
    rw [OIts] at h
    obtain ⟨f, es', k1, k2, rfl, h1, h2, rfl⟩ := h
    simp only [List.cons_append]
    rw [OIts]
    exact ⟨f, _, k1, _, rfl, h1, ih h2, by rw [List.append_assoc]⟩
theorem OIt.len {p : It} {cs : List Value} {c : Zh} (h : OIt p cs c) : cs.length = 4 := by cases p; obtain ⟨_, _, _, _, rfl, _⟩ := OIt_mk.1 h; rfl
theorem OIt.ok {p : It} {cs : List Value} {c : Zh} (h : OIt p cs c) : okc cs := by cases p; obtain ⟨_, _, _, _, rfl, _, _, h, _⟩ := OIt_mk.1 h; exact pkI_ok h.one
theorem OIts_rows {h : Heap} {l : List It} (ih : ∀ p ∈ l, ∀ cs c, OIt p cs c → Has c h → RIt h cs p) : ∀ {es c}, OIts l es c → Has c h → ∀ i (h1 : i < es.length) (h2 : i < l.length), RIt h es[i] l[i] := by
  induction l with
  | nil => intro es c _ _ i _ h2; exact absurd h2 (by simp)
  | cons p l ih' =>
    intro es c ho hh i h1 h2
    rw [OIts] at ho
    obtain ⟨e, es', k, k', rfl, hp, hs, rfl⟩ := ho
    cases i with
    | zero => exact ih p (by simp) e k hp hh.left
    | succ i => exact ih' (fun q hq => ih q (by simp [hq])) hs hh.right i (by simpa using h1) (by simpa using h2)
theorem OIt.rd {h : Heap} {p : It} : ∀ {cs c}, OIt p cs c → Has c h → RIt h cs p := by
  induction p using It.ind with
  | h k n t kids ih =>
    intro cs c ho hh
    obtain ⟨ks, es, k1, k2, rfl, hk, hn, ho1, ho2, rfl, hl⟩ := OIt_mk.1 ho
    exact RIt_mk.2 ⟨ks, rfl, hk, hn, ho1.rdS (OIts_len ho2).symm hl hh.left (OIts_rows (fun p hp cs c => ih p hp) ho2 hh.right)⟩
theorem OIt_leaf {k n : Int} {t : ByteArray} (hk : inI k) (hn : inI n) : OIt (.mk k n t []) (pkI k n t (.slice none 0 0)) [] :=
  OIt_mk.2 ⟨_, [], [], [], rfl, hk, hn, Own.nil, OIts.nil, rfl, by simp⟩
def zI : It := .mk 0 0 ⟨#[]⟩ []
theorem Xe : OIt zI (pkI 0 0 ⟨#[]⟩ (.slice none 0 0)) [] := OIt_leaf (by unfold inI; omega) (by unfold inI; omega)
end Go.Proofs.YtjhenmdcnbaobaaGreat.Hs
/-! How an item is read from bytes, in Y8 Lean: what both decoders answer. -/
namespace Go.Proofs.YtjhenmdcnbaobaaGreat.Hs
open Go Go.Proofs
/-- what reading answers: a value and where it goes on, or an error and its index -/
inductive DR (α : Type) where
  | ok (a : α) (next : Nat)
  | err (c : Int) (i : Nat)
def Xj (l : List Int) : ByteArray := ⟨(l.map (fun n => UInt8.ofNat n.toNat)).toArray⟩
/-- a number, at most so great: rounds left, which round, what is read so far, its unit, where -/
def Xa (l : List Int) (most : Int) (first : Nat) : Nat → Nat → Int → Int → Nat → DR Int
  | 0, _, _, _, _ => .err 3 first
  | f + 1, k, n, u, a =>
    if a = l.length then .err 4 a
    else if 128 ≤ l.getD a 0 then Xa l most first f (k + 1) (n + l.getD a 0 % 128 * u) (u * 128) (a + 1)
    else if l.getD a 0 = 0 ∧ 0 < k then .err 4 first
    else if most < n + l.getD a 0 % 128 * u then .err 3 first
    else .ok (n + l.getD a 0 % 128 * u) (a + 1)
def num0 (l : List Int) (most : Int) (a : Nat) : DR Int := Xa l most a 6 0 0 1 a
/-- one from 1 on -/
def Y3 (l : List Int) (most : Int) (a : Nat) : DR Int :=
  match num0 l most a with
  | .err c i => .err c i
  | .ok n b => if n = 0 then .err 4 a else .ok n b
def textD (l : List Int) (h : Int) (a : Nat) : DR ByteArray :=
  if h / 64 % 2 = 1 then
    match Y3 l 4096 a with
    | .err c i => .err c i
    | .ok n b => if (l.length : Int) - b < n then .err 4 l.length else .ok (Xj ((l.drop b).take n.toNat)) (b + n.toNat)
  else .ok ⟨#[]⟩ a
def Yq (g : Nat → Nat → DR (It × Nat)) : Nat → Nat → Nat → DR (List It × Nat)
  | 0, a, c => .ok ([], c) a
  | m + 1, a, c =>
    match g a c with
    | .err e i => .err e i
    | .ok (x, c') b =>
      match Yq g m b c' with
      | .err e i => .err e i
      | .ok (ks, c'') d => .ok (x :: ks, c'') d
def manyD (l : List Int) (g : Nat → Nat → DR (It × Nat)) (h : Int) (a c : Nat) : DR (List It × Nat) :=
  if 128 ≤ h then
    match Y3 l 5000 a with
    | .err e i => .err e i
    | .ok m b => Yq g m.toNat b c
  else .ok ([], c) a
/-- an item; so many levels are left; c: how many items were begun -/
def ZM (l : List Int) : Nat → Nat → Nat → DR (It × Nat)
  | 0, a, _ => if a = l.length then .err 4 a else .err 11 a
  | f + 1, a, c =>
    if a = l.length then .err 4 a
    else if 5000 ≤ c then .err 2 a
    else if l.getD a 0 % 64 = 0 then .err 4 a
    else
      match num0 l 1099511627776 (a + 1) with
      | .err e i => .err e i
      | .ok n b =>
        match textD l (l.getD a 0) b with
        | .err e i => .err e i
        | .ok t d =>
          match manyD l (ZM l f) (l.getD a 0) d (c + 1) with
          | .err e i => .err e i
          | .ok (ks, c') z => .ok (.mk (l.getD a 0 % 64) n t ks, c') z
def ZI (l : List Int) : It × Int × Int :=
  if 65536 < l.length then (zI, 0, 11)
  else
    match ZM l 250 0 0 with
    | .err e i => (zI, (i : Int), e)
    | .ok (x, _) a => if a < l.length then (zI, (a : Int), 4) else (x, 0, 0)
/-! what is read lies within the bytes -/
theorem numD_ok {l : List Int} {most : Int} {first : Nat} : ∀ (f k : Nat) (n u : Int) (a : Nat) {m : Int} {b : Nat}, a ≤ l.length → 0 ≤ n → 0 ≤ u → Xa l most first f k n u a = .ok m b → a < b ∧ b ≤ l.length ∧ 0 ≤ m ∧ m ≤ most := by
  intro f
  induction f with
  | zero => intro k n u a m b _ _ _ h; rw [Xa] at h; cases h
  | succ f ih =>
    intro k n u a m b ha hn hu h
    rw [Xa] at h
    split at h
    · cases h
    · have hx : 0 ≤ l.getD a 0 % 128 := by omega
      have hxu := Int.mul_nonneg hx hu
      split at h
      · have := ih (k + 1) _ _ (a + 1) (by omega) (by omega) (by omega) h
        omega
      · split at h
        · cases h
        · split at h
          · cases h
          · cases h
            omega
theorem numD_err {l : List Int} {most : Int} {first : Nat} : ∀ (f k : Nat) (n u : Int) (a : Nat) {c : Int} {i : Nat}, Xa l most first f k n u a = .err c i → c = 3 ∨ c = 4 := by
  intro f
  induction f with
  | zero => intro k n u a c i h; rw [Xa] at h; cases h; exact .inl rfl
  | succ f ih =>
    intro k n u a c i h
    rw [Xa] at h
    split at h
    · cases h; exact .inr rfl
    · split at h
      · exact ih _ _ _ _ h
      · split at h
        · cases h; exact .inr rfl
        · split at h
          · cases h; exact .inl rfl
          · cases h
theorem getDi {l : List Int} {a : Nat} (h : a < l.length) : l.getD a 0 = l[a] := by rw [List.getD_eq_getElem?_getD, List.getElem?_eq_getElem h]; rfl
theorem numD_end {l : List Int} {most : Int} {first f k : Nat} {n u : Int} {a : Nat} (h : a = l.length) : Xa l most first (f + 1) k n u a = .err 4 a := by rw [Xa, if_pos h]
theorem numD_more {l : List Int} {most : Int} {first f k : Nat} {n u : Int} {a : Nat} (h : a < l.length) (h1 : 128 ≤ l[a]) : Xa l most first (f + 1) k n u a = Xa l most first f (k + 1) (n + l[a] % 128 * u) (u * 128) (a + 1) := by rw [Xa, if_neg (by omega), getDi h, if_pos h1]
theorem numD_zero {l : List Int} {most : Int} {first f k : Nat} {n u : Int} {a : Nat} (h : a < l.length) (h1 : l[a] = 0) (h2 : 0 < k) : Xa l most first (f + 1) k n u a = .err 4 first := by rw [Xa, if_neg (by omega), getDi h, if_neg (by omega), if_pos ⟨h1, h2⟩]
theorem numD_great {l : List Int} {most : Int} {first f k : Nat} {n u : Int} {a : Nat} (h : a < l.length) (h1 : ¬ 128 ≤ l[a]) (h2 : ¬ (l[a] = 0 ∧ 0 < k)) (h3 : most < n + l[a] % 128 * u) : Xa l most first (f + 1) k n u a = .err 3 first := by rw [Xa, if_neg (by omega), getDi h, if_neg h1, if_neg h2, if_pos h3]
theorem numD_done {l : List Int} {most : Int} {first f k : Nat} {n u : Int} {a : Nat} (h : a < l.length) (h1 : ¬ 128 ≤ l[a]) (h2 : ¬ (l[a] = 0 ∧ 0 < k)) (h3 : ¬ most < n + l[a] % 128 * u) : Xa l most first (f + 1) k n u a = .ok (n + l[a] % 128 * u) (a + 1) := by rw [Xa, if_neg (by omega), getDi h, if_neg h1, if_neg h2, if_neg h3]
theorem mul_in {x u : Int} (hu : 0 ≤ u) : 0 ≤ x % 128 * u ∧ x % 128 * u ≤ 127 * u :=
  ⟨Int.mul_nonneg (by omega) hu, Int.mul_le_mul_of_nonneg_right (by omega) hu⟩
theorem num0_err {l : List Int} {most : Int} {a : Nat} {c : Int} {i : Nat} (h : num0 l most a = .err c i) : c = 3 ∨ c = 4 := numD_err _ _ _ _ _ h
theorem num0_ok {l : List Int} {most : Int} {a : Nat} {m : Int} {b : Nat} (ha : a ≤ l.length) (h : num0 l most a = .ok m b) : a < b ∧ b ≤ l.length ∧ 0 ≤ m ∧ m ≤ most := numD_ok _ _ _ _ _ ha (by omega) (by omega) h
theorem some_err {l : List Int} {most : Int} {a : Nat} {c : Int} {i : Nat} (h : Y3 l most a = .err c i) : c = 3 ∨ c = 4 := by
  unfold Y3 at h
  cases hd : num0 l most a with
  | err c i => rw [hd] at h; cases h; exact num0_err hd
  | ok n b => rw [hd] at h; simp only at h; split at h <;> cases h; exact .inr rfl
theorem some_ok {l : List Int} {most : Int} {a : Nat} {m : Int} {b : Nat} (ha : a ≤ l.length) (h : Y3 l most a = .ok m b) : a < b ∧ b ≤ l.length ∧ 0 < m ∧ m ≤ most := by
  unfold Y3 at h
  cases hd : num0 l most a with
  | err c i => rw [hd] at h; cases h
  | ok n b => rw [hd] at h; simp only at h; split at h
              · cases h
              · cases h; have := num0_ok ha hd; omega
/-- a number from some least one on, as the program reads it -/
def leastD (l : List Int) (least most : Int) (a : Nat) : DR Int :=
  match num0 l most a with
  | .err c i => .err c i
  | .ok n b => if n < least then .err 4 a else .ok n b
theorem least_0 {l : List Int} {most : Int} {a : Nat} (ha : a ≤ l.length) : leastD l 0 most a = num0 l most a := by
  unfold leastD
  cases hd : num0 l most a with
  | err c i => rfl
  | ok n b => simp only; rw [if_neg (by have := num0_ok ha hd; omega)]
theorem least_1 {l : List Int} {most : Int} {a : Nat} (ha : a ≤ l.length) : leastD l 1 most a = Y3 l most a := by
  unfold leastD Y3
  cases hd : num0 l most a with
  | err c i => rfl
  | ok n b =>
    have h1 := num0_ok ha hd
    simp only
    by_cases e : n = 0
    · rw [if_pos e, if_pos (by omega)]
    · rw [if_neg e, if_neg (by omega)]
theorem ZN {l : List Int} {least most : Int} {a : Nat} {c : Int} {i : Nat} (h : num0 l most a = .err c i) : leastD l least most a = .err c i := by unfold leastD; rw [h]
theorem YL {l : List Int} {least most : Int} {a : Nat} {n : Int} {b : Nat} (h : num0 l most a = .ok n b) (h1 : n < least) : leastD l least most a = .err 4 a := by unfold leastD; rw [h]; simp only; rw [if_pos h1]
theorem least_ok {l : List Int} {least most : Int} {a : Nat} {n : Int} {b : Nat} (h : num0 l most a = .ok n b) (h1 : ¬ n < least) : leastD l least most a = .ok n b := by unfold leastD; rw [h]; simp only; rw [if_neg h1]
/-- what the program leaves behind -/
def wQ (d : DR Int) (x : Int) (ok : Bool) (a e : Int) : Prop :=
  match d with
  | .ok n b => x = n ∧ ok = true ∧ a = (b : Int) ∧ e = 0
  | .err c i => x = 0 ∧ ok = false ∧ a = (i : Int) ∧ e = c
theorem wQ_ok {d : DR Int} {x : Int} {ok : Bool} {a e : Int} (h : wQ d x ok a e) (hk : ok = true) : ∃ b : Nat, d = .ok x b ∧ a = (b : Int) ∧ e = 0 := by
  cases d with
  | ok n b => exact ⟨b, by rw [h.1], h.2.2.1, h.2.2.2⟩
  | err c i => have := h.2.1; rw [hk] at this; cases this
theorem wQ_no {d : DR Int} {x : Int} {ok : Bool} {a e : Int} (h : wQ d x ok a e) (hk : ok = false) : ∃ (c : Int) (i : Nat), d = .err c i ∧ a = (i : Int) ∧ e = c := by
  cases d with
  | ok n b => have := h.2.1; rw [hk] at this; cases this
  | err c i => exact ⟨c, i, rfl, h.2.2.1, h.2.2.2⟩
/-- the text, where the head says that there is one -/
def textW (l : List Int) (a : Nat) : DR ByteArray :=
  match Y3 l 4096 a with
  | .err c i => .err c i
  | .ok n b => if (l.length : Int) - b < n then .err 4 l.length else .ok (Xj ((l.drop b).take n.toNat)) (b + n.toNat)
theorem textD_if (l : List Int) (h : Int) (a : Nat) : textD l h a = if h / 64 % 2 = 1 then textW l a else .ok ⟨#[]⟩ a := rfl
def tQ (d : DR ByteArray) (t : ByteArray) (ok : Bool) (a e : Int) : Prop :=
  match d with
  | .ok u b => t = u ∧ ok = true ∧ a = (b : Int) ∧ e = 0
  | .err c i => ok = false ∧ a = (i : Int) ∧ e = c
theorem textW_err {l : List Int} {a : Nat} {c : Int} {i : Nat} (h : Y3 l 4096 a = .err c i) : textW l a = .err c i := by unfold textW; rw [h]
theorem textW_few {l : List Int} {a : Nat} {n : Int} {b : Nat} (h : Y3 l 4096 a = .ok n b) (h1 : (l.length : Int) - b < n) : textW l a = .err 4 l.length := by unfold textW; rw [h]; simp only; rw [if_pos h1]
theorem textW_ok {l : List Int} {a : Nat} {n : Int} {b : Nat} (h : Y3 l 4096 a = .ok n b) (h1 : ¬ (l.length : Int) - b < n) : textW l a = .ok (Xj ((l.drop b).take n.toNat)) (b + n.toNat) := by unfold textW; rw [h]; simp only; rw [if_neg h1]
end Go.Proofs.YtjhenmdcnbaobaaGreat.Hs
/-! A digest and its text of 32 bytes; the item of a term. -/
namespace Go.Proofs.YtjhenmdcnbaobaaGreat.Hs
open Go Go.Proofs
/-- the digest of a text -/
def smS (s : ByteArray) : Sm := Vector.ofFn fun i : Fin 32 => s.data.toList.getD i.1 0
/-- the text of a digest -/
def txS (r : Sm) : ByteArray := ⟨r.toArray⟩
theorem txS_size (r : Sm) : (txS r).size = 32 := by unfold txS; exact r.size_toArray
theorem smS_get (s : ByteArray) (i : Nat) (h : i < 32) : (smS s)[i] = s.data.toList.getD i 0 := by simp [smS]
theorem sm_tx (r : Sm) : smS (txS r) = r := by
  apply Vector.ext
  intro i hi
  rw [smS_get _ i hi]
  unfold txS
  rw [List.getD_eq_getElem?_getD, List.getElem?_eq_getElem (by simp; exact hi)]
  simp
/-- its cells are the bytes of the text -/
theorem sC_str {s : ByteArray} (h : s.size = 32) : (sB s).map (fun n => Value.int .u8 n) = sC (smS s) := by
  apply List.ext_getElem?
  intro i
  by_cases hi : i < 32
  · rw [sC_get _ i hi, smS_get s i hi]
    have h2 : i < (sB s).length := by rw [Ys]; omega
    have h3 : i < s.data.toList.length := by have : s.data.toList.length = s.size := rfl; omega
    rw [List.getElem?_map, List.getElem?_eq_getElem h2, List.getD_eq_getElem?_getD, List.getElem?_eq_getElem h3]
    simp only [sB, List.getElem_map, Option.map_some, Option.getD_some]
  · rw [List.getElem?_eq_none (by rw [List.length_map, Ys]; omega), List.getElem?_eq_none (by rw [sC_len]; omega)]
/-! the item of a term -/
mutual
def itP : Pt → It
  | .mk k n r kids => .mk (30 + k) n (if k = 3 then txS r else ⟨#[]⟩) (itPs kids)
def itPs : List Pt → List It
  | [] => []
  | p :: l => itP p :: itPs l
end
mutual
def itT : Tm → It
  | .mk k n r kids cases => .mk k n (if ZW k = true then txS r else ⟨#[]⟩) (itTs kids ++ itCs cases)
def itTs : List Tm → List It
  | [] => []
  | t :: l => itT t :: itTs l
def itCs : List (Pt × Tm) → List It
  | [] => []
  | (p, t) :: l => .mk 20 0 ⟨#[]⟩ [itP p, itT t] :: itCs l
end
end Go.Proofs.YtjhenmdcnbaobaaGreat.Hs
/-! A term read from an item, as the program reads it: how many items were begun, and whether something is wrong. -/
namespace Go.Proofs.YtjhenmdcnbaobaaGreat.Hs
open Go Go.Proofs
def farG (d : Int) (σ : Int × Bool) : Bool := σ.2 || decide (600 < σ.1 + 1) || decide (62 < d)
def YS (has : Bool) (t : ByteArray) : Bool := (has && decide (¬ t.size = 32)) || (!has && decide (¬ t = ⟨#[]⟩))
def Yl (has : Bool) (t : ByteArray) : Sm := if YS has t = true then zS else if has = true then smS t else zS
def wr30 (k : Int) : Int := IntKind.i64.wrap (k - 30)
def zPt : Pt := .mk 0 0 zS []
mutual
def ptG : It → Int → Int × Bool → Pt × (Int × Bool)
  | .mk k m t kids, d, σ =>
    if farG d σ = true then (zPt, (σ.1 + 1, true))
    else (.mk (wr30 k) m (Yl (decide (k = 33)) t) (ptGs kids (d + 1) (σ.1 + 1, YS (decide (k = 33)) t)).1, (ptGs kids (d + 1) (σ.1 + 1, YS (decide (k = 33)) t)).2)
def ptGs : List It → Int → Int × Bool → List Pt × (Int × Bool)
  | [], _, σ => ([], σ)
  | x :: l, d, σ => ((ptG x d σ).1 :: (ptGs l d (ptG x d σ).2).1, (ptGs l d (ptG x d σ).2).2)
end
mutual
/-- kinds from which 30 can be taken -/
def okI : It → Prop
  | .mk k _ _ kids => (-9223372036854775778 ≤ k ∧ k ≤ 9223372036854775807) ∧ okIs kids
def okIs : List It → Prop
  | [] => True
  | x :: l => okI x ∧ okIs l
end
/-- kinds that can be told from one another -/
theorem wr30_in {k : Int} (h : -9223372036854775778 ≤ k ∧ k ≤ 9223372036854775807) : wr30 k = k - 30 := w64 (by omega)
end Go.Proofs.YtjhenmdcnbaobaaGreat.Hs
/-! A term read from an item, as the program reads it. -/
namespace Go.Proofs.YtjhenmdcnbaobaaGreat.Hs
open Go Go.Proofs
mutual
def tmG : It → Int → Int × Bool → Tm × (Int × Bool)
  | .mk k m t kids, d, σ =>
    if farG d σ = true then (zT, (σ.1 + 1, true))
    else (.mk k m (Yl (ZW k) t) (Y1 kids (d + 1) [] [] (σ.1 + 1, YS (ZW k) t)).1.1 (Y1 kids (d + 1) [] [] (σ.1 + 1, YS (ZW k) t)).1.2, (Y1 kids (d + 1) [] [] (σ.1 + 1, YS (ZW k) t)).2)
def Y1 : List It → Int → List Tm → List (Pt × Tm) → Int × Bool → (List Tm × List (Pt × Tm)) × (Int × Bool)
  | [], _, ks, cs, σ => ((ks, cs), σ)
  | .mk 20 0 t [a, b] :: l, d, ks, cs, σ =>
    if ¬ t = ⟨#[]⟩ then Y1 l d ks cs (σ.1, true)
    else Y1 l d ks (cs ++ [((ptG a d σ).1, (tmG b d (ptG a d σ).2).1)]) (tmG b d (ptG a d σ).2).2
  | y :: l, d, ks, cs, σ =>
    if ¬ y.kind = 20 then Y1 l d (ks ++ [(tmG y d (σ.1, σ.2 || decide (0 < cs.length))).1]) cs (tmG y d (σ.1, σ.2 || decide (0 < cs.length))).2
    else Y1 l d ks cs (σ.1, true)
end
theorem tmGs_case (t : ByteArray) (a b : It) (l : List It) (d : Int) (ks : List Tm) (cs : List (Pt × Tm)) (σ : Int × Bool) : Y1 (.mk 20 0 t [a, b] :: l) d ks cs σ =
    if ¬ t = ⟨#[]⟩ then Y1 l d ks cs (σ.1, true)
    else Y1 l d ks (cs ++ [((ptG a d σ).1, (tmG b d (ptG a d σ).2).1)]) (tmG b d (ptG a d σ).2).2 := by rw [Y1]
theorem tmGs_kid {y : It} (hy : ∀ t a b, y = .mk 20 0 t [a, b] → False) (l : List It) (d : Int) (ks : List Tm) (cs : List (Pt × Tm)) (σ : Int × Bool) : Y1 (y :: l) d ks cs σ =
    if ¬ y.kind = 20 then Y1 l d (ks ++ [(tmG y d (σ.1, σ.2 || decide (0 < cs.length))).1]) cs (tmG y d (σ.1, σ.2 || decide (0 < cs.length))).2
    else Y1 l d ks cs (σ.1, true) := by
  rw [Y1]
  exact hy
end Go.Proofs.YtjhenmdcnbaobaaGreat.Hs
/-! A pattern, a term that is right is read again from its item. -/
namespace Go.Proofs.YtjhenmdcnbaobaaGreat.Hs
open Go Go.Proofs
mutual
/-- a pattern that can be read so deep -/
def fitP : Pt → Int → Prop
  | .mk k _ r kids, d => d ≤ 62 ∧ (-1000 ≤ k ∧ k ≤ 1000) ∧ (¬ k = 3 → r = zS) ∧ fitPs kids (d + 1)
def fitPs : List Pt → Int → Prop
  | [], _ => True
  | p :: l, d => fitP p d ∧ fitPs l d
end
theorem refW_tx {has : Bool} {r : Sm} (h : has = false → r = zS) : YS has (if has = true then txS r else ⟨#[]⟩) = false ∧ Yl has (if has = true then txS r else ⟨#[]⟩) = r := by
  cases has with
  | true =>
    have e : YS true (txS r) = false := by simp [YS, txS_size]
    refine ⟨by rw [if_pos rfl]; exact e, ?_⟩
    rw [if_pos rfl]; unfold Yl; rw [e]; exact sm_tx r
  | false =>
    have e : YS false ⟨#[]⟩ = false := by simp [YS]
    refine ⟨by rw [if_neg (by decide)]; exact e, ?_⟩
    rw [if_neg (by decide)]; unfold Yl; rw [e]; exact (h rfl).symm
theorem pt_back (p : Pt) : ∀ (d n : Int), fitP p d → n + sizeP p ≤ 600 → ptG (itP p) d (n, false) = (p, (n + sizeP p, false)) := by
  induction p using Pt.ind with
  | h k m r kids ih =>
    intro d n h hz
    rw [fitP] at h
    obtain ⟨h1, h2, h3, h4⟩ := h
    have hK : ∀ (l : List Pt) (d n : Int), (∀ x ∈ l, ∀ (d n : Int), fitP x d → n + sizeP x ≤ 600 → ptG (itP x) d (n, false) = (x, (n + sizeP x, false))) → fitPs l d → n + ZU l ≤ 600 → ptGs (itPs l) d (n, false) = (l, (n + ZU l, false)) := by
      intro l
      induction l with
      | nil => intro d n _ _ _; rw [itPs, ptGs, ZU]; simp
      | cons x l ihl =>
        intro d n hl hf hz
        rw [fitPs] at hf
        rw [ZU] at hz ⊢
        have e := hl x (by simp) d n hf.1 (by omega)
        have e2 := ihl d (n + sizeP x) (fun y hy => hl y (by simp [hy])) hf.2 (by omega)
        rw [itPs, ptGs, e]
        simp only
        rw [e2]
        simp only [Prod.mk.injEq, and_true, true_and]
        omega
    rw [sizeP] at hz
    have hw := refW_tx (has := decide (30 + k = 33)) (r := r) (fun z => h3 (by simp at z; omega))
    have e3 : (if k = 3 then txS r else (⟨#[]⟩ : ByteArray)) = if decide (30 + k = 33) = true then txS r else ⟨#[]⟩ := by
      by_cases hk : k = 3
      · rw [if_pos hk, if_pos (by simp; omega)]
      · rw [if_neg hk, if_neg (by simp; omega)]
    have hfar : ¬ farG d (n, false) = true := by unfold farG; simp; omega
    rw [itP, ptG, if_neg hfar, e3, hw.1, hw.2, hK kids (d + 1) (n + 1) ih h4 (by omega), sizeP, show wr30 (30 + k) = k from (wr30_in (by omega)).trans (by omega)]
    simp only [Prod.mk.injEq, and_true, true_and]
    omega
mutual
def fitT : Tm → Int → Prop
  | .mk k _ r kids cases, d => d ≤ 62 ∧ ¬ k = 20 ∧ (ZW k = false → r = zS) ∧ fitTs kids (d + 1) ∧ fitCs cases (d + 1)
def fitTs : List Tm → Int → Prop
  | [], _ => True
  | t :: l, d => fitT t d ∧ fitTs l d
def fitCs : List (Pt × Tm) → Int → Prop
  | [], _ => True
  | (p, t) :: l, d => (fitP p d ∧ fitT t d) ∧ fitCs l d
end
theorem itT_kind {t : Tm} {d : Int} (h : fitT t d) : ¬ (itT t).kind = 20 := by
  cases t with
  | mk k n r kids cases => rw [fitT] at h; rw [itT]; exact h.2.1
theorem tm_back (t : Tm) : ∀ (d n : Int), fitT t d → n + sizeT t ≤ 600 → tmG (itT t) d (n, false) = (t, (n + sizeT t, false)) := by
  induction t using Tm.ind with
  | h k m r kids cases ih ih' =>
    intro d n h hz
    rw [fitT] at h
    obtain ⟨h1, h2, h3, h4, h5⟩ := h
    have hC : ∀ (l : List (Pt × Tm)) (d n : Int) (ks : List Tm) (cs : List (Pt × Tm)), (∀ c ∈ l, ∀ (d n : Int), fitT c.2 d → n + sizeT c.2 ≤ 600 → tmG (itT c.2) d (n, false) = (c.2, (n + sizeT c.2, false))) → fitCs l d → n + sizeCs l ≤ 600 → Y1 (itCs l) d ks cs (n, false) = ((ks, cs ++ l), (n + sizeCs l, false)) := by
      intro l
      induction l with
      | nil => intro d n ks cs _ _ _; rw [itCs, Y1, sizeCs]; simp
      | cons c l ihl =>
        intro d n ks cs hl hf hz
        obtain ⟨p, x⟩ := c
        rw [fitCs] at hf
        rw [sizeCs] at hz ⊢
        have e1 := pt_back p d n hf.1.1 (by omega)
        have e2 := hl (p, x) (by simp) d (n + sizeP p) hf.1.2 (by simp only; omega)
        simp only at e2
        have e3 := ihl d (n + sizeP p + sizeT x) ks (cs ++ [(p, x)]) (fun y hy => hl y (by simp [hy])) hf.2 (by omega)
        rw [itCs, tmGs_case, if_neg (fun z => z rfl), e1]
        simp only
        rw [e2]
        simp only
        rw [e3]
        simp only [Prod.mk.injEq, and_true, true_and, List.append_assoc, List.singleton_append]
        omega
    have hK : ∀ (l : List Tm) (R : List It) (d n : Int) (ks : List Tm), (∀ x ∈ l, ∀ (d n : Int), fitT x d → n + sizeT x ≤ 600 → tmG (itT x) d (n, false) = (x, (n + sizeT x, false))) → fitTs l d → n + sizeTs l ≤ 600 → Y1 (itTs l ++ R) d ks [] (n, false) = Y1 R d (ks ++ l) [] (n + sizeTs l, false) := by
      intro l
      induction l with
      | nil => intro R d n ks _ _ _; rw [itTs, sizeTs]; simp
      | cons x l ihl =>
        intro R d n ks hl hf hz
        rw [fitTs] at hf
        rw [sizeTs] at hz ⊢
        have hk := itT_kind hf.1
        have e1 := hl x (by simp) d n hf.1 (by omega)
        have e3 := ihl R d (n + sizeT x) (ks ++ [x]) (fun y hy => hl y (by simp [hy])) hf.2 (by omega)
        rw [itTs, List.cons_append, tmGs_kid (fun t a b e => hk (by rw [e]; rfl)), if_pos hk]
        simp only [Bool.false_or, List.length_nil, Nat.lt_irrefl, decide_false]
        rw [e1]
        simp only
        rw [e3, List.append_assoc, List.singleton_append, Int.natCast_add, ← Int.add_assoc]
    rw [sizeT] at hz
    have hw := refW_tx (has := ZW k) (r := r) h3
    have hfar : ¬ farG d (n, false) = true := by unfold farG; simp; omega
    rw [itT, tmG, if_neg hfar, hw.1, hw.2, hK kids (itCs cases) (d + 1) (n + 1) [] ih h4 (by omega), hC cases (d + 1) _ _ _ ih' h5 (by omega), sizeT]
    simp only [Prod.mk.injEq, and_true, true_and, List.nil_append]
    omega
end Go.Proofs.YtjhenmdcnbaobaaGreat.Hs
