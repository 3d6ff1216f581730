import Derived.Test.YtkjafeejpmcnkaaGreatItemsd
import Derived.KernelRfl
import Derived.Stop.BytesEq
/-! Building structs; digests compared. Generic: no program is named. -/
namespace Go.Proofs.YtkjafeejpmcnkaaGreat.Hs
open Go

theorem ZY {P : Program} {t : TypeId} {fields : Array Field} {z : Value} {pl : Array (Nat × Nat)} {parts : List (Nat × Value)} {cells : List Value} (hz : ∀ w, (zeroValue t).run P w = .ok z w) (hu : ∀ w, (underlying t).run P w = .ok (.struct fields) w)
    (hpl : ∀ w, (fields.mapM fun f => (do pure (f.offset, ← Go.sizeOf f.type) : Sem (Nat × Nat))).run P w = .ok pl w) (hf : Instr.fill (pl[·]?) z.cells parts = some ⟨cells⟩) :
    ∀ w, (Instr.build t ⟨parts⟩).run P w = .ok (.agg ⟨cells⟩) w := fun w => by
  simp only [Instr.build, Sem.run_bind, hz, Result.andThen_ok, hu, hpl, hf, Sem.run_pure]

theorem run_buildA {P : Program} {t el n sz : Nat} {z : Value} {parts : List (Nat × Value)} {cells : List Value} (hz : ∀ w, (zeroValue t).run P w = .ok z w) (hu : ∀ w, (underlying t).run P w = .ok (.array n el) w)
    (hs : ∀ w, (Go.sizeOf el).run P w = .ok sz w) (hf : Instr.fill (fun i => some (i * sz, sz)) z.cells parts = some ⟨cells⟩) :
    ∀ w, (Instr.build t ⟨parts⟩).run P w = .ok (.agg ⟨cells⟩) w := fun w => by
  simp only [Instr.build, Sem.run_bind, hz, Result.andThen_ok, hu, hs, hf, Sem.run_pure]

theorem fill_cons {place : Nat → Option (Nat × Nat)} {i off sz : Nat} {v : Value} {l pre mid post : List Value} {rest : List (Nat × Value)} {r : Option (Array Value)} (hp : place i = some (off, sz)) (hv : v.cells = ⟨l⟩) (hl : l.length = sz)
    (h1 : pre.length = off) (h2 : mid.length = sz) (h : Instr.fill place ⟨pre ++ (l ++ post)⟩ rest = r) : Instr.fill place ⟨pre ++ (mid ++ post)⟩ ((i, v) :: rest) = r := by
  subst h
  have hsz : v.cells.size = sz := by rw [hv]; simpa using hl
  simp only [Instr.fill, hp]
  rw [hsz]
  have hc : (decide (sz ≠ sz) || decide (off + sz > (⟨pre ++ (mid ++ post)⟩ : Array Value).size)) = false := by
    simp [h1, h2]
  rw [hc]
  simp only [Bool.false_eq_true, if_false]
  have hf := foldl_set v.cells.toList ⟨pre ++ (mid ++ post)⟩ off 0 (by simp [hv, hl, h1, h2])
  have hz : v.cells.zipIdx.foldl (fun (cs : Array Value) (p : Value × Nat) => cs.setIfInBounds (off + p.2) p.1) (⟨pre ++ (mid ++ post)⟩ : Array Value) = ⟨pre ++ (l ++ post)⟩ := by
    rw [← Array.foldl_toList, Array.toList_zipIdx, hf]
    simp only [Nat.add_zero, hv, hl, ← h1]
    congr 1
    rw [List.take_left, ← List.drop_drop, List.drop_left, ← h2, List.drop_left]
  exact congrArg (fun q => Instr.fill place q rest) hz

section
variable {P : Program} {e : Operand → Value} {d : Option Nat} {ot : TypeId} {pos : String} {af : Array Edge} {g : Option (Nat × Bool)} {T T' : TypeId} {x y : Operand}

theorem sC_map (r : Sm) : sC r = r.toList.map Extern.Stop.cell := by
  apply List.ext_getElem
  · simp [sC_len]
  · intro i h1 h2
    have h3 : i < 32 := h1
    have h := sC_get r i h3
    rw [List.getElem?_eq_getElem h1] at h
    rw [Option.some.inj h]
    simp [Extern.Stop.cell]

theorem Pu_eqlSum {E : TypeId} (hm : P.eqGuardType P.depth T = false) (hT : P.underlying T = some (.array 32 E)) (hE : P.underlying E = some (.int .u8)) (hsz : ∀ w, (Go.sizeOf E).run P w = .ok 1 w) {r s : Sm} (hx : e x = .agg ⟨sC r⟩) (hy : e y = .agg ⟨sC s⟩) :
    Pu P e ⟨d, .binOp .eql T x y T', ot, pos, af, g⟩ (.bool (decide (r = s))) := fun w => by
  have h := run_eql_bytes (P := P) w T E 32 hT hE hsz r.toList s.toList (by simp) (by simp)
  have hg := run_eqGuard_agg (P := P) w .eql T x y ⟨sC r⟩ ⟨sC s⟩ hm
  rw [← sC_map, ← sC_map] at h
  have hd : (r.toList == s.toList) = decide (r = s) := by
    rw [Bool.eq_iff_iff]; simp
  rw [hd] at h
  simp only [execOp, hx, hy, Sem.run_bind, hg, Result.andThen_ok]
  rw [h]; rfl
theorem Pu_neqSum {E : TypeId} (hm : P.eqGuardType P.depth T = false) (hT : P.underlying T = some (.array 32 E)) (hE : P.underlying E = some (.int .u8)) (hsz : ∀ w, (Go.sizeOf E).run P w = .ok 1 w) {r s : Sm} (hx : e x = .agg ⟨sC r⟩) (hy : e y = .agg ⟨sC s⟩) :
    Pu P e ⟨d, .binOp .neq T x y T', ot, pos, af, g⟩ (.bool (!decide (r = s))) := fun w => by
  have h := run_equalIn_bytes (P := P) w 9998 T E 32 hT hE hsz r.toList s.toList (by simp) (by simp)
  have hg := run_eqGuard_agg (P := P) w .neq T x y ⟨sC r⟩ ⟨sC s⟩ hm
  rw [← sC_map, ← sC_map] at h
  have hd : (r.toList == s.toList) = decide (r = s) := by
    rw [Bool.eq_iff_iff]; simp
  rw [hd] at h
  simp only [execOp, hx, hy, Sem.run_bind, hg, Result.andThen_ok]
  rw [run_neq_struct]
  simp [h]

theorem run_equalIn_b3 {T E : TypeId} (d : Nat) (w : World) (hT : P.underlying T = some (.array 3 E)) (hE : P.underlying E = some .bool) (hsz : ∀ w, (Go.sizeOf E).run P w = .ok 1 w) (a b c a' b' c' : Bool) :
    (Op.equalIn (d + 2) T (.agg #[.bool a, .bool b, .bool c]) (.agg #[.bool a', .bool b', .bool c'])).run P w = .ok (a == a' && (b == b' && c == c')) w := by
  have hb : ∀ x y : Bool, (Op.equalIn (d + 1) E (.bool x) (.bool y)).run P w = .ok (x == y) w := fun x y => run_equalIn_bool d w (fun _ => run_underlying hE _)
  rw [Op.equalIn]
  have p0 : ∀ (x y z : Bool), (part E #[.bool x, .bool y, .bool z] (0 * 1)).run P w = .ok (.bool x) w := fun x y z => by simp [part, isAgg, run_underlying hE]
  have p1 : ∀ (x y z : Bool), (part E #[.bool x, .bool y, .bool z] (1 * 1)).run P w = .ok (.bool y) w := fun x y z => by simp [part, isAgg, run_underlying hE]
  have p2 : ∀ (x y z : Bool), (part E #[.bool x, .bool y, .bool z] ((1 + 1) * 1)).run P w = .ok (.bool z) w := fun x y z => by simp [part, isAgg, run_underlying hE]
  simp only [Sem.run_bind, run_underlying hT, Result.andThen_ok, hsz, Std.Legacy.Range.forIn_eq_forIn_range', Std.Legacy.Range.size, Nat.sub_zero, Nat.add_sub_cancel, Nat.div_one, List.range'_succ, List.range'_zero, List.forIn_cons, List.forIn_nil, Nat.zero_add, p0, hb]
  cases a <;> cases a' <;> cases b <;> cases b' <;> cases c <;> cases c' <;> simp [p1, p2, hb]

theorem Pu_neqB3 {E : TypeId} (hm : P.eqGuardType P.depth T = false) (hT : P.underlying T = some (.array 3 E)) (hE : P.underlying E = some .bool) (hsz : ∀ w, (Go.sizeOf E).run P w = .ok 1 w) {a b c a' b' c' : Bool}
    (hx : e x = .agg ⟨[.bool a, .bool b, .bool c]⟩) (hy : e y = .agg ⟨[.bool a', .bool b', .bool c']⟩) : Pu P e ⟨d, .binOp .neq T x y T', ot, pos, af, g⟩ (.bool (!(a == a' && (b == b' && c == c')))) := fun w => by
  have hg := run_eqGuard_agg (P := P) w .neq T x y ⟨[.bool a, .bool b, .bool c]⟩ ⟨[.bool a', .bool b', .bool c']⟩ hm
  simp only [execOp, hx, hy, Sem.run_bind]
  rw [hg, Result.andThen_ok, run_neq_struct, run_equalIn_b3 9998 w hT hE hsz]
  rfl
end
end Go.Proofs.YtkjafeejpmcnkaaGreat.Hs
/-! Patterns and terms that are owned: rows of their own, one for each list. -/
namespace Go.Proofs.YtkjafeejpmcnkaaGreat.Hs
open Go

mutual
def OP : Pt → List Value → Zi → Prop
  | .mk k n r kids, cs, c => ∃ ks es k1 k2, cs = pkP k n r ks ∧ inI k ∧ inI n ∧ Own 81 35 ks es k1 ∧ OPs kids es k2 ∧ c = k1 ++ k2 ∧ kids.length ≤ 9223372036854775807
def OPs : List Pt → List (List Value) → Zi → Prop
  | [], es, c => es = [] ∧ c = []
  | p :: ps, es, c => ∃ e es' k k', es = e :: es' ∧ OP p e k ∧ OPs ps es' k' ∧ c = k ++ k'
end

mutual
def OT : Tm → List Value → Zi → Prop
  | .mk k n r kids cases, cs, c => ∃ ks cv es es' k1 k2 k3 k4, cs = pkT k n r ks cv ∧ inI k ∧ inI n ∧ Own 30 36 ks es k1 ∧ OTs kids es k2 ∧ Own 86 71 cv es' k3 ∧ OCs cases es' k4 ∧ c = k1 ++ (k2 ++ (k3 ++ k4)) ∧
      kids.length ≤ 9223372036854775807 ∧ cases.length ≤ 9223372036854775807
def OTs : List Tm → List (List Value) → Zi → Prop
  | [], es, c => es = [] ∧ c = []
  | p :: ps, es, c => ∃ e es' k k', es = e :: es' ∧ OT p e k ∧ OTs ps es' k' ∧ c = k ++ k'
def OCs : List (Pt × Tm) → List (List Value) → Zi → Prop
  | [], es, c => es = [] ∧ c = []
  | (p, t) :: ps, es, c => ∃ a b es' ka kb k', es = (a ++ b) :: es' ∧ OP p a ka ∧ OT t b kb ∧ OCs ps es' k' ∧ c = ka ++ (kb ++ k')
end

theorem OP_mk {k n : Int} {r : Sm} {kids : List Pt} {cs : List Value} {c : Zi} : OP (.mk k n r kids) cs c ↔ ∃ ks es k1 k2, cs = pkP k n r ks ∧ inI k ∧ inI n ∧ Own 81 35 ks es k1 ∧ OPs kids es k2 ∧ c = k1 ++ k2 ∧ kids.length ≤ 9223372036854775807 := by
  rw [OP]
theorem OT_mk {k n : Int} {r : Sm} {kids : List Tm} {cases : List (Pt × Tm)} {cs : List Value} {c : Zi} : OT (.mk k n r kids cases) cs c ↔ ∃ ks cv es es' k1 k2 k3 k4, cs = pkT k n r ks cv ∧ inI k ∧ inI n ∧ Own 30 36 ks es k1 ∧ OTs kids es k2 ∧ Own 86 71 cv es' k3 ∧ OCs cases es' k4 ∧ c = k1 ++ (k2 ++ (k3 ++ k4)) ∧
      kids.length ≤ 9223372036854775807 ∧ cases.length ≤ 9223372036854775807 := by
  rw [OT]

theorem OPs_len {l : List Pt} : ∀ {es c}, OPs l es c → es.length = l.length := by
  induction l with
  | nil => rintro es c h; rw [OPs] at h; rw [h.1]; rfl
  | cons p l ih => intro es c h; rw [OPs] at h; obtain ⟨e, es', k, k', rfl, _, h, _⟩ := h; simp [ih h]
theorem OTs_len {l : List Tm} : ∀ {es c}, OTs l es c → es.length = l.length := by
  induction l with
  | nil => rintro es c h; rw [OTs] at h; rw [h.1]; rfl
  | cons p l ih => intro es c h; rw [OTs] at h; obtain ⟨e, es', k, k', rfl, _, h, _⟩ := h; simp [ih h]
theorem OCs_len {l : List (Pt × Tm)} : ∀ {es c}, OCs l es c → es.length = l.length := by
  induction l with
  | nil => rintro es c h; rw [OCs] at h; rw [h.1]; rfl
  | cons p l ih => intro es c h; obtain ⟨p, t⟩ := p; rw [OCs] at h; obtain ⟨a, b, es', ka, kb, k', rfl, _, _, h, _⟩ := h; simp [ih h]

theorem OPs.nil : OPs [] [] [] := by rw [OPs]; exact ⟨rfl, rfl⟩
theorem OTs.nil : OTs [] [] [] := by rw [OTs]; exact ⟨rfl, rfl⟩
theorem OCs.nil : OCs [] [] [] := by rw [OCs]; exact ⟨rfl, rfl⟩
theorem OPs.snoc {l : List Pt} {p : Pt} {e : List Value} {k : Zi} (h' : OP p e k) : ∀ {es c}, OPs l es c → OPs (l ++ [p]) (es ++ [e]) (c ++ k) := by
  induction l with
  | nil => intro es c h; rw [OPs] at h; rw [h.1, h.2]; simp only [List.nil_append]; rw [OPs]; exact ⟨e, [], k, [], rfl, h', OPs.nil, by simp⟩
  | cons q l ih =>
    intro es c h
    rw [OPs] at h
    obtain ⟨f, es', k1, k2, rfl, h1, h2, rfl⟩ := h
    simp only [List.cons_append]
    rw [OPs]
    exact ⟨f, _, k1, _, rfl, h1, ih h2, by rw [List.append_assoc]⟩
theorem OTs.snoc {l : List Tm} {p : Tm} {e : List Value} {k : Zi} (h' : OT p e k) : ∀ {es c}, OTs l es c → OTs (l ++ [p]) (es ++ [e]) (c ++ k) := by
  induction l with
  | nil => intro es c h; rw [OTs] at h; rw [h.1, h.2]; simp only [List.nil_append]; rw [OTs]; exact ⟨e, [], k, [], rfl, h', OTs.nil, by simp⟩
  | cons q l ih =>
    intro es c h
    rw [OTs] at h
    obtain ⟨f, es', k1, k2, rfl, h1, h2, rfl⟩ := h
    simp only [List.cons_append]
    rw [OTs]
    exact ⟨f, _, k1, _, rfl, h1, ih h2, by rw [List.append_assoc]⟩
theorem OCs.snoc {l : List (Pt × Tm)} {p : Pt} {t : Tm} {a b : List Value} {ka kb : Zi} (hp : OP p a ka) (ht : OT t b kb) : ∀ {es c}, OCs l es c → OCs (l ++ [(p, t)]) (es ++ [a ++ b]) (c ++ (ka ++ kb)) := by
  induction l with
  | nil => intro es c h; rw [OCs] at h; rw [h.1, h.2]; simp only [List.nil_append]; rw [OCs]; exact ⟨a, b, [], ka, kb, [], rfl, hp, ht, OCs.nil, by simp⟩
  | cons q l ih =>
    intro es c h
    obtain ⟨q, u⟩ := q
    rw [OCs] at h
    obtain ⟨a', b', es', k1, k2, k3, rfl, h1, h2, h3, rfl⟩ := h
    simp only [List.cons_append]
    rw [OCs]
    exact ⟨a', b', _, k1, k2, _, rfl, h1, h2, ih h3, by simp only [List.append_assoc]⟩

theorem OP.len {p : Pt} {cs : List Value} {c : Zi} (h : OP p cs c) : cs.length = 35 := by cases p; obtain ⟨_, _, _, _, rfl, _⟩ := OP_mk.1 h; rfl
theorem OT.len {t : Tm} {cs : List Value} {c : Zi} (h : OT t cs c) : cs.length = 36 := by cases t; obtain ⟨_, _, _, _, _, _, _, _, rfl, _⟩ := OT_mk.1 h; rfl
theorem OP.ok {p : Pt} {cs : List Value} {c : Zi} (h : OP p cs c) : okc cs := by cases p; obtain ⟨_, _, _, _, rfl, _, _, h, _⟩ := OP_mk.1 h; exact pkP_ok h.one
theorem OT.ok {t : Tm} {cs : List Value} {c : Zi} (h : OT t cs c) : okc cs := by cases t; obtain ⟨_, _, _, _, _, _, _, _, rfl, _, _, h, _, h', _⟩ := OT_mk.1 h; exact ZS h.one h'.one

theorem Has.left {a b : Zi} {h : Heap} (x : Has (a ++ b) h) : Has a h := fun i o hi => x i o (List.mem_append.2 (.inl hi))
theorem Has.right {a b : Zi} {h : Heap} (x : Has (a ++ b) h) : Has b h := fun i o hi => x i o (List.mem_append.2 (.inr hi))
theorem Has.nil {h : Heap} : Has [] h := fun _ _ hi => by cases hi

theorem OPs_rows {h : Heap} {l : List Pt} (ih : ∀ p ∈ l, ∀ cs c, OP p cs c → Has c h → RP h cs p) : ∀ {es c}, OPs l es c → Has c h → ∀ i (h1 : i < es.length) (h2 : i < l.length), RP h es[i] l[i] := by
  induction l with
  | nil => intro es c _ _ i _ h2; exact absurd h2 (by simp)
  | cons p l ih' =>
    intro es c ho hh i h1 h2
    rw [OPs] at ho
    obtain ⟨e, es', k, k', rfl, hp, hs, rfl⟩ := ho
    cases i with
    | zero => exact ih p (by simp) e k hp hh.left
    | succ i => exact ih' (fun q hq => ih q (by simp [hq])) hs hh.right i (by simpa using h1) (by simpa using h2)
theorem OTs_rows {h : Heap} {l : List Tm} (ih : ∀ p ∈ l, ∀ cs c, OT p cs c → Has c h → RT h cs p) : ∀ {es c}, OTs l es c → Has c h → ∀ i (h1 : i < es.length) (h2 : i < l.length), RT h es[i] l[i] := by
  induction l with
  | nil => intro es c _ _ i _ h2; exact absurd h2 (by simp)
  | cons p l ih' =>
    intro es c ho hh i h1 h2
    rw [OTs] at ho
    obtain ⟨e, es', k, k', rfl, hp, hs, rfl⟩ := ho
    cases i with
    | zero => exact ih p (by simp) e k hp hh.left
    | succ i => exact ih' (fun q hq => ih q (by simp [hq])) hs hh.right i (by simpa using h1) (by simpa using h2)

theorem OP.rd {h : Heap} {p : Pt} : ∀ {cs c}, OP p cs c → Has c h → RP h cs p := by
  induction p using Pt.ind with
  | h k n r kids ih =>
    intro cs c ho hh
    obtain ⟨ks, es, k1, k2, rfl, hk, hn, ho1, ho2, rfl, hl⟩ := OP_mk.1 ho
    exact RP_mk.2 ⟨ks, rfl, hk, hn, ho1.rdS (OPs_len ho2).symm hl hh.left (OPs_rows (fun p hp cs c => ih p hp) ho2 hh.right)⟩

theorem OCs_rows {h : Heap} {l : List (Pt × Tm)} (ih : ∀ p ∈ l, ∀ cs c, OT p.2 cs c → Has c h → RT h cs p.2) : ∀ {es c}, OCs l es c → Has c h → ∀ i (h1 : i < es.length) (h2 : i < l.length), RC h es[i] l[i] := by
  induction l with
  | nil => intro es c _ _ i _ h2; exact absurd h2 (by simp)
  | cons p l ih' =>
    intro es c ho hh i h1 h2
    obtain ⟨p, t⟩ := p
    rw [OCs] at ho
    obtain ⟨a, b, es', ka, kb, k', rfl, hp, ht, hs, rfl⟩ := ho
    cases i with
    | zero => exact ⟨a, b, rfl, hp.rd hh.left, ih (p, t) (by simp) b kb ht hh.right.left⟩
    | succ i => exact ih' (fun q hq => ih q (by simp [hq])) hs hh.right.right i (by simpa using h1) (by simpa using h2)

theorem OT.rd {h : Heap} {t : Tm} : ∀ {cs c}, OT t cs c → Has c h → RT h cs t := by
  induction t using Tm.ind with
  | h k n r kids cases ih ih' =>
    intro cs c ho hh
    obtain ⟨ks, cv, es, es', k1, k2, k3, k4, rfl, hk, hn, ho1, ho2, ho3, ho4, rfl, hl, hl'⟩ := OT_mk.1 ho
    exact RT_mk.2 ⟨ks, cv, rfl, hk, hn, ho1.rdS (OTs_len ho2).symm hl hh.left (OTs_rows (fun p hp cs c => ih p hp) ho2 hh.right.left),
      ho3.rdS (OCs_len ho4).symm hl' hh.right.right.left (OCs_rows (fun p hp cs c => ih' p hp) ho4 hh.right.right.right)⟩

theorem Sub.join {a b : Zi} {R M : List Zi} (h : Sub (a :: b :: R) M) : Sub ((a ++ b) :: R) M := h.flat (by simp)
theorem Sub.emp {R M : List Zi} (h : Sub R M) : Sub ([] :: R) M := h.flat (by simp)

theorem OT_leaf {k n : Int} {r : Sm} (hk : inI k) (hn : inI n) : OT (.mk k n r [] []) (pkT k n r (.slice none 0 0) (.slice none 0 0)) [] :=
  OT_mk.2 ⟨_, _, [], [], [], [], [], [], rfl, hk, hn, Own.nil, OTs.nil, Own.nil, OCs.nil, rfl, by simp, by simp⟩
theorem OP_leaf {k n : Int} {r : Sm} (hk : inI k) (hn : inI n) : OP (.mk k n r []) (pkP k n r (.slice none 0 0)) [] :=
  OP_mk.2 ⟨_, [], [], [], rfl, hk, hn, Own.nil, OPs.nil, rfl, by simp⟩
end Go.Proofs.YtkjafeejpmcnkaaGreat.Hs
/-! Layer 4 in Xx Lean, eighth part: lists of numbers; an element of an owned row. -/
namespace Go.Proofs.YtkjafeejpmcnkaaGreat.Hs
open Go
theorem Own.at {T : TypeId} {sz : Nat} {v : Value} {es : List (List Value)} {k : Zi} (o : Own T sz v es k) {j : Nat} (hj : j < es.length) :
    ∃ b cap row, v = .slice (some ⟨b, 0, none⟩) es.length cap ∧ (b, Obj.cells ⟨row⟩ T (0, 0)) ∈ k ∧ sub row (0 + j * sz) sz = some es[j] := by
  rcases o.2 with ⟨e, e2, e3⟩ | ⟨b, cap, sp, e, e2, e3, e4⟩
  · subst e2; exact absurd hj (by simp)
  · exact ⟨b, cap, es.flatten ++ sp, e, by rw [e2]; simp, by rw [Nat.zero_add]; exact sub_row o.1 j hj⟩
def ints (l : List Int) : List (List Value) := l.map fun n => [.int .i64 n]
theorem ints_len (l : List Int) : (ints l).length = l.length := by simp [ints]
theorem ints_snoc (l : List Int) (n : Int) : ints (l ++ [n]) = ints l ++ [[.int .i64 n]] := by simp [ints]
theorem ints_get (l : List Int) (j : Nat) (h : j < l.length) : (ints l)[j]'(by rw [ints_len]; exact h) = [.int .i64 l[j]] := by simp [ints]
def RI (_ : Heap) (cs : List Value) (n : Int) : Prop := cs = [.int .i64 n]
theorem own_ints {T : TypeId} {v : Value} {l : List Int} {k : Zi} {h : Heap} (o : Own T 1 v (ints l) k) (hn : l.length ≤ 9223372036854775807) (hk : Has k h) : Hs.rdS RI 1 h v l :=
  o.rdS (ints_len l).symm hn hk fun i _ h2 => ints_get l i h2
/-- the places, up to a number, that are marked -/
def upTo (f : List Bool) (j : Nat) : List Int := ((List.range j).filter (fun i => f.getD i false)).map (fun i : Nat => (i : Int))
theorem upTo_succ (f : List Bool) (j : Nat) : upTo f (j + 1) = if f.getD j false = true then upTo f j ++ [(j : Int)] else upTo f j := by
  unfold upTo
  rw [List.range_succ, List.filter_append, List.map_append]
  by_cases h : f.getD j false = true
  · rw [if_pos h]; simp only [List.filter_cons, h, if_true, List.filter_nil, List.map_cons, List.map_nil]
  · rw [if_neg h]; simp only [List.filter_cons, h, List.filter_nil]; simp
theorem upTo_len (f : List Bool) (j : Nat) : (upTo f j).length ≤ j := by
  unfold upTo
  rw [List.length_map]
  have := List.length_filter_le (fun i => f.getD i false) (List.range j)
  rwa [List.length_range] at this
end Go.Proofs.YtkjafeejpmcnkaaGreat.Hs
/-! Layer 4 in Xx Lean, ninth part: Shift and Subst of the reference. -/
namespace Go.Proofs.YtkjafeejpmcnkaaGreat.Hs
open Go
def zT : Tm := .mk 0 0 zS [] []
theorem XI : OT zT (pkT 0 0 zS (.slice none 0 0) (.slice none 0 0)) [] := OT_leaf (by unfold inI; omega) (by unfold inI; omega)
theorem upTo_bound (f : List Bool) (j : Nat) : ∀ x ∈ upTo f j, 0 ≤ x ∧ x < (j : Int) := by
  intro x hx
  unfold upTo at hx
  obtain ⟨i, hi, rfl⟩ := List.mem_map.1 hx
  have := List.mem_range.1 (List.mem_filter.1 hi).1
  exact ⟨Int.natCast_nonneg _, by exact_mod_cast this⟩
end Go.Proofs.YtkjafeejpmcnkaaGreat.Hs
/-! Items as data: what cells read as them, and items that are owned. -/
namespace Go.Proofs.YtkjafeejpmcnkaaGreat.Hs
open Go
inductive It where
  | mk (kind num : Int) (text : ByteArray) (kids : List It)
namespace It
def kind : It → Int | .mk k _ _ _ => k
def num : It → Int | .mk _ n _ _ => n
def text : It → ByteArray | .mk _ _ t _ => t
def kids : It → List It | .mk _ _ _ l => l
end It
theorem It.ind {P : It → Prop} (h : ∀ k n t kids, (∀ x ∈ kids, P x) → P (.mk k n t kids)) : ∀ p, P p := by
  have key : ∀ n (p : It), SizeOf.sizeOf p ≤ n → P p := by
    intro n
    induction n with
    | zero => intro p hp; cases p; simp at hp
    | succ n ih =>
      intro p hp
      cases p with
      | mk k m r kids =>
        refine h k m r kids fun x hx => ih x ?_
        have := List.sizeOf_lt_of_mem hx
        simp at hp
        omega
  exact fun p => key _ p (Nat.le_refl _)
/-- The cells of an item. -/
abbrev pkI (k n : Int) (t : ByteArray) (ks : Value) : List Value := [.int .i64 k, .int .i64 n, .string t, ks]
mutual
def rdI (h : Heap) : It → List Value → Prop
  | .mk k n t kids, cs => ∃ ks, cs = pkI k n t ks ∧ inI k ∧ inI n ∧ rdSl h kids.length ks (rdIs h kids)
def rdIs (h : Heap) : List It → List Value → Nat → Prop
  | [], _, _ => True
  | p :: ps, row, o => (∃ cs, sub row o 4 = some cs ∧ rdI h p cs) ∧ rdIs h ps row (o + 4)
end
def RIt (h : Heap) (cs : List Value) (p : It) : Prop := rdI h p cs
theorem rdIs_eq (h : Heap) (l : List It) : ∀ row o, rdIs h l row o = rows (RIt h) 4 row o l := by
  induction l with
  | nil => intro row o; simp only [rdIs, rows]
  | cons p ps ih => intro row o; simp only [rdIs, rows, ih, RIt]
theorem RIt_mk {h : Heap} {cs : List Value} {k n : Int} {t : ByteArray} {kids : List It} : RIt h cs (.mk k n t kids) ↔ ∃ ks, cs = pkI k n t ks ∧ inI k ∧ inI n ∧ rdS RIt 4 h ks kids := by
  unfold rdS
  rw [show RIt h cs (.mk k n t kids) = rdI h (.mk k n t kids) cs from rfl]
  simp only [rdI]
  have : rdIs h kids = fun row o => rows (RIt h) 4 row o kids := by funext row o; exact rdIs_eq h kids row o
  rw [this]
theorem YE {h : Heap} {cs : List Value} {p : It} (r : RIt h cs p) : cs.length = 4 := by cases p; obtain ⟨ks, rfl, _⟩ := RIt_mk.1 r; rfl
theorem pkI_ok {k n : Int} {t : ByteArray} {ks : Value} (h : ks.oneCell' = true) : okc (pkI k n t ks) := by
  intro v hv
  simp only [pkI, List.mem_cons, List.not_mem_nil, or_false] at hv
  rcases hv with rfl | rfl | rfl | rfl
  · rfl
  · rfl
  · rfl
  · exact h
theorem RIt.mono {h h' : Heap} (hh : Hle h h') : ∀ {p cs}, RIt h cs p → RIt h' cs p := by
  intro p
  induction p using It.ind with
  | h k n t kids ih =>
    intro cs q
    obtain ⟨ks, e, h1, h2, h3⟩ := RIt_mk.1 q
    exact RIt_mk.2 ⟨ks, e, h1, h2, h3.mono hh fun x hx cs q => ih x hx q⟩
theorem RIts.mono {h h' : Heap} (hh : Hle h h') {v l} (q : rdS RIt 4 h v l) : rdS RIt 4 h' v l := rdS.mono q hh fun _ _ _ => RIt.mono hh
theorem Yb {h : Heap} {cs : List Value} {p : It} (q : RIt h cs p) : ∃ ks, cs = pkI p.kind p.num p.text ks ∧ inI p.kind ∧ inI p.num ∧ rdS RIt 4 h ks p.kids := by cases p; exact RIt_mk.1 q
theorem Yi {h : Heap} {p : It} {ks : Value} (h1 : inI p.kind) (h2 : inI p.num) (h3 : rdS RIt 4 h ks p.kids) : RIt h (pkI p.kind p.num p.text ks) p := by cases p; exact RIt_mk.2 ⟨ks, rfl, h1, h2, h3⟩
mutual
def OIt : It → List Value → Zi → Prop
  | .mk k n t kids, cs, c => ∃ ks es k1 k2, cs = pkI k n t ks ∧ inI k ∧ inI n ∧ Own 39 4 ks es k1 ∧ OIts kids es k2 ∧ c = k1 ++ k2 ∧ kids.length ≤ 9223372036854775807
def OIts : List It → List (List Value) → Zi → Prop
  | [], es, c => es = [] ∧ c = []
  | p :: ps, es, c => ∃ e es' k k', es = e :: es' ∧ OIt p e k ∧ OIts ps es' k' ∧ c = k ++ k'
end
theorem OIt_mk {k n : Int} {t : ByteArray} {kids : List It} {cs : List Value} {c : Zi} : OIt (.mk k n t kids) cs c ↔ ∃ ks es k1 k2, cs = pkI k n t ks ∧ inI k ∧ inI n ∧ Own 39 4 ks es k1 ∧ OIts kids es k2 ∧ c = k1 ++ k2 ∧ kids.length ≤ 9223372036854775807 := by
  rw [OIt]
theorem XJ {l : List It} : ∀ {es c}, OIts l es c → es.length = l.length := by
  induction l with
  | nil => rintro es c h; rw [OIts] at h; rw [h.1]; rfl
  | cons p l ih => intro es c h; rw [OIts] at h; obtain ⟨e, es', k, k', rfl, _, h, _⟩ := h; simp [ih h]
theorem OIts.nil : OIts [] [] [] := by rw [OIts]; exact ⟨rfl, rfl⟩
theorem OIts.snoc {l : List It} {p : It} {e : List Value} {k : Zi} (h' : OIt p e k) : ∀ {es c}, OIts l es c → OIts (l ++ [p]) (es ++ [e]) (c ++ k) := by
  induction l with
  | nil => intro es c h; rw [OIts] at h; rw [h.1, h.2]; simp only [List.nil_append]; rw [OIts]; exact ⟨e, [], k, [], rfl, h', OIts.nil, by simp⟩
  | cons q l ih =>
    intro es c h
    rw [OIts] at h
    obtain ⟨f, es', k1, k2, rfl, h1, h2, rfl⟩ := h
    simp only [List.cons_append]
    rw [OIts]
    exact ⟨f, _, k1, _, rfl, h1, ih h2, by rw [List.append_assoc]⟩
theorem OIt.len {p : It} {cs : List Value} {c : Zi} (h : OIt p cs c) : cs.length = 4 := by cases p; obtain ⟨_, _, _, _, rfl, _⟩ := OIt_mk.1 h; rfl
theorem OIt.ok {p : It} {cs : List Value} {c : Zi} (h : OIt p cs c) : okc cs := by cases p; obtain ⟨_, _, _, _, rfl, _, _, h, _⟩ := OIt_mk.1 h; exact pkI_ok h.one
theorem OIts_rows {h : Heap} {l : List It} (ih : ∀ p ∈ l, ∀ cs c, OIt p cs c → Has c h → RIt h cs p) : ∀ {es c}, OIts l es c → Has c h → ∀ i (h1 : i < es.length) (h2 : i < l.length), RIt h es[i] l[i] := by
  induction l with
  | nil => intro es c _ _ i _ h2; exact absurd h2 (by simp)
  | cons p l ih' =>
    intro es c ho hh i h1 h2
    rw [OIts] at ho
    obtain ⟨e, es', k, k', rfl, hp, hs, rfl⟩ := ho
    cases i with
    | zero => exact ih p (by simp) e k hp hh.left
    | succ i => exact ih' (fun q hq => ih q (by simp [hq])) hs hh.right i (by simpa using h1) (by simpa using h2)
theorem OIt.rd {h : Heap} {p : It} : ∀ {cs c}, OIt p cs c → Has c h → RIt h cs p := by
  induction p using It.ind with
  | h k n t kids ih =>
    intro cs c ho hh
    obtain ⟨ks, es, k1, k2, rfl, hk, hn, ho1, ho2, rfl, hl⟩ := OIt_mk.1 ho
    exact RIt_mk.2 ⟨ks, rfl, hk, hn, ho1.rdS (XJ ho2).symm hl hh.left (OIts_rows (fun p hp cs c => ih p hp) ho2 hh.right)⟩
theorem OIt_leaf {k n : Int} {t : ByteArray} (hk : inI k) (hn : inI n) : OIt (.mk k n t []) (pkI k n t (.slice none 0 0)) [] :=
  OIt_mk.2 ⟨_, [], [], [], rfl, hk, hn, Own.nil, OIts.nil, rfl, by simp⟩
def zI : It := .mk 0 0 ⟨#[]⟩ []
theorem OIt_zero : OIt zI (pkI 0 0 ⟨#[]⟩ (.slice none 0 0)) [] := OIt_leaf (by unfold inI; omega) (by unfold inI; omega)
end Go.Proofs.YtkjafeejpmcnkaaGreat.Hs
/-! How an item is read from bytes, in Xx Lean: what both decoders answer. -/
namespace Go.Proofs.YtkjafeejpmcnkaaGreat.Hs
open Go Go.Proofs
/-- what reading answers: a value and where it goes on, or an error and its index -/
inductive DR (α : Type) where
  | ok (a : α) (next : Nat)
  | err (c : Int) (i : Nat)
def bstr (l : List Int) : ByteArray := ⟨(l.map (fun n => UInt8.ofNat n.toNat)).toArray⟩
end Go.Proofs.YtkjafeejpmcnkaaGreat.Hs
/-! A digest and its text of 32 bytes; the item of a term. -/
namespace Go.Proofs.YtkjafeejpmcnkaaGreat.Hs
open Go Go.Proofs
/-- the digest of a text -/
def smS (s : ByteArray) : Sm := Vector.ofFn fun i : Fin 32 => s.data.toList.getD i.1 0
/-- the text of a digest -/
def txS (r : Sm) : ByteArray := ⟨r.toArray⟩
theorem txS_size (r : Sm) : (txS r).size = 32 := by unfold txS; exact r.size_toArray
theorem smS_get (s : ByteArray) (i : Nat) (h : i < 32) : (smS s)[i] = s.data.toList.getD i 0 := by simp [smS]
theorem sm_tx (r : Sm) : smS (txS r) = r := by
  apply Vector.ext
  intro i hi
  rw [smS_get _ i hi]
  unfold txS
  rw [List.getD_eq_getElem?_getD, List.getElem?_eq_getElem (by simp; exact hi)]
  simp
theorem tx_of {s : ByteArray} {r : Sm} (h : s.size = 32) (e : ∀ (i : Nat) (hi : i < 32), r[i] = s.data.toList.getD i 0) : txS r = s := by
  apply ByteArray.ext
  apply Array.ext
  · show r.toArray.size = s.data.size
    rw [r.size_toArray]; exact h.symm
  · intro i h1 h2
    have hi : i < 32 := by have : s.data.size = 32 := h; omega
    show r.toArray[i] = _
    have e := e i hi
    rw [List.getD_eq_getElem?_getD, List.getElem?_eq_getElem (by simp; exact h2)] at e
    have e2 : r.toArray[i] = r[i] := rfl
    rw [e2, e]
    simp
theorem tx_sm {s : ByteArray} (h : s.size = 32) : txS (smS s) = s := tx_of h (smS_get s)
/-- its cells are the bytes of the text -/
theorem sC_str {s : ByteArray} (h : s.size = 32) : (sB s).map (fun n => Value.int .u8 n) = sC (smS s) := by
  apply List.ext_getElem?
  intro i
  by_cases hi : i < 32
  · rw [sC_get _ i hi, smS_get s i hi]
    have h2 : i < (sB s).length := by rw [Y5]; omega
    have h3 : i < s.data.toList.length := by have : s.data.toList.length = s.size := rfl; omega
    rw [List.getElem?_map, List.getElem?_eq_getElem h2, List.getD_eq_getElem?_getD, List.getElem?_eq_getElem h3]
    simp only [sB, List.getElem_map, Option.map_some, Option.getD_some]
  · rw [List.getElem?_eq_none (by rw [List.length_map, Y5]; omega), List.getElem?_eq_none (by rw [sC_len]; omega)]
/-! the item of a term -/
mutual
def itP : Pt → It
  | .mk k n r kids => .mk (30 + k) n (if k = 3 then txS r else ⟨#[]⟩) (YW kids)
def YW : List Pt → List It
  | [] => []
  | p :: l => itP p :: YW l
end
mutual
def itT : Tm → It
  | .mk k n r kids cases => .mk k n (if ZF k = true then txS r else ⟨#[]⟩) (Ym kids ++ Yp cases)
def Ym : List Tm → List It
  | [] => []
  | t :: l => itT t :: Ym l
def Yp : List (Pt × Tm) → List It
  | [] => []
  | (p, t) :: l => .mk 20 0 ⟨#[]⟩ [itP p, itT t] :: Yp l
end
end Go.Proofs.YtkjafeejpmcnkaaGreat.Hs
/-! A term read from an item, as the program reads it: how many items were begun, and whether something is wrong. -/
namespace Go.Proofs.YtkjafeejpmcnkaaGreat.Hs
open Go Go.Proofs
def farG (d : Int) (σ : Int × Bool) : Bool := σ.2 || decide (600 < σ.1 + 1) || decide (62 < d)
def Yy (has : Bool) (t : ByteArray) : Bool := (has && decide (¬ t.size = 32)) || (!has && decide (¬ t = ⟨#[]⟩))
def Ys (has : Bool) (t : ByteArray) : Sm := if Yy has t = true then zS else if has = true then smS t else zS
def Yr (k : Int) : Int := IntKind.i64.wrap (k - 30)
def zPt : Pt := .mk 0 0 zS []
mutual
def ptG : It → Int → Int × Bool → Pt × (Int × Bool)
  | .mk k m t kids, d, σ =>
    if farG d σ = true then (zPt, (σ.1 + 1, true))
    else (.mk (Yr k) m (Ys (decide (k = 33)) t) (Xp kids (d + 1) (σ.1 + 1, Yy (decide (k = 33)) t)).1, (Xp kids (d + 1) (σ.1 + 1, Yy (decide (k = 33)) t)).2)
def Xp : List It → Int → Int × Bool → List Pt × (Int × Bool)
  | [], _, σ => ([], σ)
  | x :: l, d, σ => ((ptG x d σ).1 :: (Xp l d (ptG x d σ).2).1, (Xp l d (ptG x d σ).2).2)
end
mutual
/-- kinds from which 30 can be taken -/
def okI : It → Prop
  | .mk k _ _ kids => (-9223372036854775778 ≤ k ∧ k ≤ 9223372036854775807) ∧ Xh kids
def Xh : List It → Prop
  | [] => True
  | x :: l => okI x ∧ Xh l
end
/-- what is wrong stays wrong -/
theorem ptG_stay (x : It) : ∀ (d : Int) (σ : Int × Bool), σ.2 = true → (ptG x d σ).2.2 = true := by
  intro d σ h
  cases x with
  | mk k m t kids => rw [ptG, if_pos (by unfold farG; simp [h])]
theorem ptGs_stay (l : List It) : ∀ (d : Int) (σ : Int × Bool), σ.2 = true → (Xp l d σ).2.2 = true := by
  induction l with
  | nil => intro d σ h; rw [Xp]; exact h
  | cons x l ih => intro d σ h; rw [Xp]; exact ih _ _ (ptG_stay x d σ h)
theorem ref_tx {has : Bool} {t : ByteArray} (h : Yy has t = false) : t = if has = true then txS (Ys has t) else ⟨#[]⟩ := by
  cases has with
  | true =>
    have h1 : t.size = 32 := by simpa [Yy] using h
    have e : Ys true t = smS t := by unfold Ys; rw [h]; rfl
    rw [if_pos rfl, e, tx_sm h1]
  | false =>
    have h1 : t = ⟨#[]⟩ := by simpa [Yy] using h
    rw [if_neg (by decide)]
    exact h1
/-- kinds that can be told from one another -/
theorem wr30_in {k : Int} (h : -9223372036854775778 ≤ k ∧ k ≤ 9223372036854775807) : Yr k = k - 30 := w64 (by omega)
/-- what is read well is the pattern of which this is the item -/
theorem ptG_is (x : It) : ∀ (d : Int) (σ : Int × Bool), (ptG x d σ).2.2 = false → okI x → itP (ptG x d σ).1 = x := by
  induction x using It.ind with
  | h k m t kids ih =>
    intro d σ h hk
    rw [okI] at hk
    rw [ptG] at h ⊢
    by_cases hf : farG d σ = true
    · rw [if_pos hf] at h; cases h
    · rw [if_neg hf] at h ⊢
      have hw : Yy (decide (k = 33)) t = false := by
        cases e : Yy (decide (k = 33)) t with
        | false => rfl
        | true => have := ptGs_stay kids (d + 1) (σ.1 + 1, Yy (decide (k = 33)) t) e; rw [this] at h; cases h
      have hK : ∀ (l : List It) (σ : Int × Bool), (∀ x ∈ l, ∀ (d : Int) (σ : Int × Bool), (ptG x d σ).2.2 = false → okI x → itP (ptG x d σ).1 = x) → Xh l → (Xp l (d + 1) σ).2.2 = false → YW (Xp l (d + 1) σ).1 = l := by
        intro l
        induction l with
        | nil => intro σ _ _ _; rw [Xp, YW]
        | cons x l ihl =>
          intro σ hl ho h
          rw [Xh] at ho
          rw [Xp] at h ⊢
          have h1 : (ptG x (d + 1) σ).2.2 = false := by
            cases e : (ptG x (d + 1) σ).2.2 with
            | false => rfl
            | true => have := ptGs_stay l (d + 1) _ e; rw [this] at h; cases h
          rw [YW, hl x (by simp) _ _ h1 ho.1, ihl _ (fun y hy => hl y (by simp [hy])) ho.2 h]
      rw [itP, wr30_in hk.1, hK kids _ ih hk.2 h]
      have e : (30 : Int) + (k - 30) = k := by omega
      have e3 : (k - 30 = 3) ↔ k = 33 := by omega
      have r := ref_tx hw
      rw [e]
      congr 1
      by_cases h3 : k = 33
      · rw [if_pos (by omega)]; rw [if_pos (by simp [h3])] at r; exact r.symm
      · rw [if_neg (by omega)]; rw [if_neg (by simp [h3])] at r; exact r.symm
end Go.Proofs.YtkjafeejpmcnkaaGreat.Hs
/-! A term read from an item, as the program reads it. -/
namespace Go.Proofs.YtkjafeejpmcnkaaGreat.Hs
open Go Go.Proofs
mutual
def tmG : It → Int → Int × Bool → Tm × (Int × Bool)
  | .mk k m t kids, d, σ =>
    if farG d σ = true then (zT, (σ.1 + 1, true))
    else (.mk k m (Ys (ZF k) t) (Yx kids (d + 1) [] [] (σ.1 + 1, Yy (ZF k) t)).1.1 (Yx kids (d + 1) [] [] (σ.1 + 1, Yy (ZF k) t)).1.2, (Yx kids (d + 1) [] [] (σ.1 + 1, Yy (ZF k) t)).2)
def Yx : List It → Int → List Tm → List (Pt × Tm) → Int × Bool → (List Tm × List (Pt × Tm)) × (Int × Bool)
  | [], _, ks, cs, σ => ((ks, cs), σ)
  | .mk 20 0 t [a, b] :: l, d, ks, cs, σ =>
    if ¬ t = ⟨#[]⟩ then Yx l d ks cs (σ.1, true)
    else Yx l d ks (cs ++ [((ptG a d σ).1, (tmG b d (ptG a d σ).2).1)]) (tmG b d (ptG a d σ).2).2
  | y :: l, d, ks, cs, σ =>
    if ¬ y.kind = 20 then Yx l d (ks ++ [(tmG y d (σ.1, σ.2 || decide (0 < cs.length))).1]) cs (tmG y d (σ.1, σ.2 || decide (0 < cs.length))).2
    else Yx l d ks cs (σ.1, true)
end
theorem tmGs_case (t : ByteArray) (a b : It) (l : List It) (d : Int) (ks : List Tm) (cs : List (Pt × Tm)) (σ : Int × Bool) : Yx (.mk 20 0 t [a, b] :: l) d ks cs σ =
    if ¬ t = ⟨#[]⟩ then Yx l d ks cs (σ.1, true)
    else Yx l d ks (cs ++ [((ptG a d σ).1, (tmG b d (ptG a d σ).2).1)]) (tmG b d (ptG a d σ).2).2 := by rw [Yx]
theorem tmGs_kid {y : It} (hy : ∀ t a b, y = .mk 20 0 t [a, b] → False) (l : List It) (d : Int) (ks : List Tm) (cs : List (Pt × Tm)) (σ : Int × Bool) : Yx (y :: l) d ks cs σ =
    if ¬ y.kind = 20 then Yx l d (ks ++ [(tmG y d (σ.1, σ.2 || decide (0 < cs.length))).1]) cs (tmG y d (σ.1, σ.2 || decide (0 < cs.length))).2
    else Yx l d ks cs (σ.1, true) := by
  rw [Yx]
  exact hy
theorem tmG_stay (x : It) (d : Int) (σ : Int × Bool) (h : σ.2 = true) : (tmG x d σ).2.2 = true := by
  cases x with
  | mk k m t kids => rw [tmG, if_pos (by unfold farG; simp [h])]
theorem Xb (l : List It) : ∀ (d : Int) (ks : List Tm) (cs : List (Pt × Tm)) (σ : Int × Bool), σ.2 = true → (Yx l d ks cs σ).2.2 = true := by
  induction l with
  | nil => intro d ks cs σ h; rw [Yx]; exact h
  | cons y l ih =>
    intro d ks cs σ h
    by_cases hc : ∃ t a b, y = .mk 20 0 t [a, b]
    · obtain ⟨t, a, b, rfl⟩ := hc
      rw [tmGs_case]
      split
      · exact ih _ _ _ _ rfl
      · exact ih _ _ _ _ (tmG_stay _ _ _ (ptG_stay _ _ _ h))
    · rw [tmGs_kid (fun t a b e => hc ⟨t, a, b, e⟩)]
      split
      · exact ih _ _ _ _ (tmG_stay _ _ _ (by simp [h]))
      · exact ih _ _ _ _ rfl
theorem itTs_app (a b : List Tm) : Ym (a ++ b) = Ym a ++ Ym b := by
  induction a with
  | nil => rw [Ym]; rfl
  | cons x a ih => rw [List.cons_append, Ym, ih, Ym]; rfl
theorem itCs_app (a b : List (Pt × Tm)) : Yp (a ++ b) = Yp a ++ Yp b := by
  induction a with
  | nil => rw [Yp]; rfl
  | cons x a ih => obtain ⟨p, t⟩ := x; rw [List.cons_append, Yp, ih, Yp]; rfl
def tmOK (x : It) : Prop := ∀ (d : Int) (σ : Int × Bool), (tmG x d σ).2.2 = false → okI x → itT (tmG x d σ).1 = x
theorem okIs_mem {l : List It} (h : Xh l) : ∀ x ∈ l, okI x := by
  induction l with
  | nil => intro x hx; cases hx
  | cons y l ih =>
    rw [Xh] at h
    intro x hx
    rcases List.mem_cons.1 hx with rfl | hx
    · exact h.1
    · exact ih h.2 x hx
theorem tmGs_is (l : List It) : ∀ (d : Int) (ks : List Tm) (cs : List (Pt × Tm)) (σ : Int × Bool), (∀ x ∈ l, tmOK x) → (∀ x ∈ l, ∀ y ∈ x.kids, tmOK y) → Xh l → (Yx l d ks cs σ).2.2 = false →
    Ym (Yx l d ks cs σ).1.1 ++ Yp (Yx l d ks cs σ).1.2 = Ym ks ++ Yp cs ++ l := by
  induction l with
  | nil => intro d ks cs σ _ _ _ _; rw [Yx, List.append_nil]
  | cons y l ihl =>
    intro d ks cs σ h1 h2 ho h
    rw [Xh] at ho
    have h1' : ∀ x ∈ l, tmOK x := fun x hx => h1 x (by simp [hx])
    have h2' : ∀ x ∈ l, ∀ y ∈ x.kids, tmOK y := fun x hx => h2 x (by simp [hx])
    by_cases hc : ∃ t a b, y = .mk 20 0 t [a, b]
    · obtain ⟨t, a, b, rfl⟩ := hc
      rw [tmGs_case] at h ⊢
      by_cases ht : t = ⟨#[]⟩
      · rw [if_neg (fun z => z ht)] at h ⊢
        have hb : (tmG b d (ptG a d σ).2).2.2 = false := by
          cases e : (tmG b d (ptG a d σ).2).2.2 with
          | false => rfl
          | true => rw [Xb _ _ _ _ _ e] at h; cases h
        have ha : (ptG a d σ).2.2 = false := by
          cases e : (ptG a d σ).2.2 with
          | false => rfl
          | true => rw [tmG_stay _ _ _ e] at hb; cases hb
        have ho1 := ho.1
        rw [okI] at ho1
        have ea := ptG_is a d σ ha (okIs_mem ho1.2 a (by simp))
        have eb := h2 (.mk 20 0 t [a, b]) List.mem_cons_self b (by simp [It.kids]) d _ hb (okIs_mem ho1.2 b (by simp))
        rw [ihl _ _ _ _ h1' h2' ho.2 h, itCs_app, Yp, Yp, ea, eb, ht]
        simp
      · rw [if_pos ht] at h
        rw [Xb _ _ _ _ _ rfl] at h
        cases h
    · have hy := fun t a b e => hc ⟨t, a, b, e⟩
      rw [tmGs_kid hy] at h ⊢
      by_cases hk : y.kind = 20
      · rw [if_neg (fun z => z hk)] at h
        rw [Xb _ _ _ _ _ rfl] at h
        cases h
      · rw [if_pos hk] at h ⊢
        have hb : (tmG y d (σ.1, σ.2 || decide (0 < cs.length))).2.2 = false := by
          cases e : (tmG y d (σ.1, σ.2 || decide (0 < cs.length))).2.2 with
          | false => rfl
          | true => rw [Xb _ _ _ _ _ e] at h; cases h
        have hw : (σ.2 || decide (0 < cs.length)) = false := by
          cases e : (σ.2 || decide (0 < cs.length)) with
          | false => rfl
          | true => rw [tmG_stay y d (σ.1, σ.2 || decide (0 < cs.length)) e] at hb; cases hb
        have hcs : cs = [] := by
          cases cs with
          | nil => rfl
          | cons c cs => simp at hw
        subst hcs
        have ey := h1 y (by simp) d _ hb ho.1
        rw [ihl _ _ _ _ h1' h2' ho.2 h, itTs_app, Ym, Ym, ey, Yp]
        simp
theorem tm_all (x : It) : tmOK x ∧ ∀ y ∈ x.kids, tmOK y := by
  induction x using It.ind with
  | h k m t kids ih =>
    refine ⟨?_, fun y hy => (ih y hy).1⟩
    intro d σ h hk
    rw [okI] at hk
    rw [tmG] at h ⊢
    by_cases hf : farG d σ = true
    · rw [if_pos hf] at h; cases h
    · rw [if_neg hf] at h ⊢
      have hw : Yy (ZF k) t = false := by
        cases e : Yy (ZF k) t with
        | false => rfl
        | true => rw [Xb kids (d + 1) [] [] (σ.1 + 1, Yy (ZF k) t) e] at h; cases h
      rw [itT, tmGs_is kids _ _ _ _ (fun y hy => (ih y hy).1) (fun y hy => (ih y hy).2) hk.2 h, Ym, Yp, ← ref_tx hw]
      simp
/-- what is read well is the term of which this is the item -/
theorem tmG_is (x : It) (d : Int) (σ : Int × Bool) (h : (tmG x d σ).2.2 = false) (hk : okI x) : itT (tmG x d σ).1 = x := (tm_all x).1 d σ h hk
end Go.Proofs.YtkjafeejpmcnkaaGreat.Hs
/-! A pattern, a term that is right is read again from its item. -/
namespace Go.Proofs.YtkjafeejpmcnkaaGreat.Hs
open Go Go.Proofs
mutual
/-- a pattern that can be read so deep -/
def fitP : Pt → Int → Prop
  | .mk k _ r kids, d => d ≤ 62 ∧ (-1000 ≤ k ∧ k ≤ 1000) ∧ (¬ k = 3 → r = zS) ∧ fitPs kids (d + 1)
def fitPs : List Pt → Int → Prop
  | [], _ => True
  | p :: l, d => fitP p d ∧ fitPs l d
end
theorem refW_tx {has : Bool} {r : Sm} (h : has = false → r = zS) : Yy has (if has = true then txS r else ⟨#[]⟩) = false ∧ Ys has (if has = true then txS r else ⟨#[]⟩) = r := by
  cases has with
  | true =>
    have e : Yy true (txS r) = false := by simp [Yy, txS_size]
    refine ⟨by rw [if_pos rfl]; exact e, ?_⟩
    rw [if_pos rfl]; unfold Ys; rw [e]; exact sm_tx r
  | false =>
    have e : Yy false ⟨#[]⟩ = false := by simp [Yy]
    refine ⟨by rw [if_neg (by decide)]; exact e, ?_⟩
    rw [if_neg (by decide)]; unfold Ys; rw [e]; exact (h rfl).symm
theorem pt_back (p : Pt) : ∀ (d n : Int), fitP p d → n + sizeP p ≤ 600 → ptG (itP p) d (n, false) = (p, (n + sizeP p, false)) := by
  induction p using Pt.ind with
  | h k m r kids ih =>
    intro d n h hz
    rw [fitP] at h
    obtain ⟨h1, h2, h3, h4⟩ := h
    have hK : ∀ (l : List Pt) (d n : Int), (∀ x ∈ l, ∀ (d n : Int), fitP x d → n + sizeP x ≤ 600 → ptG (itP x) d (n, false) = (x, (n + sizeP x, false))) → fitPs l d → n + ZQ l ≤ 600 → Xp (YW l) d (n, false) = (l, (n + ZQ l, false)) := by
      intro l
      induction l with
      | nil => intro d n _ _ _; rw [YW, Xp, ZQ]; simp
      | cons x l ihl =>
        intro d n hl hf hz
        rw [fitPs] at hf
        rw [ZQ] at hz ⊢
        have e := hl x (by simp) d n hf.1 (by omega)
        have e2 := ihl d (n + sizeP x) (fun y hy => hl y (by simp [hy])) hf.2 (by omega)
        rw [YW, Xp, e]
        simp only
        rw [e2]
        simp only [Prod.mk.injEq, and_true, true_and]
        omega
    rw [sizeP] at hz
    have hw := refW_tx (has := decide (30 + k = 33)) (r := r) (fun z => h3 (by simp at z; omega))
    have e3 : (if k = 3 then txS r else (⟨#[]⟩ : ByteArray)) = if decide (30 + k = 33) = true then txS r else ⟨#[]⟩ := by
      by_cases hk : k = 3
      · rw [if_pos hk, if_pos (by simp; omega)]
      · rw [if_neg hk, if_neg (by simp; omega)]
    have hfar : ¬ farG d (n, false) = true := by unfold farG; simp; omega
    rw [itP, ptG, if_neg hfar, e3, hw.1, hw.2, hK kids (d + 1) (n + 1) ih h4 (by omega), sizeP, show Yr (30 + k) = k from (wr30_in (by omega)).trans (by omega)]
    simp only [Prod.mk.injEq, and_true, true_and]
    omega
mutual
def fitT : Tm → Int → Prop
  | .mk k _ r kids cases, d => d ≤ 62 ∧ ¬ k = 20 ∧ (ZF k = false → r = zS) ∧ fitTs kids (d + 1) ∧ fitCs cases (d + 1)
def fitTs : List Tm → Int → Prop
  | [], _ => True
  | t :: l, d => fitT t d ∧ fitTs l d
def fitCs : List (Pt × Tm) → Int → Prop
  | [], _ => True
  | (p, t) :: l, d => (fitP p d ∧ fitT t d) ∧ fitCs l d
end
theorem itT_kind {t : Tm} {d : Int} (h : fitT t d) : ¬ (itT t).kind = 20 := by
  cases t with
  | mk k n r kids cases => rw [fitT] at h; rw [itT]; exact h.2.1
theorem tm_back (t : Tm) : ∀ (d n : Int), fitT t d → n + sizeT t ≤ 600 → tmG (itT t) d (n, false) = (t, (n + sizeT t, false)) := by
  induction t using Tm.ind with
  | h k m r kids cases ih ih' =>
    intro d n h hz
    rw [fitT] at h
    obtain ⟨h1, h2, h3, h4, h5⟩ := h
    have hC : ∀ (l : List (Pt × Tm)) (d n : Int) (ks : List Tm) (cs : List (Pt × Tm)), (∀ c ∈ l, ∀ (d n : Int), fitT c.2 d → n + sizeT c.2 ≤ 600 → tmG (itT c.2) d (n, false) = (c.2, (n + sizeT c.2, false))) → fitCs l d → n + ZL l ≤ 600 → Yx (Yp l) d ks cs (n, false) = ((ks, cs ++ l), (n + ZL l, false)) := by
      intro l
      induction l with
      | nil => intro d n ks cs _ _ _; rw [Yp, Yx, ZL]; simp
      | cons c l ihl =>
        intro d n ks cs hl hf hz
        obtain ⟨p, x⟩ := c
        rw [fitCs] at hf
        rw [ZL] at hz ⊢
        have e1 := pt_back p d n hf.1.1 (by omega)
        have e2 := hl (p, x) (by simp) d (n + sizeP p) hf.1.2 (by simp only; omega)
        simp only at e2
        have e3 := ihl d (n + sizeP p + sizeT x) ks (cs ++ [(p, x)]) (fun y hy => hl y (by simp [hy])) hf.2 (by omega)
        rw [Yp, tmGs_case, if_neg (fun z => z rfl), e1]
        simp only
        rw [e2]
        simp only
        rw [e3]
        simp only [Prod.mk.injEq, and_true, true_and, List.append_assoc, List.singleton_append]
        omega
    have hK : ∀ (l : List Tm) (R : List It) (d n : Int) (ks : List Tm), (∀ x ∈ l, ∀ (d n : Int), fitT x d → n + sizeT x ≤ 600 → tmG (itT x) d (n, false) = (x, (n + sizeT x, false))) → fitTs l d → n + ZE l ≤ 600 → Yx (Ym l ++ R) d ks [] (n, false) = Yx R d (ks ++ l) [] (n + ZE l, false) := by
      intro l
      induction l with
      | nil => intro R d n ks _ _ _; rw [Ym, ZE]; simp
      | cons x l ihl =>
        intro R d n ks hl hf hz
        rw [fitTs] at hf
        rw [ZE] at hz ⊢
        have hk := itT_kind hf.1
        have e1 := hl x (by simp) d n hf.1 (by omega)
        have e3 := ihl R d (n + sizeT x) (ks ++ [x]) (fun y hy => hl y (by simp [hy])) hf.2 (by omega)
        rw [Ym, List.cons_append, tmGs_kid (fun t a b e => hk (by rw [e]; rfl)), if_pos hk]
        simp only [Bool.false_or, List.length_nil, Nat.lt_irrefl, decide_false]
        rw [e1]
        simp only
        rw [e3, List.append_assoc, List.singleton_append, Int.natCast_add, ← Int.add_assoc]
    rw [sizeT] at hz
    have hw := refW_tx (has := ZF k) (r := r) h3
    have hfar : ¬ farG d (n, false) = true := by unfold farG; simp; omega
    rw [itT, tmG, if_neg hfar, hw.1, hw.2, hK kids (Yp cases) (d + 1) (n + 1) [] ih h4 (by omega), hC cases (d + 1) _ _ _ ih' h5 (by omega), sizeT]
    simp only [Prod.mk.injEq, and_true, true_and, List.nil_append]
    omega
end Go.Proofs.YtkjafeejpmcnkaaGreat.Hs
