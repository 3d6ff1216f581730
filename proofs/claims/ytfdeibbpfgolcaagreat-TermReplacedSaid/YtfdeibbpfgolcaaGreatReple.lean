import Derived.Test.YtfdeibbpfgolcaaGreatRepld
import Derived.KernelRfl
import Derived.Stop.BytesEq
/-! Building structs; digests compared. Generic: no program is named. -/
namespace Go.Proofs.YtfdeibbpfgolcaaGreat.Hs
open Go

theorem ZN {P : Program} {t : TypeId} {fields : Array Field} {z : Value} {pl : Array (Nat × Nat)} {parts : List (Nat × Value)} {cells : List Value} (hz : ∀ w, (zeroValue t).run P w = .ok z w) (hu : ∀ w, (underlying t).run P w = .ok (.struct fields) w)
    (hpl : ∀ w, (fields.mapM fun f => (do pure (f.offset, ← Go.sizeOf f.type) : Sem (Nat × Nat))).run P w = .ok pl w) (hf : Instr.fill (pl[·]?) z.cells parts = some ⟨cells⟩) :
    ∀ w, (Instr.build t ⟨parts⟩).run P w = .ok (.agg ⟨cells⟩) w := fun w => by
  simp only [Instr.build, Sem.run_bind, hz, Result.andThen_ok, hu, hpl, hf, Sem.run_pure]

theorem run_buildA {P : Program} {t el n sz : Nat} {z : Value} {parts : List (Nat × Value)} {cells : List Value} (hz : ∀ w, (zeroValue t).run P w = .ok z w) (hu : ∀ w, (underlying t).run P w = .ok (.array n el) w)
    (hs : ∀ w, (Go.sizeOf el).run P w = .ok sz w) (hf : Instr.fill (fun i => some (i * sz, sz)) z.cells parts = some ⟨cells⟩) :
    ∀ w, (Instr.build t ⟨parts⟩).run P w = .ok (.agg ⟨cells⟩) w := fun w => by
  simp only [Instr.build, Sem.run_bind, hz, Result.andThen_ok, hu, hs, hf, Sem.run_pure]

theorem fill_cons {place : Nat → Option (Nat × Nat)} {i off sz : Nat} {v : Value} {l pre mid post : List Value} {rest : List (Nat × Value)} {r : Option (Array Value)} (hp : place i = some (off, sz)) (hv : v.cells = ⟨l⟩) (hl : l.length = sz)
    (h1 : pre.length = off) (h2 : mid.length = sz) (h : Instr.fill place ⟨pre ++ (l ++ post)⟩ rest = r) : Instr.fill place ⟨pre ++ (mid ++ post)⟩ ((i, v) :: rest) = r := by
  subst h
  have hsz : v.cells.size = sz := by rw [hv]; simpa using hl
  simp only [Instr.fill, hp]
  rw [hsz]
  have hc : (decide (sz ≠ sz) || decide (off + sz > (⟨pre ++ (mid ++ post)⟩ : Array Value).size)) = false := by
    simp [h1, h2]
  rw [hc]
  simp only [Bool.false_eq_true, if_false]
  have hf := foldl_set v.cells.toList ⟨pre ++ (mid ++ post)⟩ off 0 (by simp [hv, hl, h1, h2])
  have hz : v.cells.zipIdx.foldl (fun (cs : Array Value) (p : Value × Nat) => cs.setIfInBounds (off + p.2) p.1) (⟨pre ++ (mid ++ post)⟩ : Array Value) = ⟨pre ++ (l ++ post)⟩ := by
    rw [← Array.foldl_toList, Array.toList_zipIdx, hf]
    simp only [Nat.add_zero, hv, hl, ← h1]
    congr 1
    rw [List.take_left, ← List.drop_drop, List.drop_left, ← h2, List.drop_left]
  exact congrArg (fun q => Instr.fill place q rest) hz

section
variable {P : Program} {e : Operand → Value} {d : Option Nat} {ot : TypeId} {pos : String} {af : Array Edge} {g : Option (Nat × Bool)} {T T' : TypeId} {x y : Operand}

theorem sC_map (r : Sm) : sC r = r.toList.map Extern.Stop.cell := by
  apply List.ext_getElem
  · simp [sC_len]
  · intro i h1 h2
    have h3 : i < 32 := h1
    have h := sC_get r i h3
    rw [List.getElem?_eq_getElem h1] at h
    rw [Option.some.inj h]
    simp [Extern.Stop.cell]

theorem Pu_eqlSum {E : TypeId} (hm : P.eqGuardType P.depth T = false) (hT : P.underlying T = some (.array 32 E)) (hE : P.underlying E = some (.int .u8)) (hsz : ∀ w, (Go.sizeOf E).run P w = .ok 1 w) {r s : Sm} (hx : e x = .agg ⟨sC r⟩) (hy : e y = .agg ⟨sC s⟩) :
    Pu P e ⟨d, .binOp .eql T x y T', ot, pos, af, g⟩ (.bool (decide (r = s))) := fun w => by
  have h := run_eql_bytes (P := P) w T E 32 hT hE hsz r.toList s.toList (by simp) (by simp)
  have hg := run_eqGuard_agg (P := P) w .eql T x y ⟨sC r⟩ ⟨sC s⟩ hm
  rw [← sC_map, ← sC_map] at h
  have hd : (r.toList == s.toList) = decide (r = s) := by
    rw [Bool.eq_iff_iff]; simp
  rw [hd] at h
  simp only [execOp, hx, hy, Sem.run_bind, hg, Result.andThen_ok]
  rw [h]; rfl
theorem Pu_neqSum {E : TypeId} (hm : P.eqGuardType P.depth T = false) (hT : P.underlying T = some (.array 32 E)) (hE : P.underlying E = some (.int .u8)) (hsz : ∀ w, (Go.sizeOf E).run P w = .ok 1 w) {r s : Sm} (hx : e x = .agg ⟨sC r⟩) (hy : e y = .agg ⟨sC s⟩) :
    Pu P e ⟨d, .binOp .neq T x y T', ot, pos, af, g⟩ (.bool (!decide (r = s))) := fun w => by
  have h := run_equalIn_bytes (P := P) w 9998 T E 32 hT hE hsz r.toList s.toList (by simp) (by simp)
  have hg := run_eqGuard_agg (P := P) w .neq T x y ⟨sC r⟩ ⟨sC s⟩ hm
  rw [← sC_map, ← sC_map] at h
  have hd : (r.toList == s.toList) = decide (r = s) := by
    rw [Bool.eq_iff_iff]; simp
  rw [hd] at h
  simp only [execOp, hx, hy, Sem.run_bind, hg, Result.andThen_ok]
  rw [run_neq_struct]
  simp [h]

theorem run_equalIn_b3 {T E : TypeId} (d : Nat) (w : World) (hT : P.underlying T = some (.array 3 E)) (hE : P.underlying E = some .bool) (hsz : ∀ w, (Go.sizeOf E).run P w = .ok 1 w) (a b c a' b' c' : Bool) :
    (Op.equalIn (d + 2) T (.agg #[.bool a, .bool b, .bool c]) (.agg #[.bool a', .bool b', .bool c'])).run P w = .ok (a == a' && (b == b' && c == c')) w := by
  have hb : ∀ x y : Bool, (Op.equalIn (d + 1) E (.bool x) (.bool y)).run P w = .ok (x == y) w := fun x y => run_equalIn_bool d w (fun _ => run_underlying hE _)
  rw [Op.equalIn]
  have p0 : ∀ (x y z : Bool), (part E #[.bool x, .bool y, .bool z] (0 * 1)).run P w = .ok (.bool x) w := fun x y z => by simp [part, isAgg, run_underlying hE]
  have p1 : ∀ (x y z : Bool), (part E #[.bool x, .bool y, .bool z] (1 * 1)).run P w = .ok (.bool y) w := fun x y z => by simp [part, isAgg, run_underlying hE]
  have p2 : ∀ (x y z : Bool), (part E #[.bool x, .bool y, .bool z] ((1 + 1) * 1)).run P w = .ok (.bool z) w := fun x y z => by simp [part, isAgg, run_underlying hE]
  simp only [Sem.run_bind, run_underlying hT, Result.andThen_ok, hsz, Std.Legacy.Range.forIn_eq_forIn_range', Std.Legacy.Range.size, Nat.sub_zero, Nat.add_sub_cancel, Nat.div_one, List.range'_succ, List.range'_zero, List.forIn_cons, List.forIn_nil, Nat.zero_add, p0, hb]
  cases a <;> cases a' <;> cases b <;> cases b' <;> cases c <;> cases c' <;> simp [p1, p2, hb]

theorem Pu_neqB3 {E : TypeId} (hm : P.eqGuardType P.depth T = false) (hT : P.underlying T = some (.array 3 E)) (hE : P.underlying E = some .bool) (hsz : ∀ w, (Go.sizeOf E).run P w = .ok 1 w) {a b c a' b' c' : Bool}
    (hx : e x = .agg ⟨[.bool a, .bool b, .bool c]⟩) (hy : e y = .agg ⟨[.bool a', .bool b', .bool c']⟩) : Pu P e ⟨d, .binOp .neq T x y T', ot, pos, af, g⟩ (.bool (!(a == a' && (b == b' && c == c')))) := fun w => by
  have hg := run_eqGuard_agg (P := P) w .neq T x y ⟨[.bool a, .bool b, .bool c]⟩ ⟨[.bool a', .bool b', .bool c']⟩ hm
  simp only [execOp, hx, hy, Sem.run_bind]
  rw [hg, Result.andThen_ok, run_neq_struct, run_equalIn_b3 9998 w hT hE hsz]
  rfl
end
end Go.Proofs.YtfdeibbpfgolcaaGreat.Hs
/-! Patterns and terms that are owned: rows of their own, one for each list. -/
namespace Go.Proofs.YtfdeibbpfgolcaaGreat.Hs
open Go

mutual
def OP : Pt → List Value → Zf → Prop
  | .mk k n r kids, cs, c => ∃ ks es k1 k2, cs = pkP k n r ks ∧ inI k ∧ inI n ∧ Own 54 35 ks es k1 ∧ OPs kids es k2 ∧ c = k1 ++ k2 ∧ kids.length ≤ 9223372036854775807
def OPs : List Pt → List (List Value) → Zf → Prop
  | [], es, c => es = [] ∧ c = []
  | p :: ps, es, c => ∃ e es' k k', es = e :: es' ∧ OP p e k ∧ OPs ps es' k' ∧ c = k ++ k'
end

mutual
def OT : Tm → List Value → Zf → Prop
  | .mk k n r kids cases, cs, c => ∃ ks cv es es' k1 k2 k3 k4, cs = pkT k n r ks cv ∧ inI k ∧ inI n ∧ Own 27 36 ks es k1 ∧ OTs kids es k2 ∧ Own 56 71 cv es' k3 ∧ OCs cases es' k4 ∧ c = k1 ++ (k2 ++ (k3 ++ k4)) ∧
      kids.length ≤ 9223372036854775807 ∧ cases.length ≤ 9223372036854775807
def OTs : List Tm → List (List Value) → Zf → Prop
  | [], es, c => es = [] ∧ c = []
  | p :: ps, es, c => ∃ e es' k k', es = e :: es' ∧ OT p e k ∧ OTs ps es' k' ∧ c = k ++ k'
def OCs : List (Pt × Tm) → List (List Value) → Zf → Prop
  | [], es, c => es = [] ∧ c = []
  | (p, t) :: ps, es, c => ∃ a b es' ka kb k', es = (a ++ b) :: es' ∧ OP p a ka ∧ OT t b kb ∧ OCs ps es' k' ∧ c = ka ++ (kb ++ k')
end

theorem OP_mk {k n : Int} {r : Sm} {kids : List Pt} {cs : List Value} {c : Zf} : OP (.mk k n r kids) cs c ↔ ∃ ks es k1 k2, cs = pkP k n r ks ∧ inI k ∧ inI n ∧ Own 54 35 ks es k1 ∧ OPs kids es k2 ∧ c = k1 ++ k2 ∧ kids.length ≤ 9223372036854775807 := by
  rw [OP]
theorem OT_mk {k n : Int} {r : Sm} {kids : List Tm} {cases : List (Pt × Tm)} {cs : List Value} {c : Zf} : OT (.mk k n r kids cases) cs c ↔ ∃ ks cv es es' k1 k2 k3 k4, cs = pkT k n r ks cv ∧ inI k ∧ inI n ∧ Own 27 36 ks es k1 ∧ OTs kids es k2 ∧ Own 56 71 cv es' k3 ∧ OCs cases es' k4 ∧ c = k1 ++ (k2 ++ (k3 ++ k4)) ∧
      kids.length ≤ 9223372036854775807 ∧ cases.length ≤ 9223372036854775807 := by
  rw [OT]

theorem OPs_len {l : List Pt} : ∀ {es c}, OPs l es c → es.length = l.length := by
  induction l with
  | nil => rintro es c h; rw [OPs] at h; rw [h.1]; rfl
  | cons p l ih => intro es c h; rw [OPs] at h; obtain ⟨e, es', k, k', rfl, _, h, _⟩ := h; simp [ih h]
theorem OTs_len {l : List Tm} : ∀ {es c}, OTs l es c → es.length = l.length := by
  induction l with
  | nil => rintro es c h; rw [OTs] at h; rw [h.1]; rfl
  | cons p l ih => intro es c h; rw [OTs] at h; obtain ⟨e, es', k, k', rfl, _, h, _⟩ := h; simp [ih h]
theorem OCs_len {l : List (Pt × Tm)} : ∀ {es c}, OCs l es c → es.length = l.length := by
  induction l with
  | nil => rintro es c h; rw [OCs] at h; rw [h.1]; rfl
  | cons p l ih => intro es c h; obtain ⟨p, t⟩ := p; rw [OCs] at h; obtain ⟨a, b, es', ka, kb, k', rfl, _, _, h, _⟩ := h; simp [ih h]

theorem OPs.nil : OPs [] [] [] := by rw [OPs]; exact ⟨rfl, rfl⟩
theorem OTs.nil : OTs [] [] [] := by rw [OTs]; exact ⟨rfl, rfl⟩
theorem OCs.nil : OCs [] [] [] := by rw [OCs]; exact ⟨rfl, rfl⟩
theorem OPs.snoc {l : List Pt} {p : Pt} {e : List Value} {k : Zf} (h' : OP p e k) : ∀ {es c}, OPs l es c → OPs (l ++ [p]) (es ++ [e]) (c ++ k) := by
  induction l with
  | nil => intro es c h; rw [OPs] at h; rw [h.1, h.2]; simp only [List.nil_append]; rw [OPs]; exact ⟨e, [], k, [], rfl, h', OPs.nil, by simp⟩
  | cons q l ih =>
    intro es c h
    rw [OPs] at h
    obtain ⟨f, es', k1, k2, rfl, h1, h2, rfl⟩ := h
    simp only [List.cons_append]
    rw [OPs]
    exact ⟨f, _, k1, _, rfl, h1, ih h2, by rw [List.append_assoc]⟩
theorem OTs.snoc {l : List Tm} {p : Tm} {e : List Value} {k : Zf} (h' : OT p e k) : ∀ {es c}, OTs l es c → OTs (l ++ [p]) (es ++ [e]) (c ++ k) := by
  induction l with
  | nil => intro es c h; rw [OTs] at h; rw [h.1, h.2]; simp only [List.nil_append]; rw [OTs]; exact ⟨e, [], k, [], rfl, h', OTs.nil, by simp⟩
  | cons q l ih =>
    intro es c h
    rw [OTs] at h
    obtain ⟨f, es', k1, k2, rfl, h1, h2, rfl⟩ := h
    simp only [List.cons_append]
    rw [OTs]
    exact ⟨f, _, k1, _, rfl, h1, ih h2, by rw [List.append_assoc]⟩
theorem OCs.snoc {l : List (Pt × Tm)} {p : Pt} {t : Tm} {a b : List Value} {ka kb : Zf} (hp : OP p a ka) (ht : OT t b kb) : ∀ {es c}, OCs l es c → OCs (l ++ [(p, t)]) (es ++ [a ++ b]) (c ++ (ka ++ kb)) := by
  induction l with
  | nil => intro es c h; rw [OCs] at h; rw [h.1, h.2]; simp only [List.nil_append]; rw [OCs]; exact ⟨a, b, [], ka, kb, [], rfl, hp, ht, OCs.nil, by simp⟩
  | cons q l ih =>
    intro es c h
    obtain ⟨q, u⟩ := q
    rw [OCs] at h
    obtain ⟨a', b', es', k1, k2, k3, rfl, h1, h2, h3, rfl⟩ := h
    simp only [List.cons_append]
    rw [OCs]
    exact ⟨a', b', _, k1, k2, _, rfl, h1, h2, ih h3, by simp only [List.append_assoc]⟩

theorem OP.len {p : Pt} {cs : List Value} {c : Zf} (h : OP p cs c) : cs.length = 35 := by cases p; obtain ⟨_, _, _, _, rfl, _⟩ := OP_mk.1 h; rfl
theorem OT.len {t : Tm} {cs : List Value} {c : Zf} (h : OT t cs c) : cs.length = 36 := by cases t; obtain ⟨_, _, _, _, _, _, _, _, rfl, _⟩ := OT_mk.1 h; rfl
theorem OP.ok {p : Pt} {cs : List Value} {c : Zf} (h : OP p cs c) : okc cs := by cases p; obtain ⟨_, _, _, _, rfl, _, _, h, _⟩ := OP_mk.1 h; exact pkP_ok h.one
theorem OT.ok {t : Tm} {cs : List Value} {c : Zf} (h : OT t cs c) : okc cs := by cases t; obtain ⟨_, _, _, _, _, _, _, _, rfl, _, _, h, _, h', _⟩ := OT_mk.1 h; exact Zz h.one h'.one

theorem Has.left {a b : Zf} {h : Heap} (x : Has (a ++ b) h) : Has a h := fun i o hi => x i o (List.mem_append.2 (.inl hi))
theorem Has.right {a b : Zf} {h : Heap} (x : Has (a ++ b) h) : Has b h := fun i o hi => x i o (List.mem_append.2 (.inr hi))
theorem Has.nil {h : Heap} : Has [] h := fun _ _ hi => by cases hi

theorem OPs_rows {h : Heap} {l : List Pt} (ih : ∀ p ∈ l, ∀ cs c, OP p cs c → Has c h → RP h cs p) : ∀ {es c}, OPs l es c → Has c h → ∀ i (h1 : i < es.length) (h2 : i < l.length), RP h es[i] l[i] := by
  induction l with
  | nil => intro es c _ _ i _ h2; exact absurd h2 (by simp)
  | cons p l ih' =>
    intro es c ho hh i h1 h2
    rw [OPs] at ho
    obtain ⟨e, es', k, k', rfl, hp, hs, rfl⟩ := ho
    cases i with
    | zero => exact ih p (by simp) e k hp hh.left
    | succ i => exact ih' (fun q hq => ih q (by simp [hq])) hs hh.right i (by simpa using h1) (by simpa using h2)
theorem OTs_rows {h : Heap} {l : List Tm} (ih : ∀ p ∈ l, ∀ cs c, OT p cs c → Has c h → RT h cs p) : ∀ {es c}, OTs l es c → Has c h → ∀ i (h1 : i < es.length) (h2 : i < l.length), RT h es[i] l[i] := by
  induction l with
  | nil => intro es c _ _ i _ h2; exact absurd h2 (by simp)
  | cons p l ih' =>
    intro es c ho hh i h1 h2
    rw [OTs] at ho
    obtain ⟨e, es', k, k', rfl, hp, hs, rfl⟩ := ho
    cases i with
    | zero => exact ih p (by simp) e k hp hh.left
    | succ i => exact ih' (fun q hq => ih q (by simp [hq])) hs hh.right i (by simpa using h1) (by simpa using h2)

theorem OP.rd {h : Heap} {p : Pt} : ∀ {cs c}, OP p cs c → Has c h → RP h cs p := by
  induction p using Pt.ind with
  | h k n r kids ih =>
    intro cs c ho hh
    obtain ⟨ks, es, k1, k2, rfl, hk, hn, ho1, ho2, rfl, hl⟩ := OP_mk.1 ho
    exact RP_mk.2 ⟨ks, rfl, hk, hn, ho1.rdS (OPs_len ho2).symm hl hh.left (OPs_rows (fun p hp cs c => ih p hp) ho2 hh.right)⟩

theorem OCs_rows {h : Heap} {l : List (Pt × Tm)} (ih : ∀ p ∈ l, ∀ cs c, OT p.2 cs c → Has c h → RT h cs p.2) : ∀ {es c}, OCs l es c → Has c h → ∀ i (h1 : i < es.length) (h2 : i < l.length), RC h es[i] l[i] := by
  induction l with
  | nil => intro es c _ _ i _ h2; exact absurd h2 (by simp)
  | cons p l ih' =>
    intro es c ho hh i h1 h2
    obtain ⟨p, t⟩ := p
    rw [OCs] at ho
    obtain ⟨a, b, es', ka, kb, k', rfl, hp, ht, hs, rfl⟩ := ho
    cases i with
    | zero => exact ⟨a, b, rfl, hp.rd hh.left, ih (p, t) (by simp) b kb ht hh.right.left⟩
    | succ i => exact ih' (fun q hq => ih q (by simp [hq])) hs hh.right.right i (by simpa using h1) (by simpa using h2)

theorem OT.rd {h : Heap} {t : Tm} : ∀ {cs c}, OT t cs c → Has c h → RT h cs t := by
  induction t using Tm.ind with
  | h k n r kids cases ih ih' =>
    intro cs c ho hh
    obtain ⟨ks, cv, es, es', k1, k2, k3, k4, rfl, hk, hn, ho1, ho2, ho3, ho4, rfl, hl, hl'⟩ := OT_mk.1 ho
    exact RT_mk.2 ⟨ks, cv, rfl, hk, hn, ho1.rdS (OTs_len ho2).symm hl hh.left (OTs_rows (fun p hp cs c => ih p hp) ho2 hh.right.left),
      ho3.rdS (OCs_len ho4).symm hl' hh.right.right.left (OCs_rows (fun p hp cs c => ih' p hp) ho4 hh.right.right.right)⟩

theorem Sub.join {a b : Zf} {R M : List Zf} (h : Sub (a :: b :: R) M) : Sub ((a ++ b) :: R) M := h.flat (by simp)
theorem Sub.emp {R M : List Zf} (h : Sub R M) : Sub ([] :: R) M := h.flat (by simp)

theorem OT_leaf {k n : Int} {r : Sm} (hk : inI k) (hn : inI n) : OT (.mk k n r [] []) (pkT k n r (.slice none 0 0) (.slice none 0 0)) [] :=
  OT_mk.2 ⟨_, _, [], [], [], [], [], [], rfl, hk, hn, Own.nil, OTs.nil, Own.nil, OCs.nil, rfl, by simp, by simp⟩
theorem OP_leaf {k n : Int} {r : Sm} (hk : inI k) (hn : inI n) : OP (.mk k n r []) (pkP k n r (.slice none 0 0)) [] :=
  OP_mk.2 ⟨_, [], [], [], rfl, hk, hn, Own.nil, OPs.nil, rfl, by simp⟩
end Go.Proofs.YtfdeibbpfgolcaaGreat.Hs
/-! Layer 4 in plain Lean, eighth part: lists of numbers; an element of an owned row. -/
namespace Go.Proofs.YtfdeibbpfgolcaaGreat.Hs
open Go
theorem Own.at {T : TypeId} {sz : Nat} {v : Value} {es : List (List Value)} {k : Zf} (o : Own T sz v es k) {j : Nat} (hj : j < es.length) :
    ∃ b cap row, v = .slice (some ⟨b, 0, none⟩) es.length cap ∧ (b, Obj.cells ⟨row⟩ T (0, 0)) ∈ k ∧ sub row (0 + j * sz) sz = some es[j] := by
  rcases o.2 with ⟨e, e2, e3⟩ | ⟨b, cap, sp, e, e2, e3, e4⟩
  · subst e2; exact absurd hj (by simp)
  · exact ⟨b, cap, es.flatten ++ sp, e, by rw [e2]; simp, by rw [Nat.zero_add]; exact sub_row o.1 j hj⟩
def ints (l : List Int) : List (List Value) := l.map fun n => [.int .i64 n]
theorem ints_len (l : List Int) : (ints l).length = l.length := by simp [ints]
theorem ints_snoc (l : List Int) (n : Int) : ints (l ++ [n]) = ints l ++ [[.int .i64 n]] := by simp [ints]
theorem ints_get (l : List Int) (j : Nat) (h : j < l.length) : (ints l)[j]'(by rw [ints_len]; exact h) = [.int .i64 l[j]] := by simp [ints]
def RI (_ : Heap) (cs : List Value) (n : Int) : Prop := cs = [.int .i64 n]
theorem own_ints {T : TypeId} {v : Value} {l : List Int} {k : Zf} {h : Heap} (o : Own T 1 v (ints l) k) (hn : l.length ≤ 9223372036854775807) (hk : Has k h) : Hs.rdS RI 1 h v l :=
  o.rdS (ints_len l).symm hn hk fun i _ h2 => ints_get l i h2
/-- the places, up to a number, that are marked -/
def upTo (f : List Bool) (j : Nat) : List Int := ((List.range j).filter (fun i => f.getD i false)).map (fun i : Nat => (i : Int))
theorem upTo_succ (f : List Bool) (j : Nat) : upTo f (j + 1) = if f.getD j false = true then upTo f j ++ [(j : Int)] else upTo f j := by
  unfold upTo
  rw [List.range_succ, List.filter_append, List.map_append]
  by_cases h : f.getD j false = true
  · rw [if_pos h]; simp only [List.filter_cons, h, if_true, List.filter_nil, List.map_cons, List.map_nil]
  · rw [if_neg h]; simp only [List.filter_cons, h, List.filter_nil]; simp
theorem upTo_len (f : List Bool) (j : Nat) : (upTo f j).length ≤ j := by
  unfold upTo
  rw [List.length_map]
  have := List.length_filter_le (fun i => f.getD i false) (List.range j)
  rwa [List.length_range] at this
end Go.Proofs.YtfdeibbpfgolcaaGreat.Hs
/-! Layer 4 in plain Lean, ninth part: Shift and Subst of the reference. -/
namespace Go.Proofs.YtfdeibbpfgolcaaGreat.Hs
open Go
def zT : Tm := .mk 0 0 zS [] []
theorem OT_zero : OT zT (pkT 0 0 zS (.slice none 0 0) (.slice none 0 0)) [] := OT_leaf (by unfold inI; omega) (by unfold inI; omega)
theorem upTo_bound (f : List Bool) (j : Nat) : ∀ x ∈ upTo f j, 0 ≤ x ∧ x < (j : Int) := by
  intro x hx
  unfold upTo at hx
  obtain ⟨i, hi, rfl⟩ := List.mem_map.1 hx
  have := List.mem_range.1 (List.mem_filter.1 hi).1
  exact ⟨Int.natCast_nonneg _, by exact_mod_cast this⟩
end Go.Proofs.YtfdeibbpfgolcaaGreat.Hs
