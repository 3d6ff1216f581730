import Derived.Test.YtfdeibbpfgolcaaGreatReplb
import Derived.IntWalk
import Derived.Laws.Closers25
/-! Pure operations; entering and leaving a function; calls. Generic: no program is named. -/
namespace Go.Proofs.YtfdeibbpfgolcaaGreat.Hs
open Go

section
variable {P : Program} {e : Operand → Value} {d : Option Nat} {ot : TypeId} {pos : String} {af : Array Edge} {g : Option (Nat × Bool)} {T T' : TypeId} {x y z : Operand}

theorem Pu.move {v : Value} (hx : e x = v) : Pu P e ⟨d, .move x, ot, pos, af, g⟩ v := fun w => by simp [execOp, hx]
theorem Pu.assign {v : Value} (hx : e x = v) : Pu P e ⟨d, .assign x, ot, pos, af, g⟩ v := fun w => by simp [execOp, hx]
theorem Pu.nilCheck {a : Addr} (hx : e x = .pointer (some a)) : Pu P e ⟨d, .nilCheck x, ot, pos, af, g⟩ (.pointer (some a)) := fun w => by simp [execOp, hx]
theorem Pu.pick {b : Bool} {v v' : Value} (hc : e z = .bool b) (hx : e x = v) (hy : e y = v') : Pu P e ⟨d, .pick z x y, ot, pos, af, g⟩ (cond b v v') := fun w => by
  cases b <;> simp [execOp, hc, hx, hy, asBool]
theorem Pu.not {b : Bool} (hx : e x = .bool b) : Pu P e ⟨d, .unOp .not T x, ot, pos, af, g⟩ (.bool !b) := fun w => by simp [execOp, hx, Op.unary]
theorem Pu.extract {vs : List Value} {i : Nat} {v : Value} (hx : e x = .tuple ⟨vs⟩) (hv : vs[i]? = some v) : Pu P e ⟨d, .extract x i, ot, pos, af, g⟩ v := fun w => by
  have hv' : (⟨vs⟩ : Array Value)[i]? = some v := by simpa using hv
  simp only [execOp, hx, Instr.extract, hv']; rfl
theorem Pu.makeFunc {fn : Fn} {fs cs : List Operand} {fv cv : List Value} (hf : fs.map e = fv) (hc : cs.map e = cv) : Pu P e ⟨d, .makeFunc fn fs.toArray cs.toArray, ot, pos, af, g⟩ (.func fn ⟨fv⟩ ⟨cv⟩) := fun w => by
  subst hf hc
  simp [execOp, Instr.makeFunc]

/-! comparisons and arithmetic of one kind -/
section ints
variable {k : IntKind} {a b : Int}
theorem Pu.eql (hx : e x = .int k a) (hy : e y = .int k b) : Pu P e ⟨d, .binOp .eql T x y T', ot, pos, af, g⟩ (.bool (decide (a = b))) := fun w => by
  simp only [execOp, hx, hy, eqGuard, binOp, Op.intCmp]; simp; rfl
theorem Pu.neq (hx : e x = .int k a) (hy : e y = .int k b) : Pu P e ⟨d, .binOp .neq T x y T', ot, pos, af, g⟩ (.bool (!decide (a = b))) := fun w => by
  simp only [execOp, hx, hy, eqGuard, binOp, Op.intCmp]; simp; rfl
theorem Pu.lss (hx : e x = .int k a) (hy : e y = .int k b) : Pu P e ⟨d, .binOp .lss T x y T', ot, pos, af, g⟩ (.bool (decide (a < b))) := fun w => by
  simp only [execOp, hx, hy, eqGuard, binOp, Op.intCmp]; simp
theorem Pu.leq (hx : e x = .int k a) (hy : e y = .int k b) : Pu P e ⟨d, .binOp .leq T x y T', ot, pos, af, g⟩ (.bool (decide (a ≤ b))) := fun w => by
  simp only [execOp, hx, hy, eqGuard, binOp, Op.intCmp]; simp
theorem Pu.gtr (hx : e x = .int k a) (hy : e y = .int k b) : Pu P e ⟨d, .binOp .gtr T x y T', ot, pos, af, g⟩ (.bool (decide (b < a))) := fun w => by
  simp only [execOp, hx, hy, eqGuard, binOp, Op.intCmp]; simp
theorem Pu.geq (hx : e x = .int k a) (hy : e y = .int k b) : Pu P e ⟨d, .binOp .geq T x y T', ot, pos, af, g⟩ (.bool (decide (b ≤ a))) := fun w => by
  simp only [execOp, hx, hy, eqGuard, binOp, Op.intCmp]; simp
theorem Pu.arith {v : Int} (hx : e x = .int k a) (hy : e y = .int k b) (hv : k.wrap (a + b) = v) : Pu P e ⟨d, .binOp .add T x y T', ot, pos, af, g⟩ (.int k v) := fun w => by
  simp only [execOp, hx, hy, eqGuard, binOp, Op.intArith]; simp [hv]
theorem Pu.arithS {v : Int} (hx : e x = .int k a) (hy : e y = .int k b) (hv : k.wrap (a - b) = v) : Pu P e ⟨d, .binOp .sub T x y T', ot, pos, af, g⟩ (.int k v) := fun w => by
  simp only [execOp, hx, hy, eqGuard, binOp, Op.intArith]; simp [hv]
theorem Pu.arithM {v : Int} (hx : e x = .int k a) (hy : e y = .int k b) (hv : k.wrap (a * b) = v) : Pu P e ⟨d, .binOp .mul T x y T', ot, pos, af, g⟩ (.int k v) := fun w => by
  simp only [execOp, hx, hy, eqGuard, binOp, Op.intArith]; simp [hv]
theorem Pu.rem {v : Int} (hx : e x = .int k a) (hy : e y = .int k b) (h0 : b ≠ 0) (hv : a.tmod b = v) : Pu P e ⟨d, .binOp .rem T x y T', ot, pos, af, g⟩ (.int k v) := fun w => by
  simp only [execOp, hx, hy, eqGuard, binOp, Op.intDiv]; simp [hv, h0]
theorem Pu.conv {v : Int} {k' : IntKind} {t : TypeDesc} (hs : ∀ w, (underlying T).run P w = .ok t w) (hT : ∀ w, (underlying T').run P w = .ok (.int k') w) (hx : e x = .int k a) (hv : k'.wrap a = v) : Pu P e ⟨d, .convert T T' x, ot, pos, af, g⟩ (.int k' v) := fun w => by
  simp [execOp, convert, hs, hT, hx, Conv.intToInt, hv]
end ints

theorem w64 {n : Int} (h : -9223372036854775808 ≤ n ∧ n ≤ 9223372036854775807) : IntKind.i64.wrap n = n := IntWalk.i64_in n h
theorem Pu.add64 {a b : Int} (hx : e x = .int .i64 a) (hy : e y = .int .i64 b) (hv : -9223372036854775808 ≤ a + b ∧ a + b ≤ 9223372036854775807) : Pu P e ⟨d, .binOp .add T x y T', ot, pos, af, g⟩ (.int .i64 (a + b)) := Pu.arith hx hy (w64 hv)
theorem Pu.sub64 {a b : Int} (hx : e x = .int .i64 a) (hy : e y = .int .i64 b) (hv : -9223372036854775808 ≤ a - b ∧ a - b ≤ 9223372036854775807) : Pu P e ⟨d, .binOp .sub T x y T', ot, pos, af, g⟩ (.int .i64 (a - b)) := Pu.arithS hx hy (w64 hv)
/-- A counter. -/
theorem Pu.inc {j : Nat} (hx : e x = .int .i64 (j : Int)) (hy : e y = .int .i64 1) (hv : j < 9223372036854775807) : Pu P e ⟨d, .binOp .add T x y T', ot, pos, af, g⟩ (.int .i64 ((j + 1 : Nat) : Int)) := Pu.arith hx hy (w64 (by omega))

theorem run_equalIn_bool {a b : Bool} (n : Nat) (w : World) (hT : ∀ w, (underlying T).run P w = .ok .bool w) : (Op.equalIn (n + 1) T (.bool a) (.bool b)).run P w = .ok (a == b) w := by
  simp [Op.equalIn, hT]
theorem Pu.eqlB {a b : Bool} (hT : ∀ w, (underlying T).run P w = .ok .bool w) (hx : e x = .bool a) (hy : e y = .bool b) : Pu P e ⟨d, .binOp .eql T x y T', ot, pos, af, g⟩ (.bool (a == b)) := fun w => by
  have := run_equalIn_bool (P := P) (a := a) (b := b) 9999 w hT
  simp only [execOp, hx, hy, eqGuard, binOp, Op.equal, Op.maxDepth]
  simp [this]
theorem bytes_beq (a b : ByteArray) : (a.toList == b.toList) = decide (a = b) := by
  have h : a.toList = b.toList ↔ a = b := by
    rw [ByteArray.toList_eq, ByteArray.toList_eq]
    constructor
    · intro h; exact ByteArray.ext (Array.ext' h)
    · intro h; rw [h]
  rw [Bool.eq_iff_iff]; simp [h]
theorem Pu.eqlS {a b : ByteArray} (hx : e x = .string a) (hy : e y = .string b) : Pu P e ⟨d, .binOp .eql T x y T', ot, pos, af, g⟩ (.bool (decide (a = b))) := fun w => by
  simp only [execOp, hx, hy, eqGuard, binOp, Op.stringOp, bytes_beq]; simp
theorem Pu.neqS {a b : ByteArray} (hx : e x = .string a) (hy : e y = .string b) : Pu P e ⟨d, .binOp .neq T x y T', ot, pos, af, g⟩ (.bool (!decide (a = b))) := fun w => by
  simp only [execOp, hx, hy, eqGuard, binOp, Op.stringOp, bytes_beq]; simp
/-! lengths, addresses -/
theorem Pu.lenSl {el : TypeId} {a : Option Addr} {n k : Nat} (hT : ∀ w, (underlying T).run P w = .ok (.slice el) w) (hx : e x = .slice a n k) :
    Pu P e ⟨d, .call { callee := .builtin .len, args := #[x], argTypes := #[T] }, ot, pos, af, g⟩ (.int .i64 (n : Int)) := fun w => by
  simp [execOp, resolve, invoke, builtin, Builtin.len_, hT, hx, goInt]
theorem Pu.fieldAddr {s b f f' sz : Nat} {i : Nat} {fs : Array Field} {fl : Field} {ag : Bool} (hT : ∀ w, (underlying s).run P w = .ok (.struct fs) w) (hf : fs[i]? = some fl) (ty : Ty P fl.type ag (sz + 1))
    (hx : e x = .pointer (some ⟨b, f, none⟩)) (ho : f + fl.offset = f') : Pu P e ⟨d, .fieldAddr s x i, ot, pos, af, g⟩ (.pointer (some ⟨b, f', none⟩)) := fun w => by
  subst ho
  simp [execOp, Instr.fieldAt, hT, hf, hx, Instr.sureAddr, fieldPlace, ty.sz, addr_add]

theorem Pu.idx {el : TypeId} {sz b o n cap : Nat} {ag : Bool} {i : Int} (j : Nat) (hT : ∀ w, (underlying T).run P w = .ok (.slice el) w) (ty : Ty P el ag sz)
    (hx : e x = .slice (some ⟨b, o, none⟩) n cap) {k : IntKind} (hy : e y = .int k i) (hj : i = (j : Int)) (hlt : j < n) :
    Pu P e ⟨d, .indexAddr T x y, ot, pos, af, g⟩ (.pointer (some ⟨b, o + j * sz, none⟩)) := fun w => by
  subst hj
  have h1 : (j : Int) < n := by omega
  simp [execOp, Instr.indexAt, hx, hy, asIntOf, hT, ty.sz, addr_add, hlt]

theorem Pu.idxA {el : TypeId} {sz b o n : Nat} {ag : Bool} {i : Int} (j : Nat) (hT : ∀ w, (underlying T).run P w = .ok (.array n el) w) (ty : Ty P el ag sz)
    (hx : e x = .pointer (some ⟨b, o, none⟩)) {k : IntKind} (hy : e y = .int k i) (hj : i = (j : Int)) (hlt : j < n) :
    Pu P e ⟨d, .indexAddr T x y, ot, pos, af, g⟩ (.pointer (some ⟨b, o + j * sz, none⟩)) := fun w => by
  subst hj
  have h1 : (j : Int) < n := by omega
  simp [execOp, Instr.indexAt, hx, hy, asIntOf, hT, ty.sz, addr_add, hlt, Instr.sureAddr]

/-- A byte of a string. -/
theorem Pu.idxS {s : ByteArray} {c : UInt8} {i : Int} (j : Nat) (hT : ∀ w, (underlying T).run P w = .ok .string w) (hx : e x = .string s) {k : IntKind} (hy : e y = .int k i) (hj : i = (j : Int)) (hc : s[j]? = some c) :
    Pu P e ⟨d, .index T x y, ot, pos, af, g⟩ (.int .u8 (c.toNat : Int)) := fun w => by
  subst hj
  simp [execOp, Instr.index, hx, hy, asIntOf, hT, hc]

/-- An element of an array that is a value. -/
theorem Pu.idxV {el : TypeId} {n : Nat} {l : List Value} {v : Value} {i : Int} (j : Nat) (hT : ∀ w, (underlying T).run P w = .ok (.array n el) w) (ty : Ty P el false 1)
    (hx : e x = .agg ⟨l⟩) {k : IntKind} (hy : e y = .int k i) (hj : i = (j : Int)) (hlt : j < n) (hv : l[j]? = some v) :
    Pu P e ⟨d, .index T x y, ot, pos, af, g⟩ v := fun w => by
  subst hj
  have h1 : (j : Int) < n := by omega
  simp [execOp, Instr.index, hx, hy, asIntOf, hT, hlt, part, ty.ag, ty.sz, hv]

theorem Pu.build {t : TypeId} {ps : List (Nat × Operand)} {pv : List (Nat × Value)} {l : List Value} (hp : ps.map (fun q => (q.1, e q.2)) = pv)
    (hb : ∀ w, (Instr.build t ⟨pv⟩).run P w = .ok (.agg ⟨l⟩) w) : Pu P e ⟨d, .build t ps.toArray, ot, pos, af, g⟩ (.agg ⟨l⟩) := fun w => by
  subst hp
  have := hb w
  simp only [execOp, List.map_toArray]
  simp [this]
end

/-! ### Entering and leaving -/
def ini : List Value → Nat → Value
  | [], _ => undef
  | v :: _, 0 => v
  | _ :: l, i + 1 => ini l i

theorem ini_get (l : List Value) (i : Nat) : ini l i = l.getD i undef := by
  induction l generalizing i with
  | nil => simp [ini]
  | cons v l ih => cases i with
    | zero => simp [ini]
    | succ i => rw [ini, ih]; simp

theorem act_ini (l : List Value) (n : Nat) (h : l.length ≤ n) : ({ tmps := (⟨l⟩ : Array Value) ++ Array.replicate (n - (⟨l⟩ : Array Value).size) undef, defers := [] } : Act) = act n [] (ini l) := by
  simp only [act, Act.mk.injEq, and_true]
  apply Array.ext
  · simp; omega
  · intro i h1 h2
    simp only [Array.getElem_ofFn]
    rw [ini_get]
    by_cases hi : i < l.length
    · rw [Array.getElem_append_left (by simpa using hi)]; simp [List.getD, hi]
    · rw [Array.getElem_append_right (by simpa using hi)]; simp [List.getD, hi]

section
variable {c : Cx} {H : Heap} {ρ : Nat → Value} {M : List Zf} {Q : Post} {ops : Array Oper} {rest : List Oper}

/-- What a function hands back. -/
def resOf (tmps : Array Value) : ResultVar → Sem Value
  | .tmp t => pure (tmps.getD t undef)
  | .cell a t => do loadVar t (← asAddr (tmps.getD a undef))
theorem results_eq (fn : Func) (tmps : Array Value) : results fn tmps = (do let vs ← fn.results.mapM (resOf tmps); pure (if h : vs.size = 1 then vs[0] else .tuple vs)) := by
  unfold results
  congr 1

def RV (c : Cx) (H : Heap) (M : List Zf) (ρ : Nat → Value) (r : ResultVar) (v : Value) : Prop := ∀ F w, Mem w (M.flatten ++ F) H → (resOf (act c.n [] ρ).tmps r).run c.P w = .ok v w

def Ret (fn : Func) (c : Cx) (H : Heap) (ρ : Nat → Value) (M : List Zf) (v : Value) : Prop := ∀ F w, Mem w (M.flatten ++ F) H → (results fn (act c.n [] ρ).tmps).run c.P w = .ok v w

theorem act_getD (n : Nat) (D : List Deferred) (ρ : Nat → Value) (t : Nat) : (act n D ρ).tmps.getD t undef = ev n ρ (.tmp t) := act_eval n D ρ (.tmp t)

theorem RV.tmp {t : Nat} {v : Value} (h : ev c.n ρ (.tmp t) = v) : RV c H M ρ (.tmp t) v := fun F w _ => by
  simp only [resOf, act_getD, h]; rfl
theorem RV.cell {a T b f sz : Nat} {l r : List Value} {T' : TypeId} {fr : Nat × Nat} (ty : Ty c.P T true sz) (hx : ev c.n ρ (.tmp a) = .pointer (some ⟨b, f, none⟩)) (ha : At M H b (.cells ⟨l⟩ T' fr)) (hr : sub l f sz = some r) :
    RV c H M ρ (.cell a T) (.agg ⟨r⟩) := fun F w m => by
  simp only [resOf, act_getD, hx]
  simp [asAddr, run_loadAgg ty (ha.heap m) hr]
theorem RV.cell1 {a T b f sz : Nat} {l : List Value} {v : Value} {T' : TypeId} {fr : Nat × Nat} (ty : Ty c.P T false sz) (hx : ev c.n ρ (.tmp a) = .pointer (some ⟨b, f, none⟩)) (ha : At M H b (.cells ⟨l⟩ T' fr)) (hr : l[f]? = some v) :
    RV c H M ρ (.cell a T) v := fun F w m => by
  simp only [resOf, act_getD, hx]
  simp [asAddr, run_loadOne ty (ha.heap m) hr]

theorem Ret.none {fn : Func} (hf : fn.results = #[]) : Ret fn c H ρ M (.tuple #[]) := fun F w m => by simp [results, hf]
theorem Ret.one {fn : Func} {r : ResultVar} {v : Value} (hf : fn.results = #[r]) (h : RV c H M ρ r v) : Ret fn c H ρ M v := fun F w m => by
  have h1 := h F w m
  rw [results_eq, hf]
  simp [h1]
theorem Ret.two {fn : Func} {r s : ResultVar} {v u : Value} (hf : fn.results = #[r, s]) (h : RV c H M ρ r v) (k : RV c H M ρ s u) : Ret fn c H ρ M (.tuple #[v, u]) := fun F w m => by
  have h1 := h F w m
  have h2 := k F w m
  rw [results_eq, hf]
  simp [h1, h2]
theorem Ret.three {fn : Func} {r s t : ResultVar} {v u x : Value} (hf : fn.results = #[r, s, t]) (h : RV c H M ρ r v) (k : RV c H M ρ s u) (l : RV c H M ρ t x) : Ret fn c H ρ M (.tuple #[v, u, x]) := fun F w m => by
  have h1 := h F w m
  have h2 := k F w m
  have h3 := l F w m
  rw [results_eq, hf]
  simp [h1, h2, h3]
theorem Ret.four {fn : Func} {r s t q : ResultVar} {v u x y : Value} (hf : fn.results = #[r, s, t, q]) (h : RV c H M ρ r v) (k : RV c H M ρ s u) (l : RV c H M ρ t x) (l' : RV c H M ρ q y) : Ret fn c H ρ M (.tuple #[v, u, x, y]) := fun F w m => by
  have h1 := h F w m
  have h2 := k F w m
  have h3 := l F w m
  have h4 := l' F w m
  rw [results_eq, hf]
  simp [h1, h2, h3, h4]

/-- What is kept of the memory that is owned. -/
def Sub (M' M : List Zf) : Prop := ∃ R, M.flatten.Perm (M'.flatten ++ R)
theorem Sub.nil : Sub [] M := ⟨M.flatten, List.Perm.refl _⟩
theorem Sub.refl : Sub M M := ⟨[], by rw [List.append_nil]⟩
theorem Sub.cons (i : Nat) {k : Zf} {M' : List Zf} (hi : M[i]? = some k) (h : Sub M' (M.eraseIdx i)) : Sub (k :: M') M := by
  obtain ⟨R, hR⟩ := h
  refine ⟨R, (Z6 hi).trans ?_⟩
  rw [List.flatten_cons, List.append_assoc]
  exact hR.append_left k
theorem Sk {a : Zf} {M' : List Zf} (h : Sub M' M) : Sub (a :: M') (a :: M) := by
  obtain ⟨R, hR⟩ := h
  exact ⟨R, by simpa using hR.append_left a⟩
theorem Se {a b : Zf} {M' : List Zf} (e : a = b) (h : Sub M' M) : Sub (b :: M') (a :: M) := e ▸ Sk h
theorem Sd {a : Zf} {M' : List Zf} (h : Sub M' M) : Sub M' (a :: M) := by
  obtain ⟨R, hR⟩ := h
  refine ⟨a ++ R, ?_⟩
  rw [List.flatten_cons]
  exact (hR.append_left a).trans (by rw [← List.append_assoc, ← List.append_assoc]; exact List.perm_append_comm.append_right R)
theorem Sub.flat {M' M'' : List Zf} (h : Sub M' M) (e : M''.flatten = M'.flatten) : Sub M'' M := by obtain ⟨R, hR⟩ := h; exact ⟨R, by rw [e]; exact hR⟩
theorem Sub.perm {M' M'' : List Zf} (h : Sub M' M) (e : M'.flatten.Perm M''.flatten) : Sub M'' M := by obtain ⟨R, hR⟩ := h; exact ⟨R, hR.trans (e.append_right R)⟩
theorem Sub.mem {M' : List Zf} (h : Sub M' M) {F : Zf} {w : World} (m : Mem w (M.flatten ++ F) H) : Mem w (M'.flatten ++ F) H := by
  obtain ⟨R, hR⟩ := h
  refine Mem.sub (R := R) m ((hR.append_right F).trans ?_)
  rw [List.append_assoc, List.append_assoc]
  exact List.perm_append_comm.append_left _

/-- The world may be regarded with other chunks. -/
theorem ZS {code : Code} {M' : List Zf} (h : Sub M' M) (k : J c H code ρ M' Q) : J c H code ρ M Q := fun F rs w m => k F rs w (h.mem m)
theorem Zw {l : List Oper} {M' : List Zf} (h : Sub M' M) (k : JL c H ops l ρ M' Q) : JL c H ops l ρ M Q := fun F rs w m => k F rs w (h.mem m)

/-- The end of a function: what it hands back and what it leaves. -/
def Done (fn : Func) (c : Cx) (H : Heap) (post : Value → List Zf → Prop) : YE := fun ρ M => ∃ v M', Ret fn c H ρ M v ∧ Sub M' M ∧ post v M'

def plain (o : Obj) : Bool := match o with | .cells .. => false | _ => true
theorem run_getObj' {P : Program} {w : World} {r : Nat} {o : Obj} (ho : plain o = true) (h : w.heap[r]? = some o) : (getObj r).run P w = .ok o w := by
  cases o <;> first | (cases ho; done) | simp [getObj, Sem.run, h]
theorem run_setObj' {P : Program} {w : World} {r : Nat} {o o' : Obj} (ho : plain o = true) (h : w.heap[r]? = some o) : (setObj r o').run P w = .ok () { w with heap := w.heap.setIfInBounds r o' } := by
  cases o <;> first | (cases ho; done) | simp [setObj, Sem.run, h]
theorem take_run {P : Program} {r : Nat} {w : World} {L : Zf} {H : Heap} (m : Mem w ((r, .deferred (some [])) :: L) H) : ∃ w', (Instr.takeDeferred r).run P w = .ok [] w' ∧ Mem w' L H := by
  have hb := m.own r _ (List.mem_cons.2 (.inl rfl))
  have hlt : r < w.heap.size := (Array.getElem?_eq_some_iff.1 hb).1
  refine ⟨{ w with heap := w.heap.setIfInBounds r (.deferred none) }, ?_, ?_⟩
  · simp only [Instr.takeDeferred, Sem.run_bind, run_getObj' rfl hb, Result.andThen_ok, run_setObj' rfl hb, Sem.run_pure]
  · refine Mem.sub (R := [(r, Obj.deferred none)]) (Mem.set m (w' := { w with heap := w.heap.setIfInBounds r (.deferred none) }) (o' := .deferred none) (by simp [hlt]) (fun k hk => ?_)) ?_
    · simp [Ne.symm hk]
    · exact List.perm_append_comm (l₁ := [(r, Obj.deferred none)])

theorem leaves_marks {P : Program} {fn : Func} {tmps : Array Value} {R : Ending → World → Prop} {F : Fence} {n : Nat} (L : Zf) (H : Heap) (hR : ∀ w, Mem w L H → ∃ v, (results fn tmps).run P w = .ok v w ∧ R (.returned v) w) :
    ∀ rs w, Mem w (dfb rs ++ L) H → LeavesInM F n P fn tmps R (marks rs) .returning w := by
  intro rs
  induction rs with
  | nil => intro w m; exact hR w m
  | cons r rs ih =>
    intro w m
    obtain ⟨w', h1, h2⟩ := take_run (P := P) (L := dfb rs ++ L) m
    exact ⟨by simp, .inl ⟨r, w', rfl, h1, ih w' h2⟩⟩

theorem Zk {P : Program} {f : FuncId} {fn : Func} {code : Code} {args : List Value} {M : List Zf} {post : Value → List Zf → Prop} (hf : P.funcs[f]? = some fn) (hb : fn.body = some code)
    (hn : Nat.ble args.length fn.ntmps = true) (h : J ⟨P, none, fn.ntmps⟩ H code (ini args) M ⟨Done fn ⟨P, none, fn.ntmps⟩ H post, Done fn ⟨P, none, fn.ntmps⟩ H post, []⟩) :
    CT P f ⟨args⟩ M H post := fun F w m => by
  refine callsIn_of_wp_marks hf hb trivial ?_
  rw [act_ini args fn.ntmps (Nat.le_of_ble_eq_true hn)]
  refine wpIn_mono (h F [] w m) ?_
  rintro e a w' ⟨rs, ρ', M', ha, hm, hq⟩
  have key : Done fn ⟨P, none, fn.ntmps⟩ H post ρ' M' → LeavesInM Fence.wide 0 P fn (act fn.ntmps (marks rs) ρ').tmps (fun e w' => ∃ v M', e = .returned v ∧ Mem w' (M'.flatten ++ F) H ∧ post v M') (marks rs) .returning w' := by
    rintro ⟨v, M'', hr, hs, hp⟩
    refine leaves_marks (M'.flatten ++ F) H (fun w'' hm'' => ⟨v, hr F w'' hm'', v, M'', rfl, hs.mem hm'', hp⟩) rs w' (hm.perm ?_)
    rw [← List.append_assoc, ← List.append_assoc]
    exact List.perm_append_comm.append_right F
  cases e with
  | normal => subst ha; exact key hq
  | ret => subst ha; exact key hq
  | exit i => obtain ⟨X, hX, _⟩ := hq; cases hX
  | goto l => exact hq.elim
  | panic ch => exact hq.elim
  | outgrown => exact hq.elim

/-! ### Calls -/
theorem exec_enter {P : Program} {e : Operand → Value} {d : Option Nat} {ot : TypeId} {pos : String} {af : Array Edge} {g : Option (Nat × Bool)} {x : Operand} {as : List Operand} {ats : Array TypeId} {f : FuncId} {fv vs cv : List Value}
    (hx : e x = .func (.func f) ⟨fv⟩ ⟨cv⟩) (ha : as.map e = vs) (hc : ∀ args w, (callFunc f args).run P w = .ok (.enter f args) w) :
    ∀ w, (execOp e ⟨d, .call { callee := .value x, args := as.toArray, argTypes := ats }, ot, pos, af, g⟩).run P w = .ok (.enter f ⟨fv ++ vs ++ cv⟩) w := fun w => by
  subst ha
  simp [execOp, resolve, hx, Deferred.ofValue, invoke, hc]

/-- A call of a function value (or of a named function) that only reads. -/
theorem JL_call {d : Option Nat} {ot : TypeId} {pos : String} {af : Array Edge} {g : Option (Nat × Bool)} {x : Operand} {as : List Operand} {ats : Array TypeId} {f : FuncId} {fv vs cv : List Value} {post : Value → List Zf → Prop}
    (hg : wnt ops c.n ρ ⟨d, .call { callee := .value x, args := as.toArray, argTypes := ats }, ot, pos, af, g⟩ = true)
    (hcall : ∀ args w, (callFunc f args).run c.P w = .ok (.enter f args) w)
    (hx : ev c.n ρ x = .func (.func f) ⟨fv⟩ ⟨cv⟩)
    (hc : (∀ (i : Nat) k, M[i]? = some k → Has k (hu M.flatten H)) → CT c.P f ⟨fv ++ vs ++ cv⟩ [] (hu M.flatten H) post)
    (ha : as.map (ev c.n ρ) = vs)
    (h : ∀ v N, post v N → JL c H ops rest (YJ ρ d v) (N ++ M) Q) :
    JL c H ops (⟨d, .call { callee := .value x, args := as.toArray, argTypes := ats }, ot, pos, af, g⟩ :: rest) ρ M Q :=
  JL_callX (M₁ := []) (M₂ := M) hg (exec_enter hx ha hcall) (List.Perm.refl _) hc h

/-- A call that gets the chunk at place i to own. -/
theorem Zr {d : Option Nat} {ot : TypeId} {pos : String} {af : Array Edge} {g : Option (Nat × Bool)} {x : Operand} {as : List Operand} {ats : Array TypeId} {f : FuncId} {fv vs cv : List Value} {post : Value → List Zf → Prop}
    (i : Nat) {k : Zf} (hg : wnt ops c.n ρ ⟨d, .call { callee := .value x, args := as.toArray, argTypes := ats }, ot, pos, af, g⟩ = true)
    (hcall : ∀ args w, (callFunc f args).run c.P w = .ok (.enter f args) w)
    (hx : ev c.n ρ x = .func (.func f) ⟨fv⟩ ⟨cv⟩) (hi : M[i]? = some k)
    (hc : (∀ (j : Nat) k, (M.eraseIdx i)[j]? = some k → Has k (hu (M.eraseIdx i).flatten H)) → CT c.P f ⟨fv ++ vs ++ cv⟩ [k] (hu (M.eraseIdx i).flatten H) post)
    (ha : as.map (ev c.n ρ) = vs)
    (h : ∀ v N, post v N → JL c H ops rest (YJ ρ d v) (N ++ M.eraseIdx i) Q) :
    JL c H ops (⟨d, .call { callee := .value x, args := as.toArray, argTypes := ats }, ot, pos, af, g⟩ :: rest) ρ M Q :=
  JL_callX (M₁ := [k]) (M₂ := M.eraseIdx i) hg (exec_enter hx ha hcall) (by simpa using Z6 hi) hc h

end
end Go.Proofs.YtfdeibbpfgolcaaGreat.Hs
/-! Short forms of often used rules. Generic: no program is named. -/
namespace Go.Proofs.YtfdeibbpfgolcaaGreat.Hs
open Go
abbrev nS : Value := .slice none 0 0
abbrev pp (b o : Nat) : Value := .pointer (some ⟨b, o, none⟩)
abbrev iv (n : Int) : Value := .int .i64 n
abbrev BX (b : Nat) (l : List Value) (T : TypeId) : Zf := [(b, .cells ⟨l⟩ T (0, 0))]
theorem Sub.s3 {a b c : Zf} {R M : List Zf} (h : Sub ((a ++ (b ++ c)) :: R) M) : Sub (a :: b :: c :: R) M := h.flat (by simp)
section
variable {c : Cx} {H : Heap} {ops : Array Oper} {rest : List Oper} {ρ : Nat → Value} {M : List Zf} {Q : Post}
theorem JLq {o : Oper} (v : Value) (hp : Pu c.P (ev c.n ρ) o v) (h : JL c H ops rest (YJ ρ o.dst v) M Q) (hg : wnt ops c.n ρ o = true := by exact rfl) : JL c H ops (o :: rest) ρ M Q := JL_pure hg hp h
theorem JLm {d : Option Nat} {x : Operand} {ot : TypeId} {pos : String} {af : Array Edge} {g : Option (Nat × Bool)} (v : Value) (h : JL c H ops rest (YJ ρ d v) M Q) (hx : ev c.n ρ x = v := by exact rfl) (hg : wnt ops c.n ρ ⟨d, .move x, ot, pos, af, g⟩ = true := by exact rfl) : JL c H ops (⟨d, .move x, ot, pos, af, g⟩ :: rest) ρ M Q := JL_pure hg (Pu.move hx) h
theorem JLa {d : Option Nat} {x : Operand} {ot : TypeId} {pos : String} {af : Array Edge} {g : Option (Nat × Bool)} (v : Value) (h : JL c H ops rest (YJ ρ d v) M Q) (hx : ev c.n ρ x = v := by exact rfl) (hg : wnt ops c.n ρ ⟨d, .assign x, ot, pos, af, g⟩ = true := by exact rfl) : JL c H ops (⟨d, .assign x, ot, pos, af, g⟩ :: rest) ρ M Q := JL_pure hg (Pu.assign hx) h
theorem JLr {o : Oper} (h : Runs c H o ρ M fun v M' => JL c H ops rest (YJ ρ o.dst v) M' Q) (hg : wnt ops c.n ρ o = true := by exact rfl) : JL c H ops (o :: rest) ρ M Q := JL_run hg h
end
/-! ### Operations that may be passed over -/
def Un (dd : List Nat) (ρ ρ' : Nat → Value) : Prop := ∀ i, dd.any (Nat.beq i) = false → ρ' i = ρ i
theorem Un.refl {dd : List Nat} {ρ : Nat → Value} : Un dd ρ ρ := fun _ _ => rfl
theorem Un.u {dd : List Nat} {ρ ρ' : Nat → Value} {d : Nat} {v : Value} (h : Un dd ρ ρ') (hd : dd.any (Nat.beq d) = true) : Un dd ρ (upd ρ' d v) := fun i hi => by
  rw [upd_ne _ _ (fun e => by rw [e, hd] at hi; cases hi)]
  exact h i hi
def hold : List (Nat × Value) → (Nat → Value) → Prop
  | [], _ => True
  | (d, x) :: es, ρ => ρ d = x ∧ hold es ρ
def updL : List (Nat × Value) → (Nat → Value) → (Nat → Value)
  | [], ρ => ρ
  | (d, x) :: es, ρ => upd (updL es ρ) d x
def junk (dd : List Nat) (f ρ : Nat → Value) : Nat → Value := fun i => cond (dd.any (Nat.beq i)) (f i) (ρ i)
theorem updL_hold {es : List (Nat × Value)} {ρ' : Nat → Value} (h : hold es ρ') : updL es ρ' = ρ' := by
  induction es with
  | nil => rfl
  | cons e es ih =>
    obtain ⟨d, x⟩ := e
    funext i
    show upd (updL es ρ') d x i = ρ' i
    rw [ih h.2]
    by_cases e : i = d
    · subst e; rw [upd_self]; exact h.1.symm
    · exact upd_ne _ _ e
theorem junk_un {dd : List Nat} {ρ ρ' : Nat → Value} (h : Un dd ρ ρ') : junk dd ρ' ρ = ρ' := by
  funext i
  unfold junk
  cases e : dd.any (Nat.beq i) with
  | true => rfl
  | false => exact (h i e).symm
section
variable {c : Cx} {H : Heap} {ops : Array Oper} {ρ : Nat → Value} {M : List Zf} {Q : Post}
theorem wlo_imp {Q1 Q2 : Exit → Act → World → Prop} (h' : ∀ e a w, Q1 e a w → Q2 e a w) : ∀ {l : List Oper} {a : Act} {w : World}, wlo c ops Q1 l a w → wlo c ops Q2 l a w
  | [], _, _, h => h' _ _ _ h
  | o :: l, a, w, h => by
    unfold wlo at h ⊢
    split at h
    · rename_i hw
      rw [if_pos hw]
      refine ⟨h.1, ?_⟩
      have h2 := h.2
      revert h2
      generalize (o.semAt (Fw c.r).round a.eval).run c.P w = res
      intro h2
      cases res with
      | ok x w' =>
        cases x with
        | value v => exact wlo_imp h' h2
        | skip => exact wlo_imp h' h2
        | defer d => exact wlo_imp h' h2
        | enter f args =>
          refine ⟨h2.1, h2.2.mono fun e w'' hq => ?_⟩
          cases e with
          | returned v => exact wlo_imp h' hq
          | panicked ch => exact h' _ _ _ hq
          | outgrown => obtain ⟨a', w3, hq⟩ := hq; exact ⟨a', w3, h' _ _ _ hq⟩
        | row r args => exact ⟨h2.1, h2.2.mono fun v w'' hq => wlo_imp h' hq⟩
        | round lp f tmps as body =>
          refine ⟨h2.1, h2.2.mono fun e w'' hq => ?_⟩
          cases e with
          | returned v => exact wlo_imp h' hq
          | panicked ch => exact h' _ _ _ hq
          | outgrown => obtain ⟨a', w3, hq⟩ := hq; exact ⟨a', w3, h' _ _ _ hq⟩
        | _ => exact h2
      | halt x w' =>
        cases x with
        | panic v => exact h' _ _ _ h2
        | _ => exact h2
    · rename_i hw
      rw [if_neg hw]
      exact wlo_imp h' h
theorem wlo_app' {F : Zf} {K : YE} {R : Exit → Act → Prop} {l1 l2 : List Oper} {Q2 : Exit → Act → World → Prop} (hfin : ∀ a w, (lift c H F ⟨K, fun _ _ => False, []⟩ .normal a w ∧ R .normal a) → wlo c ops Q2 l2 a w) : ∀ {a : Act} {w : World}, wlo c ops (fun e a w => lift c H F ⟨K, fun _ _ => False, []⟩ e a w ∧ R e a) l1 a w → wlo c ops Q2 (l1 ++ l2) a w := by
  induction l1 with
  | nil => exact fun h => hfin _ _ h
  | cons o l1 ih =>
    intro a w h
    rw [List.cons_append]
    unfold wlo at h ⊢
    split at h
    · rename_i hw
      rw [if_pos hw]
      refine ⟨h.1, ?_⟩
      have h2 := h.2
      revert h2
      generalize (o.semAt (Fw c.r).round a.eval).run c.P w = res
      intro h2
      cases res with
      | ok x w' =>
        cases x with
        | value v => exact ih h2
        | skip => exact ih h2
        | defer d => exact ih h2
        | enter f args =>
          refine ⟨h2.1, h2.2.mono fun e w'' hq => ?_⟩
          cases e with
          | returned v => exact ih hq
          | panicked ch => obtain ⟨⟨_, _, _, _, _, hx⟩, _⟩ := hq; exact hx.elim
          | outgrown => obtain ⟨_, _, ⟨_, _, _, _, _, hx⟩, _⟩ := hq; exact hx.elim
        | row r args => exact ⟨h2.1, h2.2.mono fun v w'' hq => ih hq⟩
        | round lp f tmps as body =>
          refine ⟨h2.1, h2.2.mono fun e w'' hq => ?_⟩
          cases e with
          | returned v => exact ih hq
          | panicked ch => obtain ⟨⟨_, _, _, _, _, hx⟩, _⟩ := hq; exact hx.elim
          | outgrown => obtain ⟨_, _, ⟨_, _, _, _, _, hx⟩, _⟩ := hq; exact hx.elim
        | _ => exact h2.elim
      | halt x w' =>
        cases x with
        | panic v => obtain ⟨⟨_, _, _, _, _, hx⟩, _⟩ := h2; exact hx.elim
        | _ => exact h2
    · rename_i hw
      rw [if_neg hw]
      exact ih h
/-- Only the slots of the operations change. -/
def AgA (dd : List Nat) (a a' : Act) : Prop := ∀ i, dd.any (Nat.beq i) = false → a'.tmps[i]? = a.tmps[i]?
theorem AgA.put {dd : List Nat} {a : Act} {d : Option Nat} {v : Value} (hd : ∀ x, d = some x → dd.any (Nat.beq x) = true) : AgA dd a (a.put d v) := fun i hi => by
  cases d with
  | none => rfl
  | some x =>
    have hne : x ≠ i := fun e => by rw [← e, hd x rfl] at hi; cases hi
    simp only [Act.put]
    rw [Array.getElem?_setIfInBounds_ne hne]
theorem AgA.trans {dd : List Nat} {a a' a'' : Act} (h : AgA dd a a') (k : AgA dd a' a'') : AgA dd a a'' := fun i hi => (k i hi).trans (h i hi)
theorem wlo_ag {F : Zf} {K : YE} {dd : List Nat} : ∀ {l : List Oper} {a : Act} {w : World}, l.all (fun o => match o.dst with | some d => dd.any (Nat.beq d) | none => true) = true → wlo c ops (lift c H F ⟨K, fun _ _ => False, []⟩) l a w →
    wlo c ops (fun e a' w' => lift c H F ⟨K, fun _ _ => False, []⟩ e a' w' ∧ (e = .normal → AgA dd a a')) l a w
  | [], a, w, _, h => ⟨h, fun _ _ _ => rfl⟩
  | o :: l, a, w, hd, h => by
    rw [List.all_cons, Bool.and_eq_true] at hd
    obtain ⟨hd1, hd2⟩ := hd
    have hput : ∀ (a' : Act) (v : Value), a'.tmps = a.tmps → AgA dd a (a'.put o.dst v) := fun a' v e i hi => by
      have := AgA.put (dd := dd) (a := a') (d := o.dst) (v := v) (fun x hx => by rw [hx] at hd1; exact hd1) i hi
      rw [this, e]
    have next : ∀ {a' : Act} {w' : World}, AgA dd a a' → wlo c ops (lift c H F ⟨K, fun _ _ => False, []⟩) l a' w' → wlo c ops (fun e a' w' => lift c H F ⟨K, fun _ _ => False, []⟩ e a' w' ∧ (e = .normal → AgA dd a a')) l a' w' := fun {a'} {w'} hag h' => by
      have h2 := wlo_ag (dd := dd) hd2 h'
      exact wlo_imp (fun e a'' w'' hq => ⟨hq.1, fun he => hag.trans (hq.2 he)⟩) h2
    unfold wlo at h ⊢
    split at h
    · rename_i hw
      rw [if_pos hw]
      refine ⟨h.1, ?_⟩
      have h2 := h.2
      revert h2
      generalize (o.semAt (Fw c.r).round a.eval).run c.P w = res
      intro h2
      cases res with
      | ok x w' =>
        cases x with
        | value v => exact next (hput a v rfl) h2
        | skip => exact next (hput a undef rfl) h2
        | defer d => exact next (hput _ undef rfl) h2
        | enter f args =>
          refine ⟨h2.1, h2.2.mono fun e w'' hq => ?_⟩
          cases e with
          | returned v => exact next (hput a v rfl) hq
          | panicked ch => obtain ⟨_, _, _, _, _, hx⟩ := hq; exact hx.elim
          | outgrown => obtain ⟨_, _, _, _, _, _, _, hx⟩ := hq; exact hx.elim
        | row r args => exact ⟨h2.1, h2.2.mono fun v w'' hq => next (hput a v rfl) hq⟩
        | round lp f tmps as body =>
          refine ⟨h2.1, h2.2.mono fun e w'' hq => ?_⟩
          cases e with
          | returned v => exact next (hput a v rfl) hq
          | panicked ch => obtain ⟨_, _, _, _, _, hx⟩ := hq; exact hx.elim
          | outgrown => obtain ⟨_, _, _, _, _, _, _, hx⟩ := hq; exact hx.elim
        | _ => exact h2.elim
      | halt x w' =>
        cases x with
        | panic v => obtain ⟨_, _, _, _, _, hx⟩ := h2; exact hx.elim
        | _ => exact h2
    · rename_i hw
      rw [if_neg hw]
      exact next (hput a undef rfl) h
theorem hold_congr {es : List (Nat × Value)} {ρ ρ' : Nat → Value} (h : ∀ e ∈ es, ρ e.1 = ρ' e.1) (hh : hold es ρ) : hold es ρ' := by
  induction es with
  | nil => trivial
  | cons e es ih => exact ⟨(h e List.mem_cons_self).symm.trans hh.1, ih (fun x hx => h x (List.mem_cons_of_mem _ hx)) hh.2⟩
/-- Some operations that are passed over together, or not: es says what their slots hold behind them. -/
theorem ZC {l : List Oper} (n : Nat) (dd : List Nat) (es : List (Nat × Value)) (h1 : JL c H ops (l.take n) ρ M ⟨fun ρ' M' => hold es ρ' ∧ M' = M, fun _ _ => False, []⟩)
    (h2 : ∀ f, JL c H ops (l.drop n) (updL es (junk dd f ρ)) M Q) (hd : ((l.take n).all (fun o => match o.dst with | some d => dd.any (Nat.beq d) | none => true) && es.all (fun e => Nat.blt e.1 c.n)) = true := by kernel_rfl) : JL c H ops l ρ M Q := fun F rs w m => by
  rw [Bool.and_eq_true] at hd
  have := wlo_app' (K := fun ρ' M' => hold es ρ' ∧ M' = M) (R := fun e a' => e = .normal → AgA dd (act c.n (marks rs) ρ) a') (l2 := l.drop n) (Q2 := lift c H F Q) (fun a w ⟨⟨rs', ρ', M', ha, hm, hh, hM⟩, hag⟩ => by
    have hag := hag rfl
    subst hM
    let ρ2 : Nat → Value := fun i => if i < c.n then ρ' i else ρ i
    have hact : a = act c.n (marks rs') ρ2 := by
      rw [ha]
      simp only [act, Act.mk.injEq, and_true]
      congr 1
      funext i
      simp only [ρ2, i.2, if_true]
    have hu : Un dd ρ ρ2 := fun i hi => by
      by_cases hn : i < c.n
      · have := hag i hi
        rw [hact, act_get, act_get, if_pos hn, if_pos hn] at this
        exact Option.some.inj this
      · simp only [ρ2, if_neg hn]
    have hh2 : hold es ρ2 := hold_congr (fun e he => by
      have := List.all_eq_true.1 hd.2 e he
      rw [Nat.blt_eq] at this
      simp only [ρ2, if_pos this]) hh
    have := h2 ρ2 F rs' w hm
    rw [junk_un hu, updL_hold hh2] at this
    rw [hact]
    exact this) (wlo_ag (dd := dd) hd.1 (h1 F rs w m))
  rwa [List.take_append_drop] at this
/-- All of them are passed over. -/
def skipN (ops : Array Oper) (n : Nat) : List Oper → (Nat → Value) → Bool
  | [], _ => true
  | o :: l, ρ => !(wnt ops n ρ o) && skipN ops n l (YJ ρ o.dst undef)
def skipE : List Oper → (Nat → Value) → (Nat → Value)
  | [], ρ => ρ
  | o :: l, ρ => skipE l (YJ ρ o.dst undef)
theorem ZP {l : List Oper} {es : List (Nat × Value)} (h : skipN ops c.n l ρ = true) (hh : hold es (skipE l ρ)) : JL c H ops l ρ M ⟨fun ρ' M' => hold es ρ' ∧ M' = M, fun _ _ => False, []⟩ := by
  induction l generalizing ρ with
  | nil => exact Zb ⟨hh, rfl⟩
  | cons o l ih =>
    unfold skipN at h
    rw [Bool.and_eq_true, Bool.not_eq_true'] at h
    exact JL_skip h.1 (ih h.2 hh)
end
section
variable {P : Program} {e : Operand → Value} {d : Option Nat} {ot : TypeId} {pos : String} {af : Array Edge} {g : Option (Nat × Bool)} {x y z : Operand}
theorem Pu.pickAnd {a b : Bool} (hz : e z = .bool a) (hx : e x = cond a (.bool b) undef) (hy : e y = .bool false) : Pu P e ⟨d, .pick z x y, ot, pos, af, g⟩ (.bool (a && b)) := by
  have := Pu.pick (P := P) (d := d) (ot := ot) (pos := pos) (af := af) (g := g) hz hx hy
  cases a <;> exact this
theorem Pu.pickOr {a b : Bool} (hz : e z = .bool a) (hx : e x = .bool true) (hy : e y = cond a undef (.bool b)) : Pu P e ⟨d, .pick z x y, ot, pos, af, g⟩ (.bool (a || b)) := by
  have := Pu.pick (P := P) (d := d) (ot := ot) (pos := pos) (af := af) (g := g) hz hx hy
  cases a <;> exact this
theorem Pu.pickC {a b b' : Bool} (hz : e z = .bool a) (hx : e x = cond a (.bool b) undef) (hy : e y = cond a undef (.bool b')) : Pu P e ⟨d, .pick z x y, ot, pos, af, g⟩ (.bool (cond a b b')) := by
  have := Pu.pick (P := P) (d := d) (ot := ot) (pos := pos) (af := af) (g := g) hz hx hy
  cases a <;> exact this
end
/-! ### Values that are read off -/
def vf : Value → Option Value
  | .int k n => some (.int k n)
  | .bool b => some (.bool b)
  | .string s => some (.string s)
  | .pointer p => some (.pointer p)
  | .slice a n c => some (.slice a n c)
  | .map m => some (.map m)
  | .func f a b => some (.func f a b)
  | .nilFunc => some .nilFunc
  | .agg c => some (.agg c)
  | .tuple c => some (.tuple c)
  | _ => none
theorem vf_eq {x v : Value} (h : vf x = some v) : x = v := by
  unfold vf at h
  split at h <;> first | exact Option.some.inj h | cases h
section
variable {c : Cx} {H : Heap} {ops : Array Oper} {rest : List Oper} {ρ : Nat → Value} {M : List Zf} {Q : Post} {d : Option Nat} {x : Operand} {ot : TypeId} {pos : String} {af : Array Edge} {g : Option (Nat × Bool)}
theorem JLn {o : Oper} {v : Value} (hp : Pu c.P (ev c.n ρ) o v) (h : JL c H ops rest (YJ ρ o.dst v) M Q) (hg : wnt ops c.n ρ o = true := by exact rfl) : JL c H ops (o :: rest) ρ M Q := JL_pure hg hp h
theorem JLM {v : Value} (hx : vf (ev c.n ρ x) = some v) (h : JL c H ops rest (YJ ρ d v) M Q) (hg : wnt ops c.n ρ ⟨d, .move x, ot, pos, af, g⟩ = true := by exact rfl) : JL c H ops (⟨d, .move x, ot, pos, af, g⟩ :: rest) ρ M Q := JL_pure hg (Pu.move (vf_eq hx)) h
theorem JLA {v : Value} (hx : vf (ev c.n ρ x) = some v) (h : JL c H ops rest (YJ ρ d v) M Q) (hg : wnt ops c.n ρ ⟨d, .assign x, ot, pos, af, g⟩ = true := by exact rfl) : JL c H ops (⟨d, .assign x, ot, pos, af, g⟩ :: rest) ρ M Q := JL_pure hg (Pu.assign (vf_eq hx)) h
theorem Jc {as : List Operand} {ats : Array TypeId} {f : FuncId} {fv vs cv : List Value} {post : Value → List Zf → Prop} (hcall : ∀ args w, (callFunc f args).run c.P w = .ok (.enter f args) w)
    (hx : ev c.n ρ x = .func (.func f) ⟨fv⟩ ⟨cv⟩) (hc : (∀ (i : Nat) k, M[i]? = some k → Has k (hu M.flatten H)) → CT c.P f ⟨fv ++ vs ++ cv⟩ [] (hu M.flatten H) post) (ha : as.map (ev c.n ρ) = vs) (h : ∀ v N, post v N → JL c H ops rest (YJ ρ d v) (N ++ M) Q)
    (hg : wnt ops c.n ρ ⟨d, .call { callee := .value x, args := as.toArray, argTypes := ats }, ot, pos, af, g⟩ = true := by exact rfl) :
    JL c H ops (⟨d, .call { callee := .value x, args := as.toArray, argTypes := ats }, ot, pos, af, g⟩ :: rest) ρ M Q := JL_call hg hcall hx hc ha h
end
end Go.Proofs.YtfdeibbpfgolcaaGreat.Hs
