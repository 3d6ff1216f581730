import Derived.RangeFuncLeaves
import Derived.Laws.Sem
/-! The ground of an own program logic: memory as owned chunks and an immutable rest; judgements for code. Generic: no program is named. -/
namespace Go.Proofs.YtfdeibbpfgolcaaGreat.Hs
open Go

/-- What is lent, and what else of the world stays: its outside, its output, its tape; how far it was drawn at least. -/
structure Heap where
  f : Nat → Option Obj
  os : Os
  out : Array (Nat × ByteArray)
  tape : Nat → Question → Nat
  d0 : Nat
instance : CoeFun Heap (fun _ => Nat → Option Obj) := ⟨Heap.f⟩
abbrev Zf := List (Nat × Obj)

/-- Nothing has turned in the world but its memory, and how far it is drawn. -/
def Still (w w' : World) : Prop := w'.os = w.os ∧ w'.output = w.output ∧ w'.tape = w.tape ∧ w.drawn ≤ w'.drawn
/-- The world holds the blocks of L, each once, and all of H besides. -/
structure Mem (w : World) (L : Zf) (H : Heap) : Prop where
  nd : (L.map (·.1)).Nodup
  own : ∀ b o, (b, o) ∈ L → w.heap[b]? = some o
  sep : ∀ b o, (b, o) ∈ L → H b = none
  imm : ∀ b o, H b = some o → w.heap[b]? = some o
  rest : w.os = H.os ∧ w.output = H.out ∧ w.tape = H.tape ∧ H.d0 ≤ w.drawn
theorem Still.rest {w w' : World} {H : Heap} (h : Still w w') (r : w.os = H.os ∧ w.output = H.out ∧ w.tape = H.tape ∧ H.d0 ≤ w.drawn) : w'.os = H.os ∧ w'.output = H.out ∧ w'.tape = H.tape ∧ H.d0 ≤ w'.drawn :=
  ⟨h.1.trans r.1, h.2.1.trans r.2.1, h.2.2.1.trans r.2.2.1, Nat.le_trans r.2.2.2 h.2.2.2⟩

theorem Mem.congr {w w' : World} {L : Zf} {H : Heap} (m : Mem w L H) (h : w'.heap = w.heap) (hr : Still w w' := by first | exact ⟨rfl, rfl, rfl, Nat.le_refl _⟩ | exact ⟨rfl, rfl, rfl, Nat.le_succ _⟩ | exact ⟨rfl, rfl, rfl, Nat.le_add_right _ _⟩) : Mem w' L H :=
  ⟨m.nd, fun b o hb => by rw [h]; exact m.own b o hb, m.sep, fun b o hb => by rw [h]; exact m.imm b o hb, hr.rest m.rest⟩

theorem Mem.perm {w : World} {L L' : Zf} {H : Heap} (m : Mem w L H) (h : L.Perm L') : Mem w L' H :=
  ⟨(h.map _).nodup_iff.1 m.nd, fun b o hb => m.own b o (h.mem_iff.2 hb), fun b o hb => m.sep b o (h.mem_iff.2 hb), m.imm, m.rest⟩

theorem Mem.left {w : World} {L L' : Zf} {H : Heap} (m : Mem w (L ++ L') H) : Mem w L H :=
  ⟨by have := m.nd; rw [List.map_append] at this; exact (List.nodup_append.1 this).1,
   fun b o hb => m.own b o (List.mem_append.2 (.inl hb)), fun b o hb => m.sep b o (List.mem_append.2 (.inl hb)), m.imm, m.rest⟩

theorem Mem.sub {w : World} {L L' R : Zf} {H : Heap} (m : Mem w L H) (h : L.Perm (L' ++ R)) : Mem w L' H := (m.perm h).left

theorem Mem.lt {w : World} {L : Zf} {H : Heap} (m : Mem w L H) {b : Nat} {o : Obj} (h : (b, o) ∈ L) : b < w.heap.size :=
  (Array.getElem?_eq_some_iff.1 (m.own b o h)).1

theorem Mem.push {w w' : World} {L : Zf} {H : Heap} {o : Obj} (m : Mem w L H) (h : w'.heap = w.heap.push o) (hr : Still w w' := by first | exact ⟨rfl, rfl, rfl, Nat.le_refl _⟩ | exact ⟨rfl, rfl, rfl, Nat.le_succ _⟩ | exact ⟨rfl, rfl, rfl, Nat.le_add_right _ _⟩) : Mem w' ((w.heap.size, o) :: L) H := by
  have old : ∀ {b : Nat} {x : Obj}, w.heap[b]? = some x → w'.heap[b]? = some x := fun {b x} hb => by
    have hlt := (Array.getElem?_eq_some_iff.1 hb).1
    rw [h, Array.getElem?_push_lt hlt, ← hb, Array.getElem?_eq_getElem hlt]
  have new : w'.heap[w.heap.size]? = some o := by rw [h]; simp
  refine ⟨?_, ?_, ?_, fun b x hb => old (m.imm b x hb), hr.rest m.rest⟩
  · rw [List.map_cons, List.nodup_cons]
    refine ⟨fun hm => ?_, m.nd⟩
    obtain ⟨p, hp, hpe⟩ := List.mem_map.1 hm
    have := m.lt (b := p.1) (o := p.2) hp
    omega
  · intro b x hb
    rcases List.mem_cons.1 hb with e | hb
    · cases e; exact new
    · exact old (m.own b x hb)
  · intro b x hb
    rcases List.mem_cons.1 hb with e | hb
    · cases e
      cases hH : H w.heap.size with
      | none => rfl
      | some y => have := (Array.getElem?_eq_some_iff.1 (m.imm _ _ hH)).1; omega
    · exact m.sep b x hb

/-- One owned block is written. -/
theorem Mem.set {w w' : World} {L : Zf} {H : Heap} {b : Nat} {o o' : Obj} (m : Mem w ((b, o) :: L) H)
    (hb : w'.heap[b]? = some o') (hne : ∀ k, k ≠ b → w'.heap[k]? = w.heap[k]?) (hr : Still w w' := by first | exact ⟨rfl, rfl, rfl, Nat.le_refl _⟩ | exact ⟨rfl, rfl, rfl, Nat.le_succ _⟩ | exact ⟨rfl, rfl, rfl, Nat.le_add_right _ _⟩) : Mem w' ((b, o') :: L) H := by
  have hnd := m.nd
  rw [List.map_cons, List.nodup_cons] at hnd
  refine ⟨by rw [List.map_cons, List.nodup_cons]; exact hnd, ?_, ?_, ?_, hr.rest m.rest⟩
  · intro k x hk
    rcases List.mem_cons.1 hk with e | hk
    · cases e; exact hb
    · rw [hne k (fun e => hnd.1 (List.mem_map.2 ⟨(k, x), hk, e⟩))]; exact m.own k x (List.mem_cons.2 (.inr hk))
  · intro k x hk
    rcases List.mem_cons.1 hk with e | hk
    · cases e; exact m.sep b o (List.mem_cons.2 (.inl rfl))
    · exact m.sep k x (List.mem_cons.2 (.inr hk))
  · intro k x hk
    rw [hne k (fun e => by subst e; rw [m.sep k o (List.mem_cons.2 (.inl rfl))] at hk; cases hk)]; exact m.imm k x hk

/-- The heap that the chunks and the immutable rest make together. -/
def hu (L : Zf) (H : Heap) : Heap := ⟨fun b => match H b with
  | some o => some o
  | none => L.lookup b, H.os, H.out, H.tape, H.d0⟩
theorem Y4 (L : Zf) (H : Heap) (b : Nat) : hu L H b = (match H b with | some o => some o | none => L.lookup b) := rfl

theorem mem_of_lookup {L : Zf} {b : Nat} {o : Obj} (h : L.lookup b = some o) : (b, o) ∈ L := by
  induction L with
  | nil => cases h
  | cons p L ih =>
    obtain ⟨k, x⟩ := p
    rw [List.lookup_cons] at h
    by_cases e : (b == k) = true
    · rw [e] at h; cases h; have := beq_iff_eq.1 e; subst this; exact List.mem_cons.2 (.inl rfl)
    · rw [Bool.not_eq_true] at e; rw [e] at h; exact List.mem_cons.2 (.inr (ih h))

theorem lookup_of_mem {L : Zf} {b : Nat} {o : Obj} (hn : (L.map (·.1)).Nodup) (h : (b, o) ∈ L) : L.lookup b = some o := by
  induction L with
  | nil => cases h
  | cons p L ih =>
    obtain ⟨k, x⟩ := p
    rw [List.map_cons, List.nodup_cons] at hn
    rw [List.lookup_cons]
    by_cases e : b = k
    · subst e
      simp only [beq_self_eq_true]
      rcases List.mem_cons.1 h with e' | h
      · cases e'; rfl
      · exact absurd (List.mem_map.2 ⟨(b, o), h, rfl⟩) hn.1
    · rw [beq_eq_false_iff_ne.2 e]
      rcases List.mem_cons.1 h with e' | h
      · cases e'; exact absurd rfl e
      · exact ih hn.2 h

theorem Mem.hu {w : World} {L F : Zf} {H : Heap} (m : Mem w (L ++ F) H) : Mem w F (hu L H) := by
  have hnd := m.nd
  rw [List.map_append, List.nodup_append] at hnd
  refine ⟨hnd.2.1, fun b o h => m.own b o (List.mem_append.2 (.inr h)), fun b o h => ?_, fun b o h => ?_, m.rest⟩
  · rw [Y4, m.sep b o (List.mem_append.2 (.inr h))]
    show L.lookup b = none
    cases hl : L.lookup b with
    | none => rfl
    | some x => exact absurd rfl (hnd.2.2 b (List.mem_map.2 ⟨(b, x), mem_of_lookup hl, rfl⟩) b (List.mem_map.2 ⟨(b, o), h, rfl⟩))
  · rw [Y4] at h
    cases hH : H b with
    | some x => rw [hH] at h; cases h; exact m.imm b o hH
    | none => rw [hH] at h; exact m.own b o (List.mem_append.2 (.inl (mem_of_lookup h)))

/-- Back: what was lent as immutable is owned again. -/
theorem Mem.unhu {w : World} {L N F : Zf} {H : Heap} (hn : (L.map (·.1)).Nodup) (hs : ∀ b o, (b, o) ∈ L → H b = none) (m : Mem w (N ++ F) (Hs.hu L H)) : Mem w (N ++ (L ++ F)) H := by
  have hLw : ∀ b o, (b, o) ∈ L → Hs.hu L H b = some o := fun b o h => by rw [Y4, hs b o h]; exact lookup_of_mem hn h
  have hnL : ∀ b o, (b, o) ∈ N ++ F → ∀ x, (b, x) ∉ L := fun b o h x hx => by
    have h1 := m.sep b o h
    rw [hLw b x hx] at h1
    cases h1
  have hp : (N ++ (L ++ F)).Perm (L ++ (N ++ F)) := by
    rw [← List.append_assoc, ← List.append_assoc]
    exact List.Perm.append_right F List.perm_append_comm
  refine Mem.perm ?_ hp.symm
  refine ⟨?_, ?_, ?_, ?_, m.rest⟩
  · rw [List.map_append, List.nodup_append]
    refine ⟨hn, m.nd, fun a ha b hb e => ?_⟩
    obtain ⟨p, hp1, hp2⟩ := List.mem_map.1 ha
    obtain ⟨q, hq1, hq2⟩ := List.mem_map.1 hb
    subst e
    refine hnL q.1 q.2 hq1 p.2 ?_
    have : q.1 = p.1 := hq2.trans hp2.symm
    rw [this]; exact hp1
  · intro b o h
    rcases List.mem_append.1 h with h | h
    · exact m.imm b o (hLw b o h)
    · exact m.own b o h
  · intro b o h
    rcases List.mem_append.1 h with h | h
    · exact hs b o h
    · have h1 := m.sep b o h
      rw [Y4] at h1
      cases hH : H b with
      | none => rfl
      | some x => rw [hH] at h1; cases h1
  · intro b o h
    exact m.imm b o (by rw [Y4, h])

def Hle (h h' : Heap) : Prop := ∀ b o, h b = some o → h' b = some o
theorem Hle.refl (h : Heap) : Hle h h := fun _ _ x => x
theorem Hle.trans {a b c : Heap} (h : Hle a b) (k : Hle b c) : Hle a c := fun x o hx => k x o (h x o hx)
theorem Hle.hu (L : Zf) (H : Heap) : Hle H (Hs.hu L H) := fun b o h => by rw [Y4, h]

/-- The frame of a call: a named environment of slots. -/
def upd (ρ : Nat → Value) (d : Nat) (v : Value) : Nat → Value := fun i => cond (Nat.beq i d) v (ρ i)
def YJ (ρ : Nat → Value) : Option Nat → Value → (Nat → Value)
  | some d, v => upd ρ d v
  | none, _ => ρ

def act (n : Nat) (D : List Deferred) (ρ : Nat → Value) : Act := { tmps := Array.ofFn (fun i : Fin n => ρ i), defers := D }

def ev (n : Nat) (ρ : Nat → Value) : Operand → Value
  | .tmp t => cond (Nat.blt t n) (ρ t) undef
  | .const v => v
  | .global g => .pointer (some ⟨g, 0, none⟩)
  | .func f => .func (.func f) #[] #[]

theorem act_get (n : Nat) (D : List Deferred) (ρ : Nat → Value) (t : Nat) : (act n D ρ).tmps[t]? = if t < n then some (ρ t) else none := by
  simp only [act, Array.getElem?_ofFn]
  split <;> rfl

theorem act_eval (n : Nat) (D : List Deferred) (ρ : Nat → Value) (x : Operand) : (act n D ρ).eval x = ev n ρ x := by
  cases x with
  | tmp t =>
    simp only [Act.eval, ev, Array.getD_eq_getD_getElem?, act_get]
    by_cases h : t < n
    · rw [if_pos h, show Nat.blt t n = true from by simpa [Nat.blt_eq] using h]; rfl
    · rw [if_neg h, show Nat.blt t n = false from by rw [← Bool.not_eq_true, Nat.blt_eq]; exact h]; rfl
  | const v => rfl
  | «global» g => rfl
  | func f => rfl

theorem act_eval' (n : Nat) (D : List Deferred) (ρ : Nat → Value) : (act n D ρ).eval = ev n ρ := funext (act_eval n D ρ)

theorem upd_self (ρ : Nat → Value) (d : Nat) (v : Value) : upd ρ d v d = v := by simp [upd]
theorem upd_ne (ρ : Nat → Value) {d i : Nat} (v : Value) (h : i ≠ d) : upd ρ d v i = ρ i := by
  unfold upd; rw [show Nat.beq i d = false from by rw [← Bool.not_eq_true, Nat.beq_eq]; exact h]; rfl

theorem act_put (n : Nat) (D : List Deferred) (ρ : Nat → Value) (d : Option Nat) (v : Value) : (act n D ρ).put d v = act n D (YJ ρ d v) := by
  cases d with
  | none => rfl
  | some d =>
    simp only [Act.put, YJ, act, Act.mk.injEq, and_true]
    apply Array.ext
    · simp
    · intro i h1 h2
      simp only [Array.size_ofFn] at h2
      simp only [Array.getElem_ofFn]
      rw [Array.getElem_setIfInBounds (by simpa using h1)]
      by_cases e : d = i
      · subst e; rw [if_pos rfl, upd_self]
      · rw [if_neg e, upd_ne _ _ (Ne.symm e), Array.getElem_ofFn]

/-- Whether an operation's guard lets it run. -/
def wnt (ops : Array Oper) (n : Nat) (ρ : Nat → Value) (o : Oper) : Bool :=
  match o.guard with
  | none => true
  | some (j, want) =>
    match (ops[j]?).bind (·.dst) with
    | none => false
    | some d => match cond (Nat.blt d n) (ρ d) undef with
      | .bool b => b == want
      | _ => false

theorem wanted_eq (ops : Array Oper) (n : Nat) (D : List Deferred) (ρ : Nat → Value) (o : Oper) :
    Region.wanted o (yielded ops (act n D ρ).tmps) = wnt ops n ρ o := by
  unfold Region.wanted wnt
  cases o.guard with
  | none => rfl
  | some p =>
    obtain ⟨j, want⟩ := p
    simp only [yielded]
    cases (ops[j]?).bind (·.dst) with
    | none => simp
    | some d =>
      simp only [Option.bind_some, act_get]
      by_cases h : d < n
      · rw [if_pos h, show Nat.blt d n = true from by simpa [Nat.blt_eq] using h]
        simp only [cond_true]
        cases ρ d <;> simp
      · rw [if_neg h, show Nat.blt d n = false from by rw [← Bool.not_eq_true, Nat.blt_eq]; exact h]
        simp [undef]

structure Cx where
  P : Program
  r : Option Nat
  n : Nat

def Fw (r : Option Nat) : Fence := { fn := fun _ => True, depth := none, alive := false, round := r }
abbrev YE := (Nat → Value) → List Zf → Prop
/-- What must hold where a piece of code is left: at its end, by a return, by leaving a block. -/
structure Post where
  N : YE
  R : YE
  E : List (Nat × YE)

def Post.at (Q : Post) : Exit → YE
  | .normal => Q.N
  | .ret => Q.R
  | .exit i => fun ρ M => ∃ X, Q.E.lookup i = some X ∧ X ρ M
  | _ => fun _ _ => False

/-- The marks that ranges over functions leave among the deferred calls, and their blocks. -/
def marks (rs : List Nat) : List Deferred := rs.map fun r => { target := .collected r, args := #[] }
def dfb (rs : List Nat) : Zf := rs.map fun r => (r, .deferred (some []))

def lift (c : Cx) (H : Heap) (F : Zf) (Q : Post) : Exit → Act → World → Prop :=
  fun e a w => ∃ rs ρ M, a = act c.n (marks rs) ρ ∧ Mem w (M.flatten ++ (dfb rs ++ F)) H ∧ Q.at e ρ M

def J (c : Cx) (H : Heap) (code : Code) (ρ : Nat → Value) (M : List Zf) (Q : Post) : Prop :=
  ∀ F rs w, Mem w (M.flatten ++ (dfb rs ++ F)) H → code.wpIn (Fw c.r) 0 c.P (lift c H F Q) (act c.n (marks rs) ρ) w

def wlo (c : Cx) (ops : Array Oper) (Q : Exit → Act → World → Prop) : List Oper → Act → World → Prop
  | [], a, w => Q .normal a w
  | o :: rest, a, w => if Region.wanted o (yielded ops a.tmps) then o.wpIn (Fw c.r) 0 c.P a w (wlo c ops Q rest) Q else wlo c ops Q rest (a.put o.dst undef) w

theorem wlo_ops (c : Cx) (ops : Array Oper) (Q : Exit → Act → World → Prop) (l : List Oper) : ∀ k, (∀ j, l[j]? = ops[k + j]?) →
    ∀ a w, wlo c ops Q l a w → wpOpsIn (Fw c.r) 0 c.P ops Q (List.range' k l.length) a w := by
  induction l with
  | nil => intro k _ a w h; simpa [wpOpsIn, wlo] using h
  | cons o l ih =>
    intro k hk a w h
    have h0 : ops[k]? = some o := by simpa using (hk 0).symm
    have ih' := ih (k + 1) (fun j => by have := hk (j + 1); simpa [Nat.add_assoc, Nat.add_comm 1 j] using this)
    simp only [List.length_cons, List.range'_succ, wpOpsIn, h0]
    unfold wlo at h
    split at h
    · rename_i hw
      rw [if_pos hw]
      refine ⟨h.1, ?_⟩
      have h2 := h.2
      revert h2
      generalize (o.semAt (Fw c.r).round a.eval).run c.P w = res
      intro h2
      cases res with
      | ok x w' =>
        cases x with
        | value v => exact ih' _ _ h2
        | skip => exact ih' _ _ h2
        | defer d => exact ih' _ _ h2
        | enter f args =>
          refine ⟨h2.1, h2.2.mono fun e w'' hq => ?_⟩
          cases e with
          | returned v => exact ih' _ _ hq
          | panicked ch => exact hq
          | outgrown => exact hq
        | row r args => exact ⟨h2.1, h2.2.mono fun v w'' hq => ih' _ _ hq⟩
        | round l f tmps as body =>
          refine ⟨h2.1, h2.2.mono fun e w'' hq => ?_⟩
          cases e with
          | returned v => exact ih' _ _ hq
          | panicked ch => exact hq
          | outgrown => exact hq
        | _ => exact h2.elim
      | halt x w' => cases x <;> exact h2
    · rename_i hw
      rw [if_neg hw]
      exact ⟨fun _ _ => trivial, ih' _ _ h⟩

def JL (c : Cx) (H : Heap) (ops : Array Oper) (l : List Oper) (ρ : Nat → Value) (M : List Zf) (Q : Post) : Prop :=
  ∀ F rs w, Mem w (M.flatten ++ (dfb rs ++ F)) H → wlo c ops (lift c H F Q) l (act c.n (marks rs) ρ) w

section
variable {c : Cx} {H : Heap} {ρ : Nat → Value} {M : List Zf} {Q : Post}

theorem Za {id : Nat} {l : List Oper} (h : JL c H l.toArray l ρ M Q) : J c H (.region id l.toArray false) ρ M Q := fun F rs w m => by
  refine wpIn_region ?_
  have := wlo_ops c l.toArray (lift c H F Q) l 0 (fun j => by simp) _ _ (h F rs w m)
  rw [List.range_eq_range', List.size_toArray]
  exact this

theorem Zb {ops : Array Oper} (h : Q.N ρ M) : JL c H ops [] ρ M Q := fun _ rs _ m => ⟨rs, ρ, M, rfl, m, h⟩

theorem J_mono {code : Code} {Q' : Post} (h : J c H code ρ M Q) (hq : ∀ e ρ M, Q.at e ρ M → Q'.at e ρ M) : J c H code ρ M Q' := fun F rs w m =>
  wpIn_mono (h F rs w m) fun _ _ _ ⟨rs', ρ', M', ha, hm, hx⟩ => ⟨rs', ρ', M', ha, hm, hq _ _ _ hx⟩

theorem Zc {x y : Code} {N R : YE} {E : List (Nat × YE)} (h : J c H x ρ M ⟨fun ρ M => J c H y ρ M ⟨N, R, E⟩, R, E⟩) : J c H (.seq x y) ρ M ⟨N, R, E⟩ := fun F rs w m =>
  wpIn_seq (wpIn_mono (h F rs w m) fun e a w' ⟨rs', ρ', M', ha, hm, hx⟩ => by
    cases e with
    | normal => subst ha; exact hx F rs' w' hm
    | _ => exact ⟨rs', ρ', M', ha, hm, hx⟩)

theorem Zm {N R : YE} {E : List (Nat × YE)} (h : N ρ M) : J c H .skip ρ M ⟨N, R, E⟩ := fun _ rs _ m => wpIn_skip ⟨rs, ρ, M, rfl, m, h⟩
theorem Zl {N R : YE} {E : List (Nat × YE)} (h : R ρ M) : J c H .ret ρ M ⟨N, R, E⟩ := fun _ rs _ m => wpIn_ret ⟨rs, ρ, M, rfl, m, h⟩
theorem ZB {id : Nat} {N R : YE} {E : List (Nat × YE)} (X : YE) (hX : E.lookup id = some X) (h : X ρ M) : J c H (.exit id) ρ M ⟨N, R, E⟩ := fun _ rs _ m =>
  wpIn_exit ⟨rs, ρ, M, rfl, m, X, hX, h⟩

theorem Zg {x : Operand} {y z : Code} {b : Bool} (hb : ev c.n ρ x = .bool b) (ht : b = true → J c H y ρ M Q) (hf : b = false → J c H z ρ M Q) :
    J c H (.cond x y z) ρ M Q := fun F rs w m => by
  refine wpIn_cond (t := b) ((act_eval _ _ _ _).trans hb) ?_
  cases b with
  | true => exact ht rfl F rs w m
  | false => exact hf rfl F rs w m

theorem Zo {id : Nat} {body : Code} {N R : YE} {E : List (Nat × YE)} (h : J c H body ρ M ⟨N, R, (id, N) :: E⟩) : J c H (.block id body) ρ M ⟨N, R, E⟩ := fun F rs w m =>
  wpIn_block (wpIn_mono (h F rs w m) fun e a w' ⟨rs', ρ', M', ha, hm, hx⟩ => by
    cases e with
    | exit i =>
      obtain ⟨X, hX, hx⟩ := hx
      simp only [Exit.inBlock]
      rw [List.lookup_cons] at hX
      by_cases e : i = id
      · subst e; rw [beq_self_eq_true] at hX; cases hX; rw [if_pos rfl]; exact ⟨rs', ρ', M', ha, hm, hx⟩
      · rw [beq_eq_false_iff_ne.2 e] at hX; rw [if_neg e]; exact ⟨rs', ρ', M', ha, hm, X, hX, hx⟩
    | _ => exact ⟨rs', ρ', M', ha, hm, hx⟩)

/-- A loop: I k says what holds at its head where the measure is k. -/
theorem ZT {body : Code} {N R : YE} {E : List (Nat × YE)} (I : Nat → YE) (k₀ : Nat) (h₀ : I k₀ ρ M)
    (h : ∀ k ρ M, I k ρ M → J c H body ρ M ⟨fun ρ' M' => ∃ k', k' < k ∧ I k' ρ' M', R, E⟩) : J c H (.loop body) ρ M ⟨N, R, E⟩ := fun F rs w m => by
  intro b k cs hro hb hr
  have key : ∀ j rs ρ M w, I j ρ M → Mem w (M.flatten ++ (dfb rs ++ F)) H →
      ∃ e a' w', lift c H F ⟨N, R, E⟩ e a' w' ∧ ArrivesIn (Machine.fenced c.P (Fw c.r)) c.P (lone (b.atR (act c.n (marks rs) ρ) (.code body :: .inLoop body :: k)) cs w) b k cs e a' w' := by
    intro j
    induction j using Nat.strongRecOn with
    | _ j ih =>
      intro rs ρ M w hI hm
      obtain ⟨e, a₁, w₁, ⟨rs₁, ρ₁, M₁, ha, hm₁, hq⟩, harr⟩ := h j ρ M hI F rs w hm b (.inLoop body :: k) cs hro hb hr
      cases e with
      | normal =>
        subst ha
        obtain ⟨j', hlt, hI'⟩ := hq
        obtain ⟨e₂, a₂, w₂, hq₂, harr₂⟩ := ih j' hlt rs₁ ρ₁ M₁ w₁ hI' hm₁
        exact ⟨e₂, a₂, w₂, hq₂, .of_steps (StepsIn.trans harr (.one (fenced_calm hb hr rfl) stepR_inLoop)) harr₂⟩
      | exit id => exact ⟨.exit id, a₁, w₁, ⟨rs₁, ρ₁, M₁, ha, hm₁, hq⟩, .pass (x := .inLoop body) rfl (fun _ _ => .inl (by simp)) harr⟩
      | goto l => exact hq.elim
      | ret => exact ⟨.ret, a₁, w₁, ⟨rs₁, ρ₁, M₁, ha, hm₁, hq⟩, .pass (x := .inLoop body) rfl (fun _ _ => .inl (by simp)) harr⟩
      | panic ch => exact hq.elim
      | outgrown => exact hq.elim
  obtain ⟨e, a', w', hq, harr⟩ := key k₀ rs ρ M w h₀ m
  exact ⟨e, a', w', hq, .of_steps (.one (fenced_calm hb hr rfl) stepR_loop) harr⟩

end

/-- The contract of a function: M is what it gets to own, H what it may read; the rest of the world is as it was. -/
def CT (P : Program) (f : FuncId) (args : Array Value) (M : List Zf) (H : Heap) (post : Value → List Zf → Prop) : Prop :=
  ∀ F w, Mem w (M.flatten ++ F) H → CallsIn Fence.wide 0 P f args w fun e w' => ∃ v M', e = .returned v ∧ Mem w' (M'.flatten ++ F) H ∧ post v M'

theorem CT.mono {P : Program} {f : FuncId} {args : Array Value} {M : List Zf} {H : Heap} {post post' : Value → List Zf → Prop} (h : CT P f args M H post)
    (hp : ∀ v M, post v M → post' v M) : CT P f args M H post' := fun F w m =>
  (h F w m).mono fun _ _ ⟨v, M', he, hm, hq⟩ => ⟨v, M', he, hm, hp _ _ hq⟩

end Go.Proofs.YtfdeibbpfgolcaaGreat.Hs
