import Derived.Test.YtfdeibbpfgolcaaGreatReplc
import Derived.Laws.Append
import Derived.Laws.MakeOwn
/-! Slices: what a slice reads as; a row that the call owns; append, make, copy, a slice literal. Generic: no program is named. -/
namespace Go.Proofs.YtfdeibbpfgolcaaGreat.Hs
open Go

/-- A slice value of n elements; R says what its row holds from where it begins. -/
def rdSl (h : Heap) (n : Nat) (v : Value) (R : List Value → Nat → Prop) : Prop :=
  ∃ a cap, v = .slice a n cap ∧ n ≤ 9223372036854775807 ∧ (n = 0 ∨ ∃ b o row T fr, a = some ⟨b, o, none⟩ ∧ h b = some (.cells ⟨row⟩ T fr) ∧ R row o)

/-- The row holds, from o on, elements of sz cells each that read as l. -/
def rows {α : Type} (E : List Value → α → Prop) (sz : Nat) (row : List Value) (o : Nat) : List α → Prop
  | [] => True
  | x :: l => (∃ cs, sub row o sz = some cs ∧ E cs x) ∧ rows E sz row (o + sz) l

/-- A slice that reads as l. -/
def rdS {α : Type} (E : Heap → List Value → α → Prop) (sz : Nat) (h : Heap) (v : Value) (l : List α) : Prop := rdSl h l.length v fun row o => rows (E h) sz row o l

theorem rows.get {α : Type} {E : List Value → α → Prop} {sz : Nat} {row : List Value} {l : List α} : ∀ {o : Nat}, rows E sz row o l → ∀ i (hi : i < l.length), ∃ cs, sub row (o + i * sz) sz = some cs ∧ E cs l[i] := by
  induction l with
  | nil => intro o _ i hi; exact absurd hi (by simp)
  | cons x l ih =>
    intro o h i hi
    cases i with
    | zero => simpa using h.1
    | succ i =>
      obtain ⟨cs, h1, h2⟩ := ih h.2 i (by simpa using hi)
      refine ⟨cs, ?_, by simpa using h2⟩
      rw [show o + (i + 1) * sz = o + sz + i * sz from by rw [Nat.succ_mul]; omega]; exact h1

theorem rows.mk {α : Type} {E : List Value → α → Prop} {sz : Nat} {row : List Value} {l : List α} : ∀ {o : Nat}, (∀ i (hi : i < l.length), ∃ cs, sub row (o + i * sz) sz = some cs ∧ E cs l[i]) → rows E sz row o l := by
  induction l with
  | nil => intro o _; exact trivial
  | cons x l ih =>
    intro o h
    refine ⟨by have := h 0 (by simp); rwa [Nat.zero_mul, Nat.add_zero] at this, ih fun i hi => ?_⟩
    obtain ⟨cs, h1, h2⟩ := h (i + 1) (by simpa using hi)
    refine ⟨cs, ?_, by simpa using h2⟩
    rw [show o + sz + i * sz = o + (i + 1) * sz from by rw [Nat.succ_mul]; omega]; exact h1

theorem rows.imp {α β : Type} {E : List Value → α → Prop} {E' : List Value → β → Prop} {f : α → β} {sz : Nat} {row : List Value} {l : List α} : ∀ {o : Nat}, (∀ x ∈ l, ∀ cs, E cs x → E' cs (f x)) → rows E sz row o l → rows E' sz row o (l.map f) := by
  induction l with
  | nil => intro o _ _; exact trivial
  | cons x l ih =>
    intro o h ⟨⟨cs, h1, h2⟩, h3⟩
    exact ⟨⟨cs, h1, h x (by simp) cs h2⟩, ih (fun y hy => h y (by simp [hy])) h3⟩

theorem rows.mono {α : Type} {E E' : List Value → α → Prop} {sz : Nat} {row : List Value} {l : List α} {o : Nat} (h : ∀ x ∈ l, ∀ cs, E cs x → E' cs x) (r : rows E sz row o l) : rows E' sz row o l := by
  have := rows.imp (f := id) h r
  rwa [List.map_id] at this

theorem rdSl.mono {h h' : Heap} {n : Nat} {v : Value} {R R' : List Value → Nat → Prop} (r : rdSl h n v R) (hh : Hle h h') (hR : ∀ row o, R row o → R' row o) : rdSl h' n v R' := by
  obtain ⟨a, cap, e, hn, x⟩ := r
  refine ⟨a, cap, e, hn, x.imp id ?_⟩
  rintro ⟨b, o, row, T, fr, e1, e2, e3⟩
  exact ⟨b, o, row, T, fr, e1, hh _ _ e2, hR _ _ e3⟩

theorem rdSl.sl {h : Heap} {n : Nat} {v : Value} {R : List Value → Nat → Prop} (r : rdSl h n v R) : ∃ a cap, v = .slice a n cap := by obtain ⟨a, cap, e, _⟩ := r; exact ⟨a, cap, e⟩
theorem rdSl.le {h : Heap} {n : Nat} {v : Value} {R : List Value → Nat → Prop} (r : rdSl h n v R) : n ≤ 9223372036854775807 := by obtain ⟨a, cap, _, e, _⟩ := r; exact e
theorem rdSl.one {h : Heap} {n : Nat} {v : Value} {R : List Value → Nat → Prop} (r : rdSl h n v R) : v.oneCell' = true := by obtain ⟨a, cap, e, _⟩ := r; subst e; rfl
theorem rdSl.nil (h : Heap) {R : List Value → Nat → Prop} : rdSl h 0 (.slice none 0 0) R := ⟨none, 0, rfl, by decide, .inl rfl⟩

section
variable {α : Type} {E : Heap → List Value → α → Prop} {sz : Nat} {h : Heap} {v : Value} {l : List α}
theorem rdS.nil : rdS E sz h (.slice none 0 0) [] := rdSl.nil h
theorem rdS.le (r : rdS E sz h v l) : l.length ≤ 9223372036854775807 := rdSl.le r
theorem rdS.one (r : rdS E sz h v l) : v.oneCell' = true := rdSl.one r
/-- The slice value laid open, with one element. -/
theorem rdS.get (r : rdS E sz h v l) (i : Nat) (hi : i < l.length) : ∃ b o cap row T fr cs, v = .slice (some ⟨b, o, none⟩) l.length cap ∧ h b = some (.cells ⟨row⟩ T fr) ∧ sub row (o + i * sz) sz = some cs ∧ E h cs l[i] := by
  obtain ⟨a, cap, e, hn, x⟩ := r
  rcases x with x | ⟨b, o, row, T, fr, e1, e2, e3⟩
  · omega
  · obtain ⟨cs, h1, h2⟩ := e3.get i hi
    exact ⟨b, o, cap, row, T, fr, cs, by rw [e, e1], e2, h1, h2⟩
theorem rdS.sl (r : rdS E sz h v l) : ∃ a cap, v = .slice a l.length cap := rdSl.sl r
theorem rdS.mono {h' : Heap} (r : rdS E sz h v l) (hh : Hle h h') (hE : ∀ x ∈ l, ∀ cs, E h cs x → E h' cs x) : rdS E sz h' v l := rdSl.mono r hh fun _ _ q => q.mono hE
/-- A whole that begins where the slice does. -/
theorem rdS.mk' {b o cap : Nat} {row : List Value} {T : TypeId} {fr : Nat × Nat} (hn : l.length ≤ 9223372036854775807) (hb : h b = some (.cells ⟨row⟩ T fr)) (hr : rows (E h) sz row o l) : rdS E sz h (.slice (some ⟨b, o, none⟩) l.length cap) l :=
  ⟨_, cap, rfl, hn, .inr ⟨b, o, row, T, fr, rfl, hb, hr⟩⟩
theorem rdS.imp {β : Type} {E' : Heap → List Value → β → Prop} {f : α → β} (r : rdS E sz h v l) (hE : ∀ x ∈ l, ∀ cs, E h cs x → E' h cs (f x)) : rdS E' sz h v (l.map f) := by
  unfold rdS; rw [List.length_map]
  exact rdSl.mono r (Hle.refl h) fun _ _ q => q.imp hE
end

/-! ### A row that the call owns -/
/-- The slice v begins a row of its own, chunk k, whose elements are es. -/
def Own (T : TypeId) (sz : Nat) (v : Value) (es : List (List Value)) (k : Zf) : Prop :=
  (∀ e ∈ es, e.length = sz) ∧ ((v = .slice none 0 0 ∧ es = [] ∧ k = []) ∨
    ∃ b cap spare, v = .slice (some ⟨b, 0, none⟩) es.length cap ∧ k = [(b, .cells ⟨es.flatten ++ spare⟩ T (0, 0))] ∧ spare.length = (cap - es.length) * sz ∧ es.length ≤ cap)

theorem Own.nil {T : TypeId} {sz : Nat} : Own T sz (.slice none 0 0) [] [] := ⟨by simp, .inl ⟨rfl, rfl, rfl⟩⟩
theorem Own.one {T : TypeId} {sz : Nat} {v : Value} {es : List (List Value)} {k : Zf} (h : Own T sz v es k) : v.oneCell' = true := by
  rcases h.2 with ⟨e, _⟩ | ⟨b, cap, sp, e, _⟩ <;> subst e <;> rfl
theorem Own.sl {T : TypeId} {sz : Nat} {v : Value} {es : List (List Value)} {k : Zf} (h : Own T sz v es k) : ∃ a cap, v = .slice a es.length cap := by
  rcases h.2 with ⟨e, e2, _⟩ | ⟨b, cap, sp, e, _⟩
  · subst e e2; exact ⟨none, 0, rfl⟩
  · exact ⟨_, cap, e⟩

theorem Zx {sz : Nat} {es : List (List Value)} (h : ∀ e ∈ es, e.length = sz) : es.flatten.length = es.length * sz := by
  induction es with
  | nil => simp
  | cons e es ih => simp only [List.flatten_cons, List.length_append, List.length_cons, h e (by simp), ih (fun x hx => h x (by simp [hx])), Nat.succ_mul]; omega

theorem sub_row {sz : Nat} {es : List (List Value)} {sp : List Value} (h : ∀ e ∈ es, e.length = sz) (i : Nat) (hi : i < es.length) : Hs.sub (es.flatten ++ sp) (i * sz) sz = some es[i] := by
  induction es generalizing i with
  | nil => exact absurd hi (by simp)
  | cons e es ih =>
    have he := h e (by simp)
    cases i with
    | zero =>
      rw [sub_mk (by simp [he])]
      simp [List.flatten_cons, List.append_assoc, ← he]
    | succ i =>
      have hi' : i < es.length := by simpa using hi
      have := ih (fun x hx => h x (by simp [hx])) i hi'
      obtain ⟨h1, h2⟩ := sub_some this
      have e1 : (i + 1) * sz = e.length + i * sz := by rw [Nat.succ_mul, he]; omega
      rw [e1, sub_mk (by simp only [List.flatten_cons, List.append_assoc, List.length_append] at h1 ⊢; omega)]
      simp only [List.flatten_cons, List.append_assoc, List.getElem_cons_succ]
      rw [h2, List.drop_append]
      simp [List.drop_eq_nil_of_le (Nat.le_add_right e.length (i * sz))]

theorem sub_flat {sz : Nat} {es : List (List Value)} {sp : List Value} (h : ∀ e ∈ es, e.length = sz) : Hs.sub (es.flatten ++ sp) 0 (es.length * sz) = some es.flatten := by
  have hl := Zx h
  rw [sub_mk (by rw [List.length_append]; omega)]
  rw [← hl]; simp

/-- What the elements read as, the slice reads as. -/
theorem Own.rdS {α : Type} {E : Heap → List Value → α → Prop} {T : TypeId} {sz : Nat} {v : Value} {es : List (List Value)} {k : Zf} {h : Heap} {l : List α} (o : Own T sz v es k) (hl : l.length = es.length)
    (hn : l.length ≤ 9223372036854775807) (hk : ∀ b x, (b, x) ∈ k → h b = some x) (hE : ∀ i (h1 : i < es.length) (h2 : i < l.length), E h es[i] l[i]) : Hs.rdS E sz h v l := by
  rcases o.2 with ⟨e, e2, e3⟩ | ⟨b, cap, sp, e, e2, e3, e4⟩
  · subst e2
    have : l = [] := by simpa using hl
    subst this
    rw [e]; exact Hs.rdS.nil
  · subst e
    rw [← hl]
    refine Hs.rdS.mk' hn (hk b (.cells ⟨es.flatten ++ sp⟩ T (0, 0)) (by rw [e2]; simp)) (rows.mk fun i hi => ?_)
    refine ⟨es[i], ?_, hE i (by omega) hi⟩
    rw [Nat.zero_add]; exact sub_row o.1 i (by omega)

/-! ### Operations on such rows -/
section
variable {c : Cx} {H : Heap} {ρ : Nat → Value} {M : List Zf} {K : Value → List Zf → Prop} {d : Option Nat} {ot : TypeId} {pos : String} {af : Array Edge} {g : Option (Nat × Bool)} {x y : Operand}

/-- The type of an element, as append and make need it. -/
structure El (P : Program) (T : TypeId) (sz by_ : Nat) (z : Value) : Prop where
  info : ∃ i, (∀ w, (typeInfo T).run P w = .ok i w) ∧ i.size = sz ∧ i.bytes = by_ ∧ i.zero = some z
  zsz : z.cells.size = sz

theorem El.size {P : Program} {T : TypeId} {sz by_ : Nat} {z : Value} (h : El P T sz by_ z) (w : World) : (sizeOf T).run P w = .ok sz w := by
  obtain ⟨i, h1, h2, _⟩ := h.info
  simp [sizeOf, h1, h2]
theorem El.zero {P : Program} {T : TypeId} {sz by_ : Nat} {z : Value} (h : El P T sz by_ z) (w : World) : (zeroValue T).run P w = .ok z w := by
  obtain ⟨i, h1, _, _, h2⟩ := h.info
  simp [zeroValue, h1, h2]

/-- What append and copy take from: a slice whose row is known, or a string. -/
def Src (P : Program) (sz : Nat) (w : World) (v : Value) (n : Nat) (l : List Value) : Prop :=
  (Builtin.lenOf v).run P w = .ok n w ∧ (∀ m, m ≤ n → (Builtin.firstCells sz m v).run P w = .ok ⟨l.take (m * sz)⟩ w) ∧ l.length = n * sz

theorem Src.row {P : Program} {sz : Nat} {w : World} {b o n cap : Nat} {row l : List Value} {T : TypeId} {fr : Nat × Nat} (hb : w.heap[b]? = some (.cells ⟨row⟩ T fr)) (hl : sub row o (n * sz) = some l) : Src P sz w (.slice (some ⟨b, o, none⟩) n cap) n l := by
  obtain ⟨hle, rfl⟩ := sub_some hl
  refine ⟨by simp [Builtin.lenOf], fun m hm => ?_, by simp; omega⟩
  have hms : m * sz ≤ n * sz := Nat.mul_le_mul_right _ hm
  have := run_firstCells_some (P := P) w sz m ⟨b, o, none⟩ n cap (((row.drop o).take (n * sz)).take (m * sz)) (by simp; omega) (fun j v hv => by
    rw [addr_add, cell_of_row w b (o + j) _ _ _ hb]
    rw [List.take_take, Nat.min_eq_left hms, List.getElem?_take] at hv
    split at hv
    · simpa using hv
    · cases hv)
  exact this
theorem Src.nil {P : Program} {sz : Nat} {w : World} {cap : Nat} : Src P sz w (.slice none 0 cap) 0 [] :=
  ⟨by simp [Builtin.lenOf], fun m hm => by have : m = 0 := by omega
                                           subst this; simp [Builtin.firstCells], by simp⟩

theorem zeroCells_size (z : Array Value) (n : Nat) : (Builtin.zeroCells z n).size = n * z.size := by simp [Builtin.zeroCells]

theorem ZJ {T T₂ el : TypeId} {tx : TypeDesc} {sz by_ n i : Nat} {z v u : Value} {es es' : List (List Value)} {k : Zf} (hT : ∀ w, (underlying T).run c.P w = .ok (.slice el) w)
    (hT₂ : ∀ w, (underlying T₂).run c.P w = .ok tx w) (htx : tx = .slice el ∨ tx = .string) (hel : El c.P el sz by_ z)
    (hx : ev c.n ρ x = v) (hy : ev c.n ρ y = u) (hi : M[i]? = some k) (ho : Own el sz v es k) (hs : ∀ F w, Mem w (M.flatten ++ F) H → Src c.P sz w u n es'.flatten) (hn : es'.length = n)
    (hl : ∀ e ∈ es', e.length = sz) (hok : ∀ e ∈ es', okc e) (hb1 : 0 < by_) (hb : (es.length + n) * by_ ≤ 140737488355328)
    (h : ∀ v' k', Own el sz v' (es ++ es') k' → K v' (M.set i k')) :
    Runs c H ⟨d, .call { callee := .builtin .append, args := #[x, y], argTypes := #[T, T₂] }, ot, pos, af, g⟩ ρ M K := by
  intro F w m
  subst hn
  obtain ⟨hlen, hfc, hsl⟩ := hs F w m
  have hfc := hfc es'.length (Nat.le_refl _)
  rw [List.take_of_length_le (by omega)] at hfc
  have hok' : okc es'.flatten := fun a ha => by obtain ⟨e, he, hea⟩ := List.mem_flatten.1 ha; exact hok e he a hea
  obtain ⟨ti, hti, hti1, hti2, hti3⟩ := hel.info
  have hall : ∀ e ∈ es ++ es', e.length = sz := fun e he => (List.mem_append.1 he).elim (ho.1 e) (hl e)
  have hlt := (List.getElem?_eq_some_iff.1 hi).1
  have hbig : es.length + es'.length ≤ 140737488355328 := by
    have : (es.length + es'.length) * 1 ≤ (es.length + es'.length) * by_ := Nat.mul_le_mul_left _ hb1
    omega
  -- the growing case, whatever the old row
  have grow : ∀ (a : Option Addr) (cap : Nat), v = .slice a es.length cap → cap < es.length + es'.length → (∀ w₂ : World, w₂.heap = w.heap → (Builtin.firstCells sz es.length v).run c.P w₂ = .ok ⟨es.flatten⟩ w₂) →
      ∃ v' w' M', ((execOp (ev c.n ρ) ⟨d, .call { callee := .builtin .append, args := #[x, y], argTypes := #[T, T₂] }, ot, pos, af, g⟩).run c.P w = .ok (.value v') w' ∨ ((execOp (ev c.n ρ) ⟨d, .call { callee := .builtin .append, args := #[x, y], argTypes := #[T, T₂] }, ot, pos, af, g⟩).run c.P w = .ok .skip w' ∧ v' = undef)) ∧
        Mem w' (M'.flatten ++ F) H ∧ K v' M' := by
    intro a cap hv hlt' hold
    have hfit := growslice_fits (need := es.length + es'.length) (old := cap) (bytes := by_) hlt' hb
    have h1 : ¬ (es.length + es'.length ≤ cap) := by omega
    have h3 : ¬ (Builtin.nextslicecap (es.length + es'.length) cap * by_ > 281474976710656) := by omega
    have h2 : by_ ≠ 0 := by omega
    let newCap := grownCap w (es.length + es'.length) cap el
    have hcap : es.length + es'.length ≤ newCap := by simp only [newCap, grownCap, Question.cut]; omega
    have hcells : (⟨es.flatten⟩ : Array Value) ++ ⟨es'.flatten⟩ ++ Builtin.zeroCells z.cells (newCap - (es.length + es'.length)) = ⟨(es ++ es').flatten ++ (Builtin.zeroCells z.cells (newCap - (es.length + es'.length))).toList⟩ := by
      apply Array.ext'; simp
    have hrun : (execOp (ev c.n ρ) ⟨d, .call { callee := .builtin .append, args := #[x, y], argTypes := #[T, T₂] }, ot, pos, af, g⟩).run c.P w =
        .ok (.value (.slice (some ⟨w.heap.size, 0, none⟩) (es.length + es'.length) newCap)) (w.drew.alloc (.cells ⟨(es ++ es').flatten ++ (Builtin.zeroCells z.cells (newCap - (es.length + es'.length))).toList⟩ el)) := by
      rw [← hcells]
      subst hv
      simp only [execOp, resolve, invoke, builtin, List.map_toArray, List.map_cons, List.map_nil, hx, hy, Sem.run_bind, Sem.run_pure, Result.andThen_ok, Builtin.append_]
      simp only [List.getElem?_toArray, List.getElem?_cons_zero, List.getElem?_cons_succ, Sem.run_bind, hT, hT₂, hel.size, Result.andThen_ok]
      rcases htx with rfl | rfl <;>
        (simp only [Sem.run_pure, Result.andThen_ok, hlen, Bool.false_eq_true, if_false, h1, Sem.run_bind, hti, hti2, h2, or_self, and_false, Sem.run_ite, h3, run_choose, Question.forced, run_askRoom, Bool.not_false, if_true]
         have hd1 := hold { heap := w.heap, tape := w.tape, drawn := w.drawn + 1, os := w.os, output := w.output } rfl
         have hd2 := (hs F { heap := w.heap, tape := w.tape, drawn := w.drawn + 1, os := w.os, output := w.output } (m.congr rfl)).2.1 es'.length (Nat.le_refl _)
         rw [List.take_of_length_le (by omega)] at hd2
         simp only [hd1, Result.andThen_ok, hd2, hel.zero, newRow, Sem.run_bind, run_newObj, Sem.run_pure]
         rfl)
    refine ⟨_, _, M.set i [(w.heap.size, .cells ⟨(es ++ es').flatten ++ (Builtin.zeroCells z.cells (newCap - (es.length + es'.length))).toList⟩ el (0, 0))], .inl hrun, ?_, h _ _ ⟨hall, .inr ⟨w.heap.size, newCap, _, by rw [List.length_append], rfl, ?_, by rw [List.length_append]; exact hcap⟩⟩⟩
    · have m1 : Mem (w.drew.alloc (.cells ⟨(es ++ es').flatten ++ (Builtin.zeroCells z.cells (newCap - (es.length + es'.length))).toList⟩ el)) ((w.heap.size, .cells ⟨(es ++ es').flatten ++ (Builtin.zeroCells z.cells (newCap - (es.length + es'.length))).toList⟩ el (0, 0)) :: (M.flatten ++ F)) H :=
        m.push (w' := w.drew.alloc _) rfl
      refine Mem.sub (R := k) m1 ?_
      have p1 := Z6 hi
      have p2 := flatten_set (k' := [(w.heap.size, Obj.cells ⟨(es ++ es').flatten ++ (Builtin.zeroCells z.cells (newCap - (es.length + es'.length))).toList⟩ el (0, 0))]) hi
      refine (((p1.append_right F).cons _).trans ?_).trans ((p2.append_right F).append_right k).symm
      simp only [List.append_assoc, List.cons_append, List.nil_append]
      refine List.Perm.cons _ ?_
      rw [← List.append_assoc (M.eraseIdx i).flatten]
      exact List.perm_append_comm
    · have := zeroCells_size z.cells (newCap - (es.length + es'.length))
      rw [hel.zsz] at this
      rw [List.length_append, Array.length_toList]; exact this
  rcases ho.2 with ⟨e1, e2, e3⟩ | ⟨b, cap, sp, e1, e2, e3, e4⟩
  · subst e1 e2 e3
    by_cases h0 : es'.length = 0
    · have he0 : es' = [] := by simpa using h0
      subst he0
      refine ⟨.slice none 0 0, w, M, .inl ?_, m, ?_⟩
      · simp only [List.length_nil] at hlen hfc
        simp only [execOp, resolve, invoke, builtin, List.map_toArray, List.map_cons, List.map_nil, hx, hy, Sem.run_bind, Sem.run_pure, Result.andThen_ok, Builtin.append_]
        simp only [List.getElem?_toArray, List.getElem?_cons_zero, List.getElem?_cons_succ, Sem.run_bind, hT, hT₂, hel.size, Result.andThen_ok]
        rcases htx with rfl | rfl <;>
          simp [Sem.run_pure, Result.andThen_ok, hlen, hfc]
      · have := h (.slice none 0 0) [] Own.nil
        rwa [show M.set i [] = M from by
          apply List.ext_getElem?
          intro j
          rw [List.getElem?_set]
          split
          · rename_i e; subst e; rw [hi]
          · rfl] at this
    · exact grow none 0 rfl (by simp; omega) (fun _ _ => by simp [Builtin.firstCells])
  · subst e1
    by_cases hfits : es.length + es'.length ≤ cap
    · have hb' : w.heap[b]? = some (.cells ⟨es.flatten ++ sp⟩ el (0, 0)) := (At.k (M := M) (H := H) i hi (by rw [e2]; simp)).heap m
      have hfl := Zx ho.1
      have hfl' := Zx hl
      have hspl : spl (es.flatten ++ sp) (es.length * sz) es'.flatten = some ((es ++ es').flatten ++ sp.drop (es'.length * sz)) := by
        rw [spl_mk]
        · rw [← hfl, ← hfl', List.flatten_append, List.take_left', ← List.append_assoc, ← List.drop_drop, List.drop_left']
          · rfl
          · rfl
        · have hm : es'.length * sz ≤ (cap - es.length) * sz := Nat.mul_le_mul_right _ (by omega)
          rw [List.length_append, hfl, hfl', e3]; omega
      obtain ⟨hle, hre⟩ := spl_some hspl
      have hst := run_storeCells_at c.P b (es.length * sz) el es'.flatten 0 ⟨es.flatten ++ sp⟩ w hb' (by simpa using hle) hok'
      simp only [Nat.add_zero, List.append_assoc] at hst
      have hst' : (storeCells ⟨b, es.length * sz, none⟩ es'.flatten).run c.P w = .ok () (w.setRow b ⟨(es ++ es').flatten ++ sp.drop (es'.length * sz)⟩) := by
        rw [hre]
        simpa [List.append_assoc] using hst
      refine ⟨.slice (some ⟨b, 0, none⟩) (es.length + es'.length) cap, _, _, .inl ?_, m.write (k₁ := []) (k₂ := []) hi e2, h _ _ ⟨hall, .inr ⟨b, cap, sp.drop (es'.length * sz), by rw [List.length_append], rfl, ?_, by rw [List.length_append]; exact hfits⟩⟩⟩
      · simp only [execOp, resolve, invoke, builtin, List.map_toArray, List.map_cons, List.map_nil, hx, hy, Sem.run_bind, Sem.run_pure, Result.andThen_ok, Builtin.append_]
        simp only [List.getElem?_toArray, List.getElem?_cons_zero, List.getElem?_cons_succ, Sem.run_bind, hT, hT₂, hel.size, Result.andThen_ok]
        have hadd : (⟨b, 0, none⟩ : Addr).add (es.length * sz) = ⟨b, es.length * sz, none⟩ := by rw [addr_add]; simp
        rcases htx with rfl | rfl <;>
          (simp only [Sem.run_pure, Result.andThen_ok, hlen, Bool.false_eq_true, if_false, hfits, if_true, Bool.not_false, Sem.run_bind, hfc, hadd, hst'])
      · rw [List.length_drop, e3, List.length_append]
        rw [← Nat.sub_mul]; congr 1; omega
    · refine grow _ cap rfl (by omega) fun w₂ hw₂ => ?_
      have hb' : w₂.heap[b]? = some (.cells ⟨es.flatten ++ sp⟩ el (0, 0)) := by rw [hw₂]; exact (At.k (M := M) (H := H) i hi (by rw [e2]; simp)).heap m
      have := (Src.row (P := c.P) (cap := cap) hb' (sub_flat (sp := sp) ho.1)).2.1 es.length (Nat.le_refl _)
      rwa [List.take_of_length_le (by rw [Zx ho.1]; exact Nat.le_refl _)] at this
end
end Go.Proofs.YtfdeibbpfgolcaaGreat.Hs
/-! More on slices: make, a slice literal, copy, a store into an element, cutting. Generic: no program is named. -/
namespace Go.Proofs.YtfdeibbpfgolcaaGreat.Hs
open Go

theorem range_mod (zl : List Value) (n : Nat) : (List.range (n * zl.length)).map (fun i => (⟨zl⟩ : Array Value)[i % zl.length]!) = (List.replicate n zl).flatten := by
  induction n with
  | zero => simp
  | succ n ih =>
    rw [Nat.succ_mul, List.range_add, List.map_append, ih, List.replicate_succ', List.flatten_append]
    congr 1
    simp only [List.map_map, List.flatten_cons, List.flatten_nil, List.append_nil]
    apply List.ext_getElem
    · simp
    · intro i h1 h2
      have hi : i < zl.length := h2
      simp only [List.getElem_map, List.getElem_range, Function.comp, Nat.mul_add_mod_self_right]
      rw [Nat.mod_eq_of_lt hi]
      simp [hi]

theorem madeCells_eq (z : Array Value) (n : Nat) : ((Array.range (n * z.size)).map (z[· % z.size]!)) = ⟨(List.replicate n z.toList).flatten⟩ := by
  apply Array.ext'
  rw [Array.toList_map, Array.toList_range]
  have := range_mod z.toList n
  simpa using this

section
variable {c : Cx} {H : Heap} {ρ : Nat → Value} {M : List Zf} {K : Value → List Zf → Prop} {d : Option Nat} {ot : TypeId} {pos : String} {af : Array Edge} {g : Option (Nat × Bool)} {x y : Operand}

theorem Runs_make {T el : TypeId} {sz by_ : Nat} {z : Value} {k k' : IntKind} (n : Nat) {a b : Int} (hT : ∀ w, (underlying T).run c.P w = .ok (.slice el) w) (hel : El c.P el sz by_ z)
    (hx : ev c.n ρ x = .int k a) (hy : ev c.n ρ y = .int k' b) (ha : a = n) (hb : b = n) (hbig : n * by_ ≤ 281474976710656) (hbig' : n ≤ 140737488355328)
    (h : ∀ b k, Own el sz (.slice (some ⟨b, 0, none⟩) n n) (List.replicate n z.cells.toList) k → k = [(b, .cells ⟨(List.replicate n z.cells.toList).flatten⟩ el (0, 0))] → K (.slice (some ⟨b, 0, none⟩) n n) (k :: M)) :
    Runs c H ⟨d, .makeSlice T x y, ot, pos, af, g⟩ ρ M K := fun F w m => by
  subst ha hb
  obtain ⟨ti, hti, hti1, hti2, hti3⟩ := hel.info
  have w1 : IntKind.i64.wrap (n : Int) = n := w64 (by omega)
  have hzs : z.cells.toList.length = sz := by have := hel.zsz; simpa using this
  have hcells : (if n * sz = 0 then (#[] : Array Value) else (Array.range (n * sz)).map (z.cells[· % z.cells.size]!)) = ⟨(List.replicate n z.cells.toList).flatten⟩ := by
    have h1 := madeCells_eq z.cells n
    rw [hel.zsz] at h1 ⊢
    split
    · rename_i h0
      apply Array.ext'
      have h2 : ((List.replicate n z.cells.toList).flatten).length = n * sz := by
        rw [Zx (sz := sz) (fun e he => by rw [List.eq_of_mem_replicate he]; exact hzs)]; simp
      have h3 : ((List.replicate n z.cells.toList).flatten) = [] := List.eq_nil_of_length_eq_zero (by omega)
      rw [h3]
    · exact h1
  have hrun : (execOp (ev c.n ρ) ⟨d, .makeSlice T x y, ot, pos, af, g⟩).run c.P w = .ok (.value (.slice (some ⟨w.heap.size, 0, none⟩) n n)) { w with heap := w.heap.push (.cells ⟨(List.replicate n z.cells.toList).flatten⟩ el) } := by
    have n1 : ¬ ((n : Int) < 0) := by omega
    have n2 : ¬ (281474976710656 < (by_ : Int) * (n : Int)) := by
      have : ((by_ * n : Nat) : Int) ≤ 281474976710656 := by rw [Nat.mul_comm]; omega
      rw [Int.natCast_mul] at this; omega
    by_cases h0 : n * sz = 0
    · rw [if_pos h0] at hcells
      rw [← hcells]
      simp [execOp, Instr.makeSlice, hx, hy, hT, asInt, asIntOf, hti, hti2, hel.size, w1, n1, n2, h0, newRow, Array.range_zero']
    · rw [if_neg h0] at hcells
      rw [← hcells]
      simp [execOp, Instr.makeSlice, hx, hy, hT, asInt, asIntOf, hti, hti2, hel.size, hel.zero, w1, n1, n2, h0, newRow]
  refine ⟨_, _, [(w.heap.size, .cells ⟨(List.replicate n z.cells.toList).flatten⟩ el (0, 0))] :: M, .inl hrun, m.push (w' := { w with heap := w.heap.push (.cells ⟨(List.replicate n z.cells.toList).flatten⟩ el) }) rfl, h _ _ ?_ rfl⟩
  refine ⟨fun e he => by rw [List.eq_of_mem_replicate he]; exact hzs, .inr ⟨w.heap.size, n, [], by simp, by simp, by simp, by simp⟩⟩

/-! ### A slice literal -/
theorem foldl_set (vs : List Value) : ∀ (cs : Array Value) (off k : Nat), off + k + vs.length ≤ cs.size →
    (vs.zipIdx k).foldl (fun cs (p : Value × Nat) => cs.setIfInBounds (off + p.2) p.1) cs = ⟨cs.toList.take (off + k) ++ (vs ++ cs.toList.drop (off + k + vs.length))⟩ := by
  induction vs with
  | nil => intro cs off k h; simp
  | cons v vs ih =>
    intro cs off k h
    simp only [List.length_cons] at h
    rw [List.zipIdx_cons, List.foldl_cons, ih _ _ _ (by simp; omega)]
    congr 1
    simp only [Array.toList_setIfInBounds]
    have hlen : cs.toList.length = cs.size := by simp
    apply List.ext_getElem?
    intro j
    simp only [List.getElem?_append, List.getElem?_take, List.getElem?_drop, List.getElem?_set, List.length_take, List.length_set, List.length_cons, List.getElem?_cons]
    have e1 : min (off + (k + 1)) cs.toList.length = off + k + 1 := by omega
    have e2 : min (off + k) cs.toList.length = off + k := by omega
    rw [e1, e2]
    by_cases hj : j < off + k
    · have h1 : j < off + k + 1 := by omega
      have h2 : j < off + (k + 1) := by omega
      simp [hj, h1, h2, show ¬ (off + k = j) from by omega]
    · by_cases hj2 : j = off + k
      · subst hj2
        have h2 : off + k < off + (k + 1) := by omega
        have h3 : off + k < cs.toList.length := by omega
        simp [h2]
        omega
      · have h1 : ¬ j < off + k + 1 := by omega
        have h4 : ¬ (j - (off + k) = 0) := by omega
        simp only [h1, if_false, hj, h4]
        by_cases h5 : j - (off + k + 1) < vs.length
        · have h6 : j - (off + k) < vs.length + 1 := by omega
          simp [h5, h6, show j - (off + k) - 1 = j - (off + k + 1) from by omega]
        · have h6 : ¬ j - (off + k) < vs.length + 1 := by omega
          simp only [h5, h6, if_false]
          rw [if_neg (by omega)]
          congr 1
          omega

theorem fill_seq (sz : Nat) (vs : List Value) : ∀ (es : List (List Value)) (k : Nat) (pre rest : List Value), vs.map Value.cells = es.map (fun e => (⟨e⟩ : Array Value)) → (∀ e ∈ es, e.length = sz) → pre.length = k * sz → es.length * sz ≤ rest.length →
    Instr.fill (fun i => some (i * sz, sz)) ⟨pre ++ rest⟩ ((vs.zipIdx k).map fun p => (p.2, p.1)) = some ⟨pre ++ es.flatten ++ rest.drop (es.length * sz)⟩ := by
  induction vs with
  | nil =>
    intro es k pre rest h1 _ _ _
    cases es with
    | nil => simp [Instr.fill]
    | cons e es => simp at h1
  | cons v vs ih =>
    intro es k pre rest h1 h2 h3 h4
    cases es with
    | nil => simp at h1
    | cons e es =>
      simp only [List.map_cons, List.cons.injEq] at h1
      obtain ⟨hv, h1⟩ := h1
      have he := h2 e (by simp)
      simp only [List.length_cons, Nat.succ_mul] at h4
      have hsz : v.cells.size = sz := by rw [hv]; simpa using he
      simp only [List.zipIdx_cons, List.map_cons, Instr.fill]
      rw [hsz]
      have hc : (decide (sz ≠ sz) || decide (k * sz + sz > (⟨pre ++ rest⟩ : Array Value).size)) = false := by
        simp [h3]; omega
      rw [hc]
      simp only [Bool.false_eq_true, if_false]
      have hf := foldl_set v.cells.toList ⟨pre ++ rest⟩ (k * sz) 0 (by simp [hv, he, h3]; omega)
      have hz : v.cells.zipIdx.foldl (fun (cs : Array Value) (p : Value × Nat) => cs.setIfInBounds (k * sz + p.2) p.1) (⟨pre ++ rest⟩ : Array Value) = ⟨(pre ++ e) ++ rest.drop sz⟩ := by
        rw [← Array.foldl_toList, Array.toList_zipIdx, hf]
        simp only [Nat.add_zero, hv, he, ← h3]
        congr 1
        simp [← he]
      refine Eq.trans (congrArg (fun q => Instr.fill (fun i => some (i * sz, sz)) q _) hz) ?_
      rw [ih es (k + 1) (pre ++ e) (rest.drop sz) h1 (fun x hx => h2 x (by simp [hx])) (by rw [List.length_append, h3, he, Nat.succ_mul]) (by rw [List.length_drop]; omega)]
      simp only [List.flatten_cons, List.append_assoc, List.drop_drop, List.length_cons, Nat.succ_mul, Nat.add_comm]

theorem Zq {T el : TypeId} {sz by_ : Nat} {z : Value} {ps : List (Nat × Operand)} {vs : List Value} (es : List (List Value)) {n : Nat} (hT : ∀ w, (underlying T).run c.P w = .ok (.slice el) w) (hel : El c.P el sz by_ z)
    (hp : ps.map (fun q => (q.1, ev c.n ρ q.2)) = (vs.zipIdx 0).map fun p => (p.2, p.1)) (hv : vs.map Value.cells = es.map (fun e => (⟨e⟩ : Array Value))) (hl : ∀ e ∈ es, e.length = sz) (hn : es.length = n) (hbig : n * sz ≤ 16777216)
    (h : ∀ b k, Own el sz (.slice (some ⟨b, 0, none⟩) n n) es k → k = [(b, .cells ⟨es.flatten⟩ el (0, 0))] → K (.slice (some ⟨b, 0, none⟩) n n) (k :: M)) :
    Runs c H ⟨d, .buildSlice T n ps.toArray, ot, pos, af, g⟩ ρ M K := fun F w m => by
  subst hn
  have hzs : z.cells.toList.length = sz := by have := hel.zsz; simpa using this
  have hfl : es.flatten.length = es.length * sz := Zx hl
  have hrun : (execOp (ev c.n ρ) ⟨d, .buildSlice T es.length ps.toArray, ot, pos, af, g⟩).run c.P w = .ok (.value (.slice (some ⟨w.heap.size, 0, none⟩) es.length es.length)) { w with heap := w.heap.push (.cells ⟨es.flatten⟩ el) } := by
    have hb : ¬ (es.length * sz > 2 ^ 24) := by omega
    have hparts : (List.map (fun q => (q.1, ev c.n ρ q.2)) ps) = (vs.zipIdx 0).map fun p => (p.2, p.1) := hp
    have hfill : ∀ zs : Array Value, Instr.fill (fun i => some (i * sz, sz)) ((Array.range (es.length * sz)).map (zs[· % zs.size]!)) ((vs.zipIdx 0).map fun p => (p.2, p.1)) = some ⟨es.flatten⟩ := by
      intro zs
      have := fill_seq sz vs es 0 [] ((Array.range (es.length * sz)).map (zs[· % zs.size]!)).toList hv hl (by simp) (by simp)
      simp only [List.nil_append] at this
      have hd : List.drop (es.length * sz) ((Array.range (es.length * sz)).map (zs[· % zs.size]!)).toList = [] := List.drop_eq_nil_of_le (by simp)
      rw [hd, List.append_nil] at this
      exact this
    simp only [execOp, Instr.buildSlice, List.map_toArray, hparts, Sem.run_bind, hT, Result.andThen_ok, hel.size, hb, if_false, Sem.run_ite]
    by_cases h0 : es.length * sz = 0
    · simp only [h0, if_true, Sem.run_pure, Result.andThen_ok]
      have := hfill #[]
      rw [h0] at this
      simp only [this, Sem.run_pure, Result.andThen_ok, newRow, Sem.run_bind, run_newObj]
    · simp only [h0, if_false, Sem.run_bind, hel.zero, Sem.run_pure, Result.andThen_ok, hfill, newRow, run_newObj]
  refine ⟨_, _, [(w.heap.size, .cells ⟨es.flatten⟩ el (0, 0))] :: M, .inl hrun, m.push (w' := { w with heap := w.heap.push (.cells ⟨es.flatten⟩ el) }) rfl, h _ _ ?_ rfl⟩
  exact ⟨hl, .inr ⟨w.heap.size, es.length, [], rfl, by simp, by simp, Nat.le_refl _⟩⟩

/-! ### Writing into elements -/
theorem flatten_spl {sz : Nat} {es : List (List Value)} {sp e' : List Value} (h : ∀ e ∈ es, e.length = sz) (i : Nat) (hi : i < es.length) (he' : e'.length = sz) : spl (es.flatten ++ sp) (i * sz) e' = some ((es.set i e').flatten ++ sp) := by
  induction es generalizing i with
  | nil => exact absurd hi (by simp)
  | cons e es ih =>
    have he := h e (by simp)
    cases i with
    | zero =>
      rw [spl_mk (by simp [he, he'])]
      simp [he', ← he]
    | succ i =>
      have hi' : i < es.length := by simpa using hi
      have := ih (fun x hx => h x (by simp [hx])) i hi'
      obtain ⟨h1, h2⟩ := spl_some this
      have e1 : (i + 1) * sz = e.length + i * sz := by rw [Nat.succ_mul, he]; omega
      rw [e1, spl_mk (by simp only [List.flatten_cons, List.append_assoc, List.length_append] at h1 ⊢; omega)]
      simp only [List.flatten_cons, List.append_assoc, List.set_cons_succ]
      rw [h2, List.take_append, List.drop_append]
      simp [List.take_of_length_le, Nat.add_assoc, List.drop_eq_nil_of_le]

theorem Runs_storeOwn {T : TypeId} {i j sz b : Nat} {ag : Bool} {v s : Value} {es : List (List Value)} {e' : List Value} {k : Zf} {el : TypeId} (ty : Ty c.P T ag sz)
    (hi : M[i]? = some k) (ho : Own el sz s es k) (hs : ∃ n cap, s = .slice (some ⟨b, 0, none⟩) n cap) (hx : ev c.n ρ x = .pointer (some ⟨b, 0 + j * sz, none⟩)) (hj : j < es.length) (hy : ev c.n ρ y = v) (hv : v.cells = ⟨e'⟩) (hn : e'.length = sz) (hok : okc e')
    (h : ∀ k', Own el sz s (es.set j e') k' → K undef (M.set i k')) :
    Runs c H ⟨d, .store T x y, ot, pos, af, g⟩ ρ M K := by
  obtain ⟨n, cap', hs⟩ := hs
  rcases ho.2 with ⟨e1, e2, e3⟩ | ⟨b', cap, sp, e1, e2, e3, e4⟩
  · subst e2; exact absurd hj (by simp)
  · rw [e1] at hs
    cases hs
    subst e2
    rw [Nat.zero_add] at hx
    refine Runs_store (k₁ := []) (k₂ := []) ty hx hy hv hn hok hi (flatten_spl ho.1 j hj hn) (h _ ⟨fun a ha => ?_, .inr ⟨b, cap', sp, by rw [e1, List.length_set], rfl, by rw [List.length_set]; exact e3, by rw [List.length_set]; exact e4⟩⟩)
    rcases List.mem_or_eq_of_mem_set ha with ha | ha
    · exact ho.1 a ha
    · subst ha; exact hn

/-- copy into the head of an owned row. -/
theorem Runs_copy {T T₂ el : TypeId} {sz by_ n m : Nat} {z v u : Value} {es es' : List (List Value)} {k : Zf} {i : Nat} (hT : ∀ w, (underlying T).run c.P w = .ok (.slice el) w) (hel : El c.P el sz by_ z)
    (hx : ev c.n ρ x = v) (hy : ev c.n ρ y = u) (hi : M[i]? = some k) (ho : Own el sz v es k) (hs : ∀ F w, Mem w (M.flatten ++ F) H → Src c.P sz w u n es'.flatten) (hn : es'.length = n) (hm : n = es.length)
    (hl : ∀ e ∈ es', e.length = sz) (hok : ∀ e ∈ es', okc e) (hm' : m = n)
    (h : ∀ k', Own el sz v es' k' → K (.int .i64 (m : Int)) (M.set i k')) :
    Runs c H ⟨d, .call { callee := .builtin .copy, args := #[x, y], argTypes := #[T, T₂] }, ot, pos, af, g⟩ ρ M K := fun F w mm => by
  subst hm' hn
  obtain ⟨hlen, hfc, hsl⟩ := hs F w mm
  have hfc := hfc es'.length (Nat.le_refl _)
  rw [List.take_of_length_le (by omega)] at hfc
  have hok' : okc es'.flatten := fun a ha => by obtain ⟨e, he, hea⟩ := List.mem_flatten.1 ha; exact hok e he a hea
  have hlt := (List.getElem?_eq_some_iff.1 hi).1
  rcases ho.2 with ⟨e1, e2, e3⟩ | ⟨b, cap, sp, e1, e2, e3, e4⟩
  · subst e1 e2 e3
    have he : es' = [] := by simpa using hm
    subst he
    refine ⟨.int .i64 0, w, M, .inl ?_, mm, ?_⟩
    · simp only [List.length_nil] at hlen hfc
      simp [execOp, resolve, invoke, builtin, hx, hy, Builtin.copy_, hT, hlen, hel.size, hfc, goInt]
    · have := h [] Own.nil
      rwa [show M.set i [] = M from by
        apply List.ext_getElem?
        intro j
        rw [List.getElem?_set]
        split
        · rename_i e; subst e; rw [hi]
        · rfl] at this
  · subst e1
    have hb' : w.heap[b]? = some (.cells ⟨es.flatten ++ sp⟩ el (0, 0)) := (At.k (M := M) (H := H) i hi (by rw [e2]; simp)).heap mm
    have hfl := Zx ho.1
    have hfl' := Zx hl
    have hspl : spl (es.flatten ++ sp) 0 es'.flatten = some (es'.flatten ++ sp) := by
      rw [spl_mk (by simp only [List.length_append, hfl, hfl', hm]; omega)]
      have : 0 + es'.flatten.length = es.flatten.length := by rw [hfl, hfl', hm]; omega
      rw [this, List.drop_left]; simp
    obtain ⟨hle, hre⟩ := spl_some hspl
    have hst := run_storeCells_at c.P b 0 el es'.flatten 0 ⟨es.flatten ++ sp⟩ w hb' (by simpa using hle) hok'
    have hst' : (storeCells ⟨b, 0, none⟩ es'.flatten).run c.P w = .ok () (w.setRow b ⟨es'.flatten ++ sp⟩) := by
      rw [hre]; simpa [List.append_assoc] using hst
    refine ⟨.int .i64 es'.length, _, _, .inl ?_, mm.write (k₁ := []) (k₂ := []) hi e2, h _ ⟨hl, .inr ⟨b, cap, sp, by rw [hm], rfl, by rw [hm]; exact e3, by omega⟩⟩⟩
    simp [execOp, resolve, invoke, builtin, hx, hy, Builtin.copy_, hT, hlen, hel.size, ← hm, hfc, hst', goInt]

end
end Go.Proofs.YtfdeibbpfgolcaaGreat.Hs
/-! A region whose order is drawn: each operation once, whatever order the edges allow. Generic: no program is named. -/
namespace Go.Proofs.YtfdeibbpfgolcaaGreat.Hs
open Go

/-- The operations on which operation i hangs, itself too. -/
def dep (b : Array Nat) (i j : Nat) : Bool := Nat.beq j i || (b.getD i 0).testBit j

/-- Only what an operation hangs on is seen. -/
def rst {α : Type} (z : α) (b : Array Nat) (i : Nat) (r : Nat → α) : Nat → α := fun j => cond (dep b i j) (r j) z

def edgeOk (b : Array Nat) (i : Nat) (e : Edge) : Bool := !(Region.binds .any e) || (Nat.blt e.on i && dep b i e.on && (List.range i).all (fun j => !(dep b e.on j) || dep b i j))
def opOk (ops : List Oper) (b : Array Nat) (k i : Nat) (o : Oper) : Bool :=
  o.after.toList.all (edgeOk b i) &&
  ((List.range ops.length).all (fun j => !(dep b i j) || Nat.ble j i) &&
  ((List.range i).all (fun j => !(dep b i j) || o.after.toList.any (fun e => Region.binds .any e && dep b e.on j)) &&
  ((Nat.blt i k || (List.range i).all (fun j => dep b i j)) &&
  (Nat.ble k i || (List.range i).all (fun j => match ops[j]? with | some p => p.dst.isNone || !(p.dst == o.dst) | none => false)))))
/-- What is asked of the region's edges: checked by reckoning. -/
def drawOk (ops : List Oper) (b : Array Nat) (k : Nat) : Bool :=
  (List.range ops.length).all (fun i => match ops[i]? with | none => false | some o => opOk ops b k i o)

/-- The memory that the operations have made, one chunk each, ahead of what there was; operation a makes none: it exchanges a chunk of what there was. -/
def made (k a : Nat) (N : Nat → Zf) (B : List Zf) : List Zf := (List.range k).map (fun j => cond (Nat.beq j a) [] (N j)) ++ B

theorem Ye {k a : Nat} {N : Nat → Zf} {B : List Zf} {j : Nat} {c : Zf} (h : B[j]? = some c) : (made k a N B)[k + j]? = some c := by
  unfold made
  rw [List.getElem?_append_right (by simp)]
  simpa using h
theorem ZD {a b : Nat} (h : a ≠ b) : Nat.beq a b = false := by rw [← Bool.not_eq_true, Nat.beq_eq]; exact h

theorem made_set {k a i : Nat} {N : Nat → Zf} {M : List Zf} {q : Zf} (hi : i < k) (hia : i ≠ a) (h0 : N i = []) :
    (q :: made k a N M).flatten.Perm (made k a (fun j => cond (Nat.beq j i) q (N j)) M).flatten := by
  unfold made
  have key : ∀ (l : List Nat), i ∈ l → l.Nodup → (q ++ (l.map (fun j => cond (Nat.beq j a) [] (N j))).flatten).Perm ((l.map (fun j => cond (Nat.beq j a) [] (cond (Nat.beq j i) q (N j)))).flatten) := by
    intro l
    induction l with
    | nil => intro h; cases h
    | cons x l ih =>
      intro h hn
      rw [List.nodup_cons] at hn
      by_cases e : x = i
      · subst e
        have h1 : l.map (fun j => cond (Nat.beq j a) [] (cond (Nat.beq j x) q (N j))) = l.map (fun j => cond (Nat.beq j a) [] (N j)) := List.map_congr_left fun j hj => by
          rw [ZD (a := j) (b := x) (by rintro rfl; exact hn.1 hj)]; rfl
        have h2 : Nat.beq x x = true := Nat.beq_refl x
        simp only [List.map_cons, List.flatten_cons, h1, h0, h2, cond_true, ZD hia, cond_false, List.nil_append]
        exact List.Perm.refl _
      · have := ih (List.mem_of_ne_of_mem (Ne.symm e) h) hn.2
        simp only [List.map_cons, List.flatten_cons, ZD e, cond_false]
        refine List.Perm.trans ?_ (this.append_left _)
        rw [← List.append_assoc, ← List.append_assoc]
        exact List.perm_append_comm.append_right _
  have := key (List.range k) (List.mem_range.2 hi) List.nodup_range
  simp only [List.flatten_cons, List.flatten_append]
  rw [← List.append_assoc]
  exact this.append_right _

def AllOps (F : Nat → Oper → Prop) : Nat → Nat → List Oper → Prop
  | _, 0, _ => True
  | i, k + 1, o :: l => F i o ∧ AllOps F (i + 1) k l
  | _, _ + 1, [] => True

theorem AllOps.get {F : Nat → Oper → Prop} {l : List Oper} : ∀ {k s : Nat}, AllOps F s k l → ∀ i o, i < k → l[i]? = some o → F (s + i) o := by
  induction l with
  | nil => intro k s _ i o _ h; cases h
  | cons x l ih =>
    intro k s h i o hi ho
    cases k with
    | zero => omega
    | succ k =>
      cases i with
      | zero => cases ho; exact h.1
      | succ i =>
        have := ih h.2 i o (by omega) (by simpa using ho)
        rwa [show s + (i + 1) = s + 1 + i from by omega]

theorem filter_drop_one {p p' : Nat → Bool} {i : Nat} (l : List Nat) (hn : l.Nodup) (hi : i ∈ l) (h1 : p i = true) (h2 : p' i = false) (h3 : ∀ j, j ≠ i → p' j = p j) : (l.filter p').length + 1 = (l.filter p).length := by
  induction l with
  | nil => cases hi
  | cons a l ih =>
    rw [List.nodup_cons] at hn
    by_cases e : a = i
    · subst e
      rw [List.filter_cons, List.filter_cons, h1, h2, if_pos rfl, if_neg (by simp)]
      have : l.filter p' = l.filter p := List.filter_congr fun x hx => h3 x (by rintro rfl; exact hn.1 hx)
      rw [this]; simp
    · have := ih hn.2 (List.mem_of_ne_of_mem (Ne.symm e) hi)
      rw [List.filter_cons, List.filter_cons, h3 a e]
      split
      · simp only [List.length_cons]; omega
      · exact this

theorem filter_none {p : Nat → Bool} (l : List Nat) (h : (l.filter p).length = 0) : ∀ x ∈ l, p x = false := fun x hx => by
  cases hp : p x with
  | false => rfl
  | true =>
    have : x ∈ l.filter p := List.mem_filter.2 ⟨hx, hp⟩
    rw [List.eq_nil_of_length_eq_zero h] at this
    cases this

/-- The least number that is not listed. -/
theorem least {p : Nat → Bool} : ∀ n, (∃ i, i < n ∧ p i = false) → ∃ i, i < n ∧ p i = false ∧ ∀ j, j < i → p j = true := by
  intro n
  induction n with
  | zero => rintro ⟨i, h, _⟩; omega
  | succ n ih =>
    rintro ⟨i, h1, h2⟩
    by_cases h : ∃ i, i < n ∧ p i = false
    · obtain ⟨j, h3, h4, h5⟩ := ih h
      exact ⟨j, by omega, h4, h5⟩
    · have : i = n := by
        by_cases e : i = n
        · exact e
        · exact absurd ⟨i, by omega, h2⟩ h
      subst this
      refine ⟨i, by omega, h2, fun j hj => ?_⟩
      cases hp : p j with
      | true => rfl
      | false => exact absurd ⟨j, hj, hp⟩ h

section
variable {c : Cx} {H : Heap} {Q : Post}

def ready (l : List Oper) (listed : Array Bool) (i : Nat) : Bool :=
  !listed.getD i true && ((l.toArray[i]?).map (·.after.all fun e => !Region.binds .any e || listed.getD e.on false)).getD false

theorem go_succ (l : List Oper) (fuel t : Nat) (listed : Array Bool) (acc : List Nat) :
    Region.linearise.go .any l.toArray (fuel + 1) t listed acc =
      (match ((List.range l.length).filter (ready l listed))[t % ((List.range l.length).filter (ready l listed)).length]? with
       | some i => Region.linearise.go .any l.toArray fuel (t / ((List.range l.length).filter (ready l listed)).length) (listed.setIfInBounds i true) (i :: acc)
       | none => acc.reverse) := by
  rw [Region.linearise.go]
  rfl

theorem set_getD (listed : Array Bool) (i j : Nat) (hi : i < listed.size) : (listed.setIfInBounds i true).getD j true = cond (Nat.beq j i) true (listed.getD j true) := by
  rw [Array.getD_eq_getD_getElem?, Array.getD_eq_getD_getElem?, Array.getElem?_setIfInBounds]
  by_cases e : i = j
  · subst e; simp [hi]
  · rw [if_neg e, ZD (Ne.symm e)]; rfl

end
end Go.Proofs.YtfdeibbpfgolcaaGreat.Hs
/-! The data of layer 4: digests, patterns, terms; what it is that cells read as them. -/
namespace Go.Proofs.YtfdeibbpfgolcaaGreat.Hs
open Go

abbrev Sm := Vector UInt8 32

/-- The cells of a digest. -/
def sC (r : Sm) : List Value :=
  [.int .u8 (r[0].toNat : Int), .int .u8 (r[1].toNat : Int), .int .u8 (r[2].toNat : Int), .int .u8 (r[3].toNat : Int), .int .u8 (r[4].toNat : Int), .int .u8 (r[5].toNat : Int), .int .u8 (r[6].toNat : Int), .int .u8 (r[7].toNat : Int),
   .int .u8 (r[8].toNat : Int), .int .u8 (r[9].toNat : Int), .int .u8 (r[10].toNat : Int), .int .u8 (r[11].toNat : Int), .int .u8 (r[12].toNat : Int), .int .u8 (r[13].toNat : Int), .int .u8 (r[14].toNat : Int), .int .u8 (r[15].toNat : Int),
   .int .u8 (r[16].toNat : Int), .int .u8 (r[17].toNat : Int), .int .u8 (r[18].toNat : Int), .int .u8 (r[19].toNat : Int), .int .u8 (r[20].toNat : Int), .int .u8 (r[21].toNat : Int), .int .u8 (r[22].toNat : Int), .int .u8 (r[23].toNat : Int),
   .int .u8 (r[24].toNat : Int), .int .u8 (r[25].toNat : Int), .int .u8 (r[26].toNat : Int), .int .u8 (r[27].toNat : Int), .int .u8 (r[28].toNat : Int), .int .u8 (r[29].toNat : Int), .int .u8 (r[30].toNat : Int), .int .u8 (r[31].toNat : Int)]

def zS : Sm := Vector.replicate 32 0
theorem sC_len (r : Sm) : (sC r).length = 32 := rfl

theorem sC_get (r : Sm) (i : Nat) (h : i < 32) : (sC r)[i]? = some (.int .u8 (r[i].toNat : Int)) := by
  match i, h with
  | 0, _ | 1, _ | 2, _ | 3, _ | 4, _ | 5, _ | 6, _ | 7, _ | 8, _ | 9, _ | 10, _ | 11, _ | 12, _ | 13, _ | 14, _ | 15, _ | 16, _ | 17, _ | 18, _ | 19, _ | 20, _ | 21, _ | 22, _ | 23, _ | 24, _ | 25, _ | 26, _ | 27, _ | 28, _ | 29, _ | 30, _ | 31, _ => rfl
  | n + 32, h => exact absurd h (by omega)

theorem sC_inj {r s : Sm} (h : sC r = sC s) : r = s := by
  apply Vector.ext
  intro i hi
  have h1 := sC_get r i hi
  rw [h, sC_get s i hi] at h1
  simp only [Option.some.injEq, Value.int.injEq, true_and] at h1
  exact UInt8.toNat_inj.1 (by omega)

theorem sC_ok (r : Sm) : okc (sC r) := fun v hv => by
  obtain ⟨i, hi, rfl⟩ := List.getElem_of_mem hv
  have h := sC_get r i hi
  rw [List.getElem?_eq_getElem hi] at h
  rw [Option.some.inj h]; rfl

def inI (n : Int) : Prop := -9223372036854775808 ≤ n ∧ n ≤ 9223372036854775807

inductive Pt where
  | mk (kind num : Int) (ref : Sm) (kids : List Pt)

inductive Tm where
  | mk (kind num : Int) (ref : Sm) (kids : List Tm) (cases : List (Pt × Tm))

namespace Pt
def kind : Pt → Int | .mk k _ _ _ => k
def num : Pt → Int | .mk _ n _ _ => n
def ref : Pt → Sm | .mk _ _ r _ => r
def kids : Pt → List Pt | .mk _ _ _ l => l
end Pt
namespace Tm
def kind : Tm → Int | .mk k _ _ _ _ => k
def num : Tm → Int | .mk _ n _ _ _ => n
def ref : Tm → Sm | .mk _ _ r _ _ => r
def kids : Tm → List Tm | .mk _ _ _ l _ => l
def cases : Tm → List (Pt × Tm) | .mk _ _ _ _ l => l
end Tm

theorem Pt.ind {P : Pt → Prop} (h : ∀ k n r kids, (∀ x ∈ kids, P x) → P (.mk k n r kids)) : ∀ p, P p := by
  have key : ∀ n (p : Pt), SizeOf.sizeOf p ≤ n → P p := by
    intro n
    induction n with
    | zero => intro p hp; cases p; simp at hp
    | succ n ih =>
      intro p hp
      cases p with
      | mk k m r kids =>
        refine h k m r kids fun x hx => ih x ?_
        have := List.sizeOf_lt_of_mem hx
        simp at hp
        omega
  exact fun p => key _ p (Nat.le_refl _)

theorem Tm.ind {P : Tm → Prop} (h : ∀ k n r kids cases, (∀ x ∈ kids, P x) → (∀ c ∈ cases, P c.2) → P (.mk k n r kids cases)) : ∀ t, P t := by
  have key : ∀ n (t : Tm), SizeOf.sizeOf t ≤ n → P t := by
    intro n
    induction n with
    | zero => intro t ht; cases t; simp at ht
    | succ n ih =>
      intro t ht
      cases t with
      | mk k m r kids cases =>
        refine h k m r kids cases (fun x hx => ih x ?_) (fun c hc => ih c.2 ?_)
        · have := List.sizeOf_lt_of_mem hx
          simp at ht
          omega
        · have := List.sizeOf_lt_of_mem hc
          have h2 : SizeOf.sizeOf c = 1 + SizeOf.sizeOf c.1 + SizeOf.sizeOf c.2 := by cases c; rfl
          simp at ht
          omega
  exact fun t => key _ t (Nat.le_refl _)

/-- The cells of a pattern, a term, a case. -/
def pkP (k n : Int) (r : Sm) (ks : Value) : List Value := .int .i64 k :: .int .i64 n :: (sC r ++ [ks])
def pkT (k n : Int) (r : Sm) (ks cs : Value) : List Value := .int .i64 k :: .int .i64 n :: (sC r ++ [ks, cs])

mutual
def rdP (h : Heap) : Pt → List Value → Prop
  | .mk k n r kids, cs => ∃ ks, cs = pkP k n r ks ∧ inI k ∧ inI n ∧ rdSl h kids.length ks (rdPs h kids)
def rdPs (h : Heap) : List Pt → List Value → Nat → Prop
  | [], _, _ => True
  | p :: ps, row, o => (∃ cs, sub row o 35 = some cs ∧ rdP h p cs) ∧ rdPs h ps row (o + 35)
end

def RP (h : Heap) (cs : List Value) (p : Pt) : Prop := rdP h p cs
theorem rdPs_eq (h : Heap) (l : List Pt) : ∀ row o, rdPs h l row o = rows (RP h) 35 row o l := by
  induction l with
  | nil => intro row o; simp only [rdPs, rows]
  | cons p ps ih => intro row o; simp only [rdPs, rows, ih, RP]

theorem RP_mk {h : Heap} {cs : List Value} {k n : Int} {r : Sm} {kids : List Pt} : RP h cs (.mk k n r kids) ↔ ∃ ks, cs = pkP k n r ks ∧ inI k ∧ inI n ∧ rdS RP 35 h ks kids := by
  unfold rdS
  rw [show RP h cs (.mk k n r kids) = rdP h (.mk k n r kids) cs from rfl]
  simp only [rdP]
  have : rdPs h kids = fun row o => rows (RP h) 35 row o kids := by funext row o; exact rdPs_eq h kids row o
  rw [this]

mutual
def rdT (h : Heap) : Tm → List Value → Prop
  | .mk k n r kids cases, cs => ∃ ks cv, cs = pkT k n r ks cv ∧ inI k ∧ inI n ∧ rdSl h kids.length ks (rdTs h kids) ∧ rdSl h cases.length cv (rdCs h cases)
def rdTs (h : Heap) : List Tm → List Value → Nat → Prop
  | [], _, _ => True
  | p :: ps, row, o => (∃ cs, sub row o 36 = some cs ∧ rdT h p cs) ∧ rdTs h ps row (o + 36)
def rdCs (h : Heap) : List (Pt × Tm) → List Value → Nat → Prop
  | [], _, _ => True
  | (p, t) :: ps, row, o => (∃ cs, sub row o 71 = some cs ∧ ∃ a b, cs = a ++ b ∧ rdP h p a ∧ rdT h t b) ∧ rdCs h ps row (o + 71)
end

def RT (h : Heap) (cs : List Value) (t : Tm) : Prop := rdT h t cs
def RC (h : Heap) (cs : List Value) (c : Pt × Tm) : Prop := ∃ a b, cs = a ++ b ∧ RP h a c.1 ∧ RT h b c.2

theorem rdTs_eq (h : Heap) (l : List Tm) : ∀ row o, rdTs h l row o = rows (RT h) 36 row o l := by
  induction l with
  | nil => intro row o; simp only [rdTs, rows]
  | cons p ps ih => intro row o; simp only [rdTs, rows, ih, RT]
theorem rdCs_eq (h : Heap) (l : List (Pt × Tm)) : ∀ row o, rdCs h l row o = rows (RC h) 71 row o l := by
  induction l with
  | nil => intro row o; simp only [rdCs, rows]
  | cons p ps ih => intro row o; obtain ⟨a, b⟩ := p; simp only [rdCs, rows, ih, RC, RP, RT]

theorem RT_mk {h : Heap} {cs : List Value} {k n : Int} {r : Sm} {kids : List Tm} {cases : List (Pt × Tm)} :
    RT h cs (.mk k n r kids cases) ↔ ∃ ks cv, cs = pkT k n r ks cv ∧ inI k ∧ inI n ∧ rdS RT 36 h ks kids ∧ rdS RC 71 h cv cases := by
  have e1 : rdTs h kids = fun row o => rows (RT h) 36 row o kids := by funext row o; exact rdTs_eq h kids row o
  have e2 : rdCs h cases = fun row o => rows (RC h) 71 row o cases := by funext row o; exact rdCs_eq h cases row o
  unfold rdS
  rw [show RT h cs (.mk k n r kids cases) = rdT h (.mk k n r kids cases) cs from rfl]
  simp only [rdT]
  rw [e1, e2]

theorem ZA {h : Heap} {cs : List Value} {p : Pt} (r : RP h cs p) : cs.length = 35 := by cases p; obtain ⟨ks, rfl, _⟩ := RP_mk.1 r; rfl
theorem Zv {h : Heap} {cs : List Value} {t : Tm} (r : RT h cs t) : cs.length = 36 := by cases t; obtain ⟨ks, cv, rfl, _⟩ := RT_mk.1 r; rfl
theorem RP.mono {h h' : Heap} (hh : Hle h h') : ∀ {p cs}, RP h cs p → RP h' cs p := by
  intro p
  induction p using Pt.ind with
  | h k n r kids ih =>
    intro cs q
    obtain ⟨ks, e, h1, h2, h3⟩ := RP_mk.1 q
    exact RP_mk.2 ⟨ks, e, h1, h2, h3.mono hh fun x hx cs q => ih x hx q⟩
theorem RT.mono {h h' : Heap} (hh : Hle h h') : ∀ {t cs}, RT h cs t → RT h' cs t := by
  intro t
  induction t using Tm.ind with
  | h k n r kids cases ih ih' =>
    intro cs q
    obtain ⟨ks, cv, e, h1, h2, h3, h4⟩ := RT_mk.1 q
    exact RT_mk.2 ⟨ks, cv, e, h1, h2, h3.mono hh fun x hx cs q => ih x hx q, h4.mono hh fun x hx cs ⟨a, b, e, q1, q2⟩ => ⟨a, b, e, q1.mono hh, ih' x hx q2⟩⟩
theorem RC.mono {h h' : Heap} (hh : Hle h h') {c cs} (q : RC h cs c) : RC h' cs c := by obtain ⟨a, b, e, q1, q2⟩ := q; exact ⟨a, b, e, q1.mono hh, q2.mono hh⟩
theorem RPs.mono {h h' : Heap} (hh : Hle h h') {v l} (q : rdS RP 35 h v l) : rdS RP 35 h' v l := rdS.mono q hh fun _ _ _ => RP.mono hh
theorem RTs.mono {h h' : Heap} (hh : Hle h h') {v l} (q : rdS RT 36 h v l) : rdS RT 36 h' v l := rdS.mono q hh fun _ _ _ => RT.mono hh
theorem RCs.mono {h h' : Heap} (hh : Hle h h') {v l} (q : rdS RC 71 h v l) : rdS RC 71 h' v l := rdS.mono q hh fun _ _ _ => RC.mono hh

/-- Laid open, whatever the term. -/
theorem RP_open {h : Heap} {cs : List Value} {p : Pt} (q : RP h cs p) : ∃ ks, cs = pkP p.kind p.num p.ref ks ∧ inI p.kind ∧ inI p.num ∧ rdS RP 35 h ks p.kids := by cases p; exact RP_mk.1 q
theorem RT_open {h : Heap} {cs : List Value} {t : Tm} (q : RT h cs t) : ∃ ks cv, cs = pkT t.kind t.num t.ref ks cv ∧ inI t.kind ∧ inI t.num ∧ rdS RT 36 h ks t.kids ∧ rdS RC 71 h cv t.cases := by cases t; exact RT_mk.1 q

/-! parts of the cells -/
section
variable (k n : Int) (r : Sm) (ks cs : Value)
theorem pkP_0 : (pkP k n r ks)[0]? = some (.int .i64 k) := rfl
theorem pkP_1 : (pkP k n r ks)[1]? = some (.int .i64 n) := rfl
theorem pkP_2 : sub (pkP k n r ks) 2 32 = some (sC r) := rfl
theorem YG : (pkP k n r ks)[34]? = some ks := rfl
theorem pkP_a : sub (pkP k n r ks) 0 35 = some (pkP k n r ks) := rfl
theorem Z5 : (pkT k n r ks cs)[0]? = some (.int .i64 k) := rfl
theorem YY : (pkT k n r ks cs)[1]? = some (.int .i64 n) := rfl
theorem pkT_2 : sub (pkT k n r ks cs) 2 32 = some (sC r) := rfl
theorem Z9 : (pkT k n r ks cs)[34]? = some ks := rfl
theorem Yj : (pkT k n r ks cs)[35]? = some cs := rfl
theorem ZY : sub (pkT k n r ks cs) 0 36 = some (pkT k n r ks cs) := rfl
theorem pkP_s2 (r' : Sm) : spl (pkP k n r ks) 2 (sC r') = some (pkP k n r' ks) := rfl
theorem pkP_s34 (v : Value) : spl (pkP k n r ks) 34 [v] = some (pkP k n r v) := rfl
theorem pkT_s1 (k' : Int) : spl (pkT k n r ks cs) 1 [.int .i64 k'] = some (pkT k k' r ks cs) := rfl
theorem pkT_s2 (r' : Sm) : spl (pkT k n r ks cs) 2 (sC r') = some (pkT k n r' ks cs) := rfl
theorem pkT_s34 (v : Value) : spl (pkT k n r ks cs) 34 [v] = some (pkT k n r v cs) := rfl
theorem pkT_s35 (v : Value) : spl (pkT k n r ks cs) 35 [v] = some (pkT k n r ks v) := rfl
theorem pkP_s (k' n' : Int) (r' : Sm) (ks' : Value) : spl (pkP k n r ks) 0 (pkP k' n' r' ks') = some (pkP k' n' r' ks') := rfl
theorem Z4 (k' n' : Int) (r' : Sm) (ks' cs' : Value) : spl (pkT k n r ks cs) 0 (pkT k' n' r' ks' cs') = some (pkT k' n' r' ks' cs') := rfl
theorem pkP_ok {k n : Int} {r : Sm} {ks : Value} (h : ks.oneCell' = true) : okc (pkP k n r ks) := by
  intro v hv
  simp only [pkP, List.mem_cons, List.mem_append, List.not_mem_nil, or_false] at hv
  rcases hv with rfl | rfl | hv | rfl
  · rfl
  · rfl
  · exact sC_ok r v hv
  · exact h
theorem Zz {k n : Int} {r : Sm} {ks cs : Value} (h : ks.oneCell' = true) (h' : cs.oneCell' = true) : okc (pkT k n r ks cs) := by
  intro v hv
  simp only [pkT, List.mem_cons, List.mem_append, List.not_mem_nil, or_false] at hv
  rcases hv with rfl | rfl | hv | rfl | rfl
  · rfl
  · rfl
  · exact sC_ok r v hv
  · exact h
  · exact h'
end

theorem RP_ok {h : Heap} {cs : List Value} {p : Pt} (r : RP h cs p) : okc cs := by cases p; obtain ⟨ks, rfl, _, _, h3⟩ := RP_mk.1 r; exact pkP_ok h3.one
theorem Y5 {h : Heap} {cs : List Value} {t : Tm} (r : RT h cs t) : okc cs := by cases t; obtain ⟨ks, cv, rfl, _, _, h3, h4⟩ := RT_mk.1 r; exact Zz h3.one h4.one
theorem Z2 {a b : List Value} (h : okc a) (h' : okc b) : okc (a ++ b) := fun v hv => (List.mem_append.1 hv).elim (h v) (h' v)
theorem sub_l {a b : List Value} {n : Nat} (h : a.length = n) : sub (a ++ b) 0 n = some a := by
  subst h; rw [sub_mk (by simp)]; simp
theorem sub_r {a b : List Value} {n m : Nat} (h : a.length = n) (h' : b.length = m) : sub (a ++ b) n m = some b := by
  subst h h'; rw [sub_mk (by simp)]; simp
theorem Zu {a : List Value} {n : Nat} (h : a.length = n) : sub a 0 n = some a := by
  subst h; rw [sub_mk (by simp)]; simp
theorem Zy {a b : List Value} {n : Nat} (h : a.length = n) (h' : b.length = n) : spl a 0 b = some b := by
  subst h'; rw [spl_mk (by omega)]; simp [h]

theorem Zt : okc [] := fun _ h => by cases h
theorem Zj {v : Value} {l : List Value} (h : v.oneCell' = true) (h' : okc l) : okc (v :: l) := fun x hx => by
  rcases List.mem_cons.1 hx with rfl | hx
  · exact h
  · exact h' x hx
theorem YK {l : List Value} {o : Nat} {v : Value} (h : sub l o 1 = some [v]) : l[o]? = some v := by
  obtain ⟨h1, h2⟩ := sub_some h
  have : (List.take 1 (List.drop o l))[0]? = some v := by rw [← h2]; rfl
  simpa using this
end Go.Proofs.YtfdeibbpfgolcaaGreat.Hs
/-! Small words for the printed walks. -/
namespace Go.Proofs.YtfdeibbpfgolcaaGreat.Hs
open Go

def upds (ρ : Nat → Value) : List (Nat × Value) → (Nat → Value)
  | [] => ρ
  | (s, v) :: l => upd (upds ρ l) s v
theorem un {ρ : Nat → Value} : upds ρ [] = ρ := rfl
theorem upds_cons {ρ : Nat → Value} {s : Nat} {v : Value} {l : List (Nat × Value)} (h : ρ s = v) (h' : upds ρ l = ρ) : upds ρ ((s, v) :: l) = ρ := by
  unfold upds
  rw [h']
  funext i
  by_cases e : i = s
  · subst e; rw [upd_self]; exact h.symm
  · rw [upd_ne _ _ e]
theorem uc {ρ : Nat → Value} {s : Nat} {v : Value} {l : List (Nat × Value)} (h : ρ s = v) (h' : upds ρ l = ρ) : upds ρ ((s, v) :: l) = ρ := upds_cons h h'

section
variable {c : Cx} {H : Heap} {ρ : Nat → Value} {M : List Zf} {Q : Post}

/-- A loop of at most so many rounds, gone through one by one. -/
def JR (c : Cx) (H : Heap) (x : Code) (R : YE) (E : List (Nat × YE)) : Nat → YE
  | 0, _, _ => False
  | m + 1, ρ, M => J c H x ρ M ⟨JR c H x R E m, R, E⟩
theorem ZG {x : Code} {R : YE} {E : List (Nat × YE)} {m : Nat} (h : J c H x ρ M ⟨JR c H x R E m, R, E⟩) : JR c H x R E (m + 1) ρ M := h
theorem Ya {x : Code} {N R : YE} {E : List (Nat × YE)} (m : Nat) (h : JR c H x R E m ρ M) : J c H (.loop x) ρ M ⟨N, R, E⟩ :=
  ZT (JR c H x R E) m h fun k ρ M hk => by
    cases k with
    | zero => exact hk.elim
    | succ k =>
      refine J_mono (ZG hk) fun e ρ M q => ?_
      cases e with
      | normal => exact ⟨k, Nat.lt_succ_self k, q⟩
      | _ => exact q

theorem J_weak {x : Code} {N N' R : YE} {E : List (Nat × YE)} (h : J c H x ρ M ⟨N, R, E⟩) (h' : ∀ ρ M, N ρ M → N' ρ M) : J c H x ρ M ⟨N', R, E⟩ :=
  J_mono h fun e ρ M q => by
    cases e with
    | normal => exact h' ρ M q
    | _ => exact q

end

theorem Pu.pickT {P : Program} {e : Operand → Value} {d : Option Nat} {ot : TypeId} {pos : String} {af : Array Edge} {g : Option (Nat × Bool)} {x y z : Operand} {v : Value} (hc : e z = .bool true) (hx : e x = v) : Pu P e ⟨d, .pick z x y, ot, pos, af, g⟩ v := fun w => by
  simp [execOp, hc, hx, asBool]
theorem Pu.pickF {P : Program} {e : Operand → Value} {d : Option Nat} {ot : TypeId} {pos : String} {af : Array Edge} {g : Option (Nat × Bool)} {x y z : Operand} {v : Value} (hc : e z = .bool false) (hx : e y = v) : Pu P e ⟨d, .pick z x y, ot, pos, af, g⟩ v := fun w => by
  simp [execOp, hc, hx, asBool]
theorem ieq {x : Value} {k : IntKind} {a b : Int} (h : x = .int k a) (e : a = b) : x = .int k b := by rw [h, e]
/-- Parts of values, for results that are known by name alone. -/
def cel : Value → List Value
  | .agg c => c.toList
  | _ => []
def pblk : Value → Nat
  | .pointer (some a) => a.block
  | _ => 0
def Y0 : Value → Nat
  | .slice (some a) _ _ => a.block
  | _ => 0
theorem RC_mk {h : Heap} {a b : List Value} {c : Pt × Tm} (h1 : RP h a c.1) (h2 : RT h b c.2) : RC h (a ++ b) c := ⟨a, b, rfl, h1, h2⟩
theorem ZR {a b : List Value} {n m : Nat} (h : a.length = n) (h' : b.length = m) : (a ++ b).length = n + m := by rw [List.length_append, h, h']
theorem sub_get {l r : List Value} {o n p : Nat} {v : Value} (h : sub l o n = some r) (h' : r[p]? = some v) : l[o + p]? = some v := by
  obtain ⟨h1, rfl⟩ := sub_some h
  rw [List.getElem?_take] at h'
  split at h'
  · simpa using h'
  · cases h'
theorem YW {a b : Bool} (h : (a && b) = true) : a = true ∧ b = true := by simpa using h
theorem orF {a b : Bool} (h : (a || b) = false) : a = false ∧ b = false := by simpa using h
theorem Yr {α : Type} {l : List α} {j : Nat} (h : j < l.length) : l.drop j = l[j] :: l.drop (j + 1) := List.drop_eq_getElem_cons h
theorem dropn {α : Type} {l : List α} {j : Nat} (h : l.length ≤ j) : l.drop j = [] := List.drop_eq_nil_of_le h
theorem dt {p : Prop} [Decidable p] (h : decide p = true) : p := of_decide_eq_true h
theorem df {p : Prop} [Decidable p] (h : decide p = false) : ¬ p := of_decide_eq_false h
theorem nt {b : Bool} (h : (!b) = true) : b = false := by cases b <;> first | rfl | cases h
theorem nf {b : Bool} (h : (!b) = false) : b = true := by cases b <;> first | rfl | cases h


section
variable {P : Program} {e : Operand → Value} {d : Option Nat} {ot : TypeId} {pos : String} {af : Array Edge} {g : Option (Nat × Bool)} {x y z : Operand} {A : Array TypeId}
end

/-! Searching with a function that has a state. -/
def idxS {α σ : Type} (step : α → σ → Bool × σ) : List α → Nat → σ → Int × σ
  | [], _, s => (-1, s)
  | x :: l, i, s => if (step x s).1 = true then ((i : Int), (step x s).2) else idxS step l (i + 1) (step x s).2
def YD {α σ : Type} (step : α → σ → Bool × σ) : List α → σ → Bool × σ
  | [], s => (false, s)
  | x :: l, s => if (step x s).1 = true then (true, (step x s).2) else YD step l (step x s).2
theorem idxS_any {α σ : Type} (step : α → σ → Bool × σ) (l : List α) : ∀ i s, (decide (0 ≤ (idxS step l i s).1)) = (YD step l s).1 ∧ (idxS step l i s).2 = (YD step l s).2 := by
  induction l with
  | nil => intro i s; simp [idxS, YD]
  | cons x l ih =>
    intro i s
    rw [idxS, YD]
    split
    · exact ⟨by simp, rfl⟩
    · exact ih _ _
theorem idxS_inv {α σ : Type} {step : α → σ → Bool × σ} {Inv : σ → Prop} {l : List α} (h : ∀ x ∈ l, ∀ s, Inv s → (step x s).1 = false → Inv (step x s).2) : ∀ s, Inv s → (YD step l s).1 = false → Inv (YD step l s).2 := by
  induction l with
  | nil => intro s hs _; exact hs
  | cons x l ih =>
    intro s hs hf
    rw [YD] at hf ⊢
    split at hf
    · cases hf
    · rename_i hx
      rw [if_neg hx]
      exact ih (fun y hy => h y (by simp [hy])) _ (h x (by simp) s hs (by simpa using hx)) hf
end Go.Proofs.YtfdeibbpfgolcaaGreat.Hs
/-! Regions whose order is drawn, once more: any invariant; and one operation that writes into what another one has made. Generic: no program is named. -/
namespace Go.Proofs.YtfdeibbpfgolcaaGreat.Hs
open Go
section
variable {c : Cx} {H : Heap} {Q : Post}
/-- **A region whose order is drawn**, by an invariant: I says what holds when the operations of a set have been done. -/
theorem J_drawG {id : Nat} {l : List Oper} {ρ₀ : Nat → Value} {M₀ : List Zf} (hmix : c.P.follows .mixedOrders = true) (b : Array Nat) (k : Nat) (hk : Nat.ble k l.length = true) (hok : drawOk l b k = true)
    (I : (Nat → Bool) → (Nat → Value) → List Zf → Prop)
    (h0 : ∀ S, (∀ j, j < k → S j = false) → I S ρ₀ M₀)
    (hstep : ∀ S i o ρ M, i < k → l[i]? = some o → S i = false → (∀ j, j < i → dep b i j = true → S j = true) → (∀ i' j, i' < k → S i' = true → j < i' → dep b i' j = true → S j = true) → I S ρ M →
      JL c H l.toArray [o] ρ M ⟨fun ρ' M' => ∀ S', (∀ j, S' j = cond (Nat.beq j i) true (S j)) → I S' ρ' M', fun _ _ => False, []⟩)
    (htail : ∀ S ρ M, (∀ j, j < k → S j = true) → I S ρ M → JL c H l.toArray (l.drop k) ρ M Q) :
    J c H (.region id l.toArray true) ρ₀ M₀ Q := by
  have hk := Nat.le_of_ble_eq_true hk
  -- what the check says
  have chk : ∀ i o, l[i]? = some o →
      (∀ e ∈ o.after, Region.binds .any e = true → e.on < i ∧ dep b i e.on = true ∧ ∀ j, j < i → dep b e.on j = true → dep b i j = true) ∧
      (∀ j, j < l.length → dep b i j = true → j ≤ i) ∧
      (∀ j, j < i → dep b i j = true → ∃ e ∈ o.after, Region.binds .any e = true ∧ dep b e.on j = true) ∧
      (k ≤ i → ∀ j, j < i → dep b i j = true) ∧
      (i < k → ∀ j p x, j < i → l[j]? = some p → p.dst = some x → p.dst ≠ o.dst) := by
    intro i o ho
    have hlt := (List.getElem?_eq_some_iff.1 ho).1
    have h := List.all_eq_true.1 hok i (List.mem_range.2 hlt)
    simp only [ho] at h
    unfold opOk at h
    simp only [Bool.and_eq_true, List.all_eq_true, Bool.or_eq_true, Bool.not_eq_true', List.mem_range, List.any_eq_true] at h
    obtain ⟨h1, h2, h3, h4, h5⟩ := h
    refine ⟨fun e he hb => ?_, fun j hj hd => ?_, fun j hj hd => ?_, fun hki j hj => ?_, fun hik => ?_⟩
    · have h1 := h1 e (by simpa using he)
      unfold edgeOk at h1
      simp only [Bool.and_eq_true, List.all_eq_true, Bool.or_eq_true, Bool.not_eq_true', List.mem_range] at h1
      rcases h1 with h | ⟨⟨h, h'⟩, h''⟩
      · rw [hb] at h; cases h
      · refine ⟨by simpa [Nat.blt_eq] using h, h', fun j hj hd => ?_⟩
        rcases h'' j hj with h | h
        · rw [hd] at h; cases h
        · exact h
    · rcases h2 j hj with h | h
      · rw [hd] at h; cases h
      · exact Nat.le_of_ble_eq_true h
    · rcases h3 j hj with h | ⟨e, he, hb, h⟩
      · rw [hd] at h; cases h
      · exact ⟨e, by simpa using he, hb, h⟩
    · rcases h4 with h | h
      · have : i < k := by simpa [Nat.blt_eq] using h
        omega
      · exact h j hj
    · rcases h5 with h | h'
      · have := Nat.le_of_ble_eq_true h
        omega
      · intro j p x hj hp hx
        have := h' j hj
        rw [hp] at this
        simpa [hx] using this
  have dep_self : ∀ i, dep b i i = true := fun i => by unfold dep; rw [Nat.beq_refl]; rfl
  -- what an operation hangs on is listed when it is ready
  have hready : ∀ (listed : Array Bool) i o, listed.size = l.length → l[i]? = some o → ready l listed i = true → (∀ i o, l[i]? = some o → listed.getD i true = true → ∀ j, j < i → dep b i j = true → listed.getD j true = true) →
      listed.getD i true = false ∧ ∀ j, j < i → dep b i j = true → listed.getD j true = true := by
    intro listed i o hs ho hr hcl
    unfold ready at hr
    rw [Bool.and_eq_true] at hr
    obtain ⟨h1, h2⟩ := hr
    refine ⟨by simpa using h1, fun j hj hd => ?_⟩
    have h3 : l.toArray[i]? = some o := by simpa using ho
    rw [h3] at h2
    simp only [Option.map_some, Option.getD_some] at h2
    rw [Array.all_eq_true'] at h2
    obtain ⟨e, he, hb, hde⟩ := (chk i o ho).2.2.1 j hj hd
    have h4 := h2 e he
    rw [hb] at h4
    simp only [Bool.not_true, Bool.false_or] at h4
    obtain ⟨h5, _, _⟩ := (chk i o ho).1 e he hb
    have hlt := (List.getElem?_eq_some_iff.1 ho).1
    have h6 : listed.getD e.on true = true := by
      rw [Array.getD_eq_getD_getElem?] at h4 ⊢
      have : e.on < listed.size := by omega
      rw [Array.getElem?_eq_getElem this] at h4 ⊢
      exact h4
    by_cases e' : j = e.on
    · rw [e']; exact h6
    · have hon : e.on < l.length := by omega
      obtain ⟨oe, hoe⟩ : ∃ oe, l[e.on]? = some oe := ⟨_, List.getElem?_eq_getElem hon⟩
      have := (chk e.on oe hoe).2.1 j (by omega) hde
      exact hcl e.on oe hoe h6 j (by omega) hde
  -- and the first that is not listed is ready
  have hleast : ∀ (listed : Array Bool), listed.size = l.length → ∀ i, i < l.length → listed.getD i true = false → (∀ j, j < i → listed.getD j true = true) → ready l listed i = true := by
    intro listed hs i hi h1 h2
    unfold ready
    have h3 : l.toArray[i]? = some l[i] := by simp [hi]
    rw [h1, h3]
    simp only [Bool.not_false, Bool.true_and, Option.map_some, Option.getD_some]
    rw [Array.all_eq_true']
    intro e he
    cases hb : Region.binds .any e with
    | false => rfl
    | true =>
      obtain ⟨h5, _, _⟩ := (chk i _ (List.getElem?_eq_getElem hi)).1 e he hb
      have h6 := h2 e.on h5
      simp only [Bool.not_true, Bool.false_or]
      rw [Array.getD_eq_getD_getElem?] at h6 ⊢
      have : e.on < listed.size := by omega
      rw [Array.getElem?_eq_getElem this] at h6 ⊢
      exact h6
  -- the tail comes in order
  have tail : ∀ m fuel t (listed : Array Bool) (acc : List Nat) i, listed.size = l.length → k ≤ i → i + m = l.length → m ≤ fuel → (∀ j, j < l.length → (listed.getD j true = true ↔ j < i)) →
      Region.linearise.go .any l.toArray fuel t listed acc = acc.reverse ++ List.range' i m := by
    intro m
    induction m with
    | zero =>
      intro fuel t listed acc i hs hki hi hf hl
      cases fuel with
      | zero => simp [Region.linearise.go]
      | succ fuel =>
        rw [go_succ]
        have : (List.range l.length).filter (ready l listed) = [] := by
          rw [List.filter_eq_nil_iff]
          intro j hj
          have := (hl j (List.mem_range.1 hj)).2 (by have := List.mem_range.1 hj; omega)
          unfold ready
          rw [this]; simp
        rw [this]; simp
    | succ m ih =>
      intro fuel t listed acc i hs hki hi hf hl
      obtain ⟨fuel, rfl⟩ : ∃ f, fuel = f + 1 := ⟨fuel - 1, by omega⟩
      have hilt : i < l.length := by omega
      have hone : ∀ j, j < l.length → (ready l listed j = true ↔ j = i) := by
        intro j hj
        constructor
        · intro hr
          have h1 : listed.getD j true = false := by
            unfold ready at hr; rw [Bool.and_eq_true] at hr; simpa using hr.1
          have h2 : ¬ j < i := fun h => by rw [(hl j hj).2 h] at h1; cases h1
          by_cases e : j = i
          · exact e
          · exfalso
            obtain ⟨_, h3⟩ := hready listed j l[j] hs (List.getElem?_eq_getElem hj) hr (fun i' o' ho' hi' j' hj' hd' => (hl j' (by have := (List.getElem?_eq_some_iff.1 ho').1; omega)).2 (by
              have := (hl i' (List.getElem?_eq_some_iff.1 ho').1).1 hi'
              omega))
            have h4 := h3 i (by omega) ((chk j _ (List.getElem?_eq_getElem hj)).2.2.2.1 (by omega) i (by omega))
            have := (hl i hilt).1 h4
            omega
        · rintro rfl
          refine hleast listed hs j hj ?_ fun j' hj' => (hl j' (by omega)).2 hj'
          rw [← Bool.not_eq_true]
          intro h
          have := (hl j hj).1 h
          omega
      have hrs : (List.range l.length).filter (ready l listed) = [i] := by
        have h1 : (List.range l.length).filter (ready l listed) = (List.range l.length).filter (fun j => j == i) := List.filter_congr fun j hj => by
          rw [Bool.eq_iff_iff, hone j (List.mem_range.1 hj)]; simp
        rw [h1]
        have : (List.range l.length).filter (fun j => j == i) = List.replicate (List.count i (List.range l.length)) i := by rw [← List.filter_beq]
        rw [this, List.count_range, if_pos hilt]
        rfl
      rw [go_succ, hrs]
      simp only [List.length_singleton, Nat.mod_one, List.getElem?_cons_zero]
      rw [ih fuel _ (listed.setIfInBounds i true) (i :: acc) (i + 1) (by simpa using hs) (by omega) (by omega) (by omega)]
      · simp [List.range'_succ]
      · intro j hj
        rw [set_getD listed i j (by omega)]
        by_cases e : j = i
        · subst e; rw [Nat.beq_refl]; simp
        · rw [ZD e]
          simp only [cond_false, hl j hj]
          omega
  -- the head
  intro F rs₀ w₀ m₀
  refine wpIn_region_draw fun t => ?_
  unfold Region.schedule
  rw [hmix]
  simp only [Bool.true_or, if_true]
  have head : ∀ n fuel t (listed : Array Bool) (acc : List Nat), listed.size = l.length → ((List.range l.length).filter (fun j => !listed.getD j true)).length = n → n ≤ fuel →
      (∀ i o, l[i]? = some o → listed.getD i true = true → ∀ j, j < i → dep b i j = true → listed.getD j true = true) →
      (∀ j, j < l.length → k ≤ j → listed.getD j true = true → False) →
      ∃ rest, Region.linearise.go .any l.toArray fuel t listed acc = acc.reverse ++ rest ∧
        ∀ rs ρ M w, Mem w (M.flatten ++ (dfb rs ++ F)) H → I (fun j => listed.getD j true) ρ M → wpOpsIn (Fw c.r) 0 c.P l.toArray (lift c H F Q) rest (act c.n (marks rs) ρ) w := by
    intro n
    induction n with
    | zero =>
      intro fuel t listed acc hs hcnt hf hcl htl
      have hall : ∀ j, j < l.length → listed.getD j true = true := fun j hj => by
        have := filter_none _ hcnt j (List.mem_range.2 hj); simpa using this
      have hkl : k = l.length := by
        by_cases e : k = l.length
        · exact e
        · exact (htl k (by omega) (Nat.le_refl _) (hall k (by omega))).elim
      refine ⟨[], ?_, fun rs ρ M w hm hI => ?_⟩
      · have := tail 0 fuel t listed acc l.length hs hk (by omega) (by omega) (fun j hj => by simp [hall j hj, hj])
        simpa using this
      · have := htail _ ρ M (fun j hj => hall j (by omega)) hI F rs w hm
        rw [hkl, List.drop_length] at this
        exact this
    | succ n ih =>
      intro fuel t listed acc hs hcnt hf hcl htl
      by_cases hall : ∀ j, j < k → listed.getD j true = true
      · -- the tail
        refine ⟨List.range' k (l.length - k), ?_, fun rs ρ M w hm hI => ?_⟩
        · refine tail (l.length - k) fuel t listed acc k hs (Nat.le_refl _) (by omega) ?_ fun j hj => ?_
          · have h1 : ((List.range l.length).filter (fun j => !listed.getD j true)) = List.range' k (l.length - k) := by
              rw [List.range_eq_range', show List.range' 0 l.length = List.range' 0 k ++ List.range' k (l.length - k) from by
                have h := @List.range'_append_1 0 k (l.length - k)
                rw [Nat.zero_add, Nat.add_sub_cancel' hk] at h
                exact h.symm, List.filter_append]
              have e1 : (List.range' 0 k).filter (fun j => !listed.getD j true) = [] := by
                rw [List.filter_eq_nil_iff]
                intro j hj
                have := List.mem_range'_1.1 hj
                rw [hall j (by omega)]; simp
              have e2 : (List.range' k (l.length - k)).filter (fun j => !listed.getD j true) = List.range' k (l.length - k) := by
                rw [List.filter_eq_self]
                intro j hj
                have := List.mem_range'_1.1 hj
                cases hx : listed.getD j true with
                | false => rfl
                | true => exact (htl j (by omega) (by omega) hx).elim
              rw [e1, e2, List.nil_append]
            rw [h1, List.length_range'] at hcnt
            omega
          · constructor
            · intro h
              by_cases e : j < k
              · exact e
              · exact (htl j hj (by omega) h).elim
            · exact hall j
        · have := htail _ ρ M (fun j hj => hall j hj) hI F rs w hm
          have h5 := wlo_ops c l.toArray (lift c H F Q) (l.drop k) k (fun j => by simp) _ _ this
          rwa [List.length_drop] at h5
      · obtain ⟨fuel, rfl⟩ : ∃ f, fuel = f + 1 := ⟨fuel - 1, by omega⟩
        obtain ⟨m, hm1, hm2, hm3⟩ := least (p := fun j => listed.getD j true) k (by
          by_cases h : ∃ i, i < k ∧ listed.getD i true = false
          · exact h
          · exfalso
            apply hall
            intro j hj
            cases hx : listed.getD j true with
            | true => rfl
            | false => exact absurd ⟨j, hj, hx⟩ h)
        have hmr := hleast listed hs m (by omega) hm2 hm3
        have hne : (List.range l.length).filter (ready l listed) ≠ [] := fun h => by
          have : m ∈ (List.range l.length).filter (ready l listed) := List.mem_filter.2 ⟨List.mem_range.2 (by omega), hmr⟩
          rw [h] at this; cases this
        have hpos : 0 < ((List.range l.length).filter (ready l listed)).length := List.length_pos_iff.2 hne
        obtain ⟨i, hi⟩ : ∃ i, ((List.range l.length).filter (ready l listed))[t % ((List.range l.length).filter (ready l listed)).length]? = some i := ⟨_, List.getElem?_eq_getElem (Nat.mod_lt _ hpos)⟩
        have him := List.mem_of_getElem? hi
        obtain ⟨hi1, hir⟩ := List.mem_filter.1 him
        have hil := List.mem_range.1 hi1
        obtain ⟨o, ho⟩ : ∃ o, l[i]? = some o := ⟨_, List.getElem?_eq_getElem hil⟩
        obtain ⟨hin, hid⟩ := hready listed i o hs ho hir hcl
        have hik : i < k := by
          by_cases e : i < k
          · exact e
          · exfalso
            have := hid m (by omega) ((chk i o ho).2.2.2.1 (by omega) m (by omega))
            rw [hm2] at this; cases this
        have hset : ∀ j, (listed.setIfInBounds i true).getD j true = cond (Nat.beq j i) true (listed.getD j true) := fun j => set_getD listed i j (by omega)
        have hcnt' := filter_drop_one (p := fun j => !listed.getD j true) (p' := fun j => !(listed.setIfInBounds i true).getD j true) (i := i) (List.range l.length) List.nodup_range (List.mem_range.2 hil) (by simp [hin]) (by simp [hset]) (fun j hj => by simp [hset, ZD hj])
        obtain ⟨rest, hgo, hrest⟩ := ih fuel (t / ((List.range l.length).filter (ready l listed)).length) (listed.setIfInBounds i true) (i :: acc) (by simpa using hs) (by omega) (by omega)
          (fun i' o' ho' hi' j hj hd => by
            rw [hset] at hi' ⊢
            by_cases e : i' = i
            · subst e
              rw [ZD (by omega)]
              exact hid j hj hd
            · rw [ZD e] at hi'
              have := hcl i' o' ho' hi' j hj hd
              rw [this]; cases Nat.beq j i <;> rfl)
          (fun j hj hkj h => by
            rw [hset, ZD (by omega)] at h
            exact htl j hj hkj h)
        refine ⟨i :: rest, ?_, fun rs ρ M w hm hI => ?_⟩
        · rw [go_succ, hi]
          simp only [hgo]
          simp
        · have hjl := hstep (fun j => listed.getD j true) i o ρ M hik ho hin hid (fun i' j hi' hs' hj hd => hcl i' l[i'] (List.getElem?_eq_getElem (by omega)) hs' j hj hd) hI F rs w hm
          have hfin : ∀ a' w', lift c H F ⟨fun ρ' M' => ∀ S', (∀ j, S' j = cond (Nat.beq j i) true (listed.getD j true)) → I S' ρ' M', fun _ _ => False, []⟩ .normal a' w' →
              wpOpsIn (Fw c.r) 0 c.P l.toArray (lift c H F Q) rest a' w' := fun a' w' ⟨rs', ρ', M', ha, hm', hI'⟩ => by
            subst ha
            exact hrest rs' ρ' M' w' hm' (hI' _ hset)
          have ho' : l.toArray[i]? = some o := by simpa using ho
          simp only [wpOpsIn, ho']
          unfold wlo at hjl
          split at hjl
          · rename_i hw
            rw [if_pos hw]
            refine ⟨hjl.1, ?_⟩
            have h2 := hjl.2
            revert h2
            generalize (o.semAt (Fw c.r).round (act c.n (marks rs) ρ).eval).run c.P w = res
            intro h2
            cases res with
            | ok x w' =>
              cases x with
              | value v => exact hfin _ _ h2
              | skip => exact hfin _ _ h2
              | defer d => exact hfin _ _ h2
              | enter f args =>
                refine ⟨h2.1, h2.2.mono fun e w'' hq => ?_⟩
                cases e with
                | returned v => exact hfin _ _ hq
                | panicked ch => obtain ⟨_, _, _, _, _, hx⟩ := hq; exact hx.elim
                | outgrown => obtain ⟨_, _, _, _, _, _, _, hx⟩ := hq; exact hx.elim
              | row r args => exact ⟨h2.1, h2.2.mono fun v w'' hq => hfin _ _ hq⟩
              | round lp f tmps as body =>
                refine ⟨h2.1, h2.2.mono fun e w'' hq => ?_⟩
                cases e with
                | returned v => exact hfin _ _ hq
                | panicked ch => obtain ⟨_, _, _, _, _, hx⟩ := hq; exact hx.elim
                | outgrown => obtain ⟨_, _, _, _, _, _, _, hx⟩ := hq; exact hx.elim
              | _ => exact h2.elim
            | halt x w' =>
              cases x with
              | panic v => obtain ⟨_, _, _, _, _, hx⟩ := h2; exact hx.elim
              | _ => exact h2
          · rename_i hw
            rw [if_neg hw]
            exact ⟨fun _ _ => trivial, hfin _ _ hjl⟩
  obtain ⟨rest, hgo, hrest⟩ := head ((List.range l.length).filter (fun j => !(Array.replicate l.length false).getD j true)).length l.length t (Array.replicate l.length false) [] (by simp) rfl
    (by have := List.length_filter_le (fun j => !(Array.replicate l.length false).getD j true) (List.range l.length); simpa using this)
    (fun i o ho h => by
      have := (List.getElem?_eq_some_iff.1 ho).1
      rw [Array.getD_eq_getD_getElem?] at h
      simp [this] at h)
    (fun j hj _ h => by
      rw [Array.getD_eq_getD_getElem?] at h
      simp [hj] at h)
  rw [show Region.linearise .any l.toArray t = rest from by
    have := hgo
    simp only [List.reverse_nil, List.nil_append] at this
    rw [← this]
    unfold Region.linearise
    simp]
  refine hrest rs₀ ρ₀ M₀ _ (m₀.congr rfl) (h0 _ fun j hj => ?_)
  rw [Array.getD_eq_getD_getElem?]
  simp [show j < l.length by omega]

theorem JL1_mono {ops : Array Oper} {o : Oper} {ρ : Nat → Value} {M : List Zf} {N N' : YE} (h : JL c H ops [o] ρ M ⟨N, fun _ _ => False, []⟩) (h' : ∀ ρ M, N ρ M → N' ρ M) : JL c H ops [o] ρ M ⟨N', fun _ _ => False, []⟩ := fun F rs w m => by
  have hjl := h F rs w m
  have hfin : ∀ a w, lift c H F ⟨N, fun _ _ => False, []⟩ .normal a w → lift c H F ⟨N', fun _ _ => False, []⟩ .normal a w := fun a w ⟨rs, ρ, M, ha, hm, hn⟩ => ⟨rs, ρ, M, ha, hm, h' _ _ hn⟩
  unfold wlo at hjl ⊢
  split at hjl
  · rename_i hw
    rw [if_pos hw]
    refine ⟨hjl.1, ?_⟩
    have h2 := hjl.2
    revert h2
    generalize (o.semAt (Fw c.r).round (act c.n (marks rs) ρ).eval).run c.P w = res
    intro h2
    cases res with
    | ok x w' =>
      cases x with
      | value v => exact hfin _ _ h2
      | skip => exact hfin _ _ h2
      | defer d => exact hfin _ _ h2
      | enter f args =>
        refine ⟨h2.1, h2.2.mono fun e w'' hq => ?_⟩
        cases e with
        | returned v => exact hfin _ _ hq
        | panicked ch => obtain ⟨_, _, _, _, _, hx⟩ := hq; exact hx.elim
        | outgrown => obtain ⟨_, _, _, _, _, _, _, hx⟩ := hq; exact hx.elim
      | row r args => exact ⟨h2.1, h2.2.mono fun v w'' hq => hfin _ _ hq⟩
      | round lp f tmps as body =>
        refine ⟨h2.1, h2.2.mono fun e w'' hq => ?_⟩
        cases e with
        | returned v => exact hfin _ _ hq
        | panicked ch => obtain ⟨_, _, _, _, _, hx⟩ := hq; exact hx.elim
        | outgrown => obtain ⟨_, _, _, _, _, _, _, hx⟩ := hq; exact hx.elim
      | _ => exact h2.elim
    | halt x w' =>
      cases x with
      | panic v => obtain ⟨_, _, _, _, _, hx⟩ := h2; exact hx.elim
      | _ => exact h2
  · rename_i hw
    rw [if_neg hw]
    exact hfin _ _ hjl

theorem rst_congr' {α : Type} {z : α} {b : Array Nat} {i : Nat} {r r' : Nat → α} (h : ∀ j, dep b i j = true → r j = r' j) : rst z b i r = rst z b i r' := by
  funext j
  unfold rst
  cases hd : dep b i j with
  | true => exact h j hd
  | false => rfl
end
end Go.Proofs.YtfdeibbpfgolcaaGreat.Hs
/-! Regions whose order is drawn, walked in one order. Generic: no program is named. -/
namespace Go.Proofs.YtfdeibbpfgolcaaGreat.Hs
open Go

section
variable {c : Cx} {H : Heap}
/-- What an operation that is right comes to. -/
theorem JL_some {ops : Array Oper} {o : Oper} {ρ : Nat → Value} {M : List Zf} {G : YE} (h : JL c H ops [o] ρ M ⟨G, fun _ _ => False, []⟩)
    {F : Zf} {rs : List Nat} {w : World} (m : Mem w (M.flatten ++ (dfb rs ++ F)) H) : ∃ ρ' M' rs' w', G ρ' M' ∧ Mem w' (M'.flatten ++ (dfb rs' ++ F)) H := by
  have h := h F rs w m
  have hroom : ∀ n, (Fw c.r).room n := fun n d hd => by cases hd
  unfold wlo at h
  have fin : ∀ a' w', lift c H F ⟨G, fun _ _ => False, []⟩ .normal a' w' → ∃ ρ' M' rs' w', G ρ' M' ∧ Mem w' (M'.flatten ++ (dfb rs' ++ F)) H := fun a' w' ⟨rs', ρ', M', _, hm, hg⟩ => ⟨ρ', M', rs', w', hg, hm⟩
  split at h
  · have h2 := h.2
    revert h2
    generalize (o.semAt (Fw c.r).round (act c.n (marks rs) ρ).eval).run c.P w = res
    intro h2
    cases res with
    | ok x w' =>
      cases x with
      | value v => exact fin _ _ h2
      | skip => exact fin _ _ h2
      | defer d => exact fin _ _ h2
      | enter f args =>
        obtain ⟨_, _, h3⟩ := h2
        obtain ⟨e, w'', _, hq, _⟩ := h3 [] (hroom _)
        cases e with
        | returned v => exact fin _ _ hq
        | panicked ch => obtain ⟨_, _, _, _, _, hx⟩ := hq; exact hx.elim
        | outgrown => obtain ⟨_, _, _, _, _, _, _, hx⟩ := hq; exact hx.elim
      | row r args =>
        obtain ⟨_, h3⟩ := h2
        obtain ⟨v, w'', hq, _⟩ := h3 (Frame.enter c.P 0 #[] .normal) [] (hroom _)
        exact fin _ _ hq
      | round lp f tmps as body =>
        obtain ⟨_, _, h3⟩ := h2
        obtain ⟨e, w'', hq, _⟩ := h3 (Frame.enter c.P 0 #[] .normal) [] (hroom _)
        cases e with
        | returned v => exact fin _ _ hq
        | panicked ch => obtain ⟨_, _, _, _, _, hx⟩ := hq; exact hx.elim
        | outgrown => obtain ⟨_, _, _, _, _, _, _, hx⟩ := hq; exact hx.elim
      | _ => exact h2.elim
    | halt x w' =>
      cases x with
      | panic v => obtain ⟨_, _, _, _, _, hx⟩ := h2; exact hx.elim
      | _ => exact h2.elim
  · exact fin _ _ h
end

/-! ### The words -/
abbrev PostF := (Nat → Value) → (Nat → List Zf) → Value → List Zf → Prop
def ZK {α : Type} (r : Nat → α) (m : Nat) (v : α) : Nat → α := fun j => cond (Nat.beq j m) v (r j)
/-- What an operation may know of: those before it on which it hangs. -/
def mk {α : Type} (z : α) (b : Array Nat) (i : Nat) (r : Nat → α) : Nat → α := fun j => cond (Nat.blt j i && dep b i j) (r j) z
def idxF : List (Option Nat) → Nat → Nat → Option Nat
  | [], _, _ => none
  | some d :: ds, x, j => cond (Nat.beq d x) (some j) (idxF ds x (j + 1))
  | none :: ds, x, j => idxF ds x (j + 1)
/-- The slots as an operation sees them. -/
def Z8 (b : Array Nat) (ds : List (Option Nat)) (i : Nat) (r : Nat → Value) (ρ₀ ρx : Nat → Value) : Nat → Value := fun x =>
  match idxF ds x 0 with
  | some j => cond (Nat.blt j i && dep b i j) (r j) (ρx x)
  | none => ρ₀ x
def envT (ds : List (Option Nat)) (r : Nat → Value) (ρ₀ : Nat → Value) : Nat → Value := fun x =>
  match idxF ds x 0 with
  | some j => r j
  | none => ρ₀ x
/-- What was made, of those that f names, the last first. -/
def memO (f : Nat → Bool) (N : Nat → List Zf) : Nat → List Zf
  | 0 => []
  | j + 1 => cond (f j) (N j ++ memO f N j) (memO f N j)
def memB (f : Nat → Bool) : Nat → List Zf → List Zf
  | _, [] => []
  | x, k :: ks => cond (f x) (k :: memB f (x + 1) ks) (memB f (x + 1) ks)
/-- cs: who takes what: an operation's number, and that of a cell: what an operation j < k has made, or k + x: what was there. -/
def visO (b : Array Nat) (cs : List (Nat × Nat)) (i j : Nat) : Bool := (Nat.blt j i && dep b i j) && cs.all (fun a => !(Nat.beq a.2 j) || dep b a.1 i)
def visB (b : Array Nat) (cs : List (Nat × Nat)) (k i x : Nat) : Bool := cs.all (fun a => !(Nat.beq a.2 (k + x)) || dep b a.1 i)
def isC (cs : List (Nat × Nat)) (i x : Nat) : Bool := cs.any (fun a => Nat.beq a.1 i && Nat.beq a.2 x)
def YH (b : Array Nat) (cs : List (Nat × Nat)) (k i : Nat) (N : Nat → List Zf) (M₀ : List Zf) : List Zf := memO (visO b cs i) N k ++ memB (visB b cs k i) 0 M₀
def kept (b : Array Nat) (cs : List (Nat × Nat)) (k i : Nat) (N : Nat → List Zf) (M₀ : List Zf) : List Zf :=
  memO (fun j => visO b cs i j && !isC cs i j) N k ++ memB (fun x => visB b cs k i x && !isC cs i (k + x)) 0 M₀
def memT (cs : List (Nat × Nat)) (k : Nat) (N : Nat → List Zf) (M₀ : List Zf) : List Zf :=
  memO (fun j => cs.all (fun a => !(Nat.beq a.2 j))) N k ++ memB (fun x => cs.all (fun a => !(Nat.beq a.2 (k + x)))) 0 M₀
/-- What there is when the operations of S have been done. -/
def memS (cs : List (Nat × Nat)) (k : Nat) (S : Nat → Bool) (N : Nat → List Zf) (M₀ : List Zf) : List Zf :=
  memO (fun j => S j && cs.all (fun a => !(Nat.beq a.2 j) || !S a.1)) N k ++ memB (fun x => cs.all (fun a => !(Nat.beq a.2 (k + x)) || !S a.1)) 0 M₀
def consOk (b : Array Nat) (cs : List (Nat × Nat)) (k : Nat) : Bool := cs.all (fun a => Nat.blt a.1 k && (Nat.ble k a.2 || visO b cs a.1 a.2) && (Nat.blt a.2 k || visB b cs k a.1 (a.2 - k)))

theorem memO_congr {f g : Nat → Bool} {N N' : Nat → List Zf} : ∀ {k : Nat}, (∀ j, j < k → f j = g j) → (∀ j, j < k → f j = true → N j = N' j) → memO f N k = memO g N' k
  | 0, _, _ => rfl
  | k + 1, h, h' => by
    have ih := memO_congr (k := k) (fun j hj => h j (by omega)) (fun j hj => h' j (by omega))
    unfold memO
    rw [← h k (by omega), ih]
    cases e : f k with
    | true => rw [h' k (by omega) e]
    | false => rfl
theorem memB_congr {f g : Nat → Bool} : ∀ {M : List Zf} {x : Nat}, (∀ j, x ≤ j → j < x + M.length → f j = g j) → memB f x M = memB g x M
  | [], _, _ => rfl
  | k :: ks, x, h => by
    have ih := memB_congr (f := f) (g := g) (M := ks) (x := x + 1) (fun j h1 h2 => h j (by omega) (by simp only [List.length_cons]; omega))
    unfold memB
    rw [← h x (by omega) (by simp only [List.length_cons]; omega), ih]
theorem perm_swap (a b c : Zf) : (a ++ (b ++ c)).Perm (b ++ (a ++ c)) := by
  rw [← List.append_assoc, ← List.append_assoc]; exact List.Perm.append_right c List.perm_append_comm
theorem memO_split {f g : Nat → Bool} {N : Nat → List Zf} (h : ∀ j, f j = true → g j = true) : ∀ {k : Nat}, (memO g N k).flatten.Perm ((memO f N k).flatten ++ (memO (fun j => g j && !f j) N k).flatten)
  | 0 => List.Perm.refl _
  | k + 1 => by
    have ih := memO_split (N := N) h (k := k)
    unfold memO
    cases ef : f k with
    | true =>
      rw [h k ef]
      simp only [Bool.not_true, Bool.and_false, cond_true, cond_false, List.flatten_append, List.append_assoc]
      exact ih.append_left _
    | false =>
      cases eg : g k with
      | true =>
        simp only [Bool.not_false, Bool.and_true, cond_true, cond_false, List.flatten_append]
        exact (ih.append_left _).trans (perm_swap _ _ _)
      | false => simpa only [Bool.false_and, cond_false] using ih
theorem memB_split {f g : Nat → Bool} (h : ∀ j, f j = true → g j = true) : ∀ {M : List Zf} {x : Nat}, (memB g x M).flatten.Perm ((memB f x M).flatten ++ (memB (fun j => g j && !f j) x M).flatten)
  | [], _ => List.Perm.refl _
  | m :: M, x => by
    have ih := memB_split h (M := M) (x := x + 1)
    unfold memB
    cases ef : f x with
    | true =>
      rw [h x ef]
      simp only [Bool.not_true, Bool.and_false, cond_true, cond_false, List.flatten_cons, List.append_assoc]
      exact ih.append_left _
    | false =>
      cases eg : g x with
      | true =>
        simp only [Bool.not_false, Bool.and_true, cond_true, cond_false, List.flatten_cons]
        exact (ih.append_left _).trans (perm_swap _ _ _)
      | false => simpa only [Bool.false_and, cond_false] using ih
theorem memO_add {f g : Nat → Bool} {N : Nat → List Zf} {i : Nat} {q : List Zf} (hf : f i = false) (hg : g i = true) (h : ∀ j, j ≠ i → g j = f j) : ∀ {k : Nat}, i < k → (memO g (ZK N i q) k).flatten.Perm (q.flatten ++ (memO f N k).flatten)
  | k + 1, hk => by
    unfold memO
    by_cases e : k = i
    · subst e
      rw [hf, hg, show ZK N k q k = q from by unfold ZK; rw [Nat.beq_refl]; rfl]
      simp only [cond_true, cond_false, List.flatten_append]
      rw [memO_congr (k := k) (f := g) (g := f) (N := ZK N k q) (N' := N) (fun j hj => h j (by omega)) (fun j hj _ => by unfold ZK; rw [ZD (by omega)]; rfl)]
    · have ih := memO_add (N := N) (q := q) hf hg h (k := k) (by omega)
      rw [h k e]
      cases f k with
      | true =>
        rw [show ZK N i q k = N k from by unfold ZK; rw [ZD e]; rfl]
        simp only [cond_true, List.flatten_append]
        exact (ih.append_left _).trans (perm_swap _ _ _)
      | false => simpa only [cond_false] using ih

/-! ### Frames -/
section
variable {c : Cx} {H : Heap}
theorem wlo1_mono {ops : Array Oper} {o : Oper} {F F' : Zf} {N N' : YE} {a : Act} {w : World} (h : wlo c ops (lift c H F ⟨N, fun _ _ => False, []⟩) [o] a w)
    (hfin : ∀ a w, lift c H F ⟨N, fun _ _ => False, []⟩ .normal a w → lift c H F' ⟨N', fun _ _ => False, []⟩ .normal a w) : wlo c ops (lift c H F' ⟨N', fun _ _ => False, []⟩) [o] a w := by
  unfold wlo at h ⊢
  split at h
  · rename_i hw
    rw [if_pos hw]
    refine ⟨h.1, ?_⟩
    have h2 := h.2
    revert h2
    generalize (o.semAt (Fw c.r).round a.eval).run c.P w = res
    intro h2
    cases res with
    | ok x w' =>
      cases x with
      | value v => exact hfin _ _ h2
      | skip => exact hfin _ _ h2
      | defer d => exact hfin _ _ h2
      | enter f args =>
        refine ⟨h2.1, h2.2.mono fun e w'' hq => ?_⟩
        cases e with
        | returned v => exact hfin _ _ hq
        | panicked ch => obtain ⟨_, _, _, _, _, hx⟩ := hq; exact hx.elim
        | outgrown => obtain ⟨_, _, _, _, _, _, _, hx⟩ := hq; exact hx.elim
      | row r args => exact ⟨h2.1, h2.2.mono fun v w'' hq => hfin _ _ hq⟩
      | round lp f tmps as body =>
        refine ⟨h2.1, h2.2.mono fun e w'' hq => ?_⟩
        cases e with
        | returned v => exact hfin _ _ hq
        | panicked ch => obtain ⟨_, _, _, _, _, hx⟩ := hq; exact hx.elim
        | outgrown => obtain ⟨_, _, _, _, _, _, _, hx⟩ := hq; exact hx.elim
      | _ => exact h2.elim
    | halt x w' =>
      cases x with
      | panic v => obtain ⟨_, _, _, _, _, hx⟩ := h2; exact hx.elim
      | _ => exact h2
  · rename_i hw
    rw [if_neg hw]
    exact hfin _ _ h
theorem fr_perm (M R : List Zf) (D F : Zf) : ((M ++ R).flatten ++ (D ++ F)).Perm (M.flatten ++ (D ++ (R.flatten ++ F))) := by
  rw [List.flatten_append, List.append_assoc]
  exact List.Perm.append_left _ (perm_swap _ _ _)
theorem JL_frame1 {ops : Array Oper} {o : Oper} {ρ : Nat → Value} {M R : List Zf} {N : YE} (h : JL c H ops [o] ρ M ⟨N, fun _ _ => False, []⟩) :
    JL c H ops [o] ρ (M ++ R) ⟨fun ρ' M' => ∃ M1, M' = M1 ++ R ∧ N ρ' M1, fun _ _ => False, []⟩ := fun F rs w m =>
  wlo1_mono (h (R.flatten ++ F) rs w (m.perm (fr_perm _ _ _ _))) fun _ _ ⟨rs', ρ', M1, ha, hm, hn⟩ => ⟨rs', ρ', M1 ++ R, ha, hm.perm (fr_perm _ _ _ _).symm, M1, rfl, hn⟩
end

/-! ### The judgement -/
def pAt : List (Nat × PostF) → Nat → Option PostF
  | [], _ => none
  | (i, p) :: ps, m => cond (Nat.beq i m) (some p) (pAt ps m)
def nodupO : List (Option Nat) → Bool
  | [] => true
  | none :: ds => nodupO ds
  | some d :: ds => ds.all (fun y => match y with | some e => !(Nat.beq d e) | none => true) && nodupO ds

section
variable (c : Cx) (H : Heap) (l : List Oper) (b : Array Nat) (k : Nat) (ds : List (Option Nat)) (cs : List (Nat × Nat)) (P : List (Nat × PostF)) (ρ₀ : Nat → Value) (M₀ : List Zf) (Q : Post)
def Dv (i : Nat) (o : Oper) (r : Nat → Value) (N : Nat → List Zf) (v : Value) : Prop :=
  ((∀ ρx, wnt l.toArray c.n (Z8 b ds i r ρ₀ ρx) o = true) ∧ ∀ ρx F w, Mem w ((YH b cs k i N M₀).flatten ++ F) H → (execOp (ev c.n (Z8 b ds i r ρ₀ ρx)) o).run c.P w = .ok (.value v) w) ∨
  ((∀ ρx, wnt l.toArray c.n (Z8 b ds i r ρ₀ ρx) o = false) ∧ v = undef)
def OB (i : Nat) (o : Oper) (r : Nat → Value) (N : Nat → List Zf) (p : PostF) : Prop :=
  ∀ ρx, JL c H l.toArray [o] (Z8 b ds i r ρ₀ ρx) (YH b cs k i N M₀) ⟨fun ρ' M' => ∃ v q, ρ' = YJ (Z8 b ds i r ρ₀ ρx) o.dst v ∧ Sub (q ++ kept b cs k i N M₀) M' ∧ p (mk undef b i r) (mk [] b i N) v q, fun _ _ => False, []⟩
def OX (i : Nat) (o : Oper) (r : Nat → Value) (N : Nat → List Zf) : Prop := match pAt P i with
  | none => ∃ v, Dv c H l b k ds cs ρ₀ M₀ i o r N v
  | some p => OB c H l b k ds cs ρ₀ M₀ i o r N p
def Good (i : Nat) (o : Oper) (r : Nat → Value) (N : Nat → List Zf) : Prop := match pAt P i with
  | none => N i = [] ∧ Dv c H l b k ds cs ρ₀ M₀ i o r N (r i) ∧ ∀ v, Dv c H l b k ds cs ρ₀ M₀ i o r N v → v = r i
  | some p => p (mk undef b i r) (mk [] b i N) (r i) (N i)
def DT : Nat → List Oper → (Nat → Value) → (Nat → List Zf) → Prop
  | _, [], r, N => JL c H l.toArray (l.drop k) (envT ds r ρ₀) (memT cs k N M₀) Q
  | m, o :: os, r, N => match pAt P m with
    | none => ∃ v, Dv c H l b k ds cs ρ₀ M₀ m o r N v ∧ DT (m + 1) os (ZK r m v) (ZK N m [])
    | some p => OB c H l b k ds cs ρ₀ M₀ m o r N p ∧ ∀ v q, p (mk undef b m r) (mk [] b m N) v q → DT (m + 1) os (ZK r m v) (ZK N m q)
end

section
variable {c : Cx} {H : Heap} {l : List Oper} {b : Array Nat} {k : Nat} {ds : List (Option Nat)} {cs : List (Nat × Nat)} {P : List (Nat × PostF)} {ρ₀ : Nat → Value} {M₀ : List Zf} {Q : Post}
theorem seen {b : Array Nat} {i j : Nat} : (Nat.blt j i && dep b i j) = true ↔ j < i ∧ dep b i j = true := by rw [Bool.and_eq_true, Nat.blt_eq]
theorem envI_congr {i : Nat} {r r' : Nat → Value} {ρx : Nat → Value} (h : ∀ j, j < i → dep b i j = true → r j = r' j) : Z8 b ds i r ρ₀ ρx = Z8 b ds i r' ρ₀ ρx := by
  funext x
  unfold Z8
  cases idxF ds x 0 with
  | none => rfl
  | some j =>
    show cond _ _ _ = cond _ _ _
    cases e : (Nat.blt j i && dep b i j) with
    | false => rfl
    | true => exact h j (seen.1 e).1 (seen.1 e).2
theorem mk_congr {α : Type} {z : α} {i : Nat} {r r' : Nat → α} (h : ∀ j, j < i → dep b i j = true → r j = r' j) : mk z b i r = mk z b i r' := by
  funext j
  unfold mk
  cases e : (Nat.blt j i && dep b i j) with
  | false => rfl
  | true => exact h j (seen.1 e).1 (seen.1 e).2
theorem visO_seen {i j : Nat} (h : visO b cs i j = true) : j < i ∧ dep b i j = true := by
  unfold visO at h
  rw [Bool.and_eq_true] at h
  exact seen.1 h.1
theorem memI_congr {i : Nat} {N N' : Nat → List Zf} (h : ∀ j, j < i → dep b i j = true → N j = N' j) : YH b cs k i N M₀ = YH b cs k i N' M₀ := by
  unfold YH
  rw [memO_congr (fun _ _ => rfl) (fun j _ hj => h j (visO_seen hj).1 (visO_seen hj).2)]
theorem kept_congr {i : Nat} {N N' : Nat → List Zf} (h : ∀ j, j < i → dep b i j = true → N j = N' j) : kept b cs k i N M₀ = kept b cs k i N' M₀ := by
  unfold kept
  have e := memO_congr (k := k) (f := fun j => visO b cs i j && !isC cs i j) (N := N) (N' := N') (fun _ _ => rfl) (fun j _ hj => by
    simp only [Bool.and_eq_true] at hj
    exact h j (visO_seen hj.1).1 (visO_seen hj.1).2)
  rw [e]
theorem Dv_congr {i : Nat} {o : Oper} {r r' : Nat → Value} {N N' : Nat → List Zf} {v : Value} (h : ∀ j, j < i → dep b i j = true → r j = r' j ∧ N j = N' j) (d : Dv c H l b k ds cs ρ₀ M₀ i o r N v) : Dv c H l b k ds cs ρ₀ M₀ i o r' N' v := by
  unfold Dv at d ⊢
  rw [← memI_congr (fun j h1 h2 => (h j h1 h2).2)]
  rcases d with ⟨d1, d2⟩ | ⟨d1, d2⟩
  · exact .inl ⟨fun ρx => by rw [← envI_congr (fun j h1 h2 => (h j h1 h2).1)]; exact d1 ρx, fun ρx => by rw [← envI_congr (fun j h1 h2 => (h j h1 h2).1)]; exact d2 ρx⟩
  · exact .inr ⟨fun ρx => by rw [← envI_congr (fun j h1 h2 => (h j h1 h2).1)]; exact d1 ρx, d2⟩
theorem OB_congr {i : Nat} {o : Oper} {r r' : Nat → Value} {N N' : Nat → List Zf} {p : PostF} (h : ∀ j, j < i → dep b i j = true → r j = r' j ∧ N j = N' j) (d : OB c H l b k ds cs ρ₀ M₀ i o r N p) : OB c H l b k ds cs ρ₀ M₀ i o r' N' p := by
  unfold OB at d ⊢
  rw [← memI_congr (fun j h1 h2 => (h j h1 h2).2), ← kept_congr (fun j h1 h2 => (h j h1 h2).2), ← mk_congr (fun j h1 h2 => (h j h1 h2).1), ← mk_congr (fun j h1 h2 => (h j h1 h2).2)]
  intro ρx
  rw [← envI_congr (fun j h1 h2 => (h j h1 h2).1)]
  exact d ρx
theorem OX_congr {i : Nat} {o : Oper} {r r' : Nat → Value} {N N' : Nat → List Zf} (h : ∀ j, j < i → dep b i j = true → r j = r' j ∧ N j = N' j) (d : OX c H l b k ds cs P ρ₀ M₀ i o r N) : OX c H l b k ds cs P ρ₀ M₀ i o r' N' := by
  unfold OX at d ⊢
  cases e : pAt P i with
  | none => rw [e] at d; obtain ⟨v, d⟩ := d; exact ⟨v, Dv_congr h d⟩
  | some p => rw [e] at d; exact OB_congr h d
theorem Good_congr {i : Nat} {o : Oper} {r r' : Nat → Value} {N N' : Nat → List Zf} (h : ∀ j, j < i → dep b i j = true → r j = r' j ∧ N j = N' j) (hi : r i = r' i ∧ N i = N' i) (d : Good c H l b k ds cs P ρ₀ M₀ i o r N) : Good c H l b k ds cs P ρ₀ M₀ i o r' N' := by
  unfold Good at d ⊢
  cases e : pAt P i with
  | none =>
    rw [e] at d
    show N' i = [] ∧ _
    rw [← hi.1, ← hi.2]
    exact ⟨d.1, Dv_congr h d.2.1, fun v hv => d.2.2 v (Dv_congr (fun j h1 h2 => ⟨(h j h1 h2).1.symm, (h j h1 h2).2.symm⟩) hv)⟩
  | some p =>
    rw [e] at d
    show p _ _ _ _
    rw [← hi.1, ← hi.2, ← mk_congr (fun j h1 h2 => (h j h1 h2).1), ← mk_congr (fun j h1 h2 => (h j h1 h2).2)]
    exact d
theorem idxF_some : ∀ {ds : List (Option Nat)} {x j0 j : Nat}, idxF ds x j0 = some j → ∃ i, j = j0 + i ∧ ds[i]? = some (some x)
  | [], _, _, _, h => by cases h
  | none :: ds, x, j0, j, h => by
    obtain ⟨i, e, h2⟩ := idxF_some (ds := ds) h
    exact ⟨i + 1, by omega, by simpa using h2⟩
  | some d :: ds, x, j0, j, h => by
    unfold idxF at h
    by_cases e : d = x
    · subst e; rw [Nat.beq_refl] at h; cases h; exact ⟨0, rfl, rfl⟩
    · rw [ZD e] at h
      obtain ⟨i, e, h2⟩ := idxF_some (ds := ds) h
      exact ⟨i + 1, by omega, by simpa using h2⟩
theorem idxF_none : ∀ {ds : List (Option Nat)} {x j0 : Nat}, idxF ds x j0 = none → ∀ i : Nat, ds[i]? ≠ some (some x)
  | [], _, _, _ => fun i h => by simp at h
  | none :: ds, x, j0, h => fun i hi => by
    cases i with
    | zero => cases hi
    | succ i => exact idxF_none (ds := ds) h i (by simpa using hi)
  | some d :: ds, x, j0, h => fun i hi => by
    unfold idxF at h
    by_cases e : d = x
    · subst e; rw [Nat.beq_refl] at h; cases h
    · rw [ZD e] at h
      cases i with
      | zero => simp at hi; exact e hi
      | succ i => exact idxF_none (ds := ds) h i (by simpa using hi)
theorem nodupO_ne : ∀ {ds : List (Option Nat)}, nodupO ds = true → ∀ {i j x : Nat}, ds[i]? = some (some x) → ds[j]? = some (some x) → i = j
  | [], _, i, _, _, h, _ => by simp at h
  | none :: ds, hn, i, j, x, h, h' => by
    cases i with
    | zero => cases h
    | succ i =>
      cases j with
      | zero => cases h'
      | succ j => rw [nodupO_ne (ds := ds) hn (i := i) (j := j) (x := x) (by simpa using h) (by simpa using h')]
  | some d :: ds, hn, i, j, x, h, h' => by
    unfold nodupO at hn
    rw [Bool.and_eq_true, List.all_eq_true] at hn
    have key : ∀ q, ds[q]? = some (some d) → False := fun q hq => by
      have := hn.1 _ (List.mem_of_getElem? hq)
      simp at this
    cases i with
    | zero =>
      simp at h
      subst h
      cases j with
      | zero => rfl
      | succ j => exact (key j (by simpa using h')).elim
    | succ i =>
      cases j with
      | zero =>
        simp at h'
        subst h'
        exact (key i (by simpa using h)).elim
      | succ j => rw [nodupO_ne (ds := ds) hn.2 (i := i) (j := j) (x := x) (by simpa using h) (by simpa using h')]
theorem DT_congr (hdl : ds.length = k) : ∀ (os : List Oper) (m : Nat) (r r' : Nat → Value) (N N' : Nat → List Zf), m + os.length = k → (∀ j, j < m → r j = r' j ∧ N j = N' j) →
    DT c H l b k ds cs P ρ₀ M₀ Q m os r N → DT c H l b k ds cs P ρ₀ M₀ Q m os r' N'
  | [], m, r, r', N, N', hm, h, d => by
    have hm : m = k := by simpa using hm
    unfold DT at d ⊢
    have e1 : envT ds r ρ₀ = envT ds r' ρ₀ := by
      funext x
      unfold envT
      cases e : idxF ds x 0 with
      | none => rfl
      | some j =>
        obtain ⟨i, hi, h2⟩ := idxF_some e
        have := (List.getElem?_eq_some_iff.1 h2).1
        exact (h j (by omega)).1
    have e2 : memT cs k N M₀ = memT cs k N' M₀ := by
      unfold memT
      rw [memO_congr (fun _ _ => rfl) (fun j hj _ => (h j (by omega)).2)]
    rw [← e1, ← e2]
    exact d
  | o :: os, m, r, r', N, N', hm, h, d => by
    have hf : ∀ {α : Type} (z v : Nat → α) (u : α), (∀ j, j < m → z j = v j) → ∀ j, j < m + 1 → ZK z m u j = ZK v m u j := fun z v u hz j hj => by
      unfold ZK
      by_cases e : j = m
      · subst e; rw [Nat.beq_refl]; rfl
      · rw [ZD e]; exact hz j (by omega)
    unfold DT at d ⊢
    simp only [List.length_cons] at hm
    cases e : pAt P m with
    | none =>
      rw [e] at d
      obtain ⟨v, d1, d2⟩ := d
      exact ⟨v, Dv_congr (fun j h1 _ => h j h1) d1, DT_congr hdl os (m + 1) _ _ _ _ (by omega) (fun j hj => ⟨hf _ _ v (fun j hj => (h j hj).1) j hj, hf _ _ [] (fun j hj => (h j hj).2) j hj⟩) d2⟩
    | some p =>
      rw [e] at d
      refine ⟨OB_congr (fun j h1 _ => h j h1) d.1, fun v q hp => ?_⟩
      rw [← mk_congr (fun j h1 _ => (h j h1).1), ← mk_congr (fun j h1 _ => (h j h1).2)] at hp
      exact DT_congr hdl os (m + 1) _ _ _ _ (by omega) (fun j hj => ⟨hf _ _ v (fun j hj => (h j hj).1) j hj, hf _ _ q (fun j hj => (h j hj).2) j hj⟩) (d.2 v q hp)

def Agr (ds : List (Option Nat)) (ρ₀ : Nat → Value) (S : Nat → Bool) (r ρ : Nat → Value) : Prop := ∀ x, match idxF ds x 0 with
  | some j => S j = true → ρ x = r j
  | none => ρ x = ρ₀ x
theorem Z7 {α : Type} {r : Nat → α} {i : Nat} {v : α} : ZK r i v i = v := by unfold ZK; rw [Nat.beq_refl]; rfl
theorem ZW {α : Type} {r : Nat → α} {i j : Nat} {v : α} (h : j ≠ i) : ZK r i v j = r j := by unfold ZK; rw [ZD h]; rfl

/-- One operation is done. -/
theorem exec1 (hds : (l.take k).map (·.dst) = ds) (hnd : nodupO ds = true) (hc : consOk b cs k = true) (hcp : cs.all (fun a => (pAt P a.1).isSome) = true)
    {S : Nat → Bool} {i : Nat} {o : Oper} {r ρ : Nat → Value} {N : Nat → List Zf} {M : List Zf} (hi : i < k) (ho : l[i]? = some o) (hS : S i = false) (hdep : ∀ j, j < i → dep b i j = true → S j = true)
    (hcl : ∀ i' j, i' < k → S i' = true → j < i' → dep b i' j = true → S j = true) (hle : ∀ i j, i < k → j < k → dep b i j = true → j ≤ i)
    (hob : OX c H l b k ds cs P ρ₀ M₀ i o r N) (hag : Agr ds ρ₀ S r ρ) (hM : Sub (memS cs k S N M₀) M) :
    JL c H l.toArray [o] ρ M ⟨fun ρ' M' => ∃ v q, Good c H l b k ds cs P ρ₀ M₀ i o (ZK r i v) (ZK N i q) ∧ Agr ds ρ₀ (ZK S i true) (ZK r i v) ρ' ∧ Sub (memS cs k (ZK S i true) (ZK N i q) M₀) M' ∧
      (∀ p, pAt P i = some p → p (mk undef b i r) (mk [] b i N) v q) ∧ (pAt P i = none → Dv c H l b k ds cs ρ₀ M₀ i o r N v ∧ q = []), fun _ _ => False, []⟩ := by
  refine Zw hM ?_
  -- the slots
  have hρ : ρ = Z8 b ds i r ρ₀ ρ := by
    funext x
    have := hag x
    unfold Z8
    cases e : idxF ds x 0 with
    | none => rw [e] at this; exact this
    | some j =>
      rw [e] at this
      show ρ x = cond _ _ _
      cases e2 : (Nat.blt j i && dep b i j) with
      | false => rfl
      | true => exact this (hdep j (seen.1 e2).1 (seen.1 e2).2)
  have hdsi : ds[i]? = some o.dst := by rw [← hds, List.getElem?_map, List.getElem?_take, if_pos hi, ho]; rfl
  have hagr' : ∀ v, Agr ds ρ₀ (ZK S i true) (ZK r i v) (YJ ρ o.dst v) := by
    intro v x
    have := hag x
    cases e : idxF ds x 0 with
    | none =>
      rw [e] at this
      show YJ ρ o.dst v x = ρ₀ x
      have hne : o.dst ≠ some x := fun h => idxF_none e i (by rw [hdsi, h])
      rw [← this]
      cases hod : o.dst with
      | none => rfl
      | some y => exact upd_ne ρ v (fun h => hne (by rw [hod, h]))
    | some j =>
      rw [e] at this
      show ZK S i true j = true → YJ ρ o.dst v x = ZK r i v j
      obtain ⟨j', hj1, hj2⟩ := idxF_some e
      have hj1 : j = j' := by omega
      subst hj1
      by_cases hji : j = i
      · subst hji
        intro _
        rw [hdsi] at hj2
        rw [Option.some.inj hj2, Z7]
        show upd ρ x v x = v
        rw [upd_self]
      · intro hSj
        rw [ZW hji] at hSj ⊢
        rw [← this hSj]
        have hne : o.dst ≠ some x := fun h => hji (nodupO_ne hnd hj2 (by rw [hdsi, h]))
        cases hod : o.dst with
        | none => rfl
        | some y => exact upd_ne ρ v (fun h => hne (by rw [hod, h]))
  -- who takes what
  have hcons : ∀ a x, (a, x) ∈ cs → a < k ∧ (x < k → visO b cs a x = true) ∧ (k ≤ x → visB b cs k a (x - k) = true) := by
    intro a x hax
    have := List.all_eq_true.1 hc _ hax
    simp only [Bool.and_eq_true, Bool.or_eq_true, Nat.blt_eq, Nat.ble_eq] at this
    exact ⟨this.1.1, fun h => this.1.2.resolve_left (by omega), fun h => this.2.resolve_left (by omega)⟩
  have hSno : ∀ a, a < k → dep b a i = true → S a = true → False := by
    intro a ha hd hSa
    have hia := hle a i ha hi hd
    by_cases e : a = i
    · subst e; rw [hS] at hSa; cases hSa
    · have := hcl a i ha hSa (by omega) hd
      rw [hS] at this; cases this
  -- the memory that it sees is there
  have v1 : ∀ j, visO b cs i j = true → (S j && cs.all (fun a => !(Nat.beq a.2 j) || !S a.1)) = true := by
    intro j hj
    have hs := visO_seen hj
    unfold visO at hj
    rw [Bool.and_eq_true, List.all_eq_true] at hj
    rw [Bool.and_eq_true, List.all_eq_true]
    refine ⟨hdep j hs.1 hs.2, fun a ha => ?_⟩
    have := hj.2 a ha
    rw [Bool.or_eq_true] at this ⊢
    rcases this with h | h
    · exact .inl h
    · refine .inr ?_
      cases hSa : S a.1 with
      | false => rfl
      | true => exact (hSno a.1 (hcons a.1 a.2 ha).1 h hSa).elim
  have v2 : ∀ x, visB b cs k i x = true → cs.all (fun a => !(Nat.beq a.2 (k + x)) || !S a.1) = true := by
    intro x hj
    unfold visB at hj
    rw [List.all_eq_true] at hj ⊢
    intro a ha
    have := hj a ha
    rw [Bool.or_eq_true] at this ⊢
    rcases this with h | h
    · exact .inl h
    · refine .inr ?_
      cases hSa : S a.1 with
      | false => rfl
      | true => exact (hSno a.1 (hcons a.1 a.2 ha).1 h hSa).elim
  -- what else there is
  let R : List Zf := memO (fun j => (S j && cs.all (fun a => !(Nat.beq a.2 j) || !S a.1)) && !visO b cs i j) N k ++ memB (fun x => cs.all (fun a => !(Nat.beq a.2 (k + x)) || !S a.1) && !visB b cs k i x) 0 M₀
  have hsplit : (memS cs k S N M₀).flatten.Perm ((YH b cs k i N M₀ ++ R).flatten) := by
    unfold memS YH
    simp only [R, List.flatten_append]
    have h1 := memO_split (N := N) v1 (k := k)
    have h2 := memB_split v2 (M := M₀) (x := 0)
    refine (h1.append h2).trans ?_
    simp only [List.append_assoc]
    exact List.Perm.append_left _ (perm_swap _ _ _)
  refine Zw (M' := YH b cs k i N M₀ ++ R) ⟨[], by rw [List.append_nil]; exact hsplit⟩ ?_
  -- what is there behind it
  have hafter : ∀ q M1, Sub (q ++ kept b cs k i N M₀) M1 → Sub (memS cs k (ZK S i true) (ZK N i q) M₀) (M1 ++ R) := by
    intro q M1 ⟨X, hX⟩
    have hnoti : cs.all (fun a => !(Nat.beq a.2 i) || !ZK S i true a.1) = true := by
      rw [List.all_eq_true]
      intro a ha
      by_cases e : a.2 = i
      · have h3 := visO_seen ((hcons a.1 a.2 ha).2.1 (by omega))
        rw [e] at h3
        have hne : a.1 ≠ i := by omega
        rw [Bool.or_eq_true]
        refine .inr ?_
        rw [ZW hne]
        cases hSa : S a.1 with
        | false => rfl
        | true => exact (hSno a.1 (hcons a.1 a.2 ha).1 h3.2 hSa).elim
      · rw [ZD e]; rfl
    -- cells that are left, of what was made
    let g : Nat → Bool := fun j => (S j && cs.all (fun a => !(Nat.beq a.2 j) || !S a.1)) && !isC cs i j
    let gB : Nat → Bool := fun x => cs.all (fun a => !(Nat.beq a.2 (k + x)) || !S a.1) && !isC cs i (k + x)
    have hall : ∀ y, cs.all (fun a => !(Nat.beq a.2 y) || !ZK S i true a.1) = (cs.all (fun a => !(Nat.beq a.2 y) || !S a.1) && !isC cs i y) := by
      intro y
      rw [Bool.eq_iff_iff, Bool.and_eq_true, Bool.not_eq_true', List.all_eq_true, List.all_eq_true]
      unfold isC
      rw [List.any_eq_false]
      constructor
      · intro h
        refine ⟨fun a ha => ?_, fun a ha => ?_⟩
        · have := h a ha
          rw [Bool.or_eq_true] at this ⊢
          rcases this with h' | h'
          · exact .inl h'
          · refine .inr ?_
            by_cases e : a.1 = i
            · rw [e, Z7] at h'; cases h'
            · rwa [ZW e] at h'
        · intro h'
          rw [Bool.and_eq_true, Nat.beq_eq, Nat.beq_eq] at h'
          have := h a ha
          rw [h'.1, h'.2, Z7, Nat.beq_refl] at this
          cases this
      · rintro ⟨h1, h2⟩ a ha
        have h1 := h1 a ha
        have h2 := h2 a ha
        rw [Bool.or_eq_true] at h1 ⊢
        rcases h1 with h' | h'
        · exact .inl h'
        · by_cases e : a.1 = i
          · by_cases e2 : a.2 = y
            · exfalso; apply h2; rw [e, e2, Nat.beq_refl, Nat.beq_refl]; rfl
            · refine .inl ?_
              rw [ZD e2]; rfl
          · refine .inr ?_
            rw [ZW e]; exact h'
    have hgi : g i = false := by simp only [g, hS, Bool.false_and]
    have p1 : (memO (fun j => ZK S i true j && cs.all (fun a => !(Nat.beq a.2 j) || !ZK S i true a.1)) (ZK N i q) k).flatten.Perm (q.flatten ++ (memO g N k).flatten) := by
      refine memO_add (f := g) hgi ?_ ?_ hi
      · rw [Bool.and_eq_true]; exact ⟨Z7, hnoti⟩
      · intro j hj
        simp only [g, hall, ZW hj, Bool.and_assoc]
    have p2 : memB (fun x => cs.all (fun a => !(Nat.beq a.2 (k + x)) || !ZK S i true a.1)) 0 M₀ = memB gB 0 M₀ := memB_congr fun x _ _ => hall (k + x)
    have p3 := memO_split (N := N) (f := fun j => visO b cs i j && !isC cs i j) (g := g) (fun j hj => by
      rw [Bool.and_eq_true] at hj
      simp only [g]
      rw [v1 j hj.1, hj.2]; rfl) (k := k)
    have p4 := memB_split (f := fun x => visB b cs k i x && !isC cs i (k + x)) (g := gB) (fun x hx => by
      rw [Bool.and_eq_true] at hx
      simp only [gB]
      rw [v2 x hx.1, hx.2]; rfl) (M := M₀) (x := 0)
    -- the rest is in R
    have p5 := memO_split (N := N) (f := fun j => g j && !(visO b cs i j && !isC cs i j)) (g := fun j => (S j && cs.all (fun a => !(Nat.beq a.2 j) || !S a.1)) && !visO b cs i j) (fun j hj => by
      simp only [g, Bool.and_eq_true, Bool.not_eq_true', Bool.and_eq_false_iff, Bool.not_eq_false'] at hj ⊢
      refine ⟨hj.1.1, ?_⟩
      rcases hj.2 with h | h
      · exact h
      · rw [hj.1.2] at h; cases h) (k := k)
    have p6 := memB_split (f := fun x => gB x && !(visB b cs k i x && !isC cs i (k + x))) (g := fun x => cs.all (fun a => !(Nat.beq a.2 (k + x)) || !S a.1) && !visB b cs k i x) (fun x hx => by
      simp only [gB, Bool.and_eq_true, Bool.not_eq_true', Bool.and_eq_false_iff, Bool.not_eq_false'] at hx ⊢
      refine ⟨hx.1.1, ?_⟩
      rcases hx.2 with h | h
      · exact h
      · rw [hx.1.2] at h; cases h) (M := M₀) (x := 0)
    refine ⟨X ++ ((memO (fun j => ((S j && cs.all (fun a => !(Nat.beq a.2 j) || !S a.1)) && !visO b cs i j) && !(g j && !(visO b cs i j && !isC cs i j))) N k).flatten ++
      (memB (fun x => (cs.all (fun a => !(Nat.beq a.2 (k + x)) || !S a.1) && !visB b cs k i x) && !(gB x && !(visB b cs k i x && !isC cs i (k + x)))) 0 M₀).flatten), ?_⟩
    unfold memS
    rw [p2]
    simp only [R, List.flatten_append] at hX ⊢
    unfold kept at hX
    simp only [List.flatten_append] at hX
    refine (hX.append (p5.append p6)).trans ?_
    refine List.Perm.trans ?_ ((p1.trans (p3.append_left _)).append p4 |>.append_right _).symm
    generalize (memO (fun j => visO b cs i j && !isC cs i j) N k).flatten = A
    generalize (memB (fun x => visB b cs k i x && !isC cs i (k + x)) 0 M₀).flatten = B
    generalize (memO (fun j => g j && !(visO b cs i j && !isC cs i j)) N k).flatten = C
    generalize (memB (fun x => gB x && !(visB b cs k i x && !isC cs i (k + x))) 0 M₀).flatten = D
    generalize (memO _ N k).flatten = E1
    generalize (memB _ 0 M₀).flatten = G1
    generalize q.flatten = q'
    classical
    rw [List.perm_iff_count]
    intro z
    simp only [List.count_append]
    omega
  -- the operation
  refine JL1_mono (N := fun ρ' M' => ∃ M1, M' = M1 ++ R ∧ ∃ v q, ρ' = YJ ρ o.dst v ∧ Sub (q ++ kept b cs k i N M₀) M1 ∧ (∀ p, pAt P i = some p → p (mk undef b i r) (mk [] b i N) v q) ∧
      (pAt P i = none → Dv c H l b k ds cs ρ₀ M₀ i o r N v ∧ q = [] ∧ ∀ v', Dv c H l b k ds cs ρ₀ M₀ i o r N v' → v' = v)) (JL_frame1 (N := fun ρ' M1 => ∃ v q, ρ' = YJ ρ o.dst v ∧ Sub (q ++ kept b cs k i N M₀) M1 ∧ (∀ p, pAt P i = some p → p (mk undef b i r) (mk [] b i N) v q) ∧
      (pAt P i = none → Dv c H l b k ds cs ρ₀ M₀ i o r N v ∧ q = [] ∧ ∀ v', Dv c H l b k ds cs ρ₀ M₀ i o r N v' → v' = v)) ?_) ?_
  · unfold OX at hob
    cases hp : pAt P i with
    | none =>
      rw [hp] at hob
      obtain ⟨v, hv⟩ := hob
      -- it takes nothing
      have hno : ∀ x, isC cs i x = false := fun x => by
        unfold isC
        rw [List.any_eq_false]
        intro a ha h
        rw [Bool.and_eq_true, Nat.beq_eq] at h
        have := List.all_eq_true.1 hcp a ha
        rw [h.1, hp] at this
        cases this
      have hkept : kept b cs k i N M₀ = YH b cs k i N M₀ := by
        unfold kept YH
        simp only [hno, Bool.not_false, Bool.and_true]
      have huniq : ∀ {F' : Zf} {w' : World}, Mem w' ((YH b cs k i N M₀).flatten ++ F') H → ∀ v', Dv c H l b k ds cs ρ₀ M₀ i o r N v' → v' = v := by
        intro F' w' m' v' hv'
        rcases hv with ⟨h1, h2⟩ | ⟨h1, h2⟩
        · rcases hv' with ⟨g1, g2⟩ | ⟨g1, g2⟩
          · have e1 := h2 ρ F' w' m'
            rw [g2 ρ F' w' m'] at e1
            injection e1 with e1
            injection e1
          · exact absurd ((h1 ρ).symm.trans (g1 ρ)) (by simp)
        · rcases hv' with ⟨g1, g2⟩ | ⟨g1, g2⟩
          · exact absurd ((h1 ρ).symm.trans (g1 ρ)) (by simp)
          · rw [h2, g2]
      intro F rs w m
      have hdv := huniq m
      have hfin : JL c H l.toArray [] (YJ ρ o.dst v) (YH b cs k i N M₀) ⟨fun ρ' M1 => ∃ v q, ρ' = YJ ρ o.dst v ∧ Sub (q ++ kept b cs k i N M₀) M1 ∧ (∀ p, (none : Option PostF) = some p → p (mk undef b i r) (mk [] b i N) v q) ∧
          ((none : Option PostF) = none → Dv c H l b k ds cs ρ₀ M₀ i o r N v ∧ q = [] ∧ ∀ v', Dv c H l b k ds cs ρ₀ M₀ i o r N v' → v' = v), fun _ _ => False, []⟩ :=
        Zb ⟨v, [], rfl, by rw [hkept]; exact Sub.refl, fun p hp => (by cases hp), fun _ => ⟨hv, rfl, hdv⟩⟩
      rcases id hv with ⟨h1, h2⟩ | ⟨h1, h2⟩
      · refine JL_run (by have := h1 ρ; rw [← hρ] at this; exact this) ?_ F rs w m
        exact fun F' w' m' => ⟨v, w', _, .inl (by have := h2 ρ F' w' m'; rw [← hρ] at this; exact this), m', hfin⟩
      · subst h2
        exact JL_skip (by have := h1 ρ; rw [← hρ] at this; exact this) hfin F rs w m
    | some p =>
      rw [hp] at hob
      have := hob ρ
      rw [← hρ] at this
      exact JL1_mono this fun ρ' M' ⟨v, q, h1, h2, h3⟩ => ⟨v, q, h1, h2, fun p' hp' => by cases hp'; exact h3, fun h => by cases h⟩
  · rintro ρ' M' ⟨M1, rfl, v, q, rfl, hs, h1, h2⟩
    refine ⟨v, q, ?_, hagr' v, hafter q M1 hs, h1, fun hp => ⟨(h2 hp).1, (h2 hp).2.1⟩⟩
    have hcg : ∀ j, j < i → dep b i j = true → r j = ZK r i v j ∧ N j = ZK N i q j := fun j hj _ => ⟨(ZW (by omega)).symm, (ZW (by omega)).symm⟩
    unfold Good
    cases hp : pAt P i with
    | none =>
      obtain ⟨h3, h4, h5⟩ := h2 hp
      show ZK N i q i = [] ∧ _
      rw [Z7, Z7]
      exact ⟨h4, Dv_congr hcg h3, fun v' hv' => h5 v' (Dv_congr (fun j hj hd => ⟨(hcg j hj hd).1.symm, (hcg j hj hd).2.symm⟩) hv')⟩
    | some p =>
      show p _ _ _ _
      rw [Z7, Z7, ← mk_congr (fun j hj hd => (hcg j hj hd).1), ← mk_congr (fun j hj hd => (hcg j hj hd).2)]
      exact h1 p hp

/-- What holds of operation m, when those of S have been done, and those before m in thought. -/
theorem complete (hds : (l.take k).map (·.dst) = ds) (hnd : nodupO ds = true) (hc : consOk b cs k = true) (hcp : cs.all (fun a => (pAt P a.1).isSome) = true) (hkl : k ≤ l.length) (hle : ∀ i j, i < k → j < k → dep b i j = true → j ≤ i)
    (h0 : DT c H l b k ds cs P ρ₀ M₀ Q 0 (l.take k) (fun _ => undef) (fun _ => [])) {S : Nat → Bool} {r : Nat → Value} {N : Nat → List Zf}
    (hcl : ∀ i' j, i' < k → S i' = true → j < i' → dep b i' j = true → S j = true) (hg : ∀ j o, j < k → l[j]? = some o → S j = true → Good c H l b k ds cs P ρ₀ M₀ j o r N)
    {F : Zf} {rs : List Nat} {w : World} (m : Mem w ((memS cs k S N M₀).flatten ++ (dfb rs ++ F)) H) : ∀ i, i ≤ k →
    ∃ r' N' rs' w', (∀ j, j < k → S j = true → r' j = r j ∧ N' j = N j) ∧ (∀ j o, j < k → l[j]? = some o → (S j || Nat.blt j i) = true → Good c H l b k ds cs P ρ₀ M₀ j o r' N') ∧
      Mem w' ((memS cs k (fun j => S j || Nat.blt j i) N' M₀).flatten ++ (dfb rs' ++ F)) H ∧ DT c H l b k ds cs P ρ₀ M₀ Q i ((l.take k).drop i) r' N' := by
  have hdl : ds.length = k := by rw [← hds, List.length_map, List.length_take]; omega
  intro i
  induction i with
  | zero =>
    intro _
    have e : (fun j => S j || Nat.blt j 0) = S := by funext j; simp [Nat.blt]
    refine ⟨r, N, rs, w, fun _ _ _ => ⟨rfl, rfl⟩, fun j o hj ho hs => hg j o hj ho (by rw [Bool.or_eq_true] at hs; exact hs.resolve_right (by simp [Nat.blt])), ?_, ?_⟩
    · rw [e]; exact m
    · exact DT_congr hdl _ 0 _ _ _ _ (by simp; omega) (fun j hj => by omega) h0
  | succ i ih =>
    intro hik
    obtain ⟨r', N', rs', w', ha, hg', m', hd⟩ := ih (by omega)
    obtain ⟨o, ho⟩ : ∃ o, l[i]? = some o := ⟨_, List.getElem?_eq_getElem (by omega)⟩
    have hdrop : (l.take k).drop i = o :: (l.take k).drop (i + 1) := by
      rw [List.drop_eq_getElem_cons (by rw [List.length_take]; omega)]
      congr 1
      rw [List.getElem_take]
      exact Option.some.inj ((List.getElem?_eq_getElem (by omega)).symm.trans ho)
    rw [hdrop] at hd
    unfold DT at hd
    have hlen : ∀ (q : Nat), i + 1 + ((l.take k).drop (i + 1)).length = k := fun _ => by rw [List.length_drop, List.length_take]; omega
    by_cases hS : S i = true
    · -- it has been done
      have hfun : (fun j => S j || Nat.blt j (i + 1)) = (fun j => S j || Nat.blt j i) := by
        funext j
        by_cases e : j = i
        · subst e; rw [hS]; rfl
        · rw [Bool.eq_iff_iff, Bool.or_eq_true, Bool.or_eq_true, Nat.blt_eq, Nat.blt_eq]
          constructor
          · rintro (h | h); exact .inl h; exact .inr (by omega)
          · rintro (h | h); exact .inl h; exact .inr (by omega)
      have hgi := hg' i o (by omega) ho (by rw [hS]; rfl)
      rw [hfun]
      refine ⟨r', N', rs', w', ha, fun j o hj ho hs => hg' j o hj ho ((congrFun hfun j).symm.trans hs), m', ?_⟩
      unfold Good at hgi
      cases hp : pAt P i with
      | none =>
        rw [hp] at hd hgi
        obtain ⟨v, hv, hd⟩ := hd
        have := hgi.2.2 v hv
        subst this
        refine DT_congr hdl _ _ _ _ _ _ (hlen 0) (fun j hj => ?_) hd
        by_cases e : j = i
        · subst e; exact ⟨Z7, by rw [Z7, hgi.1]⟩
        · exact ⟨ZW e, ZW e⟩
      | some p =>
        rw [hp] at hd hgi
        refine DT_congr hdl _ _ _ _ _ _ (hlen 0) (fun j hj => ?_) (hd.2 _ _ hgi)
        by_cases e : j = i
        · subst e; exact ⟨Z7, Z7⟩
        · exact ⟨ZW e, ZW e⟩
    · -- in thought
      have hS : S i = false := by rw [← Bool.not_eq_true]; exact hS
      let S' : Nat → Bool := fun j => S j || Nat.blt j i
      have hS'i : S' i = false := by simp only [S', hS, Bool.false_or]; rw [← Bool.not_eq_true, Nat.blt_eq]; omega
      have hob : OX c H l b k ds cs P ρ₀ M₀ i o r' N' := by
        unfold OX
        cases hp : pAt P i with
        | none => rw [hp] at hd; obtain ⟨v, hv, _⟩ := hd; exact ⟨v, hv⟩
        | some p => rw [hp] at hd; exact hd.1
      let ρ : Nat → Value := fun x => match idxF ds x 0 with
        | some j => r' j
        | none => ρ₀ x
      have hag : Agr ds ρ₀ S' r' ρ := by
        intro x
        simp only [ρ]
        cases idxF ds x 0 with
        | none => rfl
        | some j => intro _; rfl
      have hcl' : ∀ i' j, i' < k → S' i' = true → j < i' → dep b i' j = true → S' j = true := by
        intro i' j hi' hs hj hdj
        simp only [S', Bool.or_eq_true, Nat.blt_eq] at hs ⊢
        rcases hs with h | h
        · exact .inl (hcl i' j hi' h hj hdj)
        · exact .inr (by omega)
      have hex := exec1 (M := memS cs k S' N' M₀) hds hnd hc hcp (by omega) ho hS'i (fun j hj _ => by simp only [S', Bool.or_eq_true, Nat.blt_eq]; exact .inr hj) hcl' hle hob hag Sub.refl
      obtain ⟨ρ', M', rs'', w'', ⟨v, q, h1, h2, h3, h4, h5⟩, m''⟩ := JL_some hex m'
      have hfun : (fun j => S j || Nat.blt j (i + 1)) = ZK S' i true := by
        funext j
        by_cases e : j = i
        · subst e; rw [Z7, Bool.or_eq_true, Nat.blt_eq]; exact .inr (by omega)
        · rw [ZW e, Bool.eq_iff_iff, Bool.or_eq_true]
          simp only [S', Bool.or_eq_true, Nat.blt_eq]
          constructor
          · rintro (h | h); exact .inl h; exact .inr (by omega)
          · rintro (h | h); exact .inl h; exact .inr (by omega)
      rw [hfun]
      refine ⟨ZK r' i v, ZK N' i q, rs'', w'', fun j hj hs => ?_, fun j o' hj ho' hs => ?_, h3.mem m'', ?_⟩
      · have e : j ≠ i := by rintro rfl; rw [hS] at hs; cases hs
        rw [ZW e, ZW e]; exact ha j hj hs
      · by_cases e : j = i
        · subst e; rw [ho] at ho'; cases ho'; exact h1
        · have hs := (congrFun hfun j).symm.trans hs
          rw [ZW e] at hs
          have hnd' : dep b j i = true → i < j → False := fun hdj hlt => by
            have := hcl' j i hj hs hlt hdj
            rw [hS'i] at this; cases this
          exact Good_congr (fun j' hj' hdj' => by
            have e' : j' ≠ i := by rintro rfl; exact hnd' hdj' hj'
            exact ⟨(ZW e').symm, (ZW e').symm⟩) ⟨(ZW e).symm, (ZW e).symm⟩ (hg' j o' hj ho' hs)
      · cases hp : pAt P i with
        | none =>
          rw [hp] at hd
          obtain ⟨v', hv', hd⟩ := hd
          obtain ⟨h6, h7⟩ := h5 hp
          unfold Good at h1
          rw [hp] at h1
          have := h1.2.2 v' (Dv_congr (fun j hj _ => ⟨(ZW (by omega)).symm, (ZW (by omega)).symm⟩) hv')
          rw [Z7] at this
          subst this; subst h7
          exact hd
        | some p =>
          rw [hp] at hd
          exact hd.2 v q (h4 p hp)

/-- **A region whose order is drawn, walked in one order.** P: what is handed back by the operations that make memory, or call; cs: who takes what. -/
theorem ZL {id : Nat} (hmix : c.P.follows .mixedOrders = true) (b : Array Nat) (k : Nat) (ds : List (Option Nat)) (cs : List (Nat × Nat)) (P : List (Nat × PostF)) (hk : Nat.ble k l.length = true) (hok : drawOk l b k = true)
    (hds : (l.take k).map (·.dst) = ds) (hst : (nodupO ds && consOk b cs k && cs.all (fun a => (pAt P a.1).isSome) && (List.range k).all (fun i => (List.range k).all (fun j => !(dep b i j) || Nat.ble j i))) = true)
    (h : DT c H l b k ds cs P ρ₀ M₀ Q 0 (l.take k) (fun _ => undef) (fun _ => [])) : J c H (.region id l.toArray true) ρ₀ M₀ Q := by
  rw [Bool.and_eq_true, Bool.and_eq_true, Bool.and_eq_true] at hst
  obtain ⟨⟨⟨hnd, hc⟩, hcp⟩, hle⟩ := hst
  have hle : ∀ i j, i < k → j < k → dep b i j = true → j ≤ i := fun i j hi hj hd => by
    have := List.all_eq_true.1 (List.all_eq_true.1 hle i (List.mem_range.2 hi)) j (List.mem_range.2 hj)
    rw [hd] at this
    exact Nat.le_of_ble_eq_true (by simpa using this)
  have hkl := Nat.le_of_ble_eq_true hk
  have hdl : ds.length = k := by rw [← hds, List.length_map, List.length_take]; omega
  refine J_drawG hmix b k hk hok (fun S ρ M => ∃ r N, (∀ j o, j < k → l[j]? = some o → S j = true → Good c H l b k ds cs P ρ₀ M₀ j o r N) ∧ Agr ds ρ₀ (fun j => S j && Nat.blt j k) r ρ ∧ Sub (memS cs k (fun j => S j && Nat.blt j k) N M₀) M) ?_ ?_ ?_
  · intro S hS
    have hS0 : ∀ j, (S j && Nat.blt j k) = false := fun j => by
      by_cases hj : j < k
      · rw [hS j hj]; rfl
      · rw [Bool.and_eq_false_iff]; exact .inr (by rw [← Bool.not_eq_true, Nat.blt_eq]; exact hj)
    refine ⟨fun _ => undef, fun _ => [], fun j o hj _ hs => (by rw [hS j hj] at hs; cases hs), fun x => ?_, ?_⟩
    · cases idxF ds x 0 with
      | none => rfl
      | some j =>
        intro hs
        have hs : (S j && Nat.blt j k) = true := hs
        rw [hS0 j] at hs; cases hs
    · have : memS cs k (fun j => S j && Nat.blt j k) (fun _ => []) M₀ = M₀ := by
        unfold memS
        have e1 : ∀ n, memO (fun j => (S j && Nat.blt j k) && cs.all (fun a => !(Nat.beq a.2 j) || !(S a.1 && Nat.blt a.1 k))) (fun _ => ([] : List Zf)) n = [] := by
          intro n
          induction n with
          | zero => rfl
          | succ n ih => unfold memO; rw [hS0 n, ih]; rfl
        have e2 : ∀ (M : List Zf) (x : Nat), memB (fun x => cs.all (fun a => !(Nat.beq a.2 (k + x)) || !(S a.1 && Nat.blt a.1 k))) x M = M := by
          intro M
          induction M with
          | nil => intro x; rfl
          | cons y M ih =>
            intro x
            unfold memB
            rw [ih, show cs.all (fun a => !(Nat.beq a.2 (k + x)) || !(S a.1 && Nat.blt a.1 k)) = true from by
              rw [List.all_eq_true]; intro a _; rw [hS0]; simp]
            rfl
        rw [e1, e2, List.nil_append]
      rw [this]
      exact Sub.refl
  · rintro S i o ρ M hik ho hS hdep hcl ⟨r, N, hg, hag, hM⟩
    intro F rs w m
    have m' := hM.mem m
    let S1 : Nat → Bool := fun j => S j && Nat.blt j k
    have hS1 : ∀ j, j < k → S1 j = S j := fun j hj => by simp only [S1]; rw [show Nat.blt j k = true from by rw [Nat.blt_eq]; exact hj, Bool.and_true]
    have hcl1 : ∀ i' j, i' < k → S1 i' = true → j < i' → dep b i' j = true → S1 j = true := fun i' j hi' hs hj hd => by
      rw [hS1 i' hi'] at hs
      rw [hS1 j (by omega)]
      exact hcl i' j hi' hs hj hd
    obtain ⟨r', N', rs', w', ha, hg', m2, hd⟩ := complete hds hnd hc hcp hkl hle h hcl1 (fun j o hj ho hs => hg j o hj ho (by rw [← hS1 j hj]; exact hs)) m' i (by omega)
    have hdrop : (l.take k).drop i = o :: (l.take k).drop (i + 1) := by
      rw [List.drop_eq_getElem_cons (by rw [List.length_take]; omega)]
      congr 1
      rw [List.getElem_take]
      exact Option.some.inj ((List.getElem?_eq_getElem (by omega)).symm.trans ho)
    rw [hdrop] at hd
    unfold DT at hd
    have hob : OX c H l b k ds cs P ρ₀ M₀ i o r N := by
      refine OX_congr (r := r') (N := N') (fun j hj hdj => ha j (by omega) (by rw [hS1 j (by omega)]; exact hdep j hj hdj)) ?_
      unfold OX
      cases hp : pAt P i with
      | none => rw [hp] at hd; obtain ⟨v, hv, _⟩ := hd; exact ⟨v, hv⟩
      | some p => rw [hp] at hd; exact hd.1
    have hex := exec1 hds hnd hc hcp hik ho (by rw [hS1 i hik]; exact hS) (fun j hj hdj => by rw [hS1 j (by omega)]; exact hdep j hj hdj) hcl1 hle hob hag hM
    refine JL1_mono hex ?_ F rs w m
    rintro ρ' M' ⟨v, q, h1, h2, h3, _, _⟩ S' hS'
    have hfun : (fun j => S' j && Nat.blt j k) = ZK S1 i true := by
      funext j
      rw [hS']
      by_cases e : j = i
      · subst e
        rw [Z7, Nat.beq_refl, show Nat.blt j k = true from by rw [Nat.blt_eq]; exact hik, Bool.and_true]
        try rfl
      · rw [ZW e, ZD e]; rfl
    rw [hfun]
    refine ⟨ZK r i v, ZK N i q, fun j o' hj ho' hs => ?_, h2, h3⟩
    by_cases e : j = i
    · subst e; rw [ho] at ho'; cases ho'; exact h1
    · rw [hS', ZD e] at hs
      have hnd' : dep b j i = true → i < j → False := fun hdj hlt => by
        have := hcl j i hj hs hlt hdj
        rw [hS] at this; cases this
      exact Good_congr (fun j' hj' hdj' => by
        have e' : j' ≠ i := by rintro rfl; exact hnd' hdj' hj'
        exact ⟨(ZW e').symm, (ZW e').symm⟩) ⟨(ZW e).symm, (ZW e).symm⟩ (hg j o' hj ho' hs)
  · rintro S ρ M hS ⟨r, N, hg, hag, hM⟩
    have hS1 : ∀ j, j < k → (S j && Nat.blt j k) = true := fun j hj => by rw [Bool.and_eq_true, Nat.blt_eq]; exact ⟨hS j hj, hj⟩
    refine Zw hM ?_
    intro F rs w m
    obtain ⟨r', N', rs', w', ha, hg', m2, hd⟩ := complete hds hnd hc hcp hkl hle h (S := fun j => S j && Nat.blt j k) (fun i' j hi' _ hj _ => hS1 j (by omega)) (fun j o hj ho _ => hg j o hj ho (hS j hj)) m k (Nat.le_refl _)
    have hd := DT_congr hdl _ k r' r N' N (by simp) (fun j hj => ha j hj (hS1 j hj)) hd
    rw [show (l.take k).drop k = [] from List.drop_eq_nil_of_le (by rw [List.length_take]; omega)] at hd
    unfold DT at hd
    have eρ : ρ = envT ds r ρ₀ := by
      funext x
      have := hag x
      unfold envT
      cases e : idxF ds x 0 with
      | none => rw [e] at this; exact this
      | some j =>
        rw [e] at this
        obtain ⟨j', h1, h2⟩ := idxF_some e
        have := (List.getElem?_eq_some_iff.1 h2).1
        exact ‹_ → ρ x = r j› (hS1 j (by omega))
    have eM : memS cs k (fun j => S j && Nat.blt j k) N M₀ = memT cs k N M₀ := by
      unfold memS memT
      have hca : ∀ a ∈ cs, (S a.1 && Nat.blt a.1 k) = true := fun a ha => by
        have := List.all_eq_true.1 hc a ha
        simp only [Bool.and_eq_true, Nat.blt_eq] at this
        exact hS1 a.1 this.1.1
      have hall : ∀ y, cs.all (fun a => !(Nat.beq a.2 y) || !(S a.1 && Nat.blt a.1 k)) = cs.all (fun a => !(Nat.beq a.2 y)) := fun y => by
        rw [Bool.eq_iff_iff, List.all_eq_true, List.all_eq_true]
        constructor
        · intro h a ha; have := h a ha; rw [hca a ha] at this; simpa using this
        · intro h a ha; rw [h a ha]; rfl
      rw [memO_congr (g := fun j => cs.all (fun a => !(Nat.beq a.2 j))) (N' := N) (fun j hj => by simp only [hS1 j hj, hall, Bool.true_and]) (fun _ _ _ => rfl), memB_congr (g := fun x => cs.all (fun a => !(Nat.beq a.2 (k + x)))) (fun x _ _ => hall (k + x))]
    rw [eρ]
    rw [eM] at m
    exact hd F rs w m
end
/-! ### Steps -/
section
variable {c : Cx} {H : Heap} {l : List Oper} {b : Array Nat} {k : Nat} {ds : List (Option Nat)} {cs : List (Nat × Nat)} {P : List (Nat × PostF)} {ρ₀ : Nat → Value} {M₀ : List Zf} {Q : Post} {m : Nat} {os : List Oper} {r : Nat → Value} {N : Nat → List Zf}
theorem DJ_pure {o : Oper} {v : Value} (hn : pAt P m = none) (hg : ∀ ρx, wnt l.toArray c.n (Z8 b ds m r ρ₀ ρx) o = true) (hp : ∀ ρx, Pu c.P (ev c.n (Z8 b ds m r ρ₀ ρx)) o v)
    (h : DT c H l b k ds cs P ρ₀ M₀ Q (m + 1) os (ZK r m v) (ZK N m [])) : DT c H l b k ds cs P ρ₀ M₀ Q m (o :: os) r N := by
  unfold DT
  rw [hn]
  exact ⟨v, .inl ⟨hg, fun ρx _ w _ => hp ρx w⟩, h⟩
theorem DJ_skip {o : Oper} (hn : pAt P m = none) (hg : ∀ ρx, wnt l.toArray c.n (Z8 b ds m r ρ₀ ρx) o = false)
    (h : DT c H l b k ds cs P ρ₀ M₀ Q (m + 1) os (ZK r m undef) (ZK N m [])) : DT c H l b k ds cs P ρ₀ M₀ Q m (o :: os) r N := by
  unfold DT
  rw [hn]
  exact ⟨undef, .inr ⟨hg, rfl⟩, h⟩
theorem DJ_load {d : Option Nat} {T : TypeId} {x : Operand} {ot : TypeId} {pos : String} {af : Array Edge} {g : Option (Nat × Bool)} {a f sz : Nat} {l' r' : List Value} {T' : TypeId} {fr : Nat × Nat} (hn : pAt P m = none)
    (hg : ∀ ρx, wnt l.toArray c.n (Z8 b ds m r ρ₀ ρx) ⟨d, .load T x, ot, pos, af, g⟩ = true) (ty : Ty c.P T true sz) (hx : ∀ ρx, ev c.n (Z8 b ds m r ρ₀ ρx) x = .pointer (some ⟨a, f, none⟩))
    (ha : At (YH b cs k m N M₀) H a (.cells ⟨l'⟩ T' fr)) (hr : sub l' f sz = some r')
    (h : DT c H l b k ds cs P ρ₀ M₀ Q (m + 1) os (ZK r m (.agg ⟨r'⟩)) (ZK N m [])) : DT c H l b k ds cs P ρ₀ M₀ Q m (⟨d, .load T x, ot, pos, af, g⟩ :: os) r N := by
  unfold DT
  rw [hn]
  exact ⟨_, .inl ⟨hg, fun ρx F w mm => by simp [execOp, Instr.loadAt, hx ρx, Instr.sureAddr, run_loadAgg ty (ha.heap mm) hr]⟩, h⟩
theorem DJ_load1 {d : Option Nat} {T : TypeId} {x : Operand} {ot : TypeId} {pos : String} {af : Array Edge} {g : Option (Nat × Bool)} {a f sz : Nat} {l' : List Value} {v : Value} {T' : TypeId} {fr : Nat × Nat} (hn : pAt P m = none)
    (hg : ∀ ρx, wnt l.toArray c.n (Z8 b ds m r ρ₀ ρx) ⟨d, .load T x, ot, pos, af, g⟩ = true) (ty : Ty c.P T false sz) (hx : ∀ ρx, ev c.n (Z8 b ds m r ρ₀ ρx) x = .pointer (some ⟨a, f, none⟩))
    (ha : At (YH b cs k m N M₀) H a (.cells ⟨l'⟩ T' fr)) (hr : l'[f]? = some v)
    (h : DT c H l b k ds cs P ρ₀ M₀ Q (m + 1) os (ZK r m v) (ZK N m [])) : DT c H l b k ds cs P ρ₀ M₀ Q m (⟨d, .load T x, ot, pos, af, g⟩ :: os) r N := by
  unfold DT
  rw [hn]
  exact ⟨_, .inl ⟨hg, fun ρx F w mm => by simp [execOp, Instr.loadAt, hx ρx, Instr.sureAddr, run_loadOne ty (ha.heap mm) hr]⟩, h⟩
/-- An operation that hands back what P says. -/
theorem DJ_any {o : Oper} {p : PostF} (hp : pAt P m = some p)
    (ho : ∀ ρx, JL c H l.toArray [o] (Z8 b ds m r ρ₀ ρx) (YH b cs k m N M₀) ⟨fun ρ' M' => ∃ v q, ρ' = YJ (Z8 b ds m r ρ₀ ρx) o.dst v ∧ Sub (q ++ kept b cs k m N M₀) M' ∧ p (mk undef b m r) (mk [] b m N) v q, fun _ _ => False, []⟩)
    (h : ∀ v q, p (mk undef b m r) (mk [] b m N) v q → DT c H l b k ds cs P ρ₀ M₀ Q (m + 1) os (ZK r m v) (ZK N m q)) : DT c H l b k ds cs P ρ₀ M₀ Q m (o :: os) r N := by
  unfold DT
  rw [hp]
  exact ⟨ho, h⟩
theorem Yi (hno : cs.all (fun a => !(Nat.beq a.1 m)) = true) : kept b cs k m N M₀ = YH b cs k m N M₀ := by
  have hno' : ∀ x, isC cs m x = false := fun x => by
    unfold isC
    rw [List.any_eq_false]
    intro a ha h
    rw [Bool.and_eq_true] at h
    have := List.all_eq_true.1 hno a ha
    rw [h.1] at this
    cases this
  unfold kept YH
  simp only [hno', Bool.not_false, Bool.and_true]
/-- A call that takes nothing. -/
theorem DJ_call {d : Option Nat} {ot : TypeId} {pos : String} {af : Array Edge} {g : Option (Nat × Bool)} {x : Operand} {as : List Operand} {ats : Array TypeId} {f : FuncId} {fv cv : List Value} {p : PostF}
    (hp : pAt P m = some p) (hno : cs.all (fun a => !(Nat.beq a.1 m)) = true)
    (hg : ∀ ρx, wnt l.toArray c.n (Z8 b ds m r ρ₀ ρx) ⟨d, .call { callee := .value x, args := as.toArray, argTypes := ats }, ot, pos, af, g⟩ = true)
    (hcall : ∀ args w, (callFunc f args).run c.P w = .ok (.enter f args) w)
    (hx : ∀ ρx, ev c.n (Z8 b ds m r ρ₀ ρx) x = .func (.func f) ⟨fv⟩ ⟨cv⟩)
    (hc : (∀ (i : Nat) k', (YH b cs k m N M₀)[i]? = some k' → Has k' (hu (YH b cs k m N M₀).flatten H)) → CT c.P f ⟨fv ++ as.map (ev c.n (Z8 b ds m r ρ₀ fun _ => undef)) ++ cv⟩ [] (hu (YH b cs k m N M₀).flatten H) (p (mk undef b m r) (mk [] b m N)))
    (ha : ∀ ρx, as.map (ev c.n (Z8 b ds m r ρ₀ ρx)) = as.map (ev c.n (Z8 b ds m r ρ₀ fun _ => undef)))
    (h : ∀ v q, p (mk undef b m r) (mk [] b m N) v q → DT c H l b k ds cs P ρ₀ M₀ Q (m + 1) os (ZK r m v) (ZK N m q)) :
    DT c H l b k ds cs P ρ₀ M₀ Q m (⟨d, .call { callee := .value x, args := as.toArray, argTypes := ats }, ot, pos, af, g⟩ :: os) r N :=
  DJ_any hp (fun ρx => JL_call (hg ρx) hcall (hx ρx) hc (ha ρx) fun v q hq => Zb ⟨v, q, rfl, by rw [Yi hno]; exact Sub.refl, hq⟩) h
/-- A call that takes one chunk to own. -/
theorem DJ_call1 {d : Option Nat} {ot : TypeId} {pos : String} {af : Array Edge} {g : Option (Nat × Bool)} {x : Operand} {as : List Operand} {ats : Array TypeId} {f : FuncId} {fv cv : List Value} {p : PostF} (i : Nat) {k' : Zf}
    (hp : pAt P m = some p) (hk : kept b cs k m N M₀ = (YH b cs k m N M₀).eraseIdx i)
    (hg : ∀ ρx, wnt l.toArray c.n (Z8 b ds m r ρ₀ ρx) ⟨d, .call { callee := .value x, args := as.toArray, argTypes := ats }, ot, pos, af, g⟩ = true)
    (hcall : ∀ args w, (callFunc f args).run c.P w = .ok (.enter f args) w)
    (hx : ∀ ρx, ev c.n (Z8 b ds m r ρ₀ ρx) x = .func (.func f) ⟨fv⟩ ⟨cv⟩) (hi : (YH b cs k m N M₀)[i]? = some k')
    (hc : (∀ (j : Nat) k', ((YH b cs k m N M₀).eraseIdx i)[j]? = some k' → Has k' (hu ((YH b cs k m N M₀).eraseIdx i).flatten H)) → CT c.P f ⟨fv ++ as.map (ev c.n (Z8 b ds m r ρ₀ fun _ => undef)) ++ cv⟩ [k'] (hu ((YH b cs k m N M₀).eraseIdx i).flatten H) (p (mk undef b m r) (mk [] b m N)))
    (ha : ∀ ρx, as.map (ev c.n (Z8 b ds m r ρ₀ ρx)) = as.map (ev c.n (Z8 b ds m r ρ₀ fun _ => undef)))
    (h : ∀ v q, p (mk undef b m r) (mk [] b m N) v q → DT c H l b k ds cs P ρ₀ M₀ Q (m + 1) os (ZK r m v) (ZK N m q)) :
    DT c H l b k ds cs P ρ₀ M₀ Q m (⟨d, .call { callee := .value x, args := as.toArray, argTypes := ats }, ot, pos, af, g⟩ :: os) r N :=
  DJ_any hp (fun ρx => Zr i (hg ρx) hcall (hx ρx) hi hc (ha ρx) fun v q hq => Zb ⟨v, q, rfl, by rw [hk]; exact Sub.refl, hq⟩) h
/-- Any other operation that runs. -/
theorem DJ_run {o : Oper} {p : PostF} (hp : pAt P m = some p) (hg : ∀ ρx, wnt l.toArray c.n (Z8 b ds m r ρ₀ ρx) o = true)
    (ho : ∀ ρx, Runs c H o (Z8 b ds m r ρ₀ ρx) (YH b cs k m N M₀) fun v M' => ∃ q, Sub (q ++ kept b cs k m N M₀) M' ∧ p (mk undef b m r) (mk [] b m N) v q)
    (h : ∀ v q, p (mk undef b m r) (mk [] b m N) v q → DT c H l b k ds cs P ρ₀ M₀ Q (m + 1) os (ZK r m v) (ZK N m q)) : DT c H l b k ds cs P ρ₀ M₀ Q m (o :: os) r N :=
  DJ_any hp (fun ρx => JL_run (hg ρx) fun F w mm => by
    obtain ⟨v, w', M', h1, h2, q, h3, h4⟩ := ho ρx F w mm
    exact ⟨v, w', M', h1, h2, Zb ⟨v, q, rfl, h3, h4⟩⟩) h
/-- New memory: what an allocation hands back. -/
def newP (T : TypeId) (l : List Value) : PostF := fun _ _ v q => ∃ b, v = .pointer (some ⟨b, 0, none⟩) ∧ q = [[(b, .cells ⟨l⟩ T (0, 0))]]
theorem DJ_alloc {d : Option Nat} {T : TypeId} {ot : TypeId} {pos : String} {af : Array Edge} {g : Option (Nat × Bool)} {z : Value} {l' : List Value} (hp : pAt P m = some (newP T l')) (hno : cs.all (fun a => !(Nat.beq a.1 m)) = true)
    (hg : ∀ ρx, wnt l.toArray c.n (Z8 b ds m r ρ₀ ρx) ⟨d, .alloc T, ot, pos, af, g⟩ = true) (hz : ∀ w, (zeroValue T).run c.P w = .ok z w) (hl : z.cells = ⟨l'⟩)
    (h : ∀ a, DT c H l b k ds cs P ρ₀ M₀ Q (m + 1) os (ZK r m (.pointer (some ⟨a, 0, none⟩))) (ZK N m [[(a, .cells ⟨l'⟩ T (0, 0))]])) : DT c H l b k ds cs P ρ₀ M₀ Q m (⟨d, .alloc T, ot, pos, af, g⟩ :: os) r N :=
  DJ_run hp hg (fun ρx => Zh hz hl fun a => ⟨[[(a, .cells ⟨l'⟩ T (0, 0))]], by rw [Yi hno]; exact Sub.refl, a, rfl, rfl⟩) fun v q ⟨a, e1, e2⟩ => by subst e1 e2; exact h a
theorem DJ_box {d : Option Nat} {T : TypeId} {x : Operand} {ot : TypeId} {pos : String} {af : Array Edge} {g : Option (Nat × Bool)} {z : Value} {l' l'' : List Value} (hp : ∃ p, pAt P m = some p ∧ p (mk undef b m r) (mk [] b m N) = newP T l'' (fun _ => undef) (fun _ => [])) (hno : cs.all (fun a => !(Nat.beq a.1 m)) = true)
    (hg : ∀ ρx, wnt l.toArray c.n (Z8 b ds m r ρ₀ ρx) ⟨d, .box T x, ot, pos, af, g⟩ = true) (hx : ∀ ρx, ev c.n (Z8 b ds m r ρ₀ ρx) x = z) (hl : z.cells = ⟨l'⟩) (hll : l'' = l')
    (h : ∀ a, DT c H l b k ds cs P ρ₀ M₀ Q (m + 1) os (ZK r m (.pointer (some ⟨a, 0, none⟩))) (ZK N m [[(a, .cells ⟨l'⟩ T (0, 0))]])) : DT c H l b k ds cs P ρ₀ M₀ Q m (⟨d, .box T x, ot, pos, af, g⟩ :: os) r N := by
  subst hll
  obtain ⟨p, hp, he⟩ := hp
  exact DJ_run hp hg (fun ρx => Zp (hx ρx) hl fun a => ⟨[[(a, .cells ⟨l''⟩ T (0, 0))]], by rw [Yi hno]; exact Sub.refl, by rw [he]; exact ⟨a, rfl, rfl⟩⟩) fun v q hq => by
    rw [he] at hq
    obtain ⟨a, e1, e2⟩ := hq
    subst e1 e2; exact h a
theorem keptE {i : Nat} {k₀ k' : Zf} (hk : kept b cs k m N M₀ = (YH b cs k m N M₀).eraseIdx i) (hi : (YH b cs k m N M₀)[i]? = some k₀) : Sub ([k'] ++ kept b cs k m N M₀) ((YH b cs k m N M₀).set i k') := by
  rw [hk]
  exact ⟨[], by rw [List.append_nil]; exact flatten_set hi⟩
theorem ZZ {M' : List Zf} (hM : memT cs k N M₀ = M') (h : JL c H l.toArray (l.drop k) (envT ds r ρ₀) M' Q) : DT c H l b k ds cs P ρ₀ M₀ Q m [] r N := by
  unfold DT
  rw [hM]; exact h
end
/-! ### Steps in short -/
section
variable {c : Cx} {H : Heap} {l : List Oper} {b : Array Nat} {k : Nat} {ds : List (Option Nat)} {cs : List (Nat × Nat)} {P : List (Nat × PostF)} {ρ₀ : Nat → Value} {M₀ : List Zf} {Q : Post} {m : Nat} {os : List Oper} {r : Nat → Value} {N : Nat → List Zf}
  {d : Option Nat} {x : Operand} {ot : TypeId} {pos : String} {af : Array Edge} {g : Option (Nat × Bool)}
theorem Dn {o : Oper} {v : Value} (hp : ∀ ρx, Pu c.P (ev c.n (Z8 b ds m r ρ₀ ρx)) o v) (h : DT c H l b k ds cs P ρ₀ M₀ Q (m + 1) os (ZK r m v) (ZK N m [])) (hn : pAt P m = none := by exact rfl)
    (hg : ∀ ρx, wnt l.toArray c.n (Z8 b ds m r ρ₀ ρx) o = true := by exact fun _ => rfl) : DT c H l b k ds cs P ρ₀ M₀ Q m (o :: os) r N := DJ_pure hn hg hp h
theorem Dq {o : Oper} (v : Value) (hp : ∀ ρx, Pu c.P (ev c.n (Z8 b ds m r ρ₀ ρx)) o v) (h : DT c H l b k ds cs P ρ₀ M₀ Q (m + 1) os (ZK r m v) (ZK N m [])) (hn : pAt P m = none := by exact rfl)
    (hg : ∀ ρx, wnt l.toArray c.n (Z8 b ds m r ρ₀ ρx) o = true := by exact fun _ => rfl) : DT c H l b k ds cs P ρ₀ M₀ Q m (o :: os) r N := DJ_pure hn hg hp h
theorem Dm (v : Value) (h : DT c H l b k ds cs P ρ₀ M₀ Q (m + 1) os (ZK r m v) (ZK N m [])) (hx : ∀ ρx, ev c.n (Z8 b ds m r ρ₀ ρx) x = v := by exact fun _ => rfl) (hn : pAt P m = none := by exact rfl)
    (hg : ∀ ρx, wnt l.toArray c.n (Z8 b ds m r ρ₀ ρx) ⟨d, .move x, ot, pos, af, g⟩ = true := by exact fun _ => rfl) : DT c H l b k ds cs P ρ₀ M₀ Q m (⟨d, .move x, ot, pos, af, g⟩ :: os) r N := DJ_pure hn hg (fun ρx => Pu.move (hx ρx)) h
theorem DM {v : Value} (hx : ∀ ρx, vf (ev c.n (Z8 b ds m r ρ₀ ρx) x) = some v) (h : DT c H l b k ds cs P ρ₀ M₀ Q (m + 1) os (ZK r m v) (ZK N m [])) (hn : pAt P m = none := by exact rfl)
    (hg : ∀ ρx, wnt l.toArray c.n (Z8 b ds m r ρ₀ ρx) ⟨d, .move x, ot, pos, af, g⟩ = true := by exact fun _ => rfl) : DT c H l b k ds cs P ρ₀ M₀ Q m (⟨d, .move x, ot, pos, af, g⟩ :: os) r N := DJ_pure hn hg (fun ρx => Pu.move (vf_eq (hx ρx))) h
theorem Dl {T : TypeId} {a f sz : Nat} {l' r' : List Value} {T' : TypeId} {fr : Nat × Nat} (ty : Ty c.P T true sz) (ha : At (YH b cs k m N M₀) H a (.cells ⟨l'⟩ T' fr)) (hr : sub l' f sz = some r')
    (h : DT c H l b k ds cs P ρ₀ M₀ Q (m + 1) os (ZK r m (.agg ⟨r'⟩)) (ZK N m [])) (hx : ∀ ρx, ev c.n (Z8 b ds m r ρ₀ ρx) x = .pointer (some ⟨a, f, none⟩) := by exact fun _ => rfl) (hn : pAt P m = none := by exact rfl)
    (hg : ∀ ρx, wnt l.toArray c.n (Z8 b ds m r ρ₀ ρx) ⟨d, .load T x, ot, pos, af, g⟩ = true := by exact fun _ => rfl) : DT c H l b k ds cs P ρ₀ M₀ Q m (⟨d, .load T x, ot, pos, af, g⟩ :: os) r N := DJ_load hn hg ty hx ha hr h
theorem Dl1 {T : TypeId} {a f sz : Nat} {l' : List Value} {v : Value} {T' : TypeId} {fr : Nat × Nat} (ty : Ty c.P T false sz) (ha : At (YH b cs k m N M₀) H a (.cells ⟨l'⟩ T' fr)) (hr : l'[f]? = some v)
    (h : DT c H l b k ds cs P ρ₀ M₀ Q (m + 1) os (ZK r m v) (ZK N m [])) (hx : ∀ ρx, ev c.n (Z8 b ds m r ρ₀ ρx) x = .pointer (some ⟨a, f, none⟩) := by exact fun _ => rfl) (hn : pAt P m = none := by exact rfl)
    (hg : ∀ ρx, wnt l.toArray c.n (Z8 b ds m r ρ₀ ρx) ⟨d, .load T x, ot, pos, af, g⟩ = true := by exact fun _ => rfl) : DT c H l b k ds cs P ρ₀ M₀ Q m (⟨d, .load T x, ot, pos, af, g⟩ :: os) r N := DJ_load1 hn hg ty hx ha hr h
theorem Dc {as : List Operand} {ats : Array TypeId} {f : FuncId} {fv cv : List Value} {p : PostF} (hp : pAt P m = some p)
    (hcall : ∀ args w, (callFunc f args).run c.P w = .ok (.enter f args) w)
    (hx : ∀ ρx, ev c.n (Z8 b ds m r ρ₀ ρx) x = .func (.func f) ⟨fv⟩ ⟨cv⟩)
    (hc : (∀ (i : Nat) k', (YH b cs k m N M₀)[i]? = some k' → Has k' (hu (YH b cs k m N M₀).flatten H)) → CT c.P f ⟨fv ++ as.map (ev c.n (Z8 b ds m r ρ₀ fun _ => undef)) ++ cv⟩ [] (hu (YH b cs k m N M₀).flatten H) (p (mk undef b m r) (mk [] b m N)))
    (h : ∀ v q, p (mk undef b m r) (mk [] b m N) v q → DT c H l b k ds cs P ρ₀ M₀ Q (m + 1) os (ZK r m v) (ZK N m q))
    (ha : ∀ ρx, as.map (ev c.n (Z8 b ds m r ρ₀ ρx)) = as.map (ev c.n (Z8 b ds m r ρ₀ fun _ => undef)) := by exact fun _ => rfl) (hno : cs.all (fun a => !(Nat.beq a.1 m)) = true := by exact rfl)
    (hg : ∀ ρx, wnt l.toArray c.n (Z8 b ds m r ρ₀ ρx) ⟨d, .call { callee := .value x, args := as.toArray, argTypes := ats }, ot, pos, af, g⟩ = true := by exact fun _ => rfl) :
    DT c H l b k ds cs P ρ₀ M₀ Q m (⟨d, .call { callee := .value x, args := as.toArray, argTypes := ats }, ot, pos, af, g⟩ :: os) r N := DJ_call hp hno hg hcall hx hc ha h
theorem Da {T : TypeId} {z : Value} {l' : List Value} (hz : ∀ w, (zeroValue T).run c.P w = .ok z w) (hp : pAt P m = some (newP T l')) 
    (h : ∀ a, DT c H l b k ds cs P ρ₀ M₀ Q (m + 1) os (ZK r m (.pointer (some ⟨a, 0, none⟩))) (ZK N m [[(a, .cells ⟨l'⟩ T (0, 0))]])) (hl : z.cells = ⟨l'⟩ := by exact rfl) (hno : cs.all (fun a => !(Nat.beq a.1 m)) = true := by exact rfl)
    (hg : ∀ ρx, wnt l.toArray c.n (Z8 b ds m r ρ₀ ρx) ⟨d, .alloc T, ot, pos, af, g⟩ = true := by exact fun _ => rfl) : DT c H l b k ds cs P ρ₀ M₀ Q m (⟨d, .alloc T, ot, pos, af, g⟩ :: os) r N := DJ_alloc hp hno hg hz hl h
theorem Dr {o : Oper} {p : PostF} (hp : pAt P m = some p)
    (ho : ∀ ρx, Runs c H o (Z8 b ds m r ρ₀ ρx) (YH b cs k m N M₀) fun v M' => ∃ q, Sub (q ++ kept b cs k m N M₀) M' ∧ p (mk undef b m r) (mk [] b m N) v q)
    (h : ∀ v q, p (mk undef b m r) (mk [] b m N) v q → DT c H l b k ds cs P ρ₀ M₀ Q (m + 1) os (ZK r m v) (ZK N m q)) (hg : ∀ ρx, wnt l.toArray c.n (Z8 b ds m r ρ₀ ρx) o = true := by exact fun _ => rfl) : DT c H l b k ds cs P ρ₀ M₀ Q m (o :: os) r N := DJ_run hp hg ho h
end
end Go.Proofs.YtfdeibbpfgolcaaGreat.Hs
/-! Layer 4 in plain Lean: what the functions compute. No program here. -/
namespace Go.Proofs.YtfdeibbpfgolcaaGreat.Hs
open Go

def more (k j : Int) : Int := if k = 3 ∨ (k = 5 ∧ j = 1) ∨ (k = 12 ∧ j = 1) then 1 else if k = 12 ∧ 1 < j then 2 else 0

mutual
def binds : Pt → Nat
  | .mk k _ _ kids => if k = 1 then 1 else Yd kids
def Yd : List Pt → Nat
  | [] => 0
  | p :: ps => binds p + Yd ps
end

theorem bindsL_take (l : List Pt) (j : Nat) (h : j < l.length) : Yd (l.take (j + 1)) = Yd (l.take j) + binds l[j] := by
  induction l generalizing j with
  | nil => exact absurd h (by simp)
  | cons p l ih =>
    cases j with
    | zero => simp [Yd]
    | succ j => simp only [List.take_succ_cons, Yd, List.getElem_cons_succ]; rw [ih j (by simpa using h)]; omega

theorem bindsL_take_le (l : List Pt) (j : Nat) : Yd (l.take j) ≤ Yd l := by
  induction l generalizing j with
  | nil => simp [Yd]
  | cons p l ih =>
    cases j with
    | zero => simp [Yd]
    | succ j => simp only [List.take_succ_cons, Yd]; have := ih j; omega
theorem binds_mem (l : List Pt) : ∀ p ∈ l, binds p ≤ Yd l := by
  induction l with
  | nil => intro p h; cases h
  | cons q l ih =>
    intro p h
    rw [Yd]
    rcases List.mem_cons.1 h with rfl | h
    · omega
    · have := ih p h; omega
def Yk (k : Int) : Bool := (((((decide (k = 1)) || (decide (k = 2))) || (decide (k = 7))) || (decide (k = 8))) || (decide (k = 10))) || (decide (k = 11))
def ZF (k : Int) : Bool := (((decide (k = 6)) || (decide (k = 8))) || (decide (k = 11))) || (decide (k = 12))
def loK (k : Int) : Int := if k = 3 ∨ k = 9 ∨ k = 11 then 1 else if k = 4 ∨ k = 5 ∨ k = 10 then 2 else if k = 8 then 0 else if k = 12 then 2 else 0
def hiK (k : Int) : Int := if k = 3 ∨ k = 9 ∨ k = 11 then 1 else if k = 4 ∨ k = 5 ∨ k = 10 then 2 else if k = 8 then 4 else if k = 12 then 10 else 0
def fN (k : Int) : Bool := decide (k = 1 ∨ k = 2 ∨ k = 7 ∨ k = 10 ∨ k = 8 ∨ k = 11)
def fR (k : Int) : Bool := decide (k = 8 ∨ k = 11 ∨ k = 6 ∨ k = 12)
def fC (k : Int) : Bool := decide (k = 9)
def pfN (k : Int) : Bool := decide (k = 2 ∨ k = 3)
def pfR (k : Int) : Bool := decide (k = 3)
def clashB (a b c : Bool) (n : Int) (r : Sm) (m : Int) : Bool := (decide (n ≠ 0) && !a) || ((decide (r ≠ zS) && !b) || (decide (0 < m) && !c))
def kidsB (k n : Int) : Bool := if k = 3 ∨ k = 9 ∨ k = 11 then decide (n = 1) else if k = 4 ∨ k = 5 ∨ k = 10 then decide (n = 2) else if k = 8 then decide (n ≤ 4) else if k = 12 then !decide (n < 2 ∨ 10 < n) else decide (n = 0)

/-! sizes -/
mutual
def sizeP : Pt → Nat
  | .mk _ _ _ kids => 1 + ZH kids
def ZH : List Pt → Nat
  | [] => 0
  | p :: ps => sizeP p + ZH ps
end
mutual
def sizeT : Tm → Nat
  | .mk _ _ _ kids cases => 1 + sizeTs kids + sizeCs cases
def sizeTs : List Tm → Nat
  | [] => 0
  | p :: ps => sizeT p + sizeTs ps
def sizeCs : List (Pt × Tm) → Nat
  | [] => 0
  | (p, t) :: ps => sizeP p + sizeT t + sizeCs ps
end
theorem sizePs_mem {l : List Pt} : ∀ p ∈ l, sizeP p ≤ ZH l := by
  induction l with
  | nil => intro p h; cases h
  | cons q l ih =>
    intro p h; rw [ZH]
    rcases List.mem_cons.1 h with rfl | h
    · omega
    · have := ih p h; omega
theorem sizeTs_mem {l : List Tm} : ∀ p ∈ l, sizeT p ≤ sizeTs l := by
  induction l with
  | nil => intro p h; cases h
  | cons q l ih =>
    intro p h; rw [sizeTs]
    rcases List.mem_cons.1 h with rfl | h
    · omega
    · have := ih p h; omega
theorem sizeCs_mem {l : List (Pt × Tm)} : ∀ p ∈ l, sizeP p.1 + sizeT p.2 ≤ sizeCs l := by
  induction l with
  | nil => intro p h; cases h
  | cons q l ih =>
    obtain ⟨a, b⟩ := q
    intro p h; rw [sizeCs]
    rcases List.mem_cons.1 h with rfl | h
    · simp only; omega
    · have := ih p h; omega
theorem sizeP_pos (p : Pt) : 1 ≤ sizeP p := by cases p; rw [sizeP]; omega
theorem sizeT_pos (p : Tm) : 1 ≤ sizeT p := by cases p; rw [sizeT]; omega
theorem binds_le (p : Pt) : binds p ≤ sizeP p := by
  induction p using Pt.ind with
  | h k n r kids ih =>
    rw [binds, sizeP]
    have : Yd kids ≤ ZH kids := by
      clear k n r
      induction kids with
      | nil => simp [Yd, ZH]
      | cons q l ih' => rw [Yd, ZH]; have := ih q (by simp); have := ih' (fun x hx => ih x (by simp [hx])); omega
    split <;> omega
theorem more_le (k j : Int) : 0 ≤ more k j ∧ more k j ≤ 2 := by unfold more; split <;> (try split) <;> omega

/-! errors of patterns -/
def pErr (k n : Int) (r : Sm) (l : Nat) : Int :=
  if k < 1 ∨ 3 < k then 3
  else if clashB (pfN k) (pfR k) false n r 0 = true then 7
  else if (if k = 3 then 4 else 0) < (l : Int) then 2
  else if (k = 2 ∧ (n < 0 ∨ 1073741824 < n)) ∨ (k = 3 ∧ (n < 0 ∨ 7 < n)) then 3 else 0
mutual
def pErrs : Pt → Int
  | .mk k n r kids => if pErr k n r kids.length = 0 then pErrsL kids else pErr k n r kids.length
def pErrsL : List Pt → Int
  | [] => 0
  | p :: ps => if pErrs p = 0 then pErrsL ps else pErrs p
end
def pHead (k n : Int) (r : Sm) (l : Nat) : Int :=
  if k < 1 ∨ 3 < k then 3
  else if (k = 1 ∧ ¬ n = 0) ∨ (¬ k = 3 ∧ ¬ r = zS) then 7
  else if (¬ k = 3 ∧ 0 < (l : Int)) ∨ 4 < (l : Int) then 2
  else if (k = 2 ∧ (n < 0 ∨ 1073741824 < n)) ∨ (k = 3 ∧ (n < 0 ∨ 7 < n)) then 3 else 0
mutual
def Yy : Pt → Int
  | .mk k n r kids => if pHead k n r kids.length = 0 then YA kids else pHead k n r kids.length
def YA : List Pt → Int
  | [] => 0
  | p :: ps => if Yy p = 0 then YA ps else Yy p
end
def YB : List (Pt × Tm) → Int
  | [] => 0
  | c :: cs => if Yy c.1 = 0 then YB cs else Yy c.1
def Yo (d m b k n : Int) (r : Sm) (l lc : Nat) : Int :=
  if k < 1 ∨ 12 < k then 3
  else if ((Yk k = false ∧ ¬ n = 0) ∨ (ZF k = false ∧ ¬ r = zS)) ∨ (¬ k = 9 ∧ 0 < (lc : Int)) then 7
  else if ((l : Int) < loK k ∨ hiK k < (l : Int)) ∨ 8 < (lc : Int) then 2
  else if ((k = 2 ∧ (n < 0 ∨ 1073741824 < n)) ∨ (k = 10 ∧ (n < 1 ∨ 5 < n))) ∨ ((k = 8 ∨ k = 11) ∧ (n < 0 ∨ 7 < n)) then 3
  else if (k = 1 ∧ (n < 0 ∨ (b ≤ n ∧ d ≤ n - b))) ∨ (k = 7 ∧ (n < 0 ∨ m ≤ n)) then 1 else 0
mutual
def ZM (d m : Int) : Int → Tm → Int
  | b, .mk k n r kids cases =>
    if Yo d m b k n r kids.length cases.length = 0 then
      (if YB cases = 0 then (if Z0 d m b k 0 kids = 0 then Yh d m b cases else Z0 d m b k 0 kids) else YB cases)
    else Yo d m b k n r kids.length cases.length
def Z0 (d m : Int) : Int → Int → Nat → List Tm → Int
  | _, _, _, [] => 0
  | b, k, i, t :: l => if ZM d m (b + more k i) t = 0 then Z0 d m b k (i + 1) l else ZM d m (b + more k i) t
def Yh (d m : Int) : Int → List (Pt × Tm) → Int
  | _, [] => 0
  | b, (p, t) :: l => if ZM d m (b + (binds p : Int)) t = 0 then Yh d m b l else ZM d m (b + (binds p : Int)) t
end

/-! how many nodes, how deep, as far as a number -/
mutual
def extP : Int → Pt → Int × Int
  | m, .mk _ _ _ kids => ((extPs m kids 1 0).1, (extPs m kids 1 0).2 + 1)
def extPs : Int → List Pt → Int → Int → Int × Int
  | _, [], n, d => (n, d)
  | m, p :: ps, n, d => if n ≤ m then extPs m ps (n + (extP (m - 1) p).1) (max d (extP (m - 1) p).2) else (n, d)
end
mutual
def YL : Int → Tm → Int × Int
  | m, .mk _ _ _ kids cases => ((extCs m cases (YN m kids 1 0).1 (YN m kids 1 0).2).1, (extCs m cases (YN m kids 1 0).1 (YN m kids 1 0).2).2 + 1)
def YN : Int → List Tm → Int → Int → Int × Int
  | _, [], n, d => (n, d)
  | m, p :: ps, n, d => if n ≤ m then YN m ps (n + (YL (m - 1) p).1) (max d (YL (m - 1) p).2) else (n, d)
def extCs : Int → List (Pt × Tm) → Int → Int → Int × Int
  | _, [], n, d => (n, d)
  | m, (p, t) :: ps, n, d => if n ≤ m then extCs m ps (n + (extP (m - 1) p).1 + (YL (m - 1) t).1) (max (max d (extP (m - 1) p).2) (YL (m - 1) t).2) else (n, d)
end
theorem extPs_le {l : List Pt} (ih : ∀ p ∈ l, ∀ m, 1 ≤ (extP m p).2 ∧ (extP m p).2 ≤ (extP m p).1 ∧ (extP m p).1 ≤ sizeP p) (m : Int) : ∀ (n d : Int), 0 ≤ d → d < n → 0 ≤ (extPs m l n d).2 ∧ (extPs m l n d).2 < (extPs m l n d).1 ∧ (extPs m l n d).1 ≤ n + ZH l := by
  induction l with
  | nil => intro n d h1 h2; simp only [extPs, ZH]; omega
  | cons p l ih' =>
    intro n d h1 h2
    rw [extPs, ZH]
    have hp := ih p (by simp) (m - 1)
    split
    · have := ih' (fun q hq => ih q (by simp [hq])) (n + (extP (m - 1) p).1) (max d (extP (m - 1) p).2) (by omega) (by omega)
      omega
    · simp only; omega
theorem extP_le (p : Pt) : ∀ m, 1 ≤ (extP m p).2 ∧ (extP m p).2 ≤ (extP m p).1 ∧ (extP m p).1 ≤ sizeP p := by
  induction p using Pt.ind with
  | h k n r kids ih =>
    intro m
    have := extPs_le ih m 1 0 (by omega) (by omega)
    rw [extP, sizeP]
    simp only
    omega
theorem extTs_le {l : List Tm} (ih : ∀ p ∈ l, ∀ m, 1 ≤ (YL m p).2 ∧ (YL m p).2 ≤ (YL m p).1 ∧ (YL m p).1 ≤ sizeT p) (m : Int) : ∀ (n d : Int), 0 ≤ d → d < n → 0 ≤ (YN m l n d).2 ∧ (YN m l n d).2 < (YN m l n d).1 ∧ n ≤ (YN m l n d).1 ∧ (YN m l n d).1 ≤ n + sizeTs l := by
  induction l with
  | nil => intro n d h1 h2; simp only [YN, sizeTs]; omega
  | cons p l ih' =>
    intro n d h1 h2
    rw [YN, sizeTs]
    have hp := ih p (by simp) (m - 1)
    split
    · have := ih' (fun q hq => ih q (by simp [hq])) (n + (YL (m - 1) p).1) (max d (YL (m - 1) p).2) (by omega) (by omega)
      omega
    · simp only; omega
theorem extCs_le {l : List (Pt × Tm)} (ih : ∀ p ∈ l, ∀ m, 1 ≤ (YL m p.2).2 ∧ (YL m p.2).2 ≤ (YL m p.2).1 ∧ (YL m p.2).1 ≤ sizeT p.2) (m : Int) : ∀ (n d : Int), 0 ≤ d → d < n → 0 ≤ (extCs m l n d).2 ∧ (extCs m l n d).2 < (extCs m l n d).1 ∧ (extCs m l n d).1 ≤ n + sizeCs l := by
  induction l with
  | nil => intro n d h1 h2; simp only [extCs, sizeCs]; omega
  | cons p l ih' =>
    obtain ⟨p, t⟩ := p
    intro n d h1 h2
    rw [extCs, sizeCs]
    have ht := ih (p, t) (by simp) (m - 1)
    have hp := extP_le p (m - 1)
    simp only at ht
    split
    · have := ih' (fun q hq => ih q (by simp [hq])) (n + (extP (m - 1) p).1 + (YL (m - 1) t).1) (max (max d (extP (m - 1) p).2) (YL (m - 1) t).2) (by omega) (by omega)
      omega
    · simp only; omega
theorem extT_le (t : Tm) : ∀ m, 1 ≤ (YL m t).2 ∧ (YL m t).2 ≤ (YL m t).1 ∧ (YL m t).1 ≤ sizeT t := by
  induction t using Tm.ind with
  | h k n r kids cases ih ih' =>
    intro m
    have h1 := extTs_le ih m 1 0 (by omega) (by omega)
    have h2 := extCs_le ih' m (YN m kids 1 0).1 (YN m kids 1 0).2 (by omega) (by omega)
    rw [YL, sizeT]
    simp only
    omega

def YU (t : Tm) : Bool := (decide (300 < (YL 400 t).1)) || (decide (60 < (YL 400 t).2))
def Yf (d m : Int) (t : Tm) : Int := if YU t = true then 11 else ZM d m 0 t

noncomputable instance : DecidableEq Pt := fun _ _ => Classical.propDecidable _
noncomputable instance : DecidableEq Tm := fun _ _ => Classical.propDecidable _

theorem eqPd0 (k n k' n' : Int) (r r' : Sm) (l l' : List Pt) : ((((decide (k = k')) && (decide (n = n'))) && (decide (r = r'))) && (decide (l = l'))) = decide (Pt.mk k n r l = Pt.mk k' n' r' l') := by
  rw [Bool.eq_iff_iff]; simp [and_assoc]
theorem eqPd (k n : Int) (r : Sm) (l : List Pt) (q : Pt) : ((((decide (k = q.kind)) && (decide (n = q.num))) && (decide (r = q.ref))) && (decide (l = q.kids))) = decide (Pt.mk k n r l = q) := by
  cases q; exact eqPd0 ..
theorem eqTd0 (k n k' n' : Int) (r r' : Sm) (l l' : List Tm) (m m' : List (Pt × Tm)) : (((((decide (k = k')) && (decide (n = n'))) && (decide (r = r'))) && (decide (l = l'))) && (decide (m = m'))) = decide (Tm.mk k n r l m = Tm.mk k' n' r' l' m') := by
  rw [Bool.eq_iff_iff]; simp [and_assoc]
theorem eqTd (k n : Int) (r : Sm) (l : List Tm) (m : List (Pt × Tm)) (q : Tm) : (((((decide (k = q.kind)) && (decide (n = q.num))) && (decide (r = q.ref))) && (decide (l = q.kids))) && (decide (m = q.cases))) = decide (Tm.mk k n r l m = q) := by
  cases q; exact eqTd0 ..

/-! counting nodes until it is enough -/
mutual
def cnP (st : Int → Int → Bool) : Int → Pt → Int → Bool × Int
  | d, .mk _ _ _ kids, n => if st (n + 1) d = true then (true, n + 1) else cnPs st (d + 1) kids (n + 1)
def cnPs (st : Int → Int → Bool) : Int → List Pt → Int → Bool × Int
  | _, [], n => (false, n)
  | d, p :: ps, n => if (cnP st d p n).1 = true then (true, (cnP st d p n).2) else cnPs st d ps (cnP st d p n).2
end
mutual
def cnT (st : Int → Int → Bool) : Int → Tm → Int → Bool × Int
  | d, .mk _ _ _ kids cases, n => if st (n + 1) d = true then (true, n + 1) else if (cnTs st (d + 1) kids (n + 1)).1 = true then (true, (cnTs st (d + 1) kids (n + 1)).2) else cnCs st (d + 1) cases (cnTs st (d + 1) kids (n + 1)).2
def cnTs (st : Int → Int → Bool) : Int → List Tm → Int → Bool × Int
  | _, [], n => (false, n)
  | d, p :: ps, n => if (cnT st d p n).1 = true then (true, (cnT st d p n).2) else cnTs st d ps (cnT st d p n).2
def cnCs (st : Int → Int → Bool) : Int → List (Pt × Tm) → Int → Bool × Int
  | _, [], n => (false, n)
  | d, (p, t) :: ps, n => if (cnP st d p n).1 = true then (true, (cnP st d p n).2) else if (cnT st d t (cnP st d p n).2).1 = true then (true, (cnT st d t (cnP st d p n).2).2) else cnCs st d ps (cnT st d t (cnP st d p n).2).2
end
def cnC (st : Int → Int → Bool) (d : Int) (c : Pt × Tm) (n : Int) : Bool × Int := if (cnP st d c.1 n).1 = true then (true, (cnP st d c.1 n).2) else cnT st d c.2 (cnP st d c.1 n).2
theorem cnPs_any (st : Int → Int → Bool) (d : Int) (l : List Pt) : ∀ n, cnPs st d l n = YD (cnP st d) l n := by
  induction l with
  | nil => intro n; rw [cnPs, YD]
  | cons p l ih => intro n; rw [cnPs, YD, ih]
theorem cnTs_any (st : Int → Int → Bool) (d : Int) (l : List Tm) : ∀ n, cnTs st d l n = YD (cnT st d) l n := by
  induction l with
  | nil => intro n; rw [cnTs, YD]
  | cons p l ih => intro n; rw [cnTs, YD, ih]
theorem cnCs_any (st : Int → Int → Bool) (d : Int) (l : List (Pt × Tm)) : ∀ n, cnCs st d l n = YD (cnC st d) l n := by
  induction l with
  | nil => intro n; rw [cnCs, YD]
  | cons c l ih =>
    obtain ⟨p, t⟩ := c
    intro n
    rw [cnCs, YD, ih]
    simp only [cnC]
    split
    · simp
    · split
      · simp
      · simp
def stL (n d : Int) : Bool := (decide (300 < n)) || (decide (60 < d))
theorem cnP_size {st : Int → Int → Bool} (p : Pt) : ∀ d n, (cnP st d p n).1 = false → (cnP st d p n).2 = n + sizeP p := by
  induction p using Pt.ind with
  | h k m r kids ih =>
    intro d n h
    rw [cnP] at h ⊢
    split at h
    · cases h
    · rename_i h0
      rw [if_neg h0, sizeP]
      clear h0
      have : ∀ (l : List Pt), (∀ x ∈ l, ∀ d n, (cnP st d x n).1 = false → (cnP st d x n).2 = n + sizeP x) → ∀ d n, (cnPs st d l n).1 = false → (cnPs st d l n).2 = n + ZH l := by
        intro l
        induction l with
        | nil => intro _ d n _; simp [cnPs, ZH]
        | cons q l ih' =>
          intro hl d n h
          rw [cnPs] at h ⊢
          split at h
          · cases h
          · rename_i h1
            rw [if_neg h1, ih' (fun x hx => hl x (by simp [hx])) _ _ h, hl q (by simp) _ _ (by simpa using h1), ZH]; omega
      rw [this kids ih _ _ h]; omega
theorem cnT_size {st : Int → Int → Bool} (t : Tm) : ∀ d n, (cnT st d t n).1 = false → (cnT st d t n).2 = n + sizeT t := by
  induction t using Tm.ind with
  | h k m r kids cases ih ih2 =>
    intro d n h
    have hT : ∀ (l : List Tm), (∀ x ∈ l, ∀ d n, (cnT st d x n).1 = false → (cnT st d x n).2 = n + sizeT x) → ∀ d n, (cnTs st d l n).1 = false → (cnTs st d l n).2 = n + sizeTs l := by
      intro l
      induction l with
      | nil => intro _ d n _; simp [cnTs, sizeTs]
      | cons q l ih' =>
        intro hl d n h
        rw [cnTs] at h ⊢
        split at h
        · cases h
        · rename_i h1
          rw [if_neg h1, ih' (fun x hx => hl x (by simp [hx])) _ _ h, hl q (by simp) _ _ (by simpa using h1), sizeTs]; omega
    have hC : ∀ (l : List (Pt × Tm)), (∀ x ∈ l, ∀ d n, (cnT st d x.2 n).1 = false → (cnT st d x.2 n).2 = n + sizeT x.2) → ∀ d n, (cnCs st d l n).1 = false → (cnCs st d l n).2 = n + sizeCs l := by
      intro l
      induction l with
      | nil => intro _ d n _; simp [cnCs, sizeCs]
      | cons q l ih' =>
        obtain ⟨q, u⟩ := q
        intro hl d n h
        rw [cnCs] at h ⊢
        split at h
        · cases h
        · rename_i h1
          split at h
          · cases h
          · rename_i h2
            rw [if_neg h1, if_neg h2, ih' (fun x hx => hl x (by simp [hx])) _ _ h, hl (q, u) (by simp) _ _ (by simpa using h2), cnP_size q _ _ (by simpa using h1), sizeCs]; simp only; omega
    rw [cnT] at h ⊢
    split at h
    · cases h
    · rename_i h0
      split at h
      · cases h
      · rename_i h1
        rw [if_neg h0, if_neg h1, hC cases ih2 _ _ h, hT kids ih _ _ (by simpa using h1), sizeT]; omega
end Go.Proofs.YtfdeibbpfgolcaaGreat.Hs
/-! Layer 4 in plain Lean, second part. No program here. -/
namespace Go.Proofs.YtfdeibbpfgolcaaGreat.Hs
open Go

theorem cnP_le {st : Int → Int → Bool} {B : Int} (hst : ∀ n d, st n d = false → n ≤ B) (p : Pt) : ∀ d n, (cnP st d p n).1 = false → (cnP st d p n).2 ≤ B := by
  induction p using Pt.ind with
  | h k m r kids ih =>
    intro d n h
    rw [cnP] at h ⊢
    split at h
    · cases h
    · rename_i h0
      rw [if_neg h0]
      rw [cnPs_any] at h ⊢
      exact idxS_inv (Inv := fun n => n ≤ B) (fun x hx s _ hf => ih x hx _ _ hf) _ (hst _ d (by simpa using h0)) h
theorem cnT_le {st : Int → Int → Bool} {B : Int} (hst : ∀ n d, st n d = false → n ≤ B) (t : Tm) : ∀ (d n : Int), (cnT st d t n).1 = false → (cnT st d t n).2 ≤ B := by
  induction t using Tm.ind with
  | h k m r kids cases ih ih2 =>
    intro d n h
    rw [cnT] at h ⊢
    split at h
    · cases h
    · rename_i h0
      split at h
      · cases h
      · rename_i h1
        rw [if_neg h0, if_neg h1]
        rw [cnCs_any] at h ⊢
        refine idxS_inv (Inv := fun n => n ≤ B) (fun x hx s _ hf => ?_) _ ?_ h
        · simp only [cnC] at hf ⊢
          split at hf
          · cases hf
          · rename_i h2; rw [if_neg h2]; exact ih2 x hx _ _ hf
        · rw [cnTs_any] at h1 ⊢
          exact idxS_inv (Inv := fun n => n ≤ B) (fun x hx s _ hf => ih x hx _ _ hf) _ (hst _ d (by simpa using h0)) (by simpa using h1)
theorem stL_le (n d : Int) (h : stL n d = false) : n ≤ 300 := by simp [stL] at h; exact h.1
/-- what is kept while one searches -/
theorem cnP_keep {st : Int → Int → Bool} {B : Int} (hst : ∀ n d, st n d = false → n ≤ B) (p : Pt) (d n : Int) (h0 : 0 ≤ n) (h : (cnP st d p n).1 = false) : 0 ≤ (cnP st d p n).2 ∧ (cnP st d p n).2 ≤ B :=
  ⟨by rw [cnP_size p d n h]; omega, cnP_le hst p d n h⟩
theorem cnT_keep {st : Int → Int → Bool} {B : Int} (hst : ∀ n d, st n d = false → n ≤ B) (t : Tm) (d n : Int) (h0 : 0 ≤ n) (h : (cnT st d t n).1 = false) : 0 ≤ (cnT st d t n).2 ∧ (cnT st d t n).2 ≤ B :=
  ⟨by rw [cnT_size t d n h]; omega, cnT_le hst t d n h⟩
theorem cnC_keep {st : Int → Int → Bool} {B : Int} (hst : ∀ n d, st n d = false → n ≤ B) (c : Pt × Tm) (d n : Int) (h0 : 0 ≤ n) (h : (cnC st d c n).1 = false) : 0 ≤ (cnC st d c n).2 ∧ (cnC st d c n).2 ≤ B := by
  simp only [cnC] at h ⊢
  split at h
  · cases h
  · rename_i h1
    rw [if_neg h1]
    exact cnT_keep hst _ _ _ (cnP_keep hst _ _ _ h0 (by simpa using h1)).1 h
theorem anyT_keep {st : Int → Int → Bool} {B : Int} (hst : ∀ n d, st n d = false → n ≤ B) (l : List Tm) (d n : Int) (h0 : 0 ≤ n) (hB : n ≤ B) (h : (YD (cnT st d) l n).1 = false) : 0 ≤ (YD (cnT st d) l n).2 ∧ (YD (cnT st d) l n).2 ≤ B :=
  idxS_inv (Inv := fun n => 0 ≤ n ∧ n ≤ B) (fun x _ s hs hf => cnT_keep hst x d s hs.1 hf) n ⟨h0, hB⟩ h
end Go.Proofs.YtfdeibbpfgolcaaGreat.Hs
/-! Ranges over functions: what a call of yield does; the statement. Generic: no program is named. -/
namespace Go.Proofs.YtfdeibbpfgolcaaGreat.Hs
open Go

/-- What a call of yield does: a round of the loop l. -/
def YT (P : Program) (l : Nat) (args : Array Value) (M : List Zf) (H : Heap) (post : Value → List Zf → Prop) : Prop :=
  ∀ F w, Mem w (M.flatten ++ F) H → ∃ f tmps as body, (Instr.yield l args).run P w = .ok (.round l f tmps as body) w ∧
    RoundIn Fence.wide 0 P l f tmps as body w fun e w' => ∃ v M', e = .returned v ∧ Mem w' (M'.flatten ++ F) H ∧ post v M'

theorem YT.mono {P : Program} {l : Nat} {args : Array Value} {M : List Zf} {H : Heap} {post post' : Value → List Zf → Prop} (h : YT P l args M H post) (hp : ∀ v M, post v M → post' v M) : YT P l args M H post' := fun F w m =>
  let ⟨f, t, a, b, h1, h2⟩ := h F w m
  ⟨f, t, a, b, h1, h2.mono fun _ _ ⟨v, M', he, hm, hq⟩ => ⟨v, M', he, hm, hp _ _ hq⟩⟩

section
variable {c : Cx} {H : Heap} {ρ : Nat → Value} {M : List Zf} {Q : Post} {ops : Array Oper} {rest : List Oper}

theorem exec_yield {P : Program} {e : Operand → Value} {d : Option Nat} {ot : TypeId} {pos : String} {af : Array Edge} {g : Option (Nat × Bool)} {x : Operand} {as : List Operand} {ats : Array TypeId} {l : Nat} {vs : List Value}
    (hx : e x = .func (.yield l) ⟨[]⟩ ⟨[]⟩) (ha : as.map e = vs) :
    ∀ w, (execOp e ⟨d, .call { callee := .value x, args := as.toArray, argTypes := ats }, ot, pos, af, g⟩).run P w = (Instr.yield l ⟨vs⟩).run P w := fun w => by
  subst ha
  simp [execOp, resolve, hx, Deferred.ofValue, invoke]

/-- A call of yield: the chunk at place i goes into the round. -/
theorem JL_yield1 {d : Option Nat} {ot : TypeId} {pos : String} {af : Array Edge} {g : Option (Nat × Bool)} {x : Operand} {as : List Operand} {ats : Array TypeId} {l : Nat} {vs : List Value} {post : Value → List Zf → Prop}
    (i : Nat) {k : Zf} (hg : wnt ops c.n ρ ⟨d, .call { callee := .value x, args := as.toArray, argTypes := ats }, ot, pos, af, g⟩ = true)
    (hx : ev c.n ρ x = .func (.yield l) ⟨[]⟩ ⟨[]⟩) (hi : M[i]? = some k)
    (hc : (∀ (j : Nat) k, (M.eraseIdx i)[j]? = some k → Has k (hu (M.eraseIdx i).flatten H)) → YT c.P l ⟨vs⟩ [k] (hu (M.eraseIdx i).flatten H) post)
    (ha : as.map (ev c.n ρ) = vs)
    (h : ∀ v N, post v N → JL c H ops rest (YJ ρ d v) (N ++ M.eraseIdx i) Q) :
    JL c H ops (⟨d, .call { callee := .value x, args := as.toArray, argTypes := ats }, ot, pos, af, g⟩ :: rest) ρ M Q := fun F rs w m => by
  unfold wlo
  rw [wanted_eq, hg, if_pos rfl]
  refine ⟨fun _ _ => trivial, ?_⟩
  rw [act_eval']
  have hM : M.flatten.Perm ([k].flatten ++ (M.eraseIdx i).flatten) := by simpa using Z6 hi
  have m1 : Mem w ((M.eraseIdx i).flatten ++ ([k].flatten ++ (dfb rs ++ F))) H := by
    refine m.perm ((hM.append_right (dfb rs ++ F)).trans ?_)
    rw [← List.append_assoc (M.eraseIdx i).flatten]
    exact List.perm_append_comm.append_right (dfb rs ++ F)
  have m2 : Mem w ([k].flatten ++ (dfb rs ++ F)) (hu (M.eraseIdx i).flatten H) := m1.hu
  have hnd : ((M.eraseIdx i).flatten.map (·.1)).Nodup := m1.left.nd
  have hsep : ∀ b o, (b, o) ∈ (M.eraseIdx i).flatten → H b = none := m1.left.sep
  have hkh : ∀ (j : Nat) k, (M.eraseIdx i)[j]? = some k → Has k (hu (M.eraseIdx i).flatten H) := fun j k hk b o hb => by
    have hmem : (b, o) ∈ (M.eraseIdx i).flatten := List.mem_flatten.2 ⟨k, List.mem_of_getElem? hk, hb⟩
    rw [Y4, hsep b o hmem]; exact lookup_of_mem hnd hmem
  obtain ⟨f, tmps, as', body, hy, hr⟩ := hc hkh (dfb rs ++ F) w m2
  rw [semAt_exec (by simp), exec_yield hx ha w, hy]
  refine ⟨fun h => by simp [Fw] at h, ?_⟩
  refine hr.mono fun e w' ⟨v, N, he', hm', hp⟩ => ?_
  subst he'
  have m3 : Mem w' ((N ++ M.eraseIdx i).flatten ++ (dfb rs ++ F)) H := by
    have m4 : Mem w' (N.flatten ++ ((M.eraseIdx i).flatten ++ (dfb rs ++ F))) H := Mem.unhu hnd hsep (Mem.perm hm' (by exact List.Perm.refl _))
    rw [List.flatten_append, List.append_assoc]; exact m4
  show wlo c ops (lift c H F Q) rest ((act c.n (marks rs) ρ).put d v) w'
  rw [act_put]
  exact h v N hp F rs w' m3
end

theorem get_r {a b : List Value} {n i : Nat} {v : Value} (h : a.length = n) (h' : b[i]? = some v) : (a ++ b)[n + i]? = some v := by
  subst h; rw [List.getElem?_append_right (by omega)]; simpa using h'
theorem get_l {a b : List Value} {i : Nat} {v : Value} (h' : a[i]? = some v) : (a ++ b)[i]? = some v := by
  have := (List.getElem?_eq_some_iff.1 h').1
  rw [List.getElem?_append_left this]; exact h'
theorem Zn {ρ : Nat → Value} {l : List (Nat × Value)} (h : upds ρ l = ρ) : ∃ ρ', ρ = upds ρ' l := ⟨ρ, h.symm⟩
/-! ### The statement -/
def updz (ρ : Nat → Value) (l : List (Nat × Value)) : Nat → Value := l.foldl (fun ρ p => upd ρ p.1 p.2) ρ
theorem act_updz (n : Nat) (l : List (Nat × Value)) : ∀ ρ, l.foldl (fun (tmps : Array Value) (p : Nat × Value) => tmps.setIfInBounds p.1 p.2) (act n [] ρ).tmps = (act n [] (updz ρ l)).tmps := by
  induction l with
  | nil => intro ρ; rfl
  | cons p l ih =>
    intro ρ
    have := act_put n [] ρ (some p.1) p.2
    simp only [Act.put, YJ] at this
    have h1 : (act n [] ρ).tmps.setIfInBounds p.1 p.2 = (act n [] (upd ρ p.1 p.2)).tmps := by
      have := congrArg Act.tmps this
      exact this
    simp only [List.foldl_cons, h1, ih]
    rfl

def YO (fn : FuncId) (tmps : Array Value) (ps : Array Tmp) (as body : Code) (r : Nat) (st : LoopState) (p : Option Code) : Obj :=
  .loop { state := st, pending := p, fn := fn, tmps := tmps, params := ps, assign := as, body := body, defers := r }
def stOf (b : Bool) : LoopState := cond b .done .ready
def jpOf (b : Bool) : Option Code := cond b (some .ret) none

theorem yield_run {P : Program} {l : Nat} {args : List Value} {w : World} {fn : FuncId} {n : Nat} {ρ : Nat → Value} {ps : List Nat} {as body : Code} {r : Nat} {st : LoopState} {p : Option Code} (h : w.heap[l]? = some (YO fn (act n [] ρ).tmps ps.toArray as body r st p)) (hs : args.length = ps.length) :
    (Instr.yield l ⟨args⟩).run P w = .ok (.round l fn (act n [] (updz ρ (ps.zip args))).tmps as body) w := by
  simp only [Instr.yield, Instr.getLoop, Sem.run_bind, run_getObj' (o := YO fn (act n [] ρ).tmps ps.toArray as body r st p) rfl h, Result.andThen_ok]
  simp only [YO, Sem.run_pure, Result.andThen_ok]
  rw [if_neg (by simp [hs])]
  simp only [Sem.run_pure]
  congr 2
  rw [← act_updz, ← Array.foldl_toList]
  simp

theorem begin_run {P : Program} {l : Nat} {w : World} {fn : FuncId} {tmps : Array Value} {ps : Array Tmp} {as body : Code} {r : Nat} {p : Option Code} {L : Zf} {H : Heap} (m : Mem w ((l, YO fn tmps ps as body r .ready p) :: L) H) :
    ∃ w', (Instr.beginRound l).run P w = .ok () w' ∧ Mem w' ((l, YO fn tmps ps as body r .busy p) :: L) H := by
  have hb := m.own l _ (List.mem_cons.2 (.inl rfl))
  have hlt : l < w.heap.size := (Array.getElem?_eq_some_iff.1 hb).1
  refine ⟨{ w with heap := w.heap.setIfInBounds l (YO fn tmps ps as body r .busy p) }, ?_, Mem.set m (by simp [hlt]) (fun k hk => by simp [Ne.symm hk])⟩
  simp only [Instr.beginRound, Instr.getLoop, Sem.run_bind, run_getObj' (o := YO fn tmps ps as body r .ready p) rfl hb, Result.andThen_ok]
  simp only [YO, Sem.run_pure, Result.andThen_ok]
  rw [run_setObj' (o := YO fn tmps ps as body r .ready p) rfl hb]
  simp

theorem end_run {P : Program} {l : Nat} {w : World} {fn : FuncId} {tmps : Array Value} {ps : Array Tmp} {as body : Code} {r : Nat} {p : Option Code} {L : Zf} {H : Heap} {st : LoopState} (b : Bool) (m : Mem w ((l, YO fn tmps ps as body r st p) :: L) H) :
    ∃ w', (Instr.endRound l (jpOf b)).run P w = .ok (.bool (!b)) w' ∧ Mem w' ((l, YO fn tmps ps as body r (stOf b) (jpOf b)) :: L) H := by
  have hb := m.own l _ (List.mem_cons.2 (.inl rfl))
  have hlt : l < w.heap.size := (Array.getElem?_eq_some_iff.1 hb).1
  refine ⟨{ w with heap := w.heap.setIfInBounds l (YO fn tmps ps as body r (stOf b) (jpOf b)) }, ?_, Mem.set m (by simp [hlt]) (fun k hk => by simp [Ne.symm hk])⟩
  simp only [Instr.endRound, Instr.getLoop, Sem.run_bind, run_getObj' (o := YO fn tmps ps as body r st p) rfl hb, Result.andThen_ok]
  simp only [YO, Sem.run_pure, Result.andThen_ok]
  rw [run_setObj' (o := YO fn tmps ps as body r st p) rfl hb]
  cases b <;> simp [jpOf, stOf]

theorem endLoop_run {P : Program} {l : Nat} {w : World} {fn : FuncId} {tmps : Array Value} {ps : Array Tmp} {as body : Code} {r : Nat} {L : Zf} {H : Heap} (b : Bool) (m : Mem w ((l, YO fn tmps ps as body r (stOf b) (jpOf b)) :: L) H) :
    ∃ w', (Instr.endLoop l).run P w = .ok (jpOf b) w' ∧ Mem w' L H := by
  have hb := m.own l _ (List.mem_cons.2 (.inl rfl))
  have hlt : l < w.heap.size := (Array.getElem?_eq_some_iff.1 hb).1
  have m' := Mem.set m (w' := { w with heap := w.heap.setIfInBounds l (YO fn tmps ps as body r .exhausted (jpOf b)) }) (o' := YO fn tmps ps as body r .exhausted (jpOf b)) (by simp [hlt]) (fun k hk => by simp [Ne.symm hk])
  refine ⟨{ w with heap := w.heap.setIfInBounds l (YO fn tmps ps as body r .exhausted (jpOf b)) }, ?_, Mem.sub (R := [(l, YO fn tmps ps as body r .exhausted (jpOf b))]) m' (List.perm_append_comm (l₁ := [(l, YO fn tmps ps as body r .exhausted (jpOf b))]))⟩
  simp only [Instr.endLoop, Instr.getLoop, Sem.run_bind, run_getObj' (o := YO fn tmps ps as body r (stOf b) (jpOf b)) rfl hb, Result.andThen_ok]
  simp only [YO, Sem.run_pure, Result.andThen_ok]
  rw [if_neg (by cases b <;> simp [stOf])]
  simp only [Sem.run_bind]
  rw [run_setObj' (o := YO fn tmps ps as body r (stOf b) (jpOf b)) rfl hb]
  simp

section
variable {P : Program} {n : Nat} {H : Heap} {ρ : Nat → Value} {M : List Zf}

/-- What is asked of the body of a range over a function, in one round. -/
def RoundOk (P : Program) (n : Nat) (l : Nat) (h : Heap) (as body : Code) (ρ : Nat → Value) {σ : Type} (Y : σ → List Zf) (pend : σ → Bool) (s : σ) (post : σ → Prop) : Prop :=
  J ⟨P, some l, n⟩ h as ρ (Y s) ⟨fun ρ1 M1 => J ⟨P, some l, n⟩ h body ρ1 M1 ⟨fun _ M2 => ∃ s', pend s' = false ∧ Sub (Y s') M2 ∧ post s', fun _ M2 => ∃ s', pend s' = true ∧ Sub (Y s') M2 ∧ post s', []⟩, fun _ _ => False, []⟩

theorem RoundOk.mk {l : Nat} {h : Heap} {as body : Code} {σ : Type} {Y : σ → List Zf} {pend : σ → Bool} {s : σ} {post : σ → Prop} (x : J ⟨P, some l, n⟩ h as ρ (Y s) ⟨fun ρ1 M1 => J ⟨P, some l, n⟩ h body ρ1 M1 ⟨fun _ M2 => ∃ s', pend s' = false ∧ Sub (Y s') M2 ∧ post s', fun _ M2 => ∃ s', pend s' = true ∧ Sub (Y s') M2 ∧ post s', []⟩, fun _ _ => False, []⟩) : RoundOk P n l h as body ρ Y pend s post := x
theorem flatten_pick {i : Nat} {k : Zf} (hi : M[i]? = some k) : M.flatten.Perm ([k].flatten ++ (M.eraseIdx i).flatten) := by simpa using Z6 hi
theorem YT_round {l : Nat} {fn : FuncId} {ps : List Nat} {as body : Code} {r : Nat} {σ : Type} (Y : σ → List Zf) (pend : σ → Bool) {s : σ} {vs : List Value} {h : Heap} {post : σ → Prop} (hs : pend s = false) (hv : vs.length = ps.length)
    (hr : RoundOk P n l h as body (updz ρ (ps.zip vs)) Y pend s post) :
    YT P l ⟨vs⟩ [(l, YO fn (act n [] ρ).tmps ps.toArray as body r (stOf (pend s)) (jpOf (pend s))) :: (Y s).flatten] h
      (fun v N => ∃ s', v = .bool (!(pend s')) ∧ N = [(l, YO fn (act n [] ρ).tmps ps.toArray as body r (stOf (pend s')) (jpOf (pend s'))) :: (Y s').flatten] ∧ post s') := fun F w m => by
  rw [hs] at m
  simp only [List.flatten_cons, List.flatten_nil, List.append_nil, List.cons_append] at m
  have hb := m.own l _ (List.mem_cons.2 (.inl rfl))
  refine ⟨fn, _, as, body, yield_run hb hv, roundIn_of_wpIn trivial ?_⟩
  have hrec : ∀ (M1 : List Zf) (rs : List Nat) (w' : World) (o : Obj), Mem w' (M1.flatten ++ (dfb rs ++ ((l, o) :: F))) h → Mem w' ((l, o) :: (M1.flatten ++ (dfb rs ++ F))) h := fun M1 rs w' o hm => hm.perm (by
    rw [← List.append_assoc, ← List.append_assoc]; exact List.perm_middle)
  have hrec' : ∀ (M1 : List Zf) (rs : List Nat) (w' : World) (o : Obj), Mem w' ((l, o) :: (M1.flatten ++ (dfb rs ++ F))) h → Mem w' (M1.flatten ++ (dfb rs ++ ((l, o) :: F))) h := fun M1 rs w' o hm => hm.perm (by
    rw [← List.append_assoc, ← List.append_assoc]; exact List.perm_middle.symm)
  have m0 : Mem w ((Y s).flatten ++ (dfb [] ++ ((l, YO fn (act n [] ρ).tmps ps.toArray as body r .ready none) :: F))) h := hrec' (Y s) [] w _ m
  refine wpIn_mono (hr _ [] w m0) ?_
  rintro e a₁ w₁ ⟨rs₁, ρ₁, M₁, ha, hm₁, hq⟩
  cases e with
  | normal =>
    subst ha
    obtain ⟨w₂, hbr, hm₂⟩ := begin_run (P := P) (hrec M₁ rs₁ w₁ _ hm₁)
    refine ⟨w₂, hbr, ?_⟩
    refine wpIn_mono (hq _ rs₁ w₂ (hrec' M₁ rs₁ w₂ _ hm₂)) ?_
    rintro e₂ a₂ w₃ ⟨rs₂, ρ₂, M₂, ha₂, hm₃, hq₂⟩
    have fin : ∀ s', Sub (Y s') M₂ → post s' → ∃ v w', (Instr.endRound l (jpOf (pend s'))).run P w₃ = .ok v w' ∧ ∃ v' M', (Ending.returned v : Ending) = .returned v' ∧ Mem w' (M'.flatten ++ F) h ∧
        ∃ s', v' = .bool (!(pend s')) ∧ M' = [(l, YO fn (act n [] ρ).tmps ps.toArray as body r (stOf (pend s')) (jpOf (pend s'))) :: (Y s').flatten] ∧ post s' := fun s' hsub hp => by
      obtain ⟨w₄, he, hm₄⟩ := end_run (P := P) (pend s') (hrec M₂ rs₂ w₃ _ hm₃)
      refine ⟨_, w₄, he, _, _, rfl, ?_, s', rfl, rfl, hp⟩
      obtain ⟨R, hR⟩ := hsub
      refine Mem.sub (R := R ++ dfb rs₂) hm₄ ?_
      simp only [List.flatten_cons, List.flatten_nil, List.append_nil, List.cons_append]
      refine List.Perm.cons _ ((hR.append_right _).trans ?_)
      rw [List.append_assoc, List.append_assoc]
      refine List.Perm.append_left _ ?_
      rw [← List.append_assoc R]
      exact List.perm_append_comm
    cases e₂ with
    | normal => obtain ⟨s', h1, h2, h3⟩ := hq₂; have := fin s' h2 h3; rw [h1] at this; exact this
    | ret => obtain ⟨s', h1, h2, h3⟩ := hq₂; have := fin s' h2 h3; rw [h1] at this; exact this
    | exit i => obtain ⟨X, hX, _⟩ := hq₂; cases hX
    | goto t => exact hq₂.elim
    | panic ch => exact hq₂.elim
    | outgrown => exact hq₂.elim
  | ret => exact hq.elim
  | exit i => obtain ⟨X, hX, _⟩ := hq; cases hX
  | goto t => exact hq.elim
  | panic ch => exact hq.elim
  | outgrown => exact hq.elim

/-- **A range over a function**, at the outermost. -/
theorem J_range {g : Operand} {ps : List Nat} {as body : Code} {N R : YE} {E : List (Nat × YE)} {f : FuncId} {fv cv : List Value} {L : List Zf} {σ : Type} (Y : σ → List Zf) (pend : σ → Bool) (s0 : σ) (fin : σ → Prop)
    (hs0 : pend s0 = false) (hx : ev n ρ g = .func (.func f) ⟨fv⟩ ⟨cv⟩) (hcall : ∀ args w, (callFunc f args).run P w = .ok (.enter f args) w) (hM : M.flatten.Perm ((Y s0).flatten ++ L.flatten))
    (hit : ∀ (l : Nat) (yc : σ → Zf),
      (∀ (s : σ) (vs : List Value) (h : Heap) (post : σ → Prop), pend s = false → vs.length = ps.length → RoundOk P n l h as body (updz ρ (ps.zip vs)) Y pend s post → YT P l ⟨vs⟩ [yc s] h (fun v N => ∃ s', v = .bool (!(pend s')) ∧ N = [yc s'] ∧ post s')) →
      (∀ (i : Nat) k, L[i]? = some k → Has k (hu L.flatten H)) →
      CT P f ⟨fv ++ [.func (.yield l) ⟨[]⟩ ⟨[]⟩] ++ cv⟩ [yc s0] (hu L.flatten H) (fun _ N => ∃ s, N = [yc s] ∧ fin s))
    (hN : ∀ s, fin s → pend s = false → N ρ (Y s ++ L)) (hR : ∀ s, fin s → pend s = true → R ρ (Y s ++ L)) :
    J ⟨P, none, n⟩ H (.rangeFunc g ps.toArray as body) ρ M ⟨N, R, E⟩ := fun F rs w m => by
  refine wpIn_rangeFunc fun fn _ => ?_
  let r := w.heap.size
  let w0 : World := { w with heap := w.heap.push (.deferred (some [])) }
  let l := w0.heap.size
  let w1 : World := { w0 with heap := w0.heap.push (YO fn (act n [] ρ).tmps ps.toArray as body r .ready none) }
  have m1 : Mem w1 ((l, YO fn (act n [] ρ).tmps ps.toArray as body r .ready none) :: (r, .deferred (some [])) :: (M.flatten ++ (dfb rs ++ F))) H := Mem.push (w := w0) (w' := w1) (Mem.push (w := w) (w' := w0) m rfl) rfl
  let yc : σ → Zf := fun s => (l, YO fn (act n [] ρ).tmps ps.toArray as body r (stOf (pend s)) (jpOf (pend s))) :: (Y s).flatten
  have m2 : Mem w1 (L.flatten ++ ([yc s0].flatten ++ (dfb (r :: rs) ++ F))) H := by
    refine m1.perm ?_
    simp only [yc, hs0, List.flatten_cons, List.flatten_nil, List.append_nil, stOf, jpOf, cond_false, dfb, List.map_cons, List.cons_append]
    refine List.Perm.trans ?_ List.perm_middle.symm
    refine List.Perm.cons _ ?_
    refine List.Perm.trans (List.Perm.cons _ (hM.append_right _)) ?_
    refine List.Perm.trans ?_ (List.Perm.append_left _ List.perm_middle.symm)
    refine List.Perm.trans ?_ List.perm_middle.symm
    refine List.Perm.cons _ ?_
    rw [← List.append_assoc L.flatten]
    exact List.perm_append_comm.append_right _
  have hnd : (L.flatten.map (·.1)).Nodup := m2.left.nd
  have hsep : ∀ b o, (b, o) ∈ L.flatten → H b = none := m2.left.sep
  have hkh : ∀ (i : Nat) k, L[i]? = some k → Has k (hu L.flatten H) := fun i k hk b o hb => by
    have hmem : (b, o) ∈ L.flatten := List.mem_flatten.2 ⟨k, List.mem_of_getElem? hk, hb⟩
    rw [Y4, hsep b o hmem]; exact lookup_of_mem hnd hmem
  have hct := hit l yc (fun s vs h post hs hv hr => YT_round Y pend hs hv hr) hkh
  refine ⟨l, [{ target := .collected r, args := #[] }], w1, { target := .fn (.func f) ⟨cv⟩, args := ⟨fv⟩ ++ #[.func (.yield l) #[] #[]] }, w1, f, ⟨fv ++ [.func (.yield l) ⟨[]⟩ ⟨[]⟩] ++ cv⟩, w1, ?_, ?_, fun _ _ => trivial, ?_, fun h => by simp [Fw] at h, ?_⟩
  · simp [Instr.enterLoop, Fw, w1, w0, l, r, YO, act]
  · simp only [resolve, act_eval', hx]
    simp [Deferred.ofValue, ev]
  · simp only [invoke]
    rw [hcall]
    simp
  · refine (hct (dfb (r :: rs) ++ F) w1 m2.hu).mono fun e w₃ ⟨v, N', he, hm, s, hNs, hf⟩ => ?_
    subst he hNs
    have m3 : Mem w₃ ([yc s].flatten ++ (L.flatten ++ (dfb (r :: rs) ++ F))) H := Mem.unhu hnd hsep hm
    have m4 : Mem w₃ ((l, YO fn (act n [] ρ).tmps ps.toArray as body r (stOf (pend s)) (jpOf (pend s))) :: ((Y s ++ L).flatten ++ (dfb (r :: rs) ++ F))) H := by
      refine m3.perm ?_
      simp only [yc, List.flatten_cons, List.flatten_nil, List.append_nil, List.cons_append, List.flatten_append, List.append_assoc]
      exact List.Perm.refl _
    obtain ⟨w₄, he, hm₄⟩ := endLoop_run (P := P) (pend s) m4
    refine ⟨jpOf (pend s), w₄, he, ?_⟩
    cases hp : pend s with
    | false => exact ⟨r :: rs, ρ, Y s ++ L, rfl, hm₄, hN s hf hp⟩
    | true => exact wpIn_ret ⟨r :: rs, ρ, Y s ++ L, rfl, hm₄, hR s hf hp⟩
end
end Go.Proofs.YtfdeibbpfgolcaaGreat.Hs
/-! Layer 4 in plain Lean, third part: the program's errors of terms. No program here. -/
namespace Go.Proofs.YtfdeibbpfgolcaaGreat.Hs
open Go

def knownB (d n b : Int) : Bool := (decide (0 ≤ n)) && ((decide (n < b)) || (decide (n - b < d)))
def Ym (d m b k n : Int) (r : Sm) (l lc : Nat) : Int :=
  if k < 1 ∨ 12 < k then 3
  else if clashB (fN k) (fR k) (fC k) n r (lc : Int) = true then 7
  else if kidsB k (l : Int) = false ∨ 8 < (lc : Int) then 2
  else if k = 10 then (if n < 1 ∨ 5 < n then 3 else 0)
  else if k = 8 ∨ k = 11 then (if n < 0 ∨ 7 < n then 3 else 0)
  else if k = 1 then (if knownB d n b = true then 0 else 1)
  else if k = 7 then (if n < 0 ∨ m ≤ n then 1 else 0)
  else if k = 2 then (if n < 0 ∨ 1073741824 < n then 3 else 0) else 0
def pErrsC : List (Pt × Tm) → Int
  | [] => 0
  | c :: cs => if pErrs c.1 = 0 then pErrsC cs else pErrs c.1
mutual
def YS (d m : Int) : Int → Tm → Int
  | b, .mk k n r kids cases =>
    if Ym d m b k n r kids.length cases.length = 0 then
      (if pErrsC cases = 0 then (if tErrK d m b k 0 kids = 0 then tErrC d m b cases else tErrK d m b k 0 kids) else pErrsC cases)
    else Ym d m b k n r kids.length cases.length
def tErrK (d m : Int) : Int → Int → Nat → List Tm → Int
  | _, _, _, [] => 0
  | b, k, i, t :: l => if YS d m (b + more k i) t = 0 then tErrK d m b k (i + 1) l else YS d m (b + more k i) t
def tErrC (d m : Int) : Int → List (Pt × Tm) → Int
  | _, [] => 0
  | b, (p, t) :: l => if YS d m (b + (binds p : Int)) t = 0 then tErrC d m b l else YS d m (b + (binds p : Int)) t
end

/-! what a range over the parts of a term comes to -/
section
variable {σ : Type} (step : Tm → Int → σ → Bool × σ)
def yK (k : Int) : Nat → List Tm → σ → Bool × σ
  | _, [], s => (true, s)
  | i, x :: l, s => if (step x (more k i) s).1 = true then yK k (i + 1) l (step x (more k i) s).2 else (false, (step x (more k i) s).2)
def yC : List (Pt × Tm) → σ → σ
  | [], s => s
  | c :: l, s => if (step c.2 (binds c.1 : Int) s).1 = true then yC l (step c.2 (binds c.1 : Int) s).2 else (step c.2 (binds c.1 : Int) s).2
def yP (k : Int) (kids : List Tm) (cases : List (Pt × Tm)) (s : σ) : σ := if (yK step k 0 kids s).1 = true then yC step cases (yK step k 0 kids s).2 else (yK step k 0 kids s).2
end
theorem yK_err (d m b k : Int) (l : List Tm) : ∀ i, yK (fun x mo _ => (decide (YS d m (b + mo) x = 0), YS d m (b + mo) x)) k i l 0 = (decide (tErrK d m b k i l = 0), tErrK d m b k i l) := by
  induction l with
  | nil => intro i; simp [yK, tErrK]
  | cons x l ih =>
    intro i
    rw [yK, tErrK]
    by_cases h : YS d m (b + more k i) x = 0
    · simp only [h, decide_true, if_true]; exact ih _
    · simp [h]
theorem yC_err (d m b : Int) (l : List (Pt × Tm)) : yC (fun x mo _ => (decide (YS d m (b + mo) x = 0), YS d m (b + mo) x)) l 0 = tErrC d m b l := by
  induction l with
  | nil => simp [yC, tErrC]
  | cons c l ih =>
    obtain ⟨p, t⟩ := c
    rw [yC, tErrC]
    by_cases h : YS d m (b + (binds p : Int)) t = 0
    · simp only [h, decide_true, if_true]; exact ih
    · simp [h]
theorem yP_err (d m b k : Int) (kids : List Tm) (cases : List (Pt × Tm)) : yP (fun x mo _ => (decide (YS d m (b + mo) x = 0), YS d m (b + mo) x)) k kids cases 0 = if tErrK d m b k 0 kids = 0 then tErrC d m b cases else tErrK d m b k 0 kids := by
  rw [yP, yK_err]
  by_cases h : tErrK d m b k 0 kids = 0
  · simp only [h, decide_true, if_true]; exact yC_err d m b cases
  · simp [h]
end Go.Proofs.YtfdeibbpfgolcaaGreat.Hs
/-! Layer 4 in plain Lean, fourth part. No program here. -/
namespace Go.Proofs.YtfdeibbpfgolcaaGreat.Hs
open Go
theorem Sub.join3 {M R : List Zf} {a b c : Zf} (h : Sub (a :: b :: c :: R) M) : Sub ((a ++ (b ++ c)) :: R) M := h.flat (by simp)
theorem Sub.join4 {M R : List Zf} {a b c d : Zf} (h : Sub (a :: b :: c :: d :: R) M) : Sub ((a ++ (b ++ (c ++ d))) :: R) M := h.flat (by simp)
theorem ZE {v : Value} (h : v.oneCell' = true) : v.cells = ⟨[v]⟩ := by
  cases v <;> first | rfl | (cases h; done) | simp_all [Value.oneCell']
theorem len_sizePs (l : List Pt) : l.length ≤ ZH l := by
  induction l with
  | nil => simp
  | cons p l ih => rw [ZH, List.length_cons]; have := sizeP_pos p; omega
theorem len_sizeTs (l : List Tm) : l.length ≤ sizeTs l := by
  induction l with
  | nil => simp
  | cons p l ih => rw [sizeTs, List.length_cons]; have := sizeT_pos p; omega
theorem len_sizeCs (l : List (Pt × Tm)) : l.length ≤ sizeCs l := by
  induction l with
  | nil => simp
  | cons p l ih => obtain ⟨p, t⟩ := p; rw [sizeCs, List.length_cons]; have := sizeT_pos t; omega
def Yc (d m : Int) (t : Tm) : Int := if (cnT stL 1 t 0).1 = true then 11 else YS d m 0 t
def ZI : List Tm → Int
  | [] => 0
  | t :: l => if Yc 60 8 t = 0 then ZI l else Yc 60 8 t
mutual
def mapP (rf : Sm → Sm) : Pt → Pt
  | .mk k n r kids => .mk k n (rf r) (mapPs rf kids)
def mapPs (rf : Sm → Sm) : List Pt → List Pt
  | [] => []
  | p :: ps => mapP rf p :: mapPs rf ps
end
theorem mapPs_len (rf : Sm → Sm) (l : List Pt) : (mapPs rf l).length = l.length := by
  induction l with
  | nil => rfl
  | cons p l ih => simp [mapPs, ih]
theorem mapPs_take (rf : Sm → Sm) (l : List Pt) (j : Nat) (h : j < l.length) : mapPs rf (l.take (j + 1)) = mapPs rf (l.take j) ++ [mapP rf l[j]] := by
  induction l generalizing j with
  | nil => exact absurd h (by simp)
  | cons p l ih =>
    cases j with
    | zero => simp [mapPs]
    | succ j => simp only [List.take_succ_cons, mapPs, List.getElem_cons_succ]; rw [ih j (by simpa using h)]; rfl
end Go.Proofs.YtfdeibbpfgolcaaGreat.Hs
/-! Layer 4 in plain Lean, fifth part: terms moved. No program here. -/
namespace Go.Proofs.YtfdeibbpfgolcaaGreat.Hs
open Go
mutual
def vOK : Tm → Prop
  | .mk k n _ kids cases => (k = 1 → 0 ≤ n ∧ n ≤ 2000000) ∧ vOKs kids ∧ vOKc cases
def vOKs : List Tm → Prop
  | [] => True
  | t :: l => vOK t ∧ vOKs l
def vOKc : List (Pt × Tm) → Prop
  | [] => True
  | (_, t) :: l => vOK t ∧ vOKc l
end
theorem vOKs_mem {l : List Tm} (h : vOKs l) : ∀ t ∈ l, vOK t := by
  induction l with
  | nil => intro t ht; cases ht
  | cons x l ih =>
    rw [vOKs] at h
    intro t ht
    rcases List.mem_cons.1 ht with rfl | ht
    · exact h.1
    · exact ih h.2 t ht
theorem vOKc_mem {l : List (Pt × Tm)} (h : vOKc l) : ∀ c ∈ l, vOK c.2 := by
  induction l with
  | nil => intro t ht; cases ht
  | cons x l ih =>
    obtain ⟨p, x⟩ := x
    rw [vOKc] at h
    intro t ht
    rcases List.mem_cons.1 ht with rfl | ht
    · exact h.1
    · exact ih h.2 t ht
mutual
def mvT (dy fr : Int) : Int → Tm → Tm
  | b, .mk k n r kids cases => .mk k (if k = 1 ∧ fr ≤ n - b then n + dy else n) r (mvTs dy fr b k 0 kids) (mvCs dy fr b cases)
def mvTs (dy fr : Int) : Int → Int → Nat → List Tm → List Tm
  | _, _, _, [] => []
  | b, k, i, t :: l => mvT dy fr (b + more k i) t :: mvTs dy fr b k (i + 1) l
def mvCs (dy fr : Int) : Int → List (Pt × Tm) → List (Pt × Tm)
  | _, [] => []
  | b, (p, t) :: l => (p, mvT dy fr (b + (binds p : Int)) t) :: mvCs dy fr b l
end
end Go.Proofs.YtfdeibbpfgolcaaGreat.Hs
/-! Layer 4 in plain Lean, sixth part: a term put for a variable. No program here. -/
namespace Go.Proofs.YtfdeibbpfgolcaaGreat.Hs
open Go
end Go.Proofs.YtfdeibbpfgolcaaGreat.Hs
/-! Layer 4 in plain Lean, seventh part: which variables are free. No program here. -/
namespace Go.Proofs.YtfdeibbpfgolcaaGreat.Hs
open Go
/-- a row of bools -/
def bls (l : List Bool) : List Value := l.map Value.bool
theorem bls_get (l : List Bool) (i : Nat) (h : i < l.length) : (bls l)[i]? = some (.bool l[i]) := by simp [bls, h]
theorem bls_get1 {l : List Bool} {i : Nat} (h : i < l.length) : (bls l)[0 + i * 1]? = some (.bool (l.getD i false)) := by
  rw [Nat.zero_add, Nat.mul_one, bls_get l i h]; simp [h]
theorem bls_set (l : List Bool) (i : Nat) (b : Bool) (h : i < l.length) : spl (bls l) i [.bool b] = some (bls (l.set i b)) := by
  rw [spl_mk (by simp [bls]; omega)]
  congr 1
  simp only [bls, List.map_set]
  rw [List.set_eq_take_append_cons_drop, if_pos (by simpa using h)]
  simp
theorem bls_set1 {l : List Bool} {i : Nat} {b : Bool} (h : i < l.length) : spl (bls l) (0 + i * 1) [.bool b] = some (bls (l.set i b)) := by
  rw [Nat.zero_add, Nat.mul_one]; exact bls_set l i b h
end Go.Proofs.YtfdeibbpfgolcaaGreat.Hs
/-! Terms whose digests are small ones. Plain. -/
namespace Go.Proofs.YtfdeibbpfgolcaaGreat.Hs
open Go Go.Proofs
/-- a digest that is drawn, or none: one small byte -/
def lowS (r : Sm) : Prop := ∃ n : UInt8, n.toNat ≤ 100 ∧ r = zS.set 0 n
theorem lowS_z : lowS zS := ⟨0, by decide, by decide⟩
mutual
def lowP : Pt → Prop
  | .mk _ _ r kids => lowS r ∧ lowPs kids
def lowPs : List Pt → Prop
  | [] => True
  | p :: l => lowP p ∧ lowPs l
end
mutual
def YQ : Tm → Prop
  | .mk _ _ r kids cases => lowS r ∧ lowTs kids ∧ lowCs cases
def lowTs : List Tm → Prop
  | [] => True
  | t :: l => YQ t ∧ lowTs l
def lowCs : List (Pt × Tm) → Prop
  | [] => True
  | (p, t) :: l => lowP p ∧ YQ t ∧ lowCs l
end
theorem lowPs_app {a b : List Pt} : lowPs (a ++ b) ↔ lowPs a ∧ lowPs b := by
  induction a with
  | nil => simp [lowPs]
  | cons x a ih => rw [List.cons_append, lowPs, lowPs, ih, and_assoc]
theorem lowTs_app {a b : List Tm} : lowTs (a ++ b) ↔ lowTs a ∧ lowTs b := by
  induction a with
  | nil => simp [lowTs]
  | cons x a ih => rw [List.cons_append, lowTs, lowTs, ih, and_assoc]
theorem lowCs_app {a b : List (Pt × Tm)} : lowCs (a ++ b) ↔ lowCs a ∧ lowCs b := by
  induction a with
  | nil => simp [lowCs]
  | cons x a ih => obtain ⟨p, t⟩ := x; rw [List.cons_append, lowCs, lowCs, ih, and_assoc, and_assoc]
end Go.Proofs.YtfdeibbpfgolcaaGreat.Hs
/-! Regions whose order is drawn, in which several operations, one after the other, change one chunk. Generic: no program is named. -/
namespace Go.Proofs.YtfdeibbpfgolcaaGreat.Hs
open Go
section
variable {c : Cx} {H : Heap} {Q : Post}

theorem blt_iff {a b : Nat} : Nat.blt a b = true ↔ a < b := by simp [Nat.blt_eq]
def isIn (xs : List Nat) (i : Nat) : Bool := xs.any (fun j => Nat.beq j i)
theorem isIn_iff {xs : List Nat} {i : Nat} : isIn xs i = true ↔ i ∈ xs := by
  unfold isIn
  rw [List.any_eq_true]
  exact ⟨fun ⟨j, h1, h2⟩ => by rw [Nat.beq_eq] at h2; subst h2; exact h1, fun h => ⟨i, h, Nat.beq_refl i⟩⟩
/-- The chunk as the operations of xs, as far as they have come, have left it. -/
def basM (M₀ : List Zf) (p : Nat) (N : Nat → Zf) : List Nat → List Zf
  | [] => M₀
  | j :: xs => basM (M₀.set p (N j)) p N xs
theorem basM_snoc (M₀ : List Zf) (p : Nat) (N : Nat → Zf) (xs : List Nat) (i : Nat) : basM M₀ p N (xs ++ [i]) = M₀.set p (N i) := by
  induction xs generalizing M₀ with
  | nil => rfl
  | cons j xs ih => show basM (M₀.set p (N j)) p N (xs ++ [i]) = _; rw [ih, List.set_set]
theorem basM_off (M₀ : List Zf) (p : Nat) (N : Nat → Zf) (xs : List Nat) {j : Nat} (h : j ≠ p) : (basM M₀ p N xs)[j]? = M₀[j]? := by
  induction xs generalizing M₀ with
  | nil => rfl
  | cons i xs ih => show (basM (M₀.set p (N i)) p N xs)[j]? = _; rw [ih, List.getElem?_set_ne (Ne.symm h)]
theorem basM_congr {M₀ : List Zf} {p : Nat} {N N' : Nat → Zf} {xs : List Nat} (h : ∀ j ∈ xs, N j = N' j) : basM M₀ p N xs = basM M₀ p N' xs := by
  induction xs generalizing M₀ with
  | nil => rfl
  | cons i xs ih => show basM (M₀.set p (N i)) p N xs = basM (M₀.set p (N' i)) p N' xs; rw [h i (by simp), ih (fun j hj => h j (by simp [hj]))]
/-- The made chunks but those of xs. -/
def nox (xs : List Nat) (N : Nat → Zf) : Nat → Zf := fun j => cond (isIn xs j) [] (N j)

/-- What is asked of one operation, where those of xs change the chunk at place p one after the other. -/
def StepM (c : Cx) (H : Heap) (l : List Oper) (b : Array Nat) (k p : Nat) (xs : List Nat) (ρ₀ : Nat → Value) (M₀ : List Zf) (P : Nat → (Nat → Value) → (Nat → Zf) → Prop) (i : Nat) (o : Oper) : Prop :=
  ∀ ρ r N B, (∀ j, j ≠ p → B[j]? = M₀[j]?) → (isIn xs i = true → B = basM M₀ p N (xs.filter (fun j => Nat.blt j i))) → (xs.all (fun x => dep b x i) = true → B = M₀) →
    (∀ j, j < i → dep b i j = true → P j (rst undef b j r) (rst [] b j N)) →
    (∀ j p x, j < i → dep b i j = true → l[j]? = some p → p.dst = some x → ρ x = r j) →
    (∀ x, (l.take k).all (fun p => !(p.dst == some x)) = true → ρ x = ρ₀ x) →
    JL c H l.toArray [o] ρ (made k k (nox xs N) B) ⟨fun ρ' M' => ∃ v q, ρ' = YJ ρ o.dst v ∧ Sub (cond (isIn xs i) (made k k (nox xs N) (M₀.set p q)) (q :: made k k (nox xs N) B)) M' ∧
      P i (rst undef b i (fun j => cond (Nat.beq j i) v (r j))) (rst [] b i (fun j => cond (Nat.beq j i) q (N j))), fun _ _ => False, []⟩

theorem filter_lt {xs : List Nat} {S : Nat → Bool} {i : Nat} (h1 : ∀ j ∈ xs, j < i → S j = true) (h2 : ∀ j ∈ xs, i ≤ j → S j = false) : xs.filter S = xs.filter (fun j => Nat.blt j i) := by
  refine List.filter_congr fun j hj => ?_
  by_cases e : j < i
  · rw [h1 j hj e]; exact (blt_iff.2 e).symm
  · rw [h2 j hj (by omega)]
    exact (Bool.eq_false_iff.2 (fun h => e (blt_iff.1 h))).symm
theorem filter_le {xs : List Nat} (hs : xs.Pairwise (· < ·)) {i : Nat} (hi : i ∈ xs) : xs.filter (fun j => Nat.blt j (i + 1)) = xs.filter (fun j => Nat.blt j i) ++ [i] := by
  induction xs with
  | nil => cases hi
  | cons x xs ih =>
    rw [List.pairwise_cons] at hs
    rcases List.mem_cons.1 hi with rfl | hi
    · have e1 : Nat.blt i (i + 1) = true := blt_iff.2 (by omega)
      have e2 : Nat.blt i i = false := Bool.eq_false_iff.2 (fun h => by have := blt_iff.1 h; omega)
      have e3 : xs.filter (fun j => Nat.blt j (i + 1)) = [] := List.filter_eq_nil_iff.2 fun j hj h => by have := hs.1 j hj; have := blt_iff.1 h; omega
      have e4 : xs.filter (fun j => Nat.blt j i) = [] := List.filter_eq_nil_iff.2 fun j hj h => by have := hs.1 j hj; have := blt_iff.1 h; omega
      simp only [List.filter_cons, e1, e2, e3, e4]; simp
    · have hx := hs.1 i hi
      have e1 : Nat.blt x (i + 1) = true := blt_iff.2 (by omega)
      have e2 : Nat.blt x i = true := blt_iff.2 hx
      simp only [List.filter_cons, e1, e2, ih hs.2 hi]; simp

/-- **A region whose order is drawn**, in which the operations of xs, one after the other, exchange the chunk at place p. -/
theorem J_drawM {id : Nat} {l : List Oper} {ρ₀ : Nat → Value} {M₀ : List Zf} (hmix : c.P.follows .mixedOrders = true) (b : Array Nat) (k p : Nat) (xs : List Nat) (hk : Nat.ble k l.length = true) (hok : drawOk l b k = true)
    (hsort : xs.Pairwise (· < ·)) (hlt : xs.all (fun i => Nat.blt i k) = true) (hch : xs.all (fun i => xs.all (fun j => !(Nat.blt j i) || dep b i j)) = true)
    (P : Nat → (Nat → Value) → (Nat → Zf) → Prop) (hsteps : AllOps (StepM c H l b k p xs ρ₀ M₀ P) 0 k l)
    (htail : ∀ ρ r N, (∀ i, i < k → P i (rst undef b i r) (rst [] b i N)) →
      (∀ j p x, j < k → l[j]? = some p → p.dst = some x → ρ x = r j) →
      (∀ x, (l.take k).all (fun p => !(p.dst == some x)) = true → ρ x = ρ₀ x) →
      JL c H l.toArray (l.drop k) ρ (made k k (nox xs N) (basM M₀ p N xs)) Q) :
    J c H (.region id l.toArray true) ρ₀ M₀ Q := by
  have hlt' : ∀ i ∈ xs, i < k := fun i hi => blt_iff.1 (List.all_eq_true.1 hlt i hi)
  have hch' : ∀ i ∈ xs, ∀ j ∈ xs, j < i → dep b i j = true := fun i hi j hj h => by
    have := List.all_eq_true.1 (List.all_eq_true.1 hch i hi) j hj
    rw [show Nat.blt j i = true from blt_iff.2 h] at this
    simpa using this
  have hdst : ∀ i o, i < k → l[i]? = some o → ∀ j p x, j < i → l[j]? = some p → p.dst = some x → p.dst ≠ o.dst := fun i o hi ho j p x hj hp hx => by
    have hlt := (List.getElem?_eq_some_iff.1 ho).1
    have h := List.all_eq_true.1 hok i (List.mem_range.2 hlt)
    simp only [ho] at h
    unfold opOk at h
    simp only [Bool.and_eq_true, List.all_eq_true, Bool.or_eq_true, List.mem_range] at h
    rcases h.2.2.2.2 with h | h
    · have := Nat.le_of_ble_eq_true h; omega
    · have := h j hj
      rw [hp] at this
      simpa [hx] using this
  have hdep : ∀ i, i < k → ∀ j, j < l.length → dep b i j = true → j ≤ i := fun i hi j hj hd => by
    have hlt : i < l.length := by have := Nat.le_of_ble_eq_true hk; omega
    have h := List.all_eq_true.1 hok i (List.mem_range.2 hlt)
    simp only [List.getElem?_eq_getElem hlt] at h
    unfold opOk at h
    simp only [Bool.and_eq_true, List.all_eq_true, Bool.or_eq_true, List.mem_range] at h
    rcases h.2.1 j hj with h | h
    · rw [hd] at h; cases h
    · exact Nat.le_of_ble_eq_true h
  have hkl := Nat.le_of_ble_eq_true hk
  have hnot : ∀ x, (l.take k).all (fun p => !(p.dst == some x)) = true → ∀ j q, j < k → l[j]? = some q → q.dst ≠ some x := fun x hx j q hj hq e => by
    have hm : q ∈ l.take k := List.mem_of_getElem? (i := j) (by rw [List.getElem?_take, if_pos hj]; exact hq)
    have := List.all_eq_true.1 hx q hm
    rw [e] at this
    simp at this
  refine J_drawG hmix b k hk hok (fun S ρ M => ∃ r N, Sub (made k k (nox xs N) (basM M₀ p N (xs.filter S))) M ∧ (∀ i, i < k → S i = true → P i (rst undef b i r) (rst [] b i N)) ∧ (∀ i, i < k → S i = false → N i = []) ∧
    (∀ j p x, j < k → S j = true → l[j]? = some p → p.dst = some x → ρ x = r j) ∧
    (∀ x, (l.take k).all (fun p => !(p.dst == some x)) = true → ρ x = ρ₀ x)) ?_ ?_ ?_
  · intro S hS
    refine ⟨fun _ => undef, fun _ => [], ?_, ?_, fun _ _ _ => rfl, ?_, fun _ _ => rfl⟩
    rotate_left
    · intro i hi h; rw [hS i hi] at h; cases h
    · intro j p x hj h; rw [hS j hj] at h; cases h
    have hx : xs.filter S = [] := List.filter_eq_nil_iff.2 fun j hj h => by rw [hS j (hlt' j hj)] at h; cases h
    rw [hx]
    refine Sub.flat Sub.refl ?_
    unfold made
    rw [List.flatten_append]
    have : ((List.range k).map (fun j => cond (Nat.beq j k) ([] : Zf) (nox xs (fun _ => []) j))).flatten = [] := by
      rw [List.flatten_eq_nil_iff]
      intro x hx
      obtain ⟨j, _, rfl⟩ := List.mem_map.1 hx
      unfold nox
      cases Nat.beq j k <;> cases isIn xs j <;> rfl
    rw [this, List.nil_append]
    rfl
  · rintro S i o ρ M hik ho hin hid hcl ⟨r, N, hsub, h1, h2, h3, h4⟩
    have hst : StepM c H l b k p xs ρ₀ M₀ P i o := by have := hsteps.get i o hik ho; rwa [Nat.zero_add] at this
    have hfil : isIn xs i = true → xs.filter S = xs.filter (fun j => Nat.blt j i) := fun hx => by
      have hm := isIn_iff.1 hx
      refine filter_lt (fun j hj hji => hid j hji (hch' i hm j hj hji)) fun j hj hij => ?_
      rcases Nat.lt_or_ge i j with h | h
      · cases hs : S j with
        | false => rfl
        | true => have := hcl j i (hlt' j hj) hs h (hch' j hj i hm h); rw [hin] at this; cases this
      · have : j = i := by omega
        subst this; exact hin
    refine Zw hsub (JL1_mono (hst ρ r N _ (fun j hj => basM_off _ _ _ _ hj) (fun hx => by rw [hfil hx]) (fun ha => by
      have e1 : xs.filter S = [] := List.filter_eq_nil_iff.2 fun x hx hs => by
        have hd := List.all_eq_true.1 ha x hx
        have hle := hdep x (hlt' x hx) i (by omega) hd
        by_cases e : i = x
        · subst e; rw [hin] at hs; cases hs
        · have := hcl x i (hlt' x hx) hs (by omega) hd
          rw [hin] at this; cases this
      rw [e1]; rfl) (fun j hj hd => h1 j (by omega) (hid j hj hd)) (fun j p x hj hd hp hx => h3 j p x (by omega) (hid j hj hd) hp hx) h4) ?_)
    rintro ρ' M' ⟨v, n, rfl, hs2, hp⟩ S' hS'
    have hρ3 : ∀ j p x, j < k → S' j = true → l[j]? = some p → p.dst = some x → YJ ρ o.dst v x = cond (Nat.beq j i) v (r j) := fun j p x hj hsj hpj hx => by
      rw [hS'] at hsj
      by_cases e : j = i
      · subst e
        rw [ho] at hpj; cases hpj
        rw [hx]
        show upd ρ x v x = cond (Nat.beq j j) v (r j)
        rw [upd_self, Nat.beq_refl]; rfl
      · rw [ZD e] at hsj ⊢
        have hne : p.dst ≠ o.dst := by
          by_cases hlt : j < i
          · exact hdst i o hik ho j p x hlt hpj hx
          · cases hod : o.dst with
            | none => rw [hx]; simp
            | some y => rw [← hod]; exact Ne.symm (hdst j p hj hpj i o y (by omega) ho hod)
        have : YJ ρ o.dst v x = ρ x := by
          cases hod : o.dst with
          | none => rfl
          | some y => exact upd_ne ρ v (fun e' => hne (by rw [hx, hod, e']))
        rw [this]; exact h3 j p x hj hsj hpj hx
    have hρ4 : ∀ x, (l.take k).all (fun p => !(p.dst == some x)) = true → YJ ρ o.dst v x = ρ₀ x := fun x hx => by
      have : YJ ρ o.dst v x = ρ x := by
        cases hod : o.dst with
        | none => rfl
        | some y => exact upd_ne ρ v (fun e' => hnot x hx i o hik ho (by rw [hod, e']))
      rw [this]; exact h4 x hx
    have hfresh : ∀ j, j < k → S j = true → ∀ j₂, dep b j j₂ = true → j₂ ≠ i := fun j hj hsj j₂ hd e => by
      subst e
      have h5 := hdep j hj j₂ (by omega) hd
      by_cases e2 : j₂ = j
      · subst e2; rw [hin] at hsj; cases hsj
      · have := hcl j j₂ hj hsj (by omega) hd
        rw [hin] at this; cases this
    have hPs : ∀ j, j < k → S' j = true → P j (rst undef b j (fun j => cond (Nat.beq j i) v (r j))) (rst [] b j (fun j => cond (Nat.beq j i) n (N j))) := fun j hj hsj => by
      rw [hS'] at hsj
      by_cases e : j = i
      · subst e; exact hp
      · rw [ZD e] at hsj
        rw [rst_congr' (r' := r) fun j₂ hd => by rw [ZD (hfresh j hj hsj j₂ hd)]; rfl, rst_congr' (r' := N) fun j₂ hd => by rw [ZD (hfresh j hj hsj j₂ hd)]; rfl]
        exact h1 j hj hsj
    have hNs : ∀ j, j < k → S' j = false → cond (Nat.beq j i) n (N j) = [] := fun j hj hsj => by
      rw [hS'] at hsj
      by_cases e : j = i
      · subst e; rw [Nat.beq_refl] at hsj; cases hsj
      · rw [ZD e] at hsj ⊢; exact h2 j hj hsj
    refine ⟨fun j => cond (Nat.beq j i) v (r j), fun j => cond (Nat.beq j i) n (N j), ?_, hPs, hNs, hρ3, hρ4⟩
    cases hx : isIn xs i with
    | true =>
      rw [hx] at hs2
      simp only [cond_true] at hs2
      have hm := isIn_iff.1 hx
      have e1 : xs.filter S' = xs.filter (fun j => Nat.blt j i) ++ [i] := by
        rw [← filter_le hsort hm]
        refine List.filter_congr fun j hj => ?_
        rw [hS']
        by_cases e : j = i
        · subst e; rw [Nat.beq_refl]; exact (blt_iff.2 (by omega)).symm
        · rw [ZD e]
          show S j = _
          have hS : xs.filter S = xs.filter (fun j => Nat.blt j i) := hfil hx
          by_cases h : j < i
          · rw [hid j h (hch' i hm j hj h)]; exact (blt_iff.2 (by omega)).symm
          · have : S j = false := by
              cases hs : S j with
              | false => rfl
              | true => have := hcl j i (hlt' j hj) hs (by omega) (hch' j hj i hm (by omega)); rw [hin] at this; cases this
            rw [this]
            exact (Bool.eq_false_iff.2 (fun h' => by have := blt_iff.1 h'; omega)).symm
      rw [e1, basM_snoc]
      show Sub (made k k (nox xs (fun j => cond (Nat.beq j i) n (N j))) (M₀.set p (cond (Nat.beq i i) n (N i)))) M'
      rw [Nat.beq_refl, cond_true]
      have e2 : nox xs (fun j => cond (Nat.beq j i) n (N j)) = nox xs N := by
        funext j
        unfold nox
        by_cases e : j = i
        · subst e; rw [hx]; rfl
        · show cond (isIn xs j) [] (cond (Nat.beq j i) n (N j)) = _
          rw [ZD e]; rfl
      rw [e2]; exact hs2
    | false =>
      rw [hx] at hs2
      simp only [cond_false] at hs2
      have hm : i ∉ xs := fun h => by rw [isIn_iff.2 h] at hx; cases hx
      have e1 : xs.filter S' = xs.filter S := List.filter_congr fun j hj => by
        have hne : j ≠ i := fun e => by subst e; exact hm hj
        rw [hS', ZD hne]; rfl
      rw [e1, basM_congr (N' := N) (fun j hj => by
        have : j ≠ i := fun e => by subst e; exact hm (List.mem_filter.1 hj).1
        rw [ZD this]; rfl)]
      have e2 : nox xs (fun j => cond (Nat.beq j i) n (N j)) = fun j => cond (Nat.beq j i) n (nox xs N j) := by
        funext j
        show cond (isIn xs j) [] (cond (Nat.beq j i) n (N j)) = cond (Nat.beq j i) n (cond (isIn xs j) [] (N j))
        by_cases e : j = i
        · subst e; rw [hx, Nat.beq_refl]; rfl
        · rw [ZD e]; rfl
      rw [e2]
      refine hs2.perm (made_set hik (by omega) ?_)
      unfold nox
      rw [hx]; exact h2 i hik hin
  · rintro S ρ M hS ⟨r, N, hsub, h1, h2, h3, h4⟩
    have e1 : xs.filter S = xs := List.filter_eq_self.2 fun j hj => hS j (hlt' j hj)
    rw [e1] at hsub
    exact Zw hsub (htail ρ r N (fun i hi => h1 i hi (hS i hi)) (fun j p x hj hp hx => h3 j p x hj (hS j hj) hp hx) h4)
end
end Go.Proofs.YtfdeibbpfgolcaaGreat.Hs
