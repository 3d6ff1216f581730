import Derived.Test.YtjhenmdcnbaobaaGreatFreei
import Derived.Lib.SlicesCompact
/-! What is free in a term with another one put into it; lists of numbers in order. -/
namespace Go.Proofs.YtjhenmdcnbaobaaGreat.Hs
open Go Go.Proofs
theorem lt_unique : ∀ {a b : List Int}, a.Pairwise (· < ·) → b.Pairwise (· < ·) → (∀ x, x ∈ a ↔ x ∈ b) → a = b := by
  intro a
  induction a with
  | nil =>
    intro b _ _ h
    cases b with
    | nil => rfl
    | cons y b => exact absurd ((h y).2 (by simp)) (by simp)
  | cons x a ih =>
    intro b ha hb h
    cases b with
    | nil => exact absurd ((h x).1 (by simp)) (by simp)
    | cons y b =>
      rw [List.pairwise_cons] at ha hb
      have e : x = y := by
        have h1 := (h x).1 (by simp)
        have h2 := (h y).2 (by simp)
        rcases List.mem_cons.1 h1 with h1 | h1
        · exact h1
        · rcases List.mem_cons.1 h2 with h2 | h2
          · exact h2.symm
          · have := hb.1 x h1; have := ha.1 y h2; omega
      subst e
      congr 1
      refine ih ha.2 hb.2 fun z => ⟨fun hz => ?_, fun hz => ?_⟩
      · have h1 := (h z).1 (by simp [hz])
        have h2 := ha.1 z hz
        rcases List.mem_cons.1 h1 with h1 | h1
        · omega
        · exact h1
      · have h1 := (h z).2 (by simp [hz])
        have h2 := hb.1 z hz
        rcases List.mem_cons.1 h1 with h1 | h1
        · omega
        · exact h1
theorem upTo_lt (f : List Bool) (j : Nat) : (upTo f j).Pairwise (· < ·) := by
  unfold upTo
  rw [List.pairwise_map]
  have h : (List.range j).Pairwise (· < ·) := List.pairwise_lt_range
  exact (h.filter _).imp (by intro a b h; omega)
theorem freeP_lt (t : Tm) : (Zy t).Pairwise (· < ·) := upTo_lt _ _
/-! numbers in order, each once -/
def inOrd (zs : List Int) : Prop := ∀ i j, i ≤ j → j < zs.length → zs.toArray[i]! ≤ zs.toArray[j]!
theorem ord_of {L : List Int} (h : L.Pairwise (fun x y => decide (x ≤ y) = true)) : inOrd L := by
  intro i j hij hj
  by_cases e : i = j
  · subst e; exact Int.le_refl _
  · have := (List.pairwise_iff_getElem.1 h) i j (by omega) hj (by omega)
    have hz : ∀ i (h : i < L.length), L.toArray[i]! = L[i] := by intro i h; simp [h]
    rw [hz i (by omega), hz j hj]
    exact of_decide_eq_true this
theorem sort_ord (zs : List Int) : inOrd (zs.mergeSort fun x y => decide (x ≤ y)) :=
  ord_of (List.pairwise_mergeSort (le := fun x y : Int => decide (x ≤ y)) (by intro a b c; simp; omega) (by intro a b; simp; omega) zs)
theorem comp_lt {zs : List Int} (h : inOrd zs) : ∀ m, m ≤ zs.length → (Lib.compactUpTo zs.toArray m).Pairwise (· < ·) ∧ ∀ x ∈ Lib.compactUpTo zs.toArray m, ∃ i, i < m ∧ x = zs.toArray[i]! := by
  intro m
  induction m with
  | zero => intro _; simp [Lib.compactUpTo]
  | succ m ih =>
    intro hm
    obtain ⟨h1, h2⟩ := ih (by omega)
    rw [Lib.compactUpTo_succ]
    split
    · rename_i hk
      refine ⟨?_, ?_⟩
      · rw [List.pairwise_append]
        refine ⟨h1, by simp, ?_⟩
        intro a ha b hb
        simp only [List.mem_singleton] at hb
        subst hb
        obtain ⟨i, hi, rfl⟩ := h2 a ha
        have e1 := h i (m - 1) (by omega) (by omega)
        have e2 := h (m - 1) m (by omega) (by omega)
        have e3 : ¬ zs.toArray[m]! = zs.toArray[m - 1]! := by
          unfold Lib.keeps at hk
          simp only [decide_eq_true_eq] at hk
          rcases hk with hk | hk
          · omega
          · exact hk
        omega
      · intro x hx
        rcases List.mem_append.1 hx with hx | hx
        · obtain ⟨i, hi, e⟩ := h2 x hx; exact ⟨i, by omega, e⟩
        · simp only [List.mem_singleton] at hx; exact ⟨m, by omega, hx⟩
    · rw [List.append_nil]
      exact ⟨h1, fun x hx => by obtain ⟨i, hi, e⟩ := h2 x hx; exact ⟨i, by omega, e⟩⟩
theorem comp_mem (zs : List Int) : ∀ j, j < zs.length → zs.toArray[j]! ∈ Lib.compact zs := by
  intro j
  induction j with
  | zero => intro h; unfold Lib.compact Lib.compactUpTo; exact List.mem_map.2 ⟨0, List.mem_filter.2 ⟨List.mem_range.2 h, by simp [Lib.keeps]⟩, rfl⟩
  | succ j ih =>
    intro h
    by_cases e : zs.toArray[j + 1]! = zs.toArray[j]!
    · rw [e]; exact ih (by omega)
    · unfold Lib.compact Lib.compactUpTo
      refine List.mem_map.2 ⟨j + 1, List.mem_filter.2 ⟨List.mem_range.2 h, ?_⟩, rfl⟩
      unfold Lib.keeps
      simp only [decide_eq_true_eq]
      right; exact e
theorem comp_iff (zs : List Int) (x : Int) : x ∈ Lib.compact zs ↔ x ∈ zs := by
  constructor
  · intro h
    unfold Lib.compact Lib.compactUpTo at h
    obtain ⟨i, hi, rfl⟩ := List.mem_map.1 h
    have := List.mem_range.1 (List.mem_filter.1 hi).1
    simp [this]
  · intro h
    obtain ⟨j, hj, rfl⟩ := List.getElem_of_mem h
    have := comp_mem zs j hj
    simpa [hj] using this
/-- numbers of which the same are met, in order and each once -/
theorem once_eq {c W : List Int} (hc : c.Pairwise (· < ·)) (h : ∀ x, x ∈ c ↔ x ∈ W) : Lib.compact (W.mergeSort fun x y => decide (x ≤ y)) = c := by
  refine lt_unique (comp_lt (sort_ord W) _ (Nat.le_refl _)).1 hc fun x => ?_
  rw [comp_iff, List.mem_mergeSort]
  exact (h x).symm
/-! what is free, with another term put in -/
theorem mq_iff {f : Int → Int → Tm} {Q Q' : Int → Prop} {b0 : Int} (hb0 : 0 ≤ b0) (H : ∀ n c, 0 ≤ n → 0 ≤ c → (Z8 Q' (b0 + c) (f n c) ↔ Q n)) (t : Tm) : tidy t → ∀ c, 0 ≤ c → (Z8 Q' (b0 + c) (mq f c t) ↔ Z8 Q c t) := by
  induction t using Tm.ind with
  | h k n r kids cases ih ih' =>
    intro ht c hc
    rw [tidy] at ht
    obtain ⟨h1, h2, h3⟩ := ht
    have hK : ∀ (l : List Tm), tidys l → (∀ t ∈ l, tidy t → ∀ c, 0 ≤ c → (Z8 Q' (b0 + c) (mq f c t) ↔ Z8 Q c t)) → ∀ i, (Yd Q' (b0 + c) k i (mqs f c k i l) ↔ Yd Q c k i l) := by
      intro l
      induction l with
      | nil => intro _ _ i; rw [mqs, Yd, Yd]
      | cons t l ihl =>
        intro ht hl i
        rw [tidys] at ht
        have := more_le k i
        rw [mqs, Yd, Yd, show b0 + c + more k i = b0 + (c + more k i) from by omega, hl t (by simp) ht.1 _ (by omega), ihl ht.2 (fun x hx => hl x (by simp [hx]))]
    have hC : ∀ (l : List (Pt × Tm)), tidyc l → (∀ t ∈ l, tidy t.2 → ∀ c, 0 ≤ c → (Z8 Q' (b0 + c) (mq f c t.2) ↔ Z8 Q c t.2)) → (Ym Q' (b0 + c) (mqc f c l) ↔ Ym Q c l) := by
      intro l
      induction l with
      | nil => intro _ _; rw [mqc, Ym, Ym]
      | cons t l ihl =>
        obtain ⟨p, t⟩ := t
        intro ht hl
        rw [tidyc] at ht
        rw [mqc, Ym, Ym, show b0 + c + (binds p : Int) = b0 + (c + (binds p : Int)) from by omega, hl (p, t) (by simp) ht.1 _ (by omega), ihl ht.2 (fun x hx => hl x (by simp [hx]))]
    rw [mq]
    by_cases hk : k = 1 ∧ c ≤ n
    · rw [if_pos hk, H _ _ (by omega) hc, Z8]
      obtain ⟨e1, e2, e3⟩ := h1 hk.1
      subst e2 e3
      rw [Yd, Ym]
      exact ⟨fun q => ⟨fun _ => q, trivial, trivial⟩, fun q => q.1 hk⟩
    · rw [if_neg hk, Z8, Z8, hK kids h2 ih 0, hC cases h3 ih']
      constructor
      · intro q; exact ⟨fun z => absurd z hk, q.2⟩
      · intro q; exact ⟨fun z => absurd ⟨z.1, by omega⟩ hk, q.2⟩
theorem allV_var_iff {Q : Int → Prop} {n c : Int} {r : Sm} (h : c ≤ n) : Z8 Q c (.mk 1 n r [] []) ↔ Q (n - c) := by
  rw [Z8, Yd, Ym]; exact ⟨fun q => q.1 ⟨rfl, h⟩, fun q => ⟨fun _ => q, trivial, trivial⟩⟩
theorem sh_iff {Q : Int → Prop} {b : Int} (hb : 0 ≤ b) {u : Tm} (hu : tidy u) : Z8 Q b (shT b 0 u) ↔ Z8 Q 0 u := by
  rw [shT_mq]
  have := mq_iff (f := shv b 0) (Q := Q) (Q' := Q) hb (fun n c hn hc => by
    unfold shv
    rw [if_pos hn, allV_var_iff (by omega), show n + b + c - (b + c) = n from by omega]) u hu 0 (Int.le_refl 0)
  rw [Int.add_zero] at this
  exact this
theorem sb_iff {Q : Int → Prop} {n : Int} (hn : 0 ≤ n) {t u : Tm} (ht : tidy t) (hu : tidy u) : Z8 Q 0 (sbT n u t) ↔ Z8 (fun k => if k = n then Z8 Q 0 u else Q (if n < k then k - 1 else k)) 0 t := by
  rw [sbT_mq]
  have := mq_iff (f := sbv n u) (Q := fun k => if k = n then Z8 Q 0 u else Q (if n < k then k - 1 else k)) (Q' := Q) (b0 := 0) (Int.le_refl 0) (fun k c hk hc => by
    unfold sbv
    rw [Int.zero_add]
    by_cases e : k = n
    · rw [if_pos e, if_pos e]; exact sh_iff hc hu
    · rw [if_neg e, if_neg e]
      by_cases e2 : n < k
      · rw [if_pos e2, allV_var_iff (by omega), show k - 1 + c - c = k - 1 from by omega]
      · rw [if_neg e2, allV_var_iff (by omega), show k + c - c = k from by omega]) t ht 0 (Int.le_refl 0)
  rw [Int.zero_add] at this
  exact this
open Classical in
theorem all_iff {d m : Int} (hd : d ≤ 60) {t : Tm} (h : ZC d m 0 t = 0) (Q : Int → Prop) : Z8 Q 0 t ↔ ∀ y ∈ Zy t, Q y := by
  constructor
  · intro q; exact freeP_all q
  · intro q
    have h1 := free_allV (p := fun x => decide (Q x)) (right_ok d m t 0 h).1 (allV_mono (fun x hx => ⟨hx.1, by omega⟩) t 0 (err_all t 0 (Int.le_refl 0) h)) (List.all_eq_true.2 fun x hx => decide_eq_true (q x hx))
    exact allV_mono (fun x hx => of_decide_eq_true hx) t 0 h1
theorem free_put {d m n : Int} (hd : d ≤ 60) (hn : 0 ≤ n) (hnd : n < d) {t u : Tm} (h : ZC d m 0 t = 0) (hu : ZC (d - 1) m 0 u = 0) (x : Int) :
    x ∈ Zy (sbT n u t) ↔ ∃ y ∈ Zy t, (y < n ∧ x = y) ∨ (n < y ∧ x = y - 1) ∨ (y = n ∧ x ∈ Zy u) := by
  have hp := sb_err hn hnd h hu
  have h1 := all_iff (Q := fun y => ¬ y = x) (by omega) hp
  rw [sb_iff hn (right_ok d m t 0 h).1 (right_ok _ m u 0 hu).1, all_iff hd h] at h1
  have h2 := all_iff (Q := fun y => ¬ y = x) (by omega) hu
  constructor
  · intro hx
    apply Classical.byContradiction
    intro hne
    have := h1.1 (fun y hy => by
      by_cases e : y = n
      · rw [if_pos e, h2]
        intro z hz e2
        subst e2
        exact hne ⟨y, hy, .inr (.inr ⟨e, hz⟩)⟩
      · rw [if_neg e]
        intro e2
        split at e2
        · exact hne ⟨y, hy, .inr (.inl ⟨by omega, by omega⟩)⟩
        · exact hne ⟨y, hy, .inl ⟨by omega, by omega⟩⟩) x hx
    exact this rfl
  · rintro ⟨y, hy, hyx⟩
    apply Classical.byContradiction
    intro hne
    have := h1.2 (fun z hz e => hne (e ▸ hz)) y hy
    rcases hyx with ⟨e1, e2⟩ | ⟨e1, e2⟩ | ⟨e1, e2⟩
    · rw [if_neg (by omega), if_neg (by omega)] at this; exact this e2.symm
    · rw [if_neg (by omega), if_pos e1] at this; exact this e2.symm
    · rw [if_pos e1, h2] at this; exact this x e2 rfl
/-- what is gathered: what was free, but for that variable, and what is free in the other one, if it was -/
def Yh (n : Int) : List Int → List Int
  | [] => []
  | k :: l => (if k < n then [k] else if n < k then [k - 1] else []) ++ Yh n l
theorem wantF_mem {n x : Int} : ∀ {l : List Int}, x ∈ Yh n l ↔ ∃ y ∈ l, (y < n ∧ x = y) ∨ (n < y ∧ x = y - 1) := by
  intro l
  induction l with
  | nil => rw [Yh]; simp
  | cons k l ih =>
    rw [Yh, List.mem_append, ih]
    constructor
    · rintro (h | ⟨y, hy, h⟩)
      · refine ⟨k, by simp, ?_⟩
        split at h
        · simp at h; exact .inl ⟨by assumption, h⟩
        · split at h
          · simp at h; exact .inr ⟨by assumption, h⟩
          · cases h
      · exact ⟨y, by simp [hy], h⟩
    · rintro ⟨y, hy, h⟩
      rcases List.mem_cons.1 hy with rfl | hy
      · left
        rcases h with ⟨h1, h2⟩ | ⟨h1, h2⟩
        · rw [if_pos h1]; simp [h2]
        · rw [if_neg (by omega), if_pos h1]; simp [h2]
      · exact .inr ⟨y, hy, h⟩
theorem wantF_len (n : Int) (l : List Int) : (Yh n l).length ≤ l.length := by
  induction l with
  | nil => rw [Yh]; simp
  | cons k l ih =>
    rw [Yh, List.length_append, List.length_cons]
    split
    · simp; omega
    · split
      · simp; omega
      · simp; omega
theorem want_eq {d m n : Int} (hd : d ≤ 60) (hn : 0 ≤ n) (hnd : n < d) {t u : Tm} (h : ZC d m 0 t = 0) (hu : ZC (d - 1) m 0 u = 0) :
    Lib.compact ((Yh n (Zy t) ++ (if n ∈ Zy t then Zy u else [])).mergeSort fun x y => decide (x ≤ y)) = Zy (sbT n u t) := by
  refine once_eq (freeP_lt _) fun x => ?_
  rw [free_put hd hn hnd h hu, List.mem_append, wantF_mem]
  constructor
  · rintro ⟨y, hy, h1 | h1 | ⟨h1, h2⟩⟩
    · exact .inl ⟨y, hy, .inl h1⟩
    · exact .inl ⟨y, hy, .inr h1⟩
    · subst h1; rw [if_pos hy]; exact .inr h2
  · rintro (⟨y, hy, h1 | h1⟩ | h1)
    · exact ⟨y, hy, .inl h1⟩
    · exact ⟨y, hy, .inr (.inl h1)⟩
    · split at h1
      · rename_i h2; exact ⟨n, h2, .inr (.inr ⟨rfl, h1⟩)⟩
      · cases h1
/-! what is met from node to node -/
theorem metF_len {l : List Int} (hn : l.Nodup) (hb : ∀ x ∈ l, 0 ≤ x ∧ x < 60) : (upTo (metF l) 60).length = l.length := by
  have h1 : (upTo (metF l) 60).Nodup := (upTo_lt _ _).imp (by intro a b h; omega)
  have h2 : ∀ x, x ∈ upTo (metF l) 60 ↔ x ∈ l := by
    intro x
    unfold upTo
    rw [List.mem_map]
    constructor
    · rintro ⟨i, hi, rfl⟩
      obtain ⟨h1, h2⟩ := List.mem_filter.1 hi
      rw [metF_get _ _ (by simpa using h1)] at h2
      exact of_decide_eq_true h2
    · intro hx
      have := hb x hx
      refine ⟨x.toNat, List.mem_filter.2 ⟨List.mem_range.2 (by omega), ?_⟩, by omega⟩
      rw [metF_get _ _ (by omega), decide_eq_true_iff, Int.toNat_of_nonneg this.1]; exact hx
  exact (List.perm_ext_iff_of_nodup h1 hn |>.2 h2).length_eq
end Go.Proofs.YtjhenmdcnbaobaaGreat.Hs
/-! Copies of slices of numbers. -/
namespace Go.Proofs.YtjhenmdcnbaobaaGreat.Hs
open Go Go.Proofs
set_option maxRecDepth 100000
/-- A slice of bytes, as cells read. -/
def RB (_ : Heap) (cs : List Value) (n : Int) : Prop := cs = [.int .u8 n]
theorem RBs.mono {h h' : Heap} (hh : Hle h h') {v : Value} {l : List Int} (q : Hs.rdS RB 1 h v l) : Hs.rdS RB 1 h' v l := rdS.mono q hh fun _ _ _ e => e
def byts (l : List Int) : List (List Value) := l.map fun n => [.int .u8 n]
theorem byts_len (l : List Int) : (byts l).length = l.length := by simp [byts]
theorem byts_len1 (l : List Int) : ∀ e ∈ byts l, e.length = 1 := by
  intro e he; obtain ⟨x, _, rfl⟩ := List.mem_map.1 he; rfl
theorem byts_ok (l : List Int) : ∀ e ∈ byts l, okc e := by
  intro e he v hv; obtain ⟨x, _, rfl⟩ := List.mem_map.1 he; simp only [List.mem_singleton] at hv; subst hv; rfl
theorem ints_len1 (l : List Int) : ∀ e ∈ Z3 l, e.length = 1 := by
  intro e he; obtain ⟨x, _, rfl⟩ := List.mem_map.1 he; rfl
theorem ints_ok (l : List Int) : ∀ e ∈ Z3 l, okc e := by
  intro e he v hv; obtain ⟨x, _, rfl⟩ := List.mem_map.1 he; simp only [List.mem_singleton] at hv; subst hv; rfl
theorem num_src {P : Program} {H : Heap} {v : Value} {l : List Int} {E : Heap → List Value → Int → Prop} {f : Int → Value} (hE : ∀ h cs x, E h cs x → cs = [f x]) (h : Hs.rdS E 1 H v l) : ∀ w L, Mem w L H → Src P 1 w v l.length (l.map fun n => [f n]).flatten := by
  obtain ⟨es, e1, e2, e3, e4⟩ := rdS.src (P := P) h
  have : es = l.map fun n => [f n] := by
    apply List.ext_getElem
    · rw [e1, List.length_map]
    · intro i h1 h2
      have := hE _ _ _ (e2 i h1 (by omega))
      rw [this, List.getElem_map]
  subst this
  intro w L m
  exact e4 w L H (Hle.refl _) m
theorem byts_src {P : Program} {H : Heap} {v : Value} {l : List Int} (h : Hs.rdS RB 1 H v l) : ∀ w L, Mem w L H → Src P 1 w v l.length (byts l).flatten := num_src (fun _ _ _ e => e) h
theorem own_byts {T : TypeId} {v : Value} {l : List Int} {k : Zf} {h : Heap} (o : Own T 1 v (byts l) k) (hn : l.length ≤ 9223372036854775807) (hk : Has k h) : Hs.rdS RB 1 h v l :=
  o.rdS (byts_len l).symm hn hk fun i h1 h2 => by simp [byts, RB]
/-- What is none is empty. -/
theorem rd_none {E : Heap → List Value → Int → Prop} {sz : Nat} {h : Heap} {v : Value} {l : List Int} {a : Option Addr} {n cap : Nat} (r : Hs.rdS E sz h v l) (hv : v = .slice a n cap) (ha : a.isNone = true) : l = [] := by
  obtain ⟨a', c', e, _, h0 | ⟨b, o, row, T, fr, e1, _⟩⟩ := r
  · exact List.eq_nil_of_length_eq_zero h0
  · rw [hv] at e; cases e; subst e1; cases ha
section
variable {P : Program} {e : Operand → Value} {d : Option Nat} {ot : TypeId} {pos : String} {af : Array Edge} {g : Option (Nat × Bool)} {T T' : TypeId} {x y z : Operand}
theorem run_equalIn_nil {el : TypeId} {a : Option Addr} {n c n' c' : Nat} (m : Nat) (w : World) (hT : ∀ w, (underlying T).run P w = .ok (.slice el) w) : (Op.equalIn (m + 1) T (.slice a n c) (.slice none n' c')).run P w = .ok a.isNone w := by
  cases a <;> simp [Op.equalIn, hT]
theorem Pu.eqlNil {el : TypeId} {a : Option Addr} {n c n' c' : Nat} (hT : ∀ w, (underlying T).run P w = .ok (.slice el) w) (hx : e x = .slice a n c) (hy : e y = .slice none n' c') : Pu P e ⟨d, .binOp .eql T x y T', ot, pos, af, g⟩ (.bool a.isNone) := fun w => by
  have := run_equalIn_nil (P := P) (a := a) (n := n) (c := c) (n' := n') (c' := c') 9999 w hT
  simp only [execOp, hx, hy, eqGuard, binOp, Op.equal, Op.maxDepth]
  simp [this]
end
end Go.Proofs.YtjhenmdcnbaobaaGreat.Hs
/-! Walks, printed by a program of this session's own (gen.py). -/
namespace Go.Proofs.YtjhenmdcnbaobaaGreat.Hs
open Go Go.Proofs
set_option maxRecDepth 100000
set_option linter.unusedVariables false
set_option linter.unusedSimpArgs false
attribute [local irreducible] JL J CT wlo DT
theorem more_ct (k j : Int) (H : Heap) : CT Tryz.prog 81 ⟨[iv k, iv j]⟩ [] H (fun v N => v = iv (more k j) ∧ N = []) := by
 refine Zl Tryz.func81 rfl rfl <| Zc <| Za <| JLA rfl <| Zb <| Zc <| Zo <| Zc <| Zc <| Za <| JLM rfl <| JLn (Pu.eql rfl rfl) <| JLA rfl ?_
 refine Zb <| Zg rfl (fun h1 => ?_) (fun h1 => ?_)
 ·replace h1 := dt h1
  refine Zm <| Zg rfl (fun _ => ?_) (fun h2 => absurd h1 (df h2))
  refine Zc <| Za <| JLA rfl <| Zb <| Zk <| ⟨iv 1, [], Ret.one rfl (RV.tmp rfl), Sub.nil, ?_⟩
  exact ⟨by first | (simp_all [more]; done) | (congr 1; unfold more; simp_all; try omega), rfl⟩
 replace h1 := df h1
 refine Zc <| Za <| JLM rfl <| JLn (Pu.eql rfl rfl) <| JLM rfl <| Zx 2 [11, 12] [(12, cond (decide (k = 5)) (.bool (decide (j = 1))) undef)] ?_ fun f4 => ?_
 ·cases h3 : (decide (k = 5)) with
  | true =>
   replace h3 := dt h3
   refine JLM rfl <| JLn (Pu.eql rfl rfl) ?_
   exact Zb ⟨⟨rfl, trivial⟩, rfl⟩
  | false =>
   exact ZH rfl ⟨rfl, trivial⟩
 refine JLn (Pu.pickAnd rfl rfl rfl) <| JLA rfl <| Zb <| Zg rfl (fun h5 => ?_) (fun h5 => ?_)
 ·obtain ⟨h5a, h5b⟩ := YC h5
  replace h5a := dt h5a
  replace h5b := dt h5b
  refine Zm <| Zg rfl (fun h6 => ?_) (fun h6 => ?_)
  ·obtain ⟨h6a, h6b⟩ := YC h6
   replace h6a := dt h6a
   replace h6b := dt h6b
   refine Zc <| Za <| JLA rfl <| Zb <| Zk <| ⟨iv 1, [], Ret.one rfl (RV.tmp rfl), Sub.nil, ?_⟩
   exact ⟨by first | (simp_all [more]; done) | (congr 1; unfold more; simp_all; try omega), rfl⟩
  refine Zc <| Za <| JLM rfl <| JLn (Pu.eql rfl rfl) <| JLM rfl <| Zx 2 [24, 25] [(25, cond (decide (k = 12)) (.bool (decide (1 < j))) undef)] ?_ fun f8 => ?_
  ·cases h7 : (decide (k = 12)) with
   | true =>
    replace h7 := dt h7
    refine JLM rfl <| JLn (Pu.gtr rfl rfl) ?_
    exact Zb ⟨⟨rfl, trivial⟩, rfl⟩
   | false =>
    exact ZH rfl ⟨rfl, trivial⟩
  refine JLn (Pu.pickAnd rfl rfl rfl) <| JLA rfl <| Zb <| Zg rfl (fun h9 => ?_) (fun h9 => ?_)
  ·obtain ⟨h9a, h9b⟩ := YC h9
   replace h9a := dt h9a
   replace h9b := dt h9b
   refine Zc <| Za <| JLA rfl <| Zb <| Zk <| ⟨iv 2, [], Ret.one rfl (RV.tmp rfl), Sub.nil, ?_⟩
   exact ⟨by first | (simp_all [more]; done) | (congr 1; unfold more; simp_all; try omega), rfl⟩
  refine Zm <| Zc <| Za <| JLA rfl <| Zb <| Zk <| ⟨iv 0, [], Ret.one rfl (RV.tmp rfl), Sub.nil, ?_⟩
  exact ⟨by first | (simp_all [more]; done) | (congr 1; unfold more; simp_all; try omega), rfl⟩
 refine Za <| JLM rfl <| JLn (Pu.eql rfl rfl) <| JLM rfl <| Zx 2 [17, 18] [(18, cond (decide (k = 12)) (.bool (decide (j = 1))) undef)] ?_ fun f11 => ?_
 ·cases h10 : (decide (k = 12)) with
  | true =>
   replace h10 := dt h10
   refine JLM rfl <| JLn (Pu.eql rfl rfl) ?_
   exact Zb ⟨⟨rfl, trivial⟩, rfl⟩
  | false =>
   exact ZH rfl ⟨rfl, trivial⟩
 refine JLn (Pu.pickAnd rfl rfl rfl) <| JLA rfl <| Zb <| Zg rfl (fun h12 => ?_) (fun h12 => ?_)
 ·obtain ⟨h12a, h12b⟩ := YC h12
  replace h12a := dt h12a
  replace h12b := dt h12b
  refine Zc <| Za <| JLA rfl <| Zb <| Zk <| ⟨iv 1, [], Ret.one rfl (RV.tmp rfl), Sub.nil, ?_⟩
  exact ⟨by first | (simp_all [more]; done) | (congr 1; unfold more; simp_all; try omega), rfl⟩
 refine Zc <| Za <| JLM rfl <| JLn (Pu.eql rfl rfl) <| JLM rfl <| Zx 2 [24, 25] [(25, cond (decide (k = 12)) (.bool (decide (1 < j))) undef)] ?_ fun f14 => ?_
 ·cases h13 : (decide (k = 12)) with
  | true =>
   replace h13 := dt h13
   refine JLM rfl <| JLn (Pu.gtr rfl rfl) ?_
   exact Zb ⟨⟨rfl, trivial⟩, rfl⟩
  | false =>
   exact ZH rfl ⟨rfl, trivial⟩
 refine JLn (Pu.pickAnd rfl rfl rfl) <| JLA rfl <| Zb <| Zg rfl (fun h15 => ?_) (fun h15 => ?_)
 ·obtain ⟨h15a, h15b⟩ := YC h15
  replace h15a := dt h15a
  replace h15b := dt h15b
  refine Zc <| Za <| JLA rfl <| Zb <| Zk <| ⟨iv 2, [], Ret.one rfl (RV.tmp rfl), Sub.nil, ?_⟩
  exact ⟨by first | (simp_all [more]; done) | (congr 1; unfold more; simp_all; try omega), rfl⟩
 refine Zm <| Zc <| Za <| JLA rfl <| Zb <| Zk <| ⟨iv 0, [], Ret.one rfl (RV.tmp rfl), Sub.nil, ?_⟩
 exact ⟨by first | (simp_all [more]; done) | (congr 1; unfold more; simp_all; try omega), rfl⟩
theorem Yy (n lo hi : Int) (H : Heap) : CT Tryz.prog 45 ⟨[iv n, iv lo, iv hi]⟩ [] H (fun v N => v = .bool (decide (n < lo ∨ hi < n)) ∧ N = []) := by
 refine Zl Tryz.func45 rfl rfl <| Zc <| Za <| JLA rfl <| Zb <| Zc <| Za <| JLM rfl <| JLM rfl <| JLn (Pu.lss rfl rfl) <| JLM rfl <| Zx 3 [11, 12, 13] [(13, cond (decide (n < lo)) undef (.bool (decide (hi < n))))] ?_ fun f2 => ?_
 ·cases h1 : (decide (n < lo)) with
  | false =>
   replace h1 := df h1
   refine JLM rfl <| JLM rfl <| JLn (Pu.gtr rfl rfl) ?_
   exact Zb ⟨⟨rfl, trivial⟩, rfl⟩
  | true =>
   exact ZH rfl ⟨rfl, trivial⟩
 refine JLn (Pu.pickOr rfl rfl rfl) <| JLA rfl <| Zb <| Zk <| ⟨.bool ((decide (n < lo)) || (decide (hi < n))), [], Ret.one rfl (RV.tmp rfl), Sub.nil, ?_⟩
 exact ⟨by simp, rfl⟩
theorem binds_ct : ∀ (p : Pt) (cs : List Value) (H : Heap), RP H cs p → binds p ≤ 1000000 → CT Tryz.prog 83 ⟨[.agg ⟨cs⟩]⟩ [] H (fun v N => v = iv (binds p : Int) ∧ N = []) := by
 intro p
 induction p using Pt.ind with
 | h kind num ref kids ih =>
 intro cs H hp hb
 obtain ⟨ks, rfl, hk, hn, hks⟩ := RP_mk.1 hp
 rw [binds] at hb ⊢
 refine Zl Tryz.func83 rfl rfl <| Zc <| Za <| JLr (Zp (l := pkP kind num ref ks) rfl rfl fun b1 => JLA rfl <| Zb <| Zc <| Zc <| Za <| JLq (pp b1 0) (YS rfl rfl) <| JLr (Ze ty3 rfl (At.bx 0 rfl) (pkP_0 ..) <| JLn (Pu.eql rfl rfl) <| Zb ?_))
 refine Zg rfl (fun h2 => ?_) (fun h2 => ?_)
 ·replace h2 := dt h2
  refine Zc <| Za <| JLA rfl <| Zb <| Zk <| ⟨iv 1, [], Ret.one rfl (RV.tmp rfl), Sub.nil, ?_⟩
  exact ⟨by rw [if_pos (by assumption)]; rfl, rfl⟩
 replace h2 := df h2
 refine Zm <| Zc <| Za <| JLA rfl <| Zb <| Zc <| Zc <| Za <| JLq (pp b1 34) (Y0 rfl rfl) <| JLr (Ze ty83 rfl (At.bx 0 rfl) (pkP_34 ..) ?_)
 obtain ⟨a3, cap3, hv3⟩ := hks.sl
 have hle3 := hks.le
 refine JLn (Pu.lenSl Tryz.runUnderlying83 hv3) <| JLM rfl <| Zb <| Zo <| ZP (fun k ρ M => ∃ (j : Nat), ρ 2 = iv 0 ∧ ρ 3 = iv ((Yv (kids.take j) : Int)) ∧ ρ 10 = ks ∧ ρ 11 = iv ((kids.length : Int)) ∧ ρ 12 = iv ((j : Int)) ∧ Sub [(BX b1 (pkP kind num ref ks) 85)] M ∧ j ≤ kids.length ∧ k = kids.length - j) _ ⟨0, rfl, rfl, rfl, rfl, rfl, (Sk Sub.nil), Nat.zero_le _, rfl⟩ ?_
 rintro _ ρ4 _ ⟨j, e5, e6, e7, e8, e9, hm10, hj, rfl⟩
 obtain ⟨ρ11, rfl⟩ := Zn (uc e5 (uc e6 (uc e7 (uc e8 (uc e9 un)))))
 clear e5 e6 e7 e8 e9
 refine Z6 hm10 ?_
 have hlen := hks.le
 refine Zc <| Za <| JLn (Pu.lss rfl rfl) <| Zb <| Zc <| Zg rfl (fun h12 => ?_) (fun h12 => ?_)
 ·replace h12 := dt h12
  have h12n : j < kids.length := by omega
  have hm1 := binds_mem kids _ (List.getElem_mem h12n)
  have hm2 := bindsL_take kids _ h12n
  have hm3 := bindsL_take_le kids (j + 1)
  rw [if_neg (by assumption)] at hb
  refine Zm <| Zc <| Zo <| Zc <| Za ?_
  obtain ⟨b13, o13, cap13, row13, T13, fr13, cs13, hv13, hb13, hs13, hE13⟩ := hks.get j (by first | assumption | omega | decide | simp)
  refine JLq (pp b13 (o13 + j * 35)) (Pu.idx j Tryz.runUnderlying83 Z0 hv13 rfl rfl (by first | assumption | omega | decide | simp)) <| JLr (Zi Z0 rfl (At.im hb13) hs13 <| JLr (Zh (l := pkP 0 0 zS nS) Tryz.zeroValue85 rfl fun b14 => JLr (Zd 0 (vs := cs13) (l := cs13) Z0 rfl rfl rfl rfl (ZF hE13) (RP_ok hE13) (ZD (n := 35) rfl (ZF hE13)) <| Zb <| Za <| JLM rfl <| JLr (Zi Z0 rfl (At.bx 0 rfl) (Zu (ZF hE13)) <| Jc Tryz.call83 rfl (fun hin => ih _ (List.getElem_mem h12n) _ _ (RP.mono (Hle.hu _ _) hE13) (by omega)) rfl ?_))))
  rintro _ _ ⟨rfl, rfl⟩
  refine JLn (Pu.add64 rfl rfl (by first | omega | (constructor <;> omega))) <| JLA rfl <| Zb <| Za <| JLn (Pu.inc rfl rfl (by omega)) <| JLM rfl <| Zb <| ⟨_, ?_, (j + 1), rfl, (ieq rfl (by omega)), rfl, rfl, rfl, (Sd (Sk Sub.nil)), ?_, rfl⟩
  ·omega
  omega
 replace h12 := df h12
 have h12n : kids.length ≤ j := by omega
 refine ZG _ rfl <| Zc <| Za <| JLM rfl <| JLA rfl <| Zb <| Zk <| ⟨iv ((Yv (kids.take j) : Int)), [], Ret.one rfl (RV.tmp rfl), Sub.nil, ?_⟩
 exact ⟨by rw [if_neg (by assumption), List.take_of_length_le h12n], rfl⟩
end Go.Proofs.YtjhenmdcnbaobaaGreat.Hs
/-! Walks, printed by a program of this session's own (gen.py). -/
namespace Go.Proofs.YtjhenmdcnbaobaaGreat.Hs
open Go Go.Proofs
set_option maxRecDepth 100000
set_option linter.unusedVariables false
set_option linter.unusedSimpArgs false
attribute [local irreducible] JL J CT wlo DT
theorem stay_ct (n b : Int) (H : Heap) (hb : inI (n + b)) : CT Tryz.prog 49 ⟨[iv n, iv b]⟩ [] H (fun v N => ∃ cs k, v = .agg ⟨cs⟩ ∧ N = [k] ∧ OT (.mk 1 (n + b) zS [] []) cs k) := by
 have hb1 : -9223372036854775808 ≤ n + b := hb.1
 have hb2 : n + b ≤ 9223372036854775807 := hb.2
 refine Zl Tryz.func49 rfl rfl <| Zc <| Za <| JLr (Zh (l := pkT 0 0 zS nS nS) Tryz.zeroValue28 rfl fun b1 => Zb <| Zc <| Za <| JLM rfl <| JLM rfl <| JLn (Pu.add64 rfl rfl (by first | omega | (constructor <;> omega))) <| JLq (.agg ⟨pkT 1 (n + b) zS nS nS⟩) (Pu.build (pv := [(0, iv 1), (1, iv (n + b))]) (l := pkT 1 (n + b) zS nS nS) rfl (bld28_0_1 _ _)) <| JLr (Zd 0 (vs := pkT 1 (n + b) zS nS nS) (l := pkT 1 (n + b) zS nS nS) Zs rfl rfl rfl rfl rfl (ZA rfl rfl) (Z1 ..) <| Zb ?_))
 refine Zk <| ⟨.agg ⟨pkT 1 (n + b) zS nS nS⟩, [[]], Ret.one rfl (RV.cell Zs rfl (At.bx 0 rfl) (ZX ..)), (Sub.emp Sub.nil), ?_⟩
 exact ⟨_, _, rfl, rfl, OT_leaf (by unfold inI; omega) hb⟩
theorem same_ct (s : Sm) (H : Heap) : CT Tryz.prog 50 ⟨[.agg ⟨sC s⟩]⟩ [] H (fun v N => v = .agg ⟨sC s⟩ ∧ N = []) := by
 refine Zl Tryz.func50 rfl rfl <| Zc <| Za <| JLr (Zp (l := sC s) rfl rfl fun b1 => JLr (Zh (l := sC zS) Tryz.zeroValue24 rfl fun b2 => Zb <| Zc <| Za <| JLr (Zi ty24 rfl (At.bx 1 rfl) (Zu rfl) <| JLr (Zd 0 (vs := sC s) (l := sC s) ty24 rfl rfl rfl rfl rfl (sC_ok _) (ZD rfl rfl) <| Zb <| Zk <| ⟨.agg ⟨sC s⟩, [], Ret.one rfl (RV.cell ty24 rfl (At.bx 0 rfl) (Zu rfl)), Sub.nil, ?_⟩))))
 exact ⟨rfl, rfl⟩
theorem mapPattern_ct : ∀ (gr : Nat) (frs crs : List Value) (hcallr : ∀ args w, (callFunc gr args).run Tryz.prog w = .ok (.enter gr args) w) (rf : Sm → Sm) (fv : Value) (hfv : fv.oneCell' = true) (p : Pt) (cs : List Value) (H : Heap), RP H cs p → (∀ s h, Hle H h → CT Tryz.prog gr ⟨frs ++ [.agg ⟨sC s⟩] ++ crs⟩ [] h (fun v N => v = .agg ⟨sC (rf s)⟩ ∧ N = [])) → sizeP p ≤ 1000000 → CT Tryz.prog 82 ⟨[.agg ⟨[fv, .func (.func gr) ⟨frs⟩ ⟨crs⟩]⟩, .agg ⟨cs⟩]⟩ [] H (fun v N => ∃ cs k, v = .agg ⟨cs⟩ ∧ N = [k] ∧ OP (mapP rf p) cs k) := by
 intro gr frs crs hcallr rf fv hfv p
 induction p using Pt.ind with
 | h kind num ref kids ih =>
 intro cs H hp hgr hz
 rw [sizeP] at hz
 have hlk := len_sizePs kids
 obtain ⟨ks, rfl, hk, hn, hks⟩ := RP_mk.1 hp
 refine Zl Tryz.func82 rfl rfl <| Zc <| Za <| JLr (Zp (l := [fv, .func (.func gr) ⟨frs⟩ ⟨crs⟩]) rfl rfl fun b1 => JLr (Zp (l := pkP kind num ref ks) rfl rfl fun b2 => JLr (Zh (l := pkP 0 0 zS nS) Tryz.zeroValue85 rfl fun b3 => Zb <| Zc <| ZV mixed #[0, 1, 0, 4, 0, 16, 0, 64, 240, 511, 0, 2047] 11 [some 8, some 9, some 10, some 11, some 12, some 13, some 14, some 15, some 16, some 17, some 5] [] [(8, fun _ _ vw qw => vw = .agg ⟨sC (rf ref)⟩ ∧ qw = []), (10, newP 85 (pkP 0 0 zS nS))] rfl (by kernel_rfl) rfl (by kernel_rfl) <| Dq (pp b2 0) (fun _ => YS rfl rfl) <| Dl1 ty3 (At.bx 1 rfl) (pkP_0 ..) <| Dq (pp b2 1) (fun _ => fa85_1 rfl rfl) <| Dl1 ty3 (At.bx 1 rfl) (pkP_1 ..) ?_)))
 refine Dq (pp b1 1) (fun _ => fa109_1 rfl rfl) <| Dl1 ty107 (At.bx 2 rfl) rfl <| Dq (pp b2 2) (fun _ => fa85_2 rfl rfl) <| Dl ty24 (At.bx 1 rfl) (pkP_2 ..) <| Dc rfl hcallr (fun _ => rfl) (fun hin => hgr _ _ (Hle.hu _ _)) ?_
 rintro _ _ ⟨rfl, rfl⟩
 refine Dq (.agg ⟨pkP kind num (rf ref) nS⟩) (fun _ => Pu.build (pv := [(0, iv kind), (1, iv num), (2, .agg ⟨sC (rf ref)⟩)]) (l := pkP kind num (rf ref) nS) rfl (bld85_0_1_2 _ _ _)) <| Da Tryz.zeroValue85 rfl fun b5 => Yb (M' := [(BX b5 (pkP 0 0 zS nS) 85), (BX b3 (pkP 0 0 zS nS) 85), (BX b2 (pkP kind num ref ks) 85), (BX b1 [fv, .func (.func gr) ⟨frs⟩ ⟨crs⟩] 109)]) rfl ?_
 show JL _ _ _ [_] _ _ _
 refine JLr (Zd 0 (vs := pkP kind num (rf ref) nS) (l := pkP kind num (rf ref) nS) Z0 rfl rfl rfl rfl rfl (pkP_ok rfl) (pkP_s ..) <| Zb <| Zc <| Zc <| Za <| JLq (pp b2 34) (Y0 rfl rfl) <| JLr (Ze ty83 rfl (At.bx 2 rfl) (pkP_34 ..) ?_))
 obtain ⟨a6, cap6, hv6⟩ := hks.sl
 have hle6 := hks.le
 refine JLn (Pu.lenSl Tryz.runUnderlying83 hv6) <| JLM rfl <| Zb <| Zo <| ZP (fun k ρ M => ∃ (j : Nat) (v : Value) (es : List (List Value)) (k1 k2 : Zf), ρ 2 = pp b1 0 ∧ ρ 4 = pp b3 0 ∧ ρ 5 = pp b5 0 ∧ ρ 19 = ks ∧ ρ 20 = iv ((kids.length : Int)) ∧ ρ 21 = iv ((j : Int)) ∧ Sub [(BX b5 (pkP kind num (rf ref) v) 85), k1, k2, (BX b3 (pkP 0 0 zS nS) 85), (BX b1 [fv, .func (.func gr) ⟨frs⟩ ⟨crs⟩] 109)] M ∧ j ≤ kids.length ∧ Own 85 35 v es k1 ∧ OPs (mapPs rf (kids.take j)) es k2 ∧ k = kids.length - j) _ ⟨0, _, [], [], [], rfl, rfl, rfl, rfl, rfl, rfl, (Sk (Sub.emp (Sub.emp (Sk (Sd (Sk Sub.nil)))))), Nat.zero_le _, Own.nil, OPs.nil, rfl⟩ ?_
 rintro _ ρ7 _ ⟨j, v, es, k1, k2, e8, e9, e10, e11, e12, e13, hm14, hj, ho, hop, rfl⟩
 obtain ⟨ρ15, rfl⟩ := Zn (uc e8 (uc e9 (uc e10 (uc e11 (uc e12 (uc e13 un))))))
 clear e8 e9 e10 e11 e12 e13
 refine Z6 hm14 ?_
 have hlen := hks.le
 refine Zc <| Za <| JLn (Pu.lss rfl rfl) <| Zb <| Zc <| Zg rfl (fun h16 => ?_) (fun h16 => ?_)
 ·replace h16 := dt h16
  have h16n : j < kids.length := by omega
  have hel := OPs_len hop
  rw [mapPs_len, List.length_take] at hel
  have hs1 := sizePs_mem _ (List.getElem_mem h16n)
  refine Zm <| Zc <| Zo <| Zc <| Za ?_
  obtain ⟨b17, o17, cap17, row17, T17, fr17, cs17, hv17, hb17, hs17, hE17⟩ := hks.get j (by first | assumption | omega | decide | simp)
  refine JLq (pp b17 (o17 + j * 35)) (Pu.idx j Tryz.runUnderlying83 Z0 hv17 rfl rfl (by first | assumption | omega | decide | simp)) <| JLr (Zi Z0 rfl (At.im hb17) hs17 <| JLr (Zh (l := pkP 0 0 zS nS) Tryz.zeroValue85 rfl fun b18 => JLr (Zd 0 (vs := cs17) (l := cs17) Z0 rfl rfl rfl rfl (ZF hE17) (RP_ok hE17) (ZD (n := 35) rfl (ZF hE17)) <| Zb <| ZV mixed #[0, 1, 0, 0, 12, 28, 63, 127, 255] 6 [some 25, some 26, some 27, some 28, some 29, some 30] [] [(4, fun _ _ vw qw => ∃ cs k, vw = .agg ⟨cs⟩ ∧ qw = [k] ∧ OP (mapP rf (kids[j])) cs k), (5, fun r _ vw qw => ∃ b k, vw = .slice (some ⟨b, 0, none⟩) 1 1 ∧ qw = [k] ∧ Own 85 35 (.slice (some ⟨b, 0, none⟩) 1 1) [(cel (r 4))] k ∧ k = (BX b (List.flatten [(cel (r 4))]) 85))] rfl (by kernel_rfl) rfl (by kernel_rfl) <| Dq (pp b5 34) (fun _ => Y0 rfl rfl) <| Dl1 ty83 (At.bx 1 rfl) (pkP_34 ..) <| Dl ty109 (At.bx 5 rfl) rfl <| Dl Z0 (At.bx 0 rfl) (Zu (ZF hE17)) ?_)))
  refine Dc rfl Tryz.call82 (fun _ => rfl) (fun hin => ih _ (List.getElem_mem h16n) _ _ (RP.mono (Hle.hu _ _) hE17) (fun s h hh => hgr s h (Hle.trans (Hle.hu _ _) hh)) (by omega)) ?_
  rintro _ _ ⟨cs21, k21, rfl, rfl, hO21⟩
  refine Dr rfl (fun _ => Zr (vs := [.agg ⟨cs21⟩]) [cs21] Tryz.runUnderlying83 el85 rfl rfl (by intro e he; simp only [List.mem_cons, List.not_mem_nil, or_false] at he; subst he; exact hO21.len) rfl (by decide) fun b k h1 h2 => ⟨[k], by rw [Yt rfl]; exact Sub.refl, b, k, rfl, rfl, h1, h2⟩) (fun _ _ ⟨b22, k22, e1, e2, ho22, hk22⟩ => ?_); subst e1 e2
  refine Yb (M' := [k22, k21, (BX b18 cs17 85), (BX b5 (pkP kind num (rf ref) v) 85), k1, k2, (BX b3 (pkP 0 0 zS nS) 85), (BX b1 [fv, .func (.func gr) ⟨frs⟩ ⟨crs⟩] 109)]) rfl ?_
  show JL _ _ _ [_, _, _] _ _ _
  have hlens23 : ∀ e ∈ ([cs21] : List (List Value)), List.length e = 35 := by
   intro e he; simp only [List.mem_cons, List.not_mem_nil, or_false] at he
   rcases he with rfl
   ·exact hO21.len
  have hoks23 : ∀ e ∈ ([cs21] : List (List Value)), okc e := by
   intro e he; simp only [List.mem_cons, List.not_mem_nil, or_false] at he
   rcases he with rfl
   ·exact hO21.ok
  refine JLr (ZE (i := 4) (n := 1) (es' := [cs21]) Tryz.runUnderlying83 Tryz.runUnderlying83 (Or.inl rfl) el85 rfl rfl rfl ho (fun F w m => Src.row (((At.k 0 rfl (by rw [hk22]; exact List.mem_cons_self))).heap m) (Zu (ZB hlens23))) rfl hlens23 hoks23 (by decide) (by omega) fun v23 k23 ho23 => JLq (pp b5 34) (Y0 rfl rfl) <| JLr (Zd 3 (vs := [v23]) (l := pkP kind num (rf ref) v23) ty83 rfl rfl rfl (Z9 ho23.one) rfl (Zj ho23.one Zt) (pkP_s34 ..) <| Zb <| Za <| JLn (Pu.inc rfl rfl (by omega)) <| JLM rfl <| Zb <| ⟨_, ?_, (j + 1), v23, (es ++ [cs21]), k23, (k2 ++ k21), rfl, rfl, rfl, rfl, rfl, rfl, (Sd (Sub.cons 2 rfl (Sub.cons 2 rfl (Sub.join (Sub.cons 2 rfl (Sk (Sd (Sk (Sk Sub.nil))))))))), ?_, ?_, ?_, rfl⟩))
  ·omega
  ·omega
  ·assumption
  rw [mapPs_take rf kids j h16n]; exact OPs.snoc hO21 hop
 replace h16 := df h16
 have h16n : kids.length ≤ j := by omega
 refine ZG _ rfl <| Zc <| Za <| JLr (Zi Z0 rfl (At.bx 0 rfl) (pkP_a ..) <| JLr (Zd 3 (vs := pkP kind num (rf ref) v) (l := pkP kind num (rf ref) v) Z0 rfl rfl rfl rfl rfl (pkP_ok ho.one) (pkP_s ..) <| Zb <| Zk <| ⟨.agg ⟨pkP kind num (rf ref) v⟩, [k1 ++ k2], Ret.one rfl (RV.cell Z0 rfl (At.bx 3 rfl) (pkP_a ..)), (Sub.join (Sd (Sk (Sk Sub.nil)))), ?_⟩))
 rw [List.take_of_length_le h16n] at hop
 exact ⟨_, _, rfl, rfl, by rw [mapP]; exact OP_mk.2 ⟨v, es, k1, k2, rfl, hk, hn, ho, hop, rfl, by rw [mapPs_len]; exact hks.le⟩⟩
end Go.Proofs.YtjhenmdcnbaobaaGreat.Hs
/-! Walks, printed by a program of this session's own (gen.py). -/
namespace Go.Proofs.YtjhenmdcnbaobaaGreat.Hs
open Go Go.Proofs
set_option maxRecDepth 100000
set_option linter.unusedVariables false
set_option linter.unusedSimpArgs false
attribute [local irreducible] JL J CT wlo DT
set_option maxHeartbeats 1000000 in
theorem mapTerm_ct : ∀ (gr : Nat) (frs crs : List Value) (hcallr : ∀ args w, (callFunc gr args).run Tryz.prog w = .ok (.enter gr args) w) (rf : Sm → Sm) (gv : Nat) (fvs cvs : List Value) (hcallv : ∀ args w, (callFunc gv args).run Tryz.prog w = .ok (.enter gv args) w) (σ : Type) (Sc : σ → Zf) (Inv : σ → Prop) (vf : Int → Int → σ → Tm × σ) (hI : ∀ n b s, Inv s → Inv (vf n b s).2) (t : Tm) (b : Int) (s : σ) (cs : List Value) (H : Heap), RT H cs t → sizeT t ≤ 1000000 → vOK t → 0 ≤ b → b + 2 * sizeT t ≤ 2000000 → Inv s → (∀ s h, Hle H h → CT Tryz.prog gr ⟨frs ++ [.agg ⟨sC s⟩] ++ crs⟩ [] h (fun v N => v = .agg ⟨sC (rf s)⟩ ∧ N = [])) → (∀ (n b : Int) (s : σ) (h : Heap), Hle H h → Inv s → 0 ≤ n → n ≤ 2000000 → 0 ≤ b → b ≤ 2000000 → CT Tryz.prog gv ⟨fvs ++ [iv n, iv b] ++ cvs⟩ [Sc s] h (fun v N => ∃ cs k, v = .agg ⟨cs⟩ ∧ N = [k, Sc (vf n b s).2] ∧ OT (vf n b s).1 cs k)) → CT Tryz.prog 51 ⟨[.agg ⟨[.func (.func gv) ⟨fvs⟩ ⟨cvs⟩, .func (.func gr) ⟨frs⟩ ⟨crs⟩]⟩, .agg ⟨cs⟩, iv b]⟩ [Sc s] H (fun v N => ∃ cs k, v = .agg ⟨cs⟩ ∧ N = [k, Sc (Z2 rf vf b t s).2] ∧ OT (Z2 rf vf b t s).1 cs k) := by
 intro gr frs crs hcallr rf gv fvs cvs hcallv σ Sc Inv vf hI t
 induction t using Tm.ind with
 | h kind num ref kids cases ih ih' =>
 intro b s cs H ht hz hv hb0 hb hs hgr hgv
 rw [sizeT] at hz hb
 rw [vOK] at hv
 have hv1 : ¬ kind = 1 ∨ (0 ≤ num ∧ num ≤ 2000000) := by by_cases h : kind = 1; exact .inr (hv.1 h); exact .inl h
 have hlk := len_sizeTs kids
 have hlc := len_sizeCs cases
 obtain ⟨ks, cv, rfl, hk, hn, hks, hcv⟩ := RT_mk.1 ht
 have hn1 : -9223372036854775808 ≤ num := hn.1
 have hn2 : num ≤ 9223372036854775807 := hn.2
 refine Zl Tryz.func51 rfl rfl <| Zc <| Za <| JLr (Zp (l := [.func (.func gv) ⟨fvs⟩ ⟨cvs⟩, .func (.func gr) ⟨frs⟩ ⟨crs⟩]) rfl rfl fun b1 => JLr (Zp (l := pkT kind num ref ks cv) rfl rfl fun b2 => JLr (Zh (l := pkT 0 0 zS nS nS) Tryz.zeroValue28 rfl fun b3 => Zb <| Zc <| Zc <| Za <| JLq (pp b2 0) (ZI rfl rfl) <| JLr (Ze ty3 rfl (At.bx 1 rfl) (ZQ ..) <| JLn (Pu.eql rfl rfl) ?_))))
 refine JLM rfl <| Zx 4 [16, 17, 18, 19] [(19, cond (decide (kind = 1)) (.bool (decide (b ≤ num))) undef)] ?_ fun f5 => ?_
 ·cases h4 : (decide (kind = 1)) with
  | true =>
   replace h4 := dt h4
   refine JLq (pp b2 1) (Yj rfl rfl) <| JLr (Ze ty3 rfl (At.bx 1 rfl) (YK ..) <| JLM rfl <| JLn (Pu.geq rfl rfl) ?_)
   exact Zb ⟨⟨rfl, trivial⟩, rfl⟩
  | false =>
   exact ZH rfl ⟨rfl, trivial⟩
 refine JLn (Pu.pickAnd rfl rfl rfl) <| Zb <| Zg rfl (fun h6 => ?_) (fun h6 => ?_)
 ·obtain ⟨h6a, h6b⟩ := YC h6
  replace h6a := dt h6a
  replace h6b := dt h6b
  refine Zc <| Za <| JLq (pp b1 0) (fa109_0 rfl rfl) <| JLr (Ze ty106 rfl (At.bx 2 rfl) rfl <| JLq (pp b2 1) (Yj rfl rfl) <| JLr (Ze ty3 rfl (At.bx 1 rfl) (YK ..) <| JLM rfl <| JLn (Pu.sub64 rfl rfl (by first | omega | (constructor <;> omega))) <| JLM rfl <| Zq 3 rfl hcallv rfl rfl (fun hin => hgv _ _ _ _ (Hle.hu _ _) hs (by omega) (by omega) (by omega) (by omega)) rfl ?_))
  rintro _ _ ⟨cs7, k7, rfl, rfl, hO7⟩
  refine JLr (Zd 2 (vs := cs7) (l := cs7) Zs rfl rfl rfl rfl hO7.len hO7.ok (ZD (n := 36) rfl hO7.len) <| Zb <| Zk <| ⟨.agg ⟨cs7⟩, [k7, Sc ((vf (num - b) b s).2)], Ret.one rfl (RV.cell Zs rfl (At.bx 2 rfl) (Zu hO7.len)), (Sk (Sk Sub.nil)), ?_⟩)
  have hx : kind = 1 ∧ b ≤ num := ⟨h6a, h6b⟩
  exact ⟨_, _, rfl, by rw [Z2, if_pos hx], by rw [Z2, if_pos hx]; exact hO7⟩
 refine Zm <| Zc <| ZV mixed #[0, 1, 0, 4, 0, 16, 0, 64, 240, 511, 0, 2047] 11 [some 29, some 30, some 31, some 32, some 33, some 34, some 35, some 36, some 37, some 38, some 7] [] [(8, fun _ _ vw qw => vw = .agg ⟨sC (rf ref)⟩ ∧ qw = []), (10, newP 28 (pkT 0 0 zS nS nS))] rfl (by kernel_rfl) rfl (by kernel_rfl) <| Dq (pp b2 0) (fun _ => ZI rfl rfl) <| Dl1 ty3 (At.bx 1 rfl) (ZQ ..) <| Dq (pp b2 1) (fun _ => Yj rfl rfl) <| Dl1 ty3 (At.bx 1 rfl) (YK ..) <| Dq (pp b1 1) (fun _ => fa109_1 rfl rfl) <| Dl1 ty107 (At.bx 2 rfl) rfl <| Dq (pp b2 2) (fun _ => fa28_2 rfl rfl) <| Dl ty24 (At.bx 1 rfl) (pkT_2 ..) <| Dc rfl hcallr (fun _ => rfl) (fun hin => hgr _ _ (Hle.hu _ _)) ?_
 rintro _ _ ⟨rfl, rfl⟩
 refine Dq (.agg ⟨pkT kind num (rf ref) nS nS⟩) (fun _ => Pu.build (pv := [(0, iv kind), (1, iv num), (2, .agg ⟨sC (rf ref)⟩)]) (l := pkT kind num (rf ref) nS nS) rfl (bld28_0_1_2 _ _ _)) <| Da Tryz.zeroValue28 rfl fun b9 => Yb (M' := [(BX b9 (pkT 0 0 zS nS nS) 28), (BX b3 (pkT 0 0 zS nS nS) 28), (BX b2 (pkT kind num ref ks cv) 28), (BX b1 [.func (.func gv) ⟨fvs⟩ ⟨cvs⟩, .func (.func gr) ⟨frs⟩ ⟨crs⟩] 109), Sc s]) rfl ?_
 show JL _ _ _ [_] _ _ _
 refine JLr (Zd 0 (vs := pkT kind num (rf ref) nS nS) (l := pkT kind num (rf ref) nS nS) Zs rfl rfl rfl rfl rfl (ZA rfl rfl) (Z1 ..) <| Zb <| Zc <| Za <| JLq (pp b2 34) (Yu rfl rfl) <| JLr (Ze ty25 rfl (At.bx 2 rfl) (Yl ..) ?_))
 obtain ⟨a10, cap10, hv10⟩ := hks.sl
 have hle10 := hks.le
 refine JLn (Pu.lenSl Tryz.runUnderlying25 hv10) <| JLr (Runs_makeO (kids.length) Tryz.runUnderlying25 el28 rfl rfl rfl rfl (by omega) (by omega) fun v11 k11 ho11 => JLq (pp b9 34) (Yu rfl rfl) <| JLr (Zd 1 (vs := [v11]) (l := pkT kind num (rf ref) v11 nS) ty25 rfl rfl rfl (Z9 ho11.one) rfl (Zj ho11.one Zt) (pkT_s34 ..) <| Zb <| Zc <| Za <| JLq (pp b9 34) (Yu rfl rfl) <| JLr (Ze ty25 rfl (At.bx 1 rfl) (Yl ..) <| JLq (pp b2 34) (Yu rfl rfl) <| JLr (Ze ty25 rfl (At.bx 3 rfl) (Yl ..) ?_))))
 obtain ⟨es12, he12, hH12, hl12, hok12, hsr12⟩ := kids_src (P := Tryz.prog) hks
 refine JLr (Runs_copy (i := 0) (n := kids.length) (m := kids.length) (es' := es12) Tryz.runUnderlying25 el28 rfl rfl rfl ho11 (fun F w m => hsr12 w _ m) he12 (by simp) hl12 hok12 rfl fun kc12 hc12 => Zb <| Zc <| Zc <| Za <| JLq (pp b9 34) (Yu rfl rfl) <| JLr (Ze ty25 rfl (At.bx 1 rfl) (Yl ..) ?_))
 obtain ⟨a13, cap13, hv13⟩ := hc12.sl
 rw [he12] at hv13
 refine JLn (Pu.lenSl Tryz.runUnderlying25 hv13) <| JLM rfl <| Zb <| Zo ?_
 have hneg : ¬ (kind = 1 ∧ b ≤ num) := by intro hh; simp [hh.1, hh.2] at h6
 refine ZP (fun k ρ M => ∃ (j : Nat) (es : List (List Value)) (k1 k2 : Zf) (s1 : σ), ρ 2 = iv b ∧ ρ 3 = pp b1 0 ∧ ρ 4 = pp b2 0 ∧ ρ 6 = pp b3 0 ∧ ρ 7 = pp b9 0 ∧ ρ 50 = v11 ∧ ρ 51 = iv ((kids.length : Int)) ∧ ρ 52 = iv ((j : Int)) ∧ Sub [(BX b9 (pkT kind num (rf ref) v11 nS) 28), k1, k2, Sc s1, (BX b3 (pkT 0 0 zS nS nS) 28), (BX b2 (pkT kind num ref ks cv) 28), (BX b1 [.func (.func gv) ⟨fvs⟩ ⟨cvs⟩, .func (.func gr) ⟨frs⟩ ⟨crs⟩] 109)] M ∧ j ≤ kids.length ∧ Own 28 36 v11 es k1 ∧ Half H kids (ZT rf vf b kind 0 (kids.take j) s).1 j es k2 ∧ Inv s1 ∧ (ZT rf vf b kind 0 (kids.take j) s).2 = s1 ∧ k = kids.length - j) _ ⟨0, es12, kc12, [], s, rfl, rfl, rfl, rfl, rfl, rfl, rfl, rfl, (Sub.cons 1 rfl (Sk (Sub.emp (Sub.cons 3 rfl (Sk (Sk (Sk Sub.nil))))))), Nat.zero_le _, hc12, hH12, hs, rfl, rfl⟩ ?_
 rintro _ ρ14 _ ⟨j, es, k1, k2, s1, e15, e16, e17, e18, e19, e20, e21, e22, hm23, hj, ho, hH, hs1, hsq, rfl⟩
 obtain ⟨ρ24, rfl⟩ := Zn (uc e15 (uc e16 (uc e17 (uc e18 (uc e19 (uc e20 (uc e21 (uc e22 un))))))))
 clear e15 e16 e17 e18 e19 e20 e21 e22
 refine Z6 hm23 <| Zc <| Za <| JLn (Pu.lss rfl rfl) <| Zb <| Zc <| Zg rfl (fun h25 => ?_) (fun h25 => ?_)
 ·replace h25 := dt h25
  have h25n : j < kids.length := by omega
  have hz1 := sizeTs_mem _ (List.getElem_mem h25n)
  have hm1 := more_le kind j
  refine Zm <| Zc <| Zo <| Zc <| Za <| JLM rfl ?_
  obtain ⟨b26, cap26, row26, e26, hv26, hm26, hs26, hE26⟩ := hH.at ho h25n
  refine JLq (pp b26 (0 + j * 36)) (Pu.idx j Tryz.runUnderlying25 Zs hv26 rfl rfl (by rw [hH.1]; exact h25n)) <| JLr (Zi Zs rfl (At.k 1 rfl hm26) hs26 <| JLr (Zh (l := pkT 0 0 zS nS nS) Tryz.zeroValue28 rfl fun b27 => JLA rfl <| JLr (Zd 0 (vs := e26) (l := e26) Zs rfl rfl rfl rfl (Zv hE26) (RT_ok hE26) (ZD (n := 36) rfl (Zv hE26)) <| Zb <| ZV mixed #[0, 1, 0, 0, 0, 0, 0, 64, 0, 448, 992, 2040, 4095, 8191] 12 [some 57, some 58, some 59, some 60, some 61, some 62, some 63, some 64, some 65, some 66, some 67, some 68] [(11, 16)] [(9, fun _ _ vw qw => vw = iv (more kind ((j : Int))) ∧ qw = []), (11, fun _ _ vw qw => ∃ cs k, vw = .agg ⟨cs⟩ ∧ qw = [k, Sc ((Z2 rf vf (b + (more kind ((j : Int)))) (kids[j]) s1).2)] ∧ OT ((Z2 rf vf (b + (more kind ((j : Int)))) (kids[j]) s1).1) cs k)] rfl (by kernel_rfl) rfl (by kernel_rfl) <| Dq (pp b9 34) (fun _ => Yu rfl rfl) <| Dl1 ty25 (At.bx 1 rfl) (Yl ..) <| DM (fun _ => rfl) <| Dl ty109 (At.bx 7 rfl) rfl <| Dl Zs (At.bx 0 rfl) (Zu (Zv hE26)) <| DM (fun _ => rfl) ?_)))
  refine Dq (pp b2 0) (fun _ => ZI rfl rfl) <| Dl1 ty3 (At.bx 6 rfl) (ZQ ..) <| DM (fun _ => rfl) <| Dc rfl Tryz.call81 (fun _ => rfl) (fun hin => more_ct _ _ _) ?_
  rintro _ _ ⟨rfl, rfl⟩
  refine Dn (fun _ => Pu.add64 rfl rfl (by first | omega | (constructor <;> omega))) ?_
  refine DJ_call1 4 rfl rfl (fun _ => rfl) Tryz.call51 (fun _ => rfl) rfl (fun hin => ih _ (List.getElem_mem h25n) _ _ _ _ (RT.mono (Hle.hu _ _) hE26) (by omega) (vOKs_mem hv.2.1 _ (List.getElem_mem h25n)) (by omega) (by omega) hs1 (fun s h hh => hgr s h (Hle.trans (Hle.hu _ _) hh)) (fun n b s h hh => hgv n b s h (Hle.trans (Hle.hu _ _) hh))) (fun _ => rfl) ?_
  rintro _ _ ⟨cs29, k29, rfl, rfl, hO29⟩
  refine Yb (M' := [k29, Sc ((Z2 rf vf (b + (more kind ((j : Int)))) (kids[j]) s1).2), (BX b27 e26 28), (BX b9 (pkT kind num (rf ref) v11 nS) 28), k1, k2, (BX b3 (pkT 0 0 zS nS nS) 28), (BX b2 (pkT kind num ref ks cv) 28), (BX b1 [.func (.func gv) ⟨fvs⟩ ⟨cvs⟩, .func (.func gr) ⟨frs⟩ ⟨crs⟩] 109)]) rfl ?_
  show JL _ _ _ [_, _] _ _ _
  obtain ⟨b30, cap30, row30, e30, hv30, hm30, hs30, hE30⟩ := hH.at ho h25n
  refine JLq (pp b30 (0 + j * 36)) (Pu.idx j Tryz.runUnderlying25 Zs hv30 rfl rfl (by rw [hH.1]; exact h25n)) <| JLr (Runs_storeOwn (i := 4) (j := j) (b := b30) Zs rfl ho ⟨_, _, hv30⟩ rfl (by rw [hH.1]; exact h25n) rfl rfl hO29.len hO29.ok fun k31 ho31 => Zb <| Za <| JLn (Pu.inc rfl rfl (by omega)) <| JLM rfl <| Zb <| ⟨_, ?_, (j + 1), (es.set j cs29), k31, (k2 ++ k29), ((Z2 rf vf (b + (more kind ((j : Int)))) (kids[j]) s1).2), rfl, rfl, rfl, rfl, rfl, rfl, rfl, rfl, (Sub.cons 3 rfl (Sub.cons 3 rfl (Sub.join (Sub.cons 3 rfl (Sk (Sk (Sd (Sk (Sk (Sk Sub.nil)))))))))), ?_, ?_, ?_, ?_, ?_, rfl⟩)
  ·omega
  ·omega
  ·exact ho31
  ·rw [mapTs_take0 rf vf b kind kids j s h25n, hsq]; exact hH.step h25n hO29
  ·exact mapT_inv hI _ _ _ hs1
  rw [mapTs_take0 rf vf b kind kids j s h25n, hsq]
 replace h25 := df h25
 have h25n : kids.length ≤ j := by omega
 refine ZG _ rfl <| Zc <| Zc <| Za <| JLq (pp b2 35) (YQ rfl rfl) <| JLr (Ze ty26 rfl (At.bx 5 rfl) (YA ..) ?_)
 obtain ⟨a32, cap32, hv32⟩ := hcv.sl
 have hle32 := hcv.le
 refine JLn (Pu.lenSl Tryz.runUnderlying26 hv32) <| JLM rfl <| Zb <| Zo ?_
 have hjk := h25n
 rw [List.take_of_length_le hjk] at hsq hH
 refine ZP (fun k ρ M => ∃ (j : Nat) (w : Value) (es2 : List (List Value)) (k3 k4 : Zf) (s2 : σ), ρ 2 = iv b ∧ ρ 3 = pp b1 0 ∧ ρ 6 = pp b3 0 ∧ ρ 7 = pp b9 0 ∧ ρ 72 = cv ∧ ρ 73 = iv ((cases.length : Int)) ∧ ρ 74 = iv ((j : Int)) ∧ Sub [(BX b9 (pkT kind num (rf ref) v11 w) 28), k3, k4, Sc s2, k1, k2, (BX b3 (pkT 0 0 zS nS nS) 28), (BX b2 (pkT kind num ref ks cv) 28), (BX b1 [.func (.func gv) ⟨fvs⟩ ⟨cvs⟩, .func (.func gr) ⟨frs⟩ ⟨crs⟩] 109)] M ∧ j ≤ cases.length ∧ Own 87 71 w es2 k3 ∧ OCs (ZY rf vf b (cases.take j) s1).1 es2 k4 ∧ Inv s2 ∧ (ZY rf vf b (cases.take j) s1).2 = s2 ∧ k = cases.length - j) _ ⟨0, nS, [], [], [], s1, rfl, rfl, rfl, rfl, rfl, rfl, rfl, (Sk (Sub.emp (Sub.emp (Sub.cons 2 rfl (Sk (Sk (Sk (Sk (Sk Sub.nil))))))))), Nat.zero_le _, Own.nil, OCs.nil, hs1, rfl, rfl⟩ ?_
 rintro _ ρ33 _ ⟨j, w, es2, k3, k4, s2, e34, e35, e36, e37, e38, e39, e40, hm41, hj, how, hopw, hs2, hsq2, rfl⟩
 obtain ⟨ρ42, rfl⟩ := Zn (uc e34 (uc e35 (uc e36 (uc e37 (uc e38 (uc e39 (uc e40 un)))))))
 clear e34 e35 e36 e37 e38 e39 e40
 refine Z6 hm41 <| Zc <| Za <| JLn (Pu.lss rfl rfl) <| Zb <| Zc <| Zg rfl (fun h43 => ?_) (fun h43 => ?_)
 ·replace h43 := dt h43
  have h43n : j < cases.length := by omega
  have helw := OCs_len hopw
  rw [mapCs_len, List.length_take] at helw
  have hz1 := sizeCs_mem _ (List.getElem_mem h43n)
  have hm1 := binds_le (cases[j]).1
  refine Zm <| Zc <| Zo <| Zc <| Za ?_
  obtain ⟨b44, o44, cap44, row44, T44, fr44, cs44, hv44, hb44, hs44, hE44⟩ := hcv.get j (by first | assumption | omega | decide | simp)
  obtain ⟨ca44, cb44, rfl, hA44, hB44⟩ := hE44
  refine JLq (pp b44 (o44 + j * 71)) (Pu.idx j Tryz.runUnderlying26 ty87 hv44 rfl rfl (by first | assumption | omega | decide | simp)) <| JLr (Zi ty87 rfl (At.im hb44) hs44 <| JLr (Zh (l := (pkP 0 0 zS nS) ++ (pkT 0 0 zS nS nS)) Tryz.zeroValue87 rfl fun b45 => JLr (Zd 0 (vs := ca44 ++ cb44) (l := ca44 ++ cb44) ty87 rfl rfl rfl rfl (ZZ (ZF hA44) (Zv hB44)) (Ya (RP_ok hA44) (RT_ok hB44)) (ZD (n := 71) rfl (ZZ (ZF hA44) (Zv hB44))) <| Zb <| ZV mixed #[0, 1, 0, 0, 8, 28, 0, 0, 128, 0, 0, 1024, 3132, 7740, 16380, 32764, 65532, 131071, 262143, 524287] 17 [some 78, some 79, some 80, some 81, some 82, some 83, some 84, some 85, some 86, some 87, some 88, some 89, some 90, some 91, some 92, some 93, some 94] [(14, 21)] [(5, fun _ _ vw qw => ∃ cs k, vw = .agg ⟨cs⟩ ∧ qw = [k] ∧ OP (mapP rf (cases[j].1)) cs k), (12, fun _ _ vw qw => vw = iv ((binds (cases[j].1) : Int)) ∧ qw = []), (14, fun _ _ vw qw => ∃ cs k, vw = .agg ⟨cs⟩ ∧ qw = [k, Sc ((Z2 rf vf (b + ((binds (cases[j].1) : Int))) (cases[j].2) s2).2)] ∧ OT ((Z2 rf vf (b + ((binds (cases[j].1) : Int))) (cases[j].2) s2).1) cs k), (16, fun r _ vw qw => ∃ b k, vw = .slice (some ⟨b, 0, none⟩) 1 1 ∧ qw = [k] ∧ Own 87 71 (.slice (some ⟨b, 0, none⟩) 1 1) [((cel (r 5))) ++ ((cel (r 14)))] k ∧ k = (BX b (List.flatten [((cel (r 5))) ++ ((cel (r 14)))]) 87))] rfl (by kernel_rfl) rfl (by kernel_rfl) <| Dq (pp b9 35) (fun _ => YQ rfl rfl) <| Dl1 ty26 (At.bx 1 rfl) (YA ..) <| Dl ty109 (At.bx 9 rfl) rfl <| Dq (pp b45 0) (fun _ => fa87_0 rfl rfl) <| Dl Z0 (At.bx 0 rfl) (sub_l (ZF hA44)) ?_)))
  refine Dc rfl Tryz.call82 (fun _ => rfl) (fun hin => mapPattern_ct gr frs crs hcallr rf _ rfl _ _ _ (RP.mono (Hle.hu _ _) hA44) (fun s h hh => hgr s h (Hle.trans (Hle.hu _ _) hh)) (by omega)) ?_
  rintro _ _ ⟨cs49, k49, rfl, rfl, hO49⟩
  refine Dl ty109 (At.bx 9 rfl) rfl <| Dq (pp b45 35) (fun _ => fa87_1 rfl rfl) <| Dl Zs (At.bx 0 rfl) (sub_r (ZF hA44) (Zv hB44)) <| DM (fun _ => rfl) <| Dq (pp b45 0) (fun _ => fa87_0 rfl rfl) <| Dl Z0 (At.bx 0 rfl) (sub_l (ZF hA44)) ?_
  refine Dc rfl Tryz.call83 (fun _ => rfl) (fun hin => binds_ct _ _ _ (RP.mono (Hle.hu _ _) hA44) (by omega)) ?_
  rintro _ _ ⟨rfl, rfl⟩
  refine Dn (fun _ => Pu.add64 rfl rfl (by first | omega | (constructor <;> omega))) ?_
  refine DJ_call1 5 rfl rfl (fun _ => rfl) Tryz.call51 (fun _ => rfl) rfl (fun hin => ih' _ (List.getElem_mem h43n) _ _ _ _ (RT.mono (Hle.hu _ _) hB44) (by omega) (vOKc_mem hv.2.2 _ (List.getElem_mem h43n)) (by omega) (by omega) hs2 (fun s h hh => hgr s h (Hle.trans (Hle.hu _ _) hh)) (fun n b s h hh => hgv n b s h (Hle.trans (Hle.hu _ _) hh))) (fun _ => rfl) ?_
  rintro _ _ ⟨cs50, k50, rfl, rfl, hO50⟩
  refine Dq (.agg ⟨cs49 ++ cs50⟩) (fun _ => Pu.build (pv := [(0, .agg ⟨cs49⟩), (1, .agg ⟨cs50⟩)]) (l := cs49 ++ cs50) rfl (bld87_0_1 hO49.len hO50.len)) <| Dr rfl (fun _ => Zr (vs := [.agg ⟨cs49 ++ cs50⟩]) [cs49 ++ cs50] Tryz.runUnderlying26 el87 rfl rfl (by intro e he; simp only [List.mem_cons, List.not_mem_nil, or_false] at he; subst he; exact (ZZ hO49.len hO50.len)) rfl (by decide) fun b k h1 h2 => ⟨[k], by rw [Yt rfl]; exact Sub.refl, b, k, rfl, rfl, h1, h2⟩) (fun _ _ ⟨b51, k51, e1, e2, ho51, hk51⟩ => ?_); subst e1 e2
  refine Yb (M' := [k51, k50, Sc ((Z2 rf vf (b + ((binds (cases[j].1) : Int))) (cases[j].2) s2).2), k49, (BX b45 (ca44 ++ cb44) 87), (BX b9 (pkT kind num (rf ref) v11 w) 28), k3, k4, k1, k2, (BX b3 (pkT 0 0 zS nS nS) 28), (BX b2 (pkT kind num ref ks cv) 28), (BX b1 [.func (.func gv) ⟨fvs⟩ ⟨cvs⟩, .func (.func gr) ⟨frs⟩ ⟨crs⟩] 109)]) rfl ?_
  show JL _ _ _ [_, _, _] _ _ _
  have hlens52 : ∀ e ∈ ([cs49 ++ cs50] : List (List Value)), List.length e = 71 := by
   intro e he; simp only [List.mem_cons, List.not_mem_nil, or_false] at he
   rcases he with rfl
   ·exact (ZZ hO49.len hO50.len)
  have hoks52 : ∀ e ∈ ([cs49 ++ cs50] : List (List Value)), okc e := by
   intro e he; simp only [List.mem_cons, List.not_mem_nil, or_false] at he
   rcases he with rfl
   ·exact (Ya hO49.ok hO50.ok)
  refine JLr (ZE (i := 6) (n := 1) (es' := [cs49 ++ cs50]) Tryz.runUnderlying26 Tryz.runUnderlying26 (Or.inl rfl) el87 rfl rfl rfl how (fun F w m => Src.row (((At.k 0 rfl (by rw [hk51]; exact List.mem_cons_self))).heap m) (Zu (ZB hlens52))) rfl hlens52 hoks52 (by decide) (by omega) fun v52 k52 ho52 => JLq (pp b9 35) (YQ rfl rfl) <| JLr (Zd 5 (vs := [v52]) (l := pkT kind num (rf ref) v11 v52) ty26 rfl rfl rfl (Z9 ho52.one) rfl (Zj ho52.one Zt) (pkT_s35 ..) <| Zb <| Za <| JLn (Pu.inc rfl rfl (by omega)) <| JLM rfl <| Zb <| ⟨_, ?_, (j + 1), v52, (es2 ++ [cs49 ++ cs50]), k52, (k4 ++ (k49 ++ k50)), ((Z2 rf vf (b + ((binds (cases[j].1) : Int))) (cases[j].2) s2).2), rfl, rfl, rfl, rfl, rfl, rfl, rfl, (Sd (Sub.cons 4 rfl (Sub.cons 4 rfl (Sub.join3 (Sub.cons 4 rfl (Sub.cons 2 rfl (Sk (Sk (Sd (Sk (Sk (Sk (Sk (Sk Sub.nil)))))))))))))), ?_, ?_, ?_, ?_, ?_, rfl⟩))
  ·omega
  ·omega
  ·exact ho52
  ·rw [mapCs_take rf vf b cases j s1 h43n, hsq2]; exact OCs.snoc hO49 hO50 hopw
  ·exact mapT_inv hI _ _ _ hs2
  rw [mapCs_take rf vf b cases j s1 h43n, hsq2]
 replace h43 := df h43
 have h43n : cases.length ≤ j := by omega
 refine ZG _ rfl <| Zc <| Za <| JLr (Zi Zs rfl (At.bx 0 rfl) (ZX ..) <| JLr (Zd 6 (vs := pkT kind num (rf ref) v11 w) (l := pkT kind num (rf ref) v11 w) Zs rfl rfl rfl rfl rfl (ZA ho.one how.one) (Z1 ..) <| Zb <| Zk <| ⟨.agg ⟨pkT kind num (rf ref) v11 w⟩, [k1 ++ (k2 ++ (k3 ++ k4)), Sc s2], Ret.one rfl (RV.cell Zs rfl (At.bx 6 rfl) (ZX ..)), (Sub.join4 (Sd (Sub.cons 3 rfl (Sub.cons 3 rfl (Sk (Sk (Sk Sub.nil))))))), ?_⟩))
 rw [List.take_of_length_le h43n] at hopw hsq2
 exact ⟨_, _, rfl, by rw [Z2, if_neg hneg, hsq, hsq2], by rw [Z2, if_neg hneg, hsq]; exact OT_mk.2 ⟨_, w, es, es2, k1, k2, k3, k4, rfl, hk, hn, ho, hH.done hjk, how, hopw, rfl, by rw [mapTs_len]; exact hks.le, by rw [mapCs_len]; exact hcv.le⟩⟩
end Go.Proofs.YtjhenmdcnbaobaaGreat.Hs
/-! Walks, printed by a program of this session's own (gen.py). -/
namespace Go.Proofs.YtjhenmdcnbaobaaGreat.Hs
open Go Go.Proofs
set_option maxRecDepth 100000
set_option linter.unusedVariables false
set_option linter.unusedSimpArgs false
attribute [local irreducible] JL J CT wlo DT
theorem fields_ct (k : Int) (H : Heap) : CT Tryz.prog 67 ⟨[iv k]⟩ [] H (fun v N => v = .agg ⟨[.bool (fN k), .bool (fR k), .bool (fC k)]⟩ ∧ N = []) := by
 refine Zl Tryz.func67 rfl rfl <| Zc <| Za <| JLr (Zh (l := [.bool false, .bool false, .bool false]) Tryz.zeroValue137 rfl fun b1 => Zb <| Zc <| Za <| JLr (Zh (l := [.bool false, .bool false, .bool false]) Tryz.zeroValue137 rfl fun b2 => Zb <| Zc <| Zc <| Za <| JLM rfl ?_))
 refine Zb <| Zo <| Zc <| Zc <| Za <| JLn (Pu.eql rfl rfl) <| JLA rfl <| Zb <| Zg rfl (fun h3 => ?_) (fun h3 => ?_)
 ·replace h3 := dt h3
  refine Zm <| Zg rfl (fun _ => ?_) (fun h4 => absurd h3 (df h4))
  refine Za <| JLq (pp b2 0) (Pu.idxA 0 Tryz.runUnderlying137 ty4 rfl rfl (by decide) (by decide)) <| JLr (Zd 0 (vs := [.bool true]) (l := [.bool true, .bool false, .bool false]) ty4 rfl rfl rfl rfl rfl (Zj rfl Zt) rfl <| Zb <| Zc <| Za <| JLr (Zi ZS rfl (At.bx 0 rfl) rfl <| JLr (Zd 1 (vs := [.bool true, .bool false, .bool false]) (l := [.bool true, .bool false, .bool false]) ZS rfl rfl rfl rfl rfl (Zj rfl (Zj rfl (Zj rfl Zt))) rfl <| Zb <| Zk <| ⟨.agg ⟨[.bool true, .bool false, .bool false]⟩, [], Ret.one rfl (RV.cell ZS rfl (At.bx 1 rfl) rfl), Sub.nil, ?_⟩)))
  exact ⟨by simp_all [fN, fR, fC], rfl⟩
 replace h3 := df h3
 refine Zc <| Za <| JLn (Pu.eql rfl rfl) <| JLA rfl <| Zb <| Zg rfl (fun h5 => ?_) (fun h5 => ?_)
 ·replace h5 := dt h5
  refine Zm <| Zg rfl (fun _ => ?_) (fun h6 => absurd h5 (df h6))
  refine Za <| JLq (pp b2 0) (Pu.idxA 0 Tryz.runUnderlying137 ty4 rfl rfl (by decide) (by decide)) <| JLr (Zd 0 (vs := [.bool true]) (l := [.bool true, .bool false, .bool false]) ty4 rfl rfl rfl rfl rfl (Zj rfl Zt) rfl <| Zb <| Zc <| Za <| JLr (Zi ZS rfl (At.bx 0 rfl) rfl <| JLr (Zd 1 (vs := [.bool true, .bool false, .bool false]) (l := [.bool true, .bool false, .bool false]) ZS rfl rfl rfl rfl rfl (Zj rfl (Zj rfl (Zj rfl Zt))) rfl <| Zb <| Zk <| ⟨.agg ⟨[.bool true, .bool false, .bool false]⟩, [], Ret.one rfl (RV.cell ZS rfl (At.bx 1 rfl) rfl), Sub.nil, ?_⟩)))
  exact ⟨by simp_all [fN, fR, fC], rfl⟩
 replace h5 := df h5
 refine Zc <| Za <| JLn (Pu.eql rfl rfl) <| JLA rfl <| Zb <| Zg rfl (fun h7 => ?_) (fun h7 => ?_)
 ·replace h7 := dt h7
  refine Zm <| Zg rfl (fun _ => ?_) (fun h8 => absurd h7 (df h8))
  refine Za <| JLq (pp b2 0) (Pu.idxA 0 Tryz.runUnderlying137 ty4 rfl rfl (by decide) (by decide)) <| JLr (Zd 0 (vs := [.bool true]) (l := [.bool true, .bool false, .bool false]) ty4 rfl rfl rfl rfl rfl (Zj rfl Zt) rfl <| Zb <| Zc <| Za <| JLr (Zi ZS rfl (At.bx 0 rfl) rfl <| JLr (Zd 1 (vs := [.bool true, .bool false, .bool false]) (l := [.bool true, .bool false, .bool false]) ZS rfl rfl rfl rfl rfl (Zj rfl (Zj rfl (Zj rfl Zt))) rfl <| Zb <| Zk <| ⟨.agg ⟨[.bool true, .bool false, .bool false]⟩, [], Ret.one rfl (RV.cell ZS rfl (At.bx 1 rfl) rfl), Sub.nil, ?_⟩)))
  exact ⟨by simp_all [fN, fR, fC], rfl⟩
 replace h7 := df h7
 refine Za <| JLn (Pu.eql rfl rfl) <| JLA rfl <| Zb <| Zg rfl (fun h9 => ?_) (fun h9 => ?_)
 ·replace h9 := dt h9
  refine Za <| JLq (pp b2 0) (Pu.idxA 0 Tryz.runUnderlying137 ty4 rfl rfl (by decide) (by decide)) <| JLr (Zd 0 (vs := [.bool true]) (l := [.bool true, .bool false, .bool false]) ty4 rfl rfl rfl rfl rfl (Zj rfl Zt) rfl <| Zb <| Zc <| Za <| JLr (Zi ZS rfl (At.bx 0 rfl) rfl <| JLr (Zd 1 (vs := [.bool true, .bool false, .bool false]) (l := [.bool true, .bool false, .bool false]) ZS rfl rfl rfl rfl rfl (Zj rfl (Zj rfl (Zj rfl Zt))) rfl <| Zb <| Zk <| ⟨.agg ⟨[.bool true, .bool false, .bool false]⟩, [], Ret.one rfl (RV.cell ZS rfl (At.bx 1 rfl) rfl), Sub.nil, ?_⟩)))
  exact ⟨by simp_all [fN, fR, fC], rfl⟩
 replace h9 := df h9
 refine Zc <| Zc <| Za <| JLn (Pu.eql rfl rfl) <| JLA rfl <| Zb <| Zg rfl (fun h10 => ?_) (fun h10 => ?_)
 ·replace h10 := dt h10
  refine Zm <| Zg rfl (fun _ => ?_) (fun h11 => absurd h10 (df h11))
  refine Za <| JLq (pp b2 0) (Pu.idxA 0 Tryz.runUnderlying137 ty4 rfl rfl (by decide) (by decide)) <| JLr (Zd 0 (vs := [.bool true]) (l := [.bool true, .bool false, .bool false]) ty4 rfl rfl rfl rfl rfl (Zj rfl Zt) rfl <| JLq (pp b2 1) (Pu.idxA 1 Tryz.runUnderlying137 ty4 rfl rfl (by decide) (by decide)) <| JLr (Zd 0 (vs := [.bool true]) (l := [.bool true, .bool true, .bool false]) ty4 rfl rfl rfl rfl rfl (Zj rfl Zt) rfl <| Zb <| Zc <| Za <| JLr (Zi ZS rfl (At.bx 0 rfl) rfl <| JLr (Zd 1 (vs := [.bool true, .bool true, .bool false]) (l := [.bool true, .bool true, .bool false]) ZS rfl rfl rfl rfl rfl (Zj rfl (Zj rfl (Zj rfl Zt))) rfl <| Zb <| Zk <| ⟨.agg ⟨[.bool true, .bool true, .bool false]⟩, [], Ret.one rfl (RV.cell ZS rfl (At.bx 1 rfl) rfl), Sub.nil, ?_⟩))))
  exact ⟨by simp_all [fN, fR, fC], rfl⟩
 replace h10 := df h10
 refine Za <| JLn (Pu.eql rfl rfl) <| JLA rfl <| Zb <| Zg rfl (fun h12 => ?_) (fun h12 => ?_)
 ·replace h12 := dt h12
  refine Za <| JLq (pp b2 0) (Pu.idxA 0 Tryz.runUnderlying137 ty4 rfl rfl (by decide) (by decide)) <| JLr (Zd 0 (vs := [.bool true]) (l := [.bool true, .bool false, .bool false]) ty4 rfl rfl rfl rfl rfl (Zj rfl Zt) rfl <| JLq (pp b2 1) (Pu.idxA 1 Tryz.runUnderlying137 ty4 rfl rfl (by decide) (by decide)) <| JLr (Zd 0 (vs := [.bool true]) (l := [.bool true, .bool true, .bool false]) ty4 rfl rfl rfl rfl rfl (Zj rfl Zt) rfl <| Zb <| Zc <| Za <| JLr (Zi ZS rfl (At.bx 0 rfl) rfl <| JLr (Zd 1 (vs := [.bool true, .bool true, .bool false]) (l := [.bool true, .bool true, .bool false]) ZS rfl rfl rfl rfl rfl (Zj rfl (Zj rfl (Zj rfl Zt))) rfl <| Zb <| Zk <| ⟨.agg ⟨[.bool true, .bool true, .bool false]⟩, [], Ret.one rfl (RV.cell ZS rfl (At.bx 1 rfl) rfl), Sub.nil, ?_⟩))))
  exact ⟨by simp_all [fN, fR, fC], rfl⟩
 replace h12 := df h12
 refine Zc <| Zc <| Za <| JLn (Pu.eql rfl rfl) <| JLA rfl <| Zb <| Zg rfl (fun h13 => ?_) (fun h13 => ?_)
 ·replace h13 := dt h13
  refine Zm <| Zg rfl (fun _ => ?_) (fun h14 => absurd h13 (df h14))
  refine Za <| JLq (pp b2 1) (Pu.idxA 1 Tryz.runUnderlying137 ty4 rfl rfl (by decide) (by decide)) <| JLr (Zd 0 (vs := [.bool true]) (l := [.bool false, .bool true, .bool false]) ty4 rfl rfl rfl rfl rfl (Zj rfl Zt) rfl <| Zb <| Zc <| Za <| JLr (Zi ZS rfl (At.bx 0 rfl) rfl <| JLr (Zd 1 (vs := [.bool false, .bool true, .bool false]) (l := [.bool false, .bool true, .bool false]) ZS rfl rfl rfl rfl rfl (Zj rfl (Zj rfl (Zj rfl Zt))) rfl <| Zb <| Zk <| ⟨.agg ⟨[.bool false, .bool true, .bool false]⟩, [], Ret.one rfl (RV.cell ZS rfl (At.bx 1 rfl) rfl), Sub.nil, ?_⟩)))
  exact ⟨by simp_all [fN, fR, fC], rfl⟩
 replace h13 := df h13
 refine Za <| JLn (Pu.eql rfl rfl) <| JLA rfl <| Zb <| Zg rfl (fun h15 => ?_) (fun h15 => ?_)
 ·replace h15 := dt h15
  refine Za <| JLq (pp b2 1) (Pu.idxA 1 Tryz.runUnderlying137 ty4 rfl rfl (by decide) (by decide)) <| JLr (Zd 0 (vs := [.bool true]) (l := [.bool false, .bool true, .bool false]) ty4 rfl rfl rfl rfl rfl (Zj rfl Zt) rfl <| Zb <| Zc <| Za <| JLr (Zi ZS rfl (At.bx 0 rfl) rfl <| JLr (Zd 1 (vs := [.bool false, .bool true, .bool false]) (l := [.bool false, .bool true, .bool false]) ZS rfl rfl rfl rfl rfl (Zj rfl (Zj rfl (Zj rfl Zt))) rfl <| Zb <| Zk <| ⟨.agg ⟨[.bool false, .bool true, .bool false]⟩, [], Ret.one rfl (RV.cell ZS rfl (At.bx 1 rfl) rfl), Sub.nil, ?_⟩)))
  exact ⟨by simp_all [fN, fR, fC], rfl⟩
 replace h15 := df h15
 refine Zc <| Za <| JLn (Pu.eql rfl rfl) <| JLA rfl <| Zb <| Zg rfl (fun h16 => ?_) (fun h16 => ?_)
 ·replace h16 := dt h16
  refine Za <| JLq (pp b2 2) (Pu.idxA 2 Tryz.runUnderlying137 ty4 rfl rfl (by decide) (by decide)) <| JLr (Zd 0 (vs := [.bool true]) (l := [.bool false, .bool false, .bool true]) ty4 rfl rfl rfl rfl rfl (Zj rfl Zt) rfl <| Zb <| Zc <| Za <| JLr (Zi ZS rfl (At.bx 0 rfl) rfl <| JLr (Zd 1 (vs := [.bool false, .bool false, .bool true]) (l := [.bool false, .bool false, .bool true]) ZS rfl rfl rfl rfl rfl (Zj rfl (Zj rfl (Zj rfl Zt))) rfl <| Zb <| Zk <| ⟨.agg ⟨[.bool false, .bool false, .bool true]⟩, [], Ret.one rfl (RV.cell ZS rfl (At.bx 1 rfl) rfl), Sub.nil, ?_⟩)))
  exact ⟨by simp_all [fN, fR, fC], rfl⟩
 replace h16 := df h16
 refine Zm <| Zc <| Za <| JLr (Zi ZS rfl (At.bx 0 rfl) rfl <| JLr (Zd 1 (vs := [.bool false, .bool false, .bool false]) (l := [.bool false, .bool false, .bool false]) ZS rfl rfl rfl rfl rfl (Zj rfl (Zj rfl (Zj rfl Zt))) rfl <| Zb <| Zk <| ⟨.agg ⟨[.bool false, .bool false, .bool false]⟩, [], Ret.one rfl (RV.cell ZS rfl (At.bx 1 rfl) rfl), Sub.nil, ?_⟩))
 exact ⟨by simp_all [fN, fR, fC], rfl⟩
theorem patternFields_ct (k : Int) (H : Heap) : CT Tryz.prog 156 ⟨[iv k]⟩ [] H (fun v N => v = .agg ⟨[.bool (pfN k), .bool (pfR k), .bool false]⟩ ∧ N = []) := by
 refine Zl Tryz.func156 rfl rfl <| Zc <| Za <| JLr (Zh (l := [.bool false, .bool false, .bool false]) Tryz.zeroValue137 rfl fun b1 => Zb <| Zc <| Zc <| Za <| JLM rfl <| Zb <| Zo <| Zc <| Za ?_)
 refine JLn (Pu.eql rfl rfl) <| JLA rfl <| Zb <| Zg rfl (fun h2 => ?_) (fun h2 => ?_)
 ·replace h2 := dt h2
  refine Zc <| Za <| JLq (.agg ⟨[.bool true, .bool false, .bool false]⟩) (Pu.build (pv := [(0, .bool true), (1, .bool false), (2, .bool false)]) (l := [.bool true, .bool false, .bool false]) rfl (bld137_0_1_2 _ _ _)) <| JLr (Zd 0 (vs := [.bool true, .bool false, .bool false]) (l := [.bool true, .bool false, .bool false]) ZS rfl rfl rfl rfl rfl (Zj rfl (Zj rfl (Zj rfl Zt))) rfl <| Zb <| Zk <| ⟨.agg ⟨[.bool true, .bool false, .bool false]⟩, [], Ret.one rfl (RV.cell ZS rfl (At.bx 0 rfl) rfl), Sub.nil, ?_⟩)
  exact ⟨by simp_all [pfN, pfR], rfl⟩
 replace h2 := df h2
 refine Zc <| Za <| JLn (Pu.eql rfl rfl) <| JLA rfl <| Zb <| Zg rfl (fun h3 => ?_) (fun h3 => ?_)
 ·replace h3 := dt h3
  refine Zc <| Za <| JLq (.agg ⟨[.bool true, .bool true, .bool false]⟩) (Pu.build (pv := [(0, .bool true), (1, .bool true), (2, .bool false)]) (l := [.bool true, .bool true, .bool false]) rfl (bld137_0_1_2 _ _ _)) <| JLr (Zd 0 (vs := [.bool true, .bool true, .bool false]) (l := [.bool true, .bool true, .bool false]) ZS rfl rfl rfl rfl rfl (Zj rfl (Zj rfl (Zj rfl Zt))) rfl <| Zb <| Zk <| ⟨.agg ⟨[.bool true, .bool true, .bool false]⟩, [], Ret.one rfl (RV.cell ZS rfl (At.bx 0 rfl) rfl), Sub.nil, ?_⟩)
  exact ⟨by simp_all [pfN, pfR], rfl⟩
 replace h3 := df h3
 refine Zm <| Zc <| Za <| JLq (.agg ⟨[.bool false, .bool false, .bool false]⟩) (Pu.build (pv := []) (l := [.bool false, .bool false, .bool false]) rfl bld137_) <| JLr (Zd 0 (vs := [.bool false, .bool false, .bool false]) (l := [.bool false, .bool false, .bool false]) ZS rfl rfl rfl rfl rfl (Zj rfl (Zj rfl (Zj rfl Zt))) rfl <| Zb <| Zk <| ⟨.agg ⟨[.bool false, .bool false, .bool false]⟩, [], Ret.one rfl (RV.cell ZS rfl (At.bx 0 rfl) rfl), Sub.nil, ?_⟩)
 exact ⟨by simp_all [pfN, pfR], rfl⟩
theorem clash_ct (a b c : Bool) (n : Int) (r : Sm) (m : Int) (H : Heap) : CT Tryz.prog 139 ⟨[.agg ⟨[.bool a, .bool b, .bool c]⟩, iv n, .agg ⟨sC r⟩, iv m]⟩ [] H (fun v N => v = .bool (clashB a b c n r m) ∧ N = []) := by
 refine Zl Tryz.func139 rfl rfl <| Zc <| Za <| JLr (Zp (l := [.bool a, .bool b, .bool c]) rfl rfl fun b1 => JLr (Zp (l := sC r) rfl rfl fun b2 => JLA rfl <| Zb <| Zc <| Za <| JLM rfl <| JLn (Pu.neq rfl rfl) <| JLr (Zi ty24 rfl (At.bx 0 rfl) (Zu rfl) <| JLq (.agg ⟨sC zS⟩) (Pu.build (pv := []) (l := sC zS) rfl bld24_) ?_)))
 refine JLn (neqS rfl rfl) <| JLM rfl <| JLn (Pu.gtr rfl rfl) <| JLq (.agg ⟨[.bool (!decide (n = 0)), .bool (!decide (r = zS)), .bool (decide (0 < m))]⟩) (Pu.build (pv := [(0, .bool (!decide (n = 0))), (1, .bool (!decide (r = zS))), (2, .bool (decide (0 < m)))]) (l := [.bool (!decide (n = 0)), .bool (!decide (r = zS)), .bool (decide (0 < m))]) rfl (bld137_0_1_2 _ _ _)) <| JLr (Zh (l := [.bool false, .bool false, .bool false]) Tryz.zeroValue137 rfl fun b3 => JLr (Zd 0 (vs := [.bool (!decide (n = 0)), .bool (!decide (r = zS)), .bool (decide (0 < m))]) (l := [.bool (!decide (n = 0)), .bool (!decide (r = zS)), .bool (decide (0 < m))]) ZS rfl rfl rfl rfl rfl (Zj rfl (Zj rfl (Zj rfl Zt))) rfl <| Zb <| Zc <| Za <| JLr (Zi ZS rfl (At.bx 0 rfl) rfl <| JLr (Zh (l := [.bool false, .bool false, .bool false]) Tryz.zeroValue137 rfl fun b4 => JLr (Zd 0 (vs := [.bool (!decide (n = 0)), .bool (!decide (r = zS)), .bool (decide (0 < m))]) (l := [.bool (!decide (n = 0)), .bool (!decide (r = zS)), .bool (decide (0 < m))]) ZS rfl rfl rfl rfl rfl (Zj rfl (Zj rfl (Zj rfl Zt))) rfl <| Zb ?_)))))
 refine Zc <| Zc <| Za <| JLM rfl <| Zb <| Zo <| Yw 4 <| ZO <| Zc <| Za <| JLq (.bool true) (show Pu _ _ _ (.bool (decide ((0 : Int) < 3))) from Pu.lss rfl rfl) <| Zb <| Zc ?_
 refine Zg (b := true) rfl (fun _ => ?_) (fun h => absurd h (by simp))
 refine Zm <| Zc <| Zo <| Zc <| Za <| JLM rfl <| JLA rfl <| Zb <| Za <| JLM rfl <| JLM rfl <| JLq (pp b3 0) (Pu.idxA 0 Tryz.runUnderlying137 ty4 rfl rfl (by decide) (by decide)) <| JLr (Ze ty4 rfl (At.bx 1 rfl) rfl ?_)
 refine JLM rfl <| Zx 3 [29, 30, 31] [(31, cond (!decide (n = 0)) (.bool a) undef)] ?_ fun f6 => ?_
 ·cases h5 : (!decide (n = 0)) with
  | true =>
   replace h5 := nt h5
   replace h5 := df h5
   refine JLM rfl <| JLq (pp b1 0) (Pu.idxA 0 Tryz.runUnderlying137 ty4 rfl rfl (by decide) (by decide)) <| JLr (Ze ty4 rfl (At.bx 3 rfl) rfl ?_)
   exact Zb ⟨⟨rfl, trivial⟩, rfl⟩
  | false =>
   exact ZH rfl ⟨rfl, trivial⟩
 refine JLn (Pu.pickAnd rfl rfl rfl) <| JLq (pp b4 0) (Pu.idxA 0 Tryz.runUnderlying137 ty4 rfl rfl (by decide) (by decide)) <| JLr (Zd 0 (vs := [.bool ((!decide (n = 0)) && a)]) (l := [.bool ((!decide (n = 0)) && a), .bool (!decide (r = zS)), .bool (decide (0 < m))]) ty4 rfl rfl rfl rfl rfl (Zj rfl Zt) rfl <| Zb <| Za <| JLq (iv 1) (Pu.arith rfl rfl rfl) <| JLM rfl <| Zb <| ZO <| Zc <| Za <| JLq (.bool true) (show Pu _ _ _ (.bool (decide ((1 : Int) < 3))) from Pu.lss rfl rfl) <| Zb ?_)
 refine Zc <| Zg (b := true) rfl (fun _ => ?_) (fun h => absurd h (by simp))
 refine Zm <| Zc <| Zo <| Zc <| Za <| JLM rfl <| JLA rfl <| Zb <| Za <| JLM rfl <| JLM rfl <| JLq (pp b3 1) (Pu.idxA 1 Tryz.runUnderlying137 ty4 rfl rfl (by decide) (by decide)) <| JLr (Ze ty4 rfl (At.bx 1 rfl) rfl ?_)
 refine JLM rfl <| Zx 3 [29, 30, 31] [(31, cond (!decide (r = zS)) (.bool b) undef)] ?_ fun f8 => ?_
 ·cases h7 : (!decide (r = zS)) with
  | true =>
   replace h7 := nt h7
   replace h7 := df h7
   refine JLM rfl <| JLq (pp b1 1) (Pu.idxA 1 Tryz.runUnderlying137 ty4 rfl rfl (by decide) (by decide)) <| JLr (Ze ty4 rfl (At.bx 3 rfl) rfl ?_)
   exact Zb ⟨⟨rfl, trivial⟩, rfl⟩
  | false =>
   exact ZH rfl ⟨rfl, trivial⟩
 refine JLn (Pu.pickAnd rfl rfl rfl) <| JLq (pp b4 1) (Pu.idxA 1 Tryz.runUnderlying137 ty4 rfl rfl (by decide) (by decide)) <| JLr (Zd 0 (vs := [.bool ((!decide (r = zS)) && b)]) (l := [.bool ((!decide (n = 0)) && a), .bool ((!decide (r = zS)) && b), .bool (decide (0 < m))]) ty4 rfl rfl rfl rfl rfl (Zj rfl Zt) rfl <| Zb <| Za <| JLq (iv 2) (Pu.arith rfl rfl rfl) <| JLM rfl <| Zb <| ZO <| Zc <| Za <| JLq (.bool true) (show Pu _ _ _ (.bool (decide ((2 : Int) < 3))) from Pu.lss rfl rfl) <| Zb ?_)
 refine Zc <| Zg (b := true) rfl (fun _ => ?_) (fun h => absurd h (by simp))
 refine Zm <| Zc <| Zo <| Zc <| Za <| JLM rfl <| JLA rfl <| Zb <| Za <| JLM rfl <| JLM rfl <| JLq (pp b3 2) (Pu.idxA 2 Tryz.runUnderlying137 ty4 rfl rfl (by decide) (by decide)) <| JLr (Ze ty4 rfl (At.bx 1 rfl) rfl ?_)
 refine JLM rfl <| Zx 3 [29, 30, 31] [(31, cond (decide (0 < m)) (.bool c) undef)] ?_ fun f10 => ?_
 ·cases h9 : (decide (0 < m)) with
  | true =>
   replace h9 := dt h9
   refine JLM rfl <| JLq (pp b1 2) (Pu.idxA 2 Tryz.runUnderlying137 ty4 rfl rfl (by decide) (by decide)) <| JLr (Ze ty4 rfl (At.bx 3 rfl) rfl ?_)
   exact Zb ⟨⟨rfl, trivial⟩, rfl⟩
  | false =>
   exact ZH rfl ⟨rfl, trivial⟩
 refine JLn (Pu.pickAnd rfl rfl rfl) <| JLq (pp b4 2) (Pu.idxA 2 Tryz.runUnderlying137 ty4 rfl rfl (by decide) (by decide)) <| JLr (Zd 0 (vs := [.bool ((decide (0 < m)) && c)]) (l := [.bool ((!decide (n = 0)) && a), .bool ((!decide (r = zS)) && b), .bool ((decide (0 < m)) && c)]) ty4 rfl rfl rfl rfl rfl (Zj rfl Zt) rfl <| Zb <| Za <| JLq (iv 3) (Pu.arith rfl rfl rfl) <| JLM rfl <| Zb <| ZO <| Zc <| Za <| JLq (.bool false) (show Pu _ _ _ (.bool (decide ((3 : Int) < 3))) from Pu.lss rfl rfl) <| Zb ?_)
 refine Zc <| Zg (b := false) rfl (fun h => absurd h (by simp)) (fun _ => ZG _ rfl <| Zc <| Za <| JLr (Zi ZS rfl (At.bx 0 rfl) rfl <| JLr (Zi ZS rfl (At.bx 1 rfl) rfl <| JLq (.bool (!((((!decide (n = 0)) && a) == (!decide (n = 0))) && ((((!decide (r = zS)) && b) == (!decide (r = zS))) && (((decide (0 < m)) && c) == (decide (0 < m))))))) (neqB3 rfl rfl) <| JLA rfl <| Zb <| Zk <| ⟨.bool (!((((!decide (n = 0)) && a) == (!decide (n = 0))) && ((((!decide (r = zS)) && b) == (!decide (r = zS))) && (((decide (0 < m)) && c) == (decide (0 < m)))))), [], Ret.one rfl (RV.tmp rfl), Sub.nil, ?_⟩)))
 exact ⟨by unfold clashB; congr 1; cases a <;> cases b <;> cases c <;> simp, rfl⟩
theorem kidsT_ct (k n : Int) (H : Heap) : CT Tryz.prog 140 ⟨[iv k, iv n]⟩ [] H (fun v N => v = .bool (kidsB k n) ∧ N = []) := by
 refine Zl Tryz.func140 rfl rfl <| Zc <| Za <| JLA rfl <| Zb <| Zc <| Zc <| Za <| JLM rfl <| Zb <| Zo <| Zc <| Zc ?_
 refine Za <| JLn (Pu.eql rfl rfl) <| JLA rfl <| Zb <| Zg rfl (fun h1 => ?_) (fun h1 => ?_)
 ·replace h1 := dt h1
  refine Zm <| Zg rfl (fun _ => ?_) (fun h2 => absurd h1 (df h2))
  refine Zc <| Za <| JLM rfl <| JLn (Pu.eql rfl rfl) <| JLA rfl <| Zb <| Zk <| ⟨.bool (decide (n = 1)), [], Ret.one rfl (RV.tmp rfl), Sub.nil, ?_⟩
  exact ⟨by simp_all [kidsB], rfl⟩
 replace h1 := df h1
 refine Zc <| Za <| JLn (Pu.eql rfl rfl) <| JLA rfl <| Zb <| Zg rfl (fun h3 => ?_) (fun h3 => ?_)
 ·replace h3 := dt h3
  refine Zm <| Zg rfl (fun _ => ?_) (fun h4 => absurd h3 (df h4))
  refine Zc <| Za <| JLM rfl <| JLn (Pu.eql rfl rfl) <| JLA rfl <| Zb <| Zk <| ⟨.bool (decide (n = 1)), [], Ret.one rfl (RV.tmp rfl), Sub.nil, ?_⟩
  exact ⟨by simp_all [kidsB], rfl⟩
 replace h3 := df h3
 refine Za <| JLn (Pu.eql rfl rfl) <| JLA rfl <| Zb <| Zg rfl (fun h5 => ?_) (fun h5 => ?_)
 ·replace h5 := dt h5
  refine Zc <| Za <| JLM rfl <| JLn (Pu.eql rfl rfl) <| JLA rfl <| Zb <| Zk <| ⟨.bool (decide (n = 1)), [], Ret.one rfl (RV.tmp rfl), Sub.nil, ?_⟩
  exact ⟨by simp_all [kidsB], rfl⟩
 replace h5 := df h5
 refine Zc <| Zc <| Za <| JLn (Pu.eql rfl rfl) <| JLA rfl <| Zb <| Zg rfl (fun h6 => ?_) (fun h6 => ?_)
 ·replace h6 := dt h6
  refine Zm <| Zg rfl (fun _ => ?_) (fun h7 => absurd h6 (df h7))
  refine Zc <| Za <| JLM rfl <| JLn (Pu.eql rfl rfl) <| JLA rfl <| Zb <| Zk <| ⟨.bool (decide (n = 2)), [], Ret.one rfl (RV.tmp rfl), Sub.nil, ?_⟩
  exact ⟨by simp_all [kidsB], rfl⟩
 replace h6 := df h6
 refine Zc <| Za <| JLn (Pu.eql rfl rfl) <| JLA rfl <| Zb <| Zg rfl (fun h8 => ?_) (fun h8 => ?_)
 ·replace h8 := dt h8
  refine Zm <| Zg rfl (fun _ => ?_) (fun h9 => absurd h8 (df h9))
  refine Zc <| Za <| JLM rfl <| JLn (Pu.eql rfl rfl) <| JLA rfl <| Zb <| Zk <| ⟨.bool (decide (n = 2)), [], Ret.one rfl (RV.tmp rfl), Sub.nil, ?_⟩
  exact ⟨by simp_all [kidsB], rfl⟩
 replace h8 := df h8
 refine Za <| JLn (Pu.eql rfl rfl) <| JLA rfl <| Zb <| Zg rfl (fun h10 => ?_) (fun h10 => ?_)
 ·replace h10 := dt h10
  refine Zc <| Za <| JLM rfl <| JLn (Pu.eql rfl rfl) <| JLA rfl <| Zb <| Zk <| ⟨.bool (decide (n = 2)), [], Ret.one rfl (RV.tmp rfl), Sub.nil, ?_⟩
  exact ⟨by simp_all [kidsB], rfl⟩
 replace h10 := df h10
 refine Zc <| Za <| JLn (Pu.eql rfl rfl) <| JLA rfl <| Zb <| Zg rfl (fun h11 => ?_) (fun h11 => ?_)
 ·replace h11 := dt h11
  refine Zc <| Za <| JLM rfl <| JLn (Pu.leq rfl rfl) <| JLA rfl <| Zb <| Zk <| ⟨.bool (decide (n ≤ 4)), [], Ret.one rfl (RV.tmp rfl), Sub.nil, ?_⟩
  exact ⟨by simp_all [kidsB], rfl⟩
 replace h11 := df h11
 refine Zc <| Za <| JLn (Pu.eql rfl rfl) <| JLA rfl <| Zb <| Zg rfl (fun h12 => ?_) (fun h12 => ?_)
 ·replace h12 := dt h12
  refine Zc <| Za <| JLM rfl <| Jc Tryz.call45 rfl (fun hin => Yy _ _ _ _) rfl ?_
  rintro _ _ ⟨rfl, rfl⟩
  refine JLn (Pu.not rfl) <| JLA rfl <| Zb <| Zk <| ⟨.bool (!(decide (n < 2 ∨ 10 < n))), [], Ret.one rfl (RV.tmp rfl), Sub.nil, ?_⟩
  exact ⟨by simp_all [kidsB], rfl⟩
 replace h12 := df h12
 refine Zm <| Zc <| Za <| JLM rfl <| JLn (Pu.eql rfl rfl) <| JLA rfl <| Zb <| Zk <| ⟨.bool (decide (n = 0)), [], Ret.one rfl (RV.tmp rfl), Sub.nil, ?_⟩
 exact ⟨by simp_all [kidsB], rfl⟩
end Go.Proofs.YtjhenmdcnbaobaaGreat.Hs
/-! Walks, printed by a program of this session's own (gen.py). -/
namespace Go.Proofs.YtjhenmdcnbaobaaGreat.Hs
open Go Go.Proofs
set_option maxRecDepth 100000
set_option linter.unusedVariables false
set_option linter.unusedSimpArgs false
attribute [local irreducible] JL J CT wlo DT
theorem idxI_ct (g : Nat) (fs cv : List Value) (hcall : ∀ args w, (callFunc g args).run Tryz.prog w = .ok (.enter g args) w) (pr : Int → Bool) (l : List Int) (v : Value) (H : Heap) (hl : rdS RI 1 H v l) (hg : ∀ x ∈ l, ∀ h, Hle H h → CT Tryz.prog g ⟨fs ++ [iv x] ++ cv⟩ [] h (fun v N => v = .bool (pr x) ∧ N = [])) : CT Tryz.prog 56 ⟨[v, .func (.func g) ⟨fs⟩ ⟨cv⟩]⟩ [] H (fun v N => v = iv (fstI pr l 0) ∧ N = []) := by
 refine Zl Tryz.func56 rfl rfl <| Zc <| Za <| JLA rfl <| Zb <| Zc <| Zc <| Za <| JLm v ?_
 obtain ⟨a1, cap1, hv1⟩ := hl.sl
 have hle1 := hl.le
 refine JLn (Pu.lenSl Tryz.runUnderlying49 hv1) <| JLM rfl <| Zb <| Zo <| ZP (fun k ρ M => ∃ (j : Nat), ρ 0 = v ∧ ρ 1 = .func (.func g) ⟨fs⟩ ⟨cv⟩ ∧ ρ 4 = iv 0 ∧ ρ 7 = iv ((l.length : Int)) ∧ ρ 8 = iv ((j : Int)) ∧ Sub [] M ∧ j ≤ l.length ∧ fstI pr (l.drop j) j = fstI pr l 0 ∧ k = l.length - j) _ ⟨0, rfl, rfl, rfl, rfl, rfl, Sub.nil, Nat.zero_le _, rfl, rfl⟩ ?_
 rintro _ ρ2 _ ⟨j, e3, e4, e5, e6, e7, hm8, hj, hinv, rfl⟩
 obtain ⟨ρ9, rfl⟩ := Zn (uc e3 (uc e4 (uc e5 (uc e6 (uc e7 un)))))
 clear e3 e4 e5 e6 e7
 refine Z6 hm8 <| Zc <| Za <| JLn (Pu.lss rfl rfl) <| Zb <| Zc <| Zg rfl (fun h10 => ?_) (fun h10 => ?_)
 ·replace h10 := dt h10
  have h10n : j < l.length := by omega
  have hlenl := hl.le
  refine Zm <| Zc <| Zo <| Zc <| Za <| JLM rfl <| JLA rfl <| Zb <| Zc <| Za <| JLM rfl <| JLm v <| JLM rfl ?_
  obtain ⟨b11, o11, cap11, row11, T11, fr11, cs11, hv11, hb11, hs11, hE11⟩ := hl.get j (by first | assumption | omega | decide | simp)
  refine JLq (pp b11 (o11 + j * 1)) (Pu.idx j Tryz.runUnderlying49 ty3 hv11 rfl rfl (by first | assumption | omega | decide | simp)) <| JLr (Ze ty3 rfl (At.im hb11) (Yx ((show cs11 = [Value.int .i64 (l[j])] from hE11) ▸ hs11)) <| Jc hcall rfl (fun hin => hg _ (List.getElem_mem h10n) _ (Hle.hu _ _)) rfl ?_)
  rintro _ _ ⟨rfl, rfl⟩
  refine Zb <| Zg rfl (fun h12 => ?_) (fun h12 => ?_)
  ·refine Zc <| Za <| JLM rfl <| JLA rfl <| Zb <| Zk <| ⟨iv ((j : Int)), [], Ret.one rfl (RV.tmp rfl), Sub.nil, ?_⟩
   exact ⟨by rw [← hinv, Yf h10n, fstI, if_pos h12], rfl⟩
  refine Zm <| Za <| JLn (Pu.inc rfl rfl (by omega)) <| JLM rfl <| Zb <| ⟨_, ?_, (j + 1), rfl, rfl, rfl, rfl, rfl, Sub.nil, ?_, ?_, rfl⟩
  ·omega
  ·omega
  rw [Yf h10n, fstI, if_neg (by simp [h12])] at hinv; exact hinv
 replace h10 := df h10
 have h10n : l.length ≤ j := by omega
 refine ZG _ rfl <| Zc <| Za <| JLA rfl <| Zb <| Zk <| ⟨iv (-1), [], Ret.one rfl (RV.tmp rfl), Sub.nil, ?_⟩
 exact ⟨by rw [← hinv, dropn h10n]; rfl, rfl⟩
theorem containsI_ct (g : Nat) (fs cv : List Value) (hcall : ∀ args w, (callFunc g args).run Tryz.prog w = .ok (.enter g args) w) (pr : Int → Bool) (l : List Int) (v : Value) (H : Heap) (hl : rdS RI 1 H v l) (hg : ∀ x ∈ l, ∀ h, Hle H h → CT Tryz.prog g ⟨fs ++ [iv x] ++ cv⟩ [] h (fun v N => v = .bool (pr x) ∧ N = [])) : CT Tryz.prog 23 ⟨[v, .func (.func g) ⟨fs⟩ ⟨cv⟩]⟩ [] H (fun v N => v = .bool (l.any pr) ∧ N = []) := by
 refine Zl Tryz.func23 rfl rfl <| Zc <| Za <| JLA rfl <| Zb <| Zc <| Za <| JLm v <| JLM rfl <| Jc Tryz.call56 rfl (fun hin => idxI_ct g fs cv hcall pr _ _ _ (RIs.mono (Hle.hu _ _) hl) (fun x hx h hh => hg x hx h (Hle.trans (Hle.hu _ _) hh))) rfl ?_
 rintro _ _ ⟨rfl, rfl⟩
 refine JLn (Pu.geq rfl rfl) <| JLA rfl <| Zb <| Zk <| ⟨.bool (decide (0 ≤ fstI pr l 0)), [], Ret.one rfl (RV.tmp rfl), Sub.nil, ?_⟩
 exact ⟨by rw [← fstI_any pr l 0], rfl⟩
theorem every1_ct (g : Nat) (fs cv : List Value) (hcall : ∀ args w, (callFunc g args).run Tryz.prog w = .ok (.enter g args) w) (pr : Int → Bool) (x : Int) (H : Heap) (bP : Nat) (hP : H bP = some (.cells ⟨[.func (.func g) ⟨fs⟩ ⟨cv⟩]⟩ 62 (0, 0))) (hg : ∀ h, Hle H h → CT Tryz.prog g ⟨fs ++ [iv x] ++ cv⟩ [] h (fun v N => v = .bool (pr x) ∧ N = [])) : CT Tryz.prog 122 ⟨[iv x, pp bP 0]⟩ [] H (fun v N => v = .bool (!pr x) ∧ N = []) := by
 refine Zl Tryz.func122 rfl rfl <| Zc <| Za <| JLA rfl <| Zb <| Zc <| Za <| JLr (Ze ty62 rfl (At.im hP) rfl <| JLM rfl <| Jc hcall rfl (fun hin => hg _ (Hle.hu _ _)) rfl ?_)
 rintro _ _ ⟨rfl, rfl⟩
 refine JLn (Pu.not rfl) <| JLA rfl <| Zb <| Zk <| ⟨.bool (!(pr x)), [], Ret.one rfl (RV.tmp rfl), Sub.nil, ?_⟩
 exact ⟨rfl, rfl⟩
theorem every_ct (g : Nat) (fs cv : List Value) (hcall : ∀ args w, (callFunc g args).run Tryz.prog w = .ok (.enter g args) w) (pr : Int → Bool) (l : List Int) (v : Value) (H : Heap) (hl : rdS RI 1 H v l) (hg : ∀ x ∈ l, ∀ h, Hle H h → CT Tryz.prog g ⟨fs ++ [iv x] ++ cv⟩ [] h (fun v N => v = .bool (pr x) ∧ N = [])) : CT Tryz.prog 74 ⟨[v, .func (.func g) ⟨fs⟩ ⟨cv⟩]⟩ [] H (fun v N => v = .bool (l.all pr) ∧ N = []) := by
 refine Zl Tryz.func74 rfl rfl <| Zc <| Za <| JLr (Zp (l := [.func (.func g) ⟨fs⟩ ⟨cv⟩]) rfl rfl fun b1 => JLA rfl <| Zb <| Zc <| Za <| JLm v <| JLq (.func (.func 122) ⟨[]⟩ ⟨[pp b1 0]⟩) (Pu.makeFunc rfl rfl) <| Jc Tryz.call23 rfl (fun hin => containsI_ct 122 [] [pp b1 0] Tryz.call122 (fun x => !pr x) _ _ _ (RIs.mono (Hle.hu _ _) hl) (fun x hx h hh => every1_ct g fs cv hcall pr x h b1 (hh _ _ (hin 0 _ rfl _ _ List.mem_cons_self)) (fun h2 hh2 => hg x hx h2 (Hle.trans (Hle.trans (Hle.hu _ _) hh) hh2)))) rfl ?_)
 rintro _ _ ⟨rfl, rfl⟩
 refine JLn (Pu.not rfl) <| JLA rfl <| Zb <| Zk <| ⟨.bool (!(l.any (fun x => !pr x))), [], Ret.one rfl (RV.tmp rfl), Sub.nil, ?_⟩
 exact ⟨by simp [List.not_any_eq_all_not], rfl⟩
theorem shiftO_ct (n dy fr : Int) (H : Heap) (bF bD : Nat) (hF : H bF = some (.cells ⟨[iv fr]⟩ 3 (0, 0))) (hD : H bD = some (.cells ⟨[iv dy]⟩ 3 (0, 0))) (hn0 : 0 ≤ n) (hn1 : n ≤ 60) (hd0 : -60 ≤ dy) (hd1 : dy ≤ 60) : CT Tryz.prog 75 ⟨[iv n, pp bF 0, pp bD 0]⟩ [] H (fun v N => v = .bool (mvOk dy fr n) ∧ N = []) := by
 refine Zl Tryz.func75 rfl rfl <| Zc <| Za <| JLA rfl <| Zb <| Zc <| Za <| JLM rfl <| JLr (Ze ty3 rfl (At.im hF) rfl <| JLn (Pu.lss rfl rfl) <| JLM rfl ?_)
 cases h1 : (decide (n < fr)) with
 | true =>
  replace h1 := dt h1
  iterate 6 refine JL_skip rfl ?_
  refine JLq (.bool true) (Pu.pickT rfl rfl) <| JLA rfl <| Zb <| Zk <| ⟨.bool true, [], Ret.one rfl (RV.tmp rfl), Sub.nil, ?_⟩
  exact ⟨by simp only [mvOk]; simp_all <;> omega, rfl⟩
 | false =>
  replace h1 := df h1
  refine JLM rfl <| JLr (Ze ty3 rfl (At.im hD) rfl <| JLn (Pu.add64 rfl rfl (by first | omega | (constructor <;> omega))) <| JLr (Ze ty3 rfl (At.im hF) rfl <| Jc Tryz.call45 rfl (fun hin => Yy _ _ _ _) rfl ?_))
  rintro _ _ ⟨rfl, rfl⟩
  refine JLn (Pu.not rfl) <| JLq (.bool (!(decide (n + dy < fr ∨ 59 < n + dy)))) (Pu.pickF rfl rfl) <| JLA rfl <| Zb <| Zk <| ⟨.bool (!(decide (n + dy < fr ∨ 59 < n + dy))), [], Ret.one rfl (RV.tmp rfl), Sub.nil, ?_⟩
  exact ⟨by simp only [mvOk]; simp_all <;> omega, rfl⟩
theorem freeV_ct (n b : Int) (s : List Int) (r : Nat) (H : Heap) (bM : Nat) (hM : H bM = some (.cells ⟨[.map (some r)]⟩ 56 (0, 0))) (hn0 : 0 ≤ n) (hn1 : n ≤ 2000000) (hb0 : 0 ≤ b) (hb1 : b ≤ 2000000) : CT Tryz.prog 79 ⟨[iv n, iv b, pp bM 0]⟩ [metC r s] H (fun v N => ∃ cs k, v = .agg ⟨cs⟩ ∧ N = [k, metC r (YP n b s).2] ∧ OT (YP n b s).1 cs k) := by
 refine Zl Tryz.func79 rfl rfl <| Zc <| Za <| JLr (Zh (l := pkT 0 0 zS nS nS) Tryz.zeroValue28 rfl fun b1 => Zb <| Zc <| Za <| JLr (Ze ty56 rfl (At.im hM) rfl <| JLM rfl <| JLr (Runs_mapUpdate (i := 1) Tryz.underlying56 Tryz.underlying3 rfl rfl rfl rfl <| Zb <| Zc <| Za ?_)))
 refine JLM rfl <| JLM rfl <| Jc Tryz.call49 rfl (fun hin => stay_ct _ _ _ (by unfold inI; omega)) rfl ?_
 rintro _ _ ⟨cs2, k2, rfl, rfl, hO2⟩
 refine JLr (Zd 1 (vs := cs2) (l := cs2) Zs rfl rfl rfl rfl hO2.len hO2.ok (ZD (n := 36) rfl hO2.len) <| Zb <| Zk <| ⟨.agg ⟨cs2⟩, [k2, metC r (addK s n)], Ret.one rfl (RV.cell Zs rfl (At.bx 1 rfl) (Zu hO2.len)), (Sk (Sd (Sk Sub.nil))), ?_⟩)
 exact ⟨_, _, rfl, rfl, hO2⟩
theorem freeP_ct (t : Tm) (cs : List Value) (H : Heap) (ht : RT H cs t) (hz : sizeT t ≤ 900000) (hv : vOK t) : CT Tryz.prog 44 ⟨[.agg ⟨cs⟩]⟩ [] H (fun v N => ∃ u k, v = u ∧ N = [k] ∧ Own 3 1 u (Z3 (Zy t)) k) := by
 refine Zl Tryz.func44 rfl rfl <| Zc <| Za <| JLr (Zp (l := cs) rfl rfl fun b1 => JLA rfl <| Zb <| Zc <| Za <| JLr (Runs_makeMap fun r2 => JLr (Zh (l := [.map none]) Tryz.zeroValue56 rfl fun b3 => JLr (Zd 0 (vs := [.map (some r2)]) (l := [.map (some r2)]) ty56 rfl rfl rfl rfl rfl (Zj rfl Zt) rfl <| Zb <| Zc ?_))))
 refine Za <| JLq (.func (.func 79) ⟨[]⟩ ⟨[pp b3 0]⟩) (Pu.makeFunc rfl rfl) <| JLq (.agg ⟨[.func (.func 79) ⟨[]⟩ ⟨[pp b3 0]⟩, .func (.func 50) ⟨[]⟩ ⟨[]⟩]⟩) (Pu.build (pv := [(0, .func (.func 79) ⟨[]⟩ ⟨[pp b3 0]⟩), (1, .func (.func 50) ⟨[]⟩ ⟨[]⟩)]) (l := [.func (.func 79) ⟨[]⟩ ⟨[pp b3 0]⟩, .func (.func 50) ⟨[]⟩ ⟨[]⟩]) rfl (bld109_0_1 _ _ _ _ _ _)) <| JLr (Zi Zs rfl (At.bx 2 rfl) (Zu (Zv ht)) <| Zq 1 rfl Tryz.call51 rfl rfl (fun hin => mapTerm_ct 50 [] [] Tryz.call50 (fun s => s) 79 [] [pp b3 0] Tryz.call79 (List Int) (metC r2) (fun _ => True) YP (fun _ _ _ _ => trivial) _ _ _ _ _ (RT.mono (Hle.hu _ _) ht) (by omega) hv (by decide) (by omega) trivial (fun s h hh => same_ct s h) (fun n b s h hh _ h1 h2 h3 h4 => freeV_ct n b s r2 h b3 (hh _ _ (hin 0 _ rfl _ _ List.mem_cons_self)) h1 h2 h3 h4)) rfl ?_)
 rintro _ _ ⟨cs4, k4, rfl, rfl, hO4⟩
 refine Zb <| Zc <| Za <| JLA rfl <| Zb <| Zc <| Zc <| Za <| JLM rfl <| Zb <| Zo <| ZP (fun k ρ M => ∃ (j : Nat) (v : Value) (k1 : Zf), ρ 2 = nS ∧ ρ 3 = pp b3 0 ∧ ρ 4 = v ∧ ρ 11 = iv ((j : Int)) ∧ Sub [k1, metC r2 (metT t), (BX b3 [.map (some r2)] 56)] M ∧ j ≤ 60 ∧ Own 3 1 v (Z3 (upTo (metF (metT t)) j)) k1 ∧ k = 60 - j) _ ⟨0, nS, [], rfl, rfl, rfl, rfl, (Sub.emp (Sd (Sk (Sk Sub.nil)))), Nat.zero_le _, Own.nil, rfl⟩ ?_
 rintro _ ρ5 _ ⟨j, v, k1, e6, e7, e8, e9, hm10, hj, ho, rfl⟩
 obtain ⟨ρ11, rfl⟩ := Zn (uc e6 (uc e7 (uc e8 (uc e9 un))))
 clear e6 e7 e8 e9
 refine Z6 hm10 <| Zc <| Za <| JLn (Pu.lss rfl rfl) <| Zb <| Zc <| Zg rfl (fun h12 => ?_) (fun h12 => ?_)
 ·replace h12 := dt h12
  have h12n : j < 60 := by omega
  have hul := upTo_len (metF (metT t)) j
  have hil := ZU (upTo (metF (metT t)) j)
  have hge := metF_get (metT t) j h12n
  refine Zm <| Zc <| Zo <| Zc <| Za <| JLM rfl <| JLA rfl <| Zb <| Zc <| Za <| JLr (Ze ty56 rfl (At.bx 2 rfl) rfl <| JLM rfl <| JLr (Runs_lookup (i := 1) Tryz.underlying56 Tryz.underlying3 Tryz.zeroValue4 rfl rfl rfl ?_))
  refine Zb <| Zg rfl (fun h13 => ?_) (fun h13 => ?_)
  ·replace h13 := dt h13
   refine Za <| JLm v <| JLM rfl <| JLr (Zr (vs := [iv ((j : Int))]) [[iv ((j : Int))]] Tryz.runUnderlying49 el3 rfl rfl (by intro e he; simp only [List.mem_cons, List.not_mem_nil, or_false] at he; subst he; exact rfl) rfl (by decide) fun b14 k14 ho14 hk14 => ?_)
   have hlens15 : ∀ e ∈ ([[iv ((j : Int))]] : List (List Value)), List.length e = 1 := by
    intro e he; simp only [List.mem_cons, List.not_mem_nil, or_false] at he
    rcases he with rfl
    ·exact rfl
   have hoks15 : ∀ e ∈ ([[iv ((j : Int))]] : List (List Value)), okc e := by
    intro e he; simp only [List.mem_cons, List.not_mem_nil, or_false] at he
    rcases he with rfl
    ·exact (Zj rfl Zt)
   refine JLr (ZE (i := 1) (n := 1) (es' := [[iv ((j : Int))]]) Tryz.runUnderlying49 Tryz.runUnderlying49 (Or.inl rfl) el3 rfl rfl rfl ho (fun F w m => Src.row (((At.k 0 rfl (by rw [hk14]; exact List.mem_cons_self))).heap m) (Zu (ZB hlens15))) rfl hlens15 hoks15 (by decide) (by omega) fun v15 k15 ho15 => JLa v15 <| Zb <| Za <| JLn (Pu.inc rfl rfl (by omega)) <| JLM rfl <| Zb <| ⟨_, ?_, (j + 1), v15, k15, rfl, rfl, rfl, rfl, (Sd (Sk (Sk (Sk Sub.nil)))), ?_, ?_, rfl⟩)
   ·omega
   ·omega
   rw [upTo_succ, hge, if_pos (by simp [h13]), ints_snoc]; exact ho15
  replace h13 := df h13
  refine Zm <| Za <| JLn (Pu.inc rfl rfl (by omega)) <| JLM rfl <| Zb <| ⟨_, ?_, (j + 1), v, k1, rfl, rfl, rfl, rfl, (Sk (Sk (Sk Sub.nil))), ?_, ?_, rfl⟩
  ·omega
  ·omega
  rw [upTo_succ, hge, if_neg (by simp [h13])]; exact ho
 replace h12 := df h12
 have h12n : 60 ≤ j := by omega
 refine ZG _ rfl <| Zc <| Za <| JLm v <| JLa v <| Zb <| Zk <| ⟨v, [k1], Ret.one rfl (RV.tmp rfl), (Sk Sub.nil), ?_⟩
 obtain rfl : j = 60 := by omega
 exact ⟨v, k1, rfl, rfl, ho⟩
end Go.Proofs.YtjhenmdcnbaobaaGreat.Hs
/-! Walks, printed by a program of this session's own (gen.py). -/
namespace Go.Proofs.YtjhenmdcnbaobaaGreat.Hs
open Go Go.Proofs
set_option maxRecDepth 100000
set_option linter.unusedVariables false
set_option linter.unusedSimpArgs false
attribute [local irreducible] JL J CT wlo DT
theorem idxP_ct (g : Nat) (fs cv : List Value) (hcall : ∀ args w, (callFunc g args).run Tryz.prog w = .ok (.enter g args) w) {σ : Type} (Sc : σ → Zf) (Inv : σ → Prop) (step : Pt → σ → Bool × σ) (l : List Pt) (v : Value) (H : Heap) (hl : rdS RP 35 H v l) (s0 : σ) (h0 : Inv s0) (hI : ∀ x ∈ l, ∀ s, Inv s → (step x s).1 = false → Inv (step x s).2) (hg : ∀ x ∈ l, ∀ s, Inv s → ∀ a h, Hle H h → RP h a x → CT Tryz.prog g ⟨fs ++ [.agg ⟨a⟩] ++ cv⟩ [Sc s] h (fun v N => v = .bool (step x s).1 ∧ N = [Sc (step x s).2])) : CT Tryz.prog 155 ⟨[v, .func (.func g) ⟨fs⟩ ⟨cv⟩]⟩ [Sc s0] H (fun v N => v = iv (idxS step l 0 s0).1 ∧ N = [Sc (idxS step l 0 s0).2]) := by
 refine Zl Tryz.func155 rfl rfl <| Zc <| Za <| JLA rfl <| Zb <| Zc <| Zc <| Za <| JLm v ?_
 obtain ⟨a1, cap1, hv1⟩ := hl.sl
 have hle1 := hl.le
 refine JLn (Pu.lenSl Tryz.runUnderlying83 hv1) <| JLM rfl <| Zb <| Zo <| ZP (fun k ρ M => ∃ (j : Nat) (s : σ), ρ 0 = v ∧ ρ 1 = .func (.func g) ⟨fs⟩ ⟨cv⟩ ∧ ρ 4 = iv 0 ∧ ρ 7 = iv ((l.length : Int)) ∧ ρ 8 = iv ((j : Int)) ∧ Sub [Sc s] M ∧ j ≤ l.length ∧ Inv s ∧ idxS step (l.drop j) j s = idxS step l 0 s0 ∧ k = l.length - j) _ ⟨0, s0, rfl, rfl, rfl, rfl, rfl, (Sk Sub.nil), Nat.zero_le _, h0, rfl, rfl⟩ ?_
 rintro _ ρ2 _ ⟨j, s, e3, e4, e5, e6, e7, hm8, hj, hs, hinv, rfl⟩
 obtain ⟨ρ9, rfl⟩ := Zn (uc e3 (uc e4 (uc e5 (uc e6 (uc e7 un)))))
 clear e3 e4 e5 e6 e7
 refine Z6 hm8 <| Zc <| Za <| JLn (Pu.lss rfl rfl) <| Zb <| Zc <| Zg rfl (fun h10 => ?_) (fun h10 => ?_)
 ·replace h10 := dt h10
  have h10n : j < l.length := by omega
  have hlenl := hl.le
  refine Zm <| Zc <| Zo <| Zc <| Za <| JLM rfl <| JLA rfl <| Zb <| Zc <| Za <| JLM rfl <| JLm v <| JLM rfl ?_
  obtain ⟨b11, o11, cap11, row11, T11, fr11, cs11, hv11, hb11, hs11, hE11⟩ := hl.get j (by first | assumption | omega | decide | simp)
  refine JLq (pp b11 (o11 + j * 35)) (Pu.idx j Tryz.runUnderlying83 Z0 hv11 rfl rfl (by first | assumption | omega | decide | simp)) <| JLr (Zi Z0 rfl (At.im hb11) hs11 <| Zq 0 rfl hcall rfl rfl (fun hin => hg _ (List.getElem_mem h10n) _ hs _ _ (Hle.hu _ _) (RP.mono (Hle.hu _ _) hE11)) rfl ?_)
  rintro _ _ ⟨rfl, rfl⟩
  refine Zb <| Zg rfl (fun h12 => ?_) (fun h12 => ?_)
  ·refine Zc <| Za <| JLM rfl <| JLA rfl <| Zb <| Zk <| ⟨iv ((j : Int)), [Sc (step (l[j]) s).2], Ret.one rfl (RV.tmp rfl), (Sk Sub.nil), ?_⟩
   refine ⟨?_, ?_⟩ <;> rw [← hinv, Yf h10n, idxS, if_pos h12]
  refine Zm <| Za <| JLn (Pu.inc rfl rfl (by omega)) <| JLM rfl <| Zb <| ⟨_, ?_, (j + 1), ((step (l[j]) s).2), rfl, rfl, rfl, rfl, rfl, (Sk Sub.nil), ?_, ?_, ?_, rfl⟩
  ·omega
  ·omega
  ·exact hI _ (List.getElem_mem h10n) s hs h12
  rw [Yf h10n, idxS, if_neg (by simp [h12])] at hinv; exact hinv
 replace h10 := df h10
 have h10n : l.length ≤ j := by omega
 refine ZG _ rfl <| Zc <| Za <| JLA rfl <| Zb <| Zk <| ⟨iv (-1), [Sc s], Ret.one rfl (RV.tmp rfl), (Sk Sub.nil), ?_⟩
 refine ⟨?_, ?_⟩ <;> rw [← hinv, dropn h10n] <;> rfl
theorem idxT_ct (g : Nat) (fs cv : List Value) (hcall : ∀ args w, (callFunc g args).run Tryz.prog w = .ok (.enter g args) w) {σ : Type} (Sc : σ → Zf) (Inv : σ → Prop) (step : Tm → σ → Bool × σ) (l : List Tm) (v : Value) (H : Heap) (hl : rdS RT 36 H v l) (s0 : σ) (h0 : Inv s0) (hI : ∀ x ∈ l, ∀ s, Inv s → (step x s).1 = false → Inv (step x s).2) (hg : ∀ x ∈ l, ∀ s, Inv s → ∀ a h, Hle H h → RT h a x → CT Tryz.prog g ⟨fs ++ [.agg ⟨a⟩] ++ cv⟩ [Sc s] h (fun v N => v = .bool (step x s).1 ∧ N = [Sc (step x s).2])) : CT Tryz.prog 135 ⟨[v, .func (.func g) ⟨fs⟩ ⟨cv⟩]⟩ [Sc s0] H (fun v N => v = iv (idxS step l 0 s0).1 ∧ N = [Sc (idxS step l 0 s0).2]) := by
 refine Zl Tryz.func135 rfl rfl <| Zc <| Za <| JLA rfl <| Zb <| Zc <| Zc <| Za <| JLm v ?_
 obtain ⟨a1, cap1, hv1⟩ := hl.sl
 have hle1 := hl.le
 refine JLn (Pu.lenSl Tryz.runUnderlying25 hv1) <| JLM rfl <| Zb <| Zo <| ZP (fun k ρ M => ∃ (j : Nat) (s : σ), ρ 0 = v ∧ ρ 1 = .func (.func g) ⟨fs⟩ ⟨cv⟩ ∧ ρ 4 = iv 0 ∧ ρ 7 = iv ((l.length : Int)) ∧ ρ 8 = iv ((j : Int)) ∧ Sub [Sc s] M ∧ j ≤ l.length ∧ Inv s ∧ idxS step (l.drop j) j s = idxS step l 0 s0 ∧ k = l.length - j) _ ⟨0, s0, rfl, rfl, rfl, rfl, rfl, (Sk Sub.nil), Nat.zero_le _, h0, rfl, rfl⟩ ?_
 rintro _ ρ2 _ ⟨j, s, e3, e4, e5, e6, e7, hm8, hj, hs, hinv, rfl⟩
 obtain ⟨ρ9, rfl⟩ := Zn (uc e3 (uc e4 (uc e5 (uc e6 (uc e7 un)))))
 clear e3 e4 e5 e6 e7
 refine Z6 hm8 <| Zc <| Za <| JLn (Pu.lss rfl rfl) <| Zb <| Zc <| Zg rfl (fun h10 => ?_) (fun h10 => ?_)
 ·replace h10 := dt h10
  have h10n : j < l.length := by omega
  have hlenl := hl.le
  refine Zm <| Zc <| Zo <| Zc <| Za <| JLM rfl <| JLA rfl <| Zb <| Zc <| Za <| JLM rfl <| JLm v <| JLM rfl ?_
  obtain ⟨b11, o11, cap11, row11, T11, fr11, cs11, hv11, hb11, hs11, hE11⟩ := hl.get j (by first | assumption | omega | decide | simp)
  refine JLq (pp b11 (o11 + j * 36)) (Pu.idx j Tryz.runUnderlying25 Zs hv11 rfl rfl (by first | assumption | omega | decide | simp)) <| JLr (Zi Zs rfl (At.im hb11) hs11 <| Zq 0 rfl hcall rfl rfl (fun hin => hg _ (List.getElem_mem h10n) _ hs _ _ (Hle.hu _ _) (RT.mono (Hle.hu _ _) hE11)) rfl ?_)
  rintro _ _ ⟨rfl, rfl⟩
  refine Zb <| Zg rfl (fun h12 => ?_) (fun h12 => ?_)
  ·refine Zc <| Za <| JLM rfl <| JLA rfl <| Zb <| Zk <| ⟨iv ((j : Int)), [Sc (step (l[j]) s).2], Ret.one rfl (RV.tmp rfl), (Sk Sub.nil), ?_⟩
   refine ⟨?_, ?_⟩ <;> rw [← hinv, Yf h10n, idxS, if_pos h12]
  refine Zm <| Za <| JLn (Pu.inc rfl rfl (by omega)) <| JLM rfl <| Zb <| ⟨_, ?_, (j + 1), ((step (l[j]) s).2), rfl, rfl, rfl, rfl, rfl, (Sk Sub.nil), ?_, ?_, ?_, rfl⟩
  ·omega
  ·omega
  ·exact hI _ (List.getElem_mem h10n) s hs h12
  rw [Yf h10n, idxS, if_neg (by simp [h12])] at hinv; exact hinv
 replace h10 := df h10
 have h10n : l.length ≤ j := by omega
 refine ZG _ rfl <| Zc <| Za <| JLA rfl <| Zb <| Zk <| ⟨iv (-1), [Sc s], Ret.one rfl (RV.tmp rfl), (Sk Sub.nil), ?_⟩
 refine ⟨?_, ?_⟩ <;> rw [← hinv, dropn h10n] <;> rfl
theorem idxC_ct (g : Nat) (fs cv : List Value) (hcall : ∀ args w, (callFunc g args).run Tryz.prog w = .ok (.enter g args) w) {σ : Type} (Sc : σ → Zf) (Inv : σ → Prop) (step : (Pt × Tm) → σ → Bool × σ) (l : List (Pt × Tm)) (v : Value) (H : Heap) (hl : rdS RC 71 H v l) (s0 : σ) (h0 : Inv s0) (hI : ∀ x ∈ l, ∀ s, Inv s → (step x s).1 = false → Inv (step x s).2) (hg : ∀ x ∈ l, ∀ s, Inv s → ∀ a h, Hle H h → RC h a x → CT Tryz.prog g ⟨fs ++ [.agg ⟨a⟩] ++ cv⟩ [Sc s] h (fun v N => v = .bool (step x s).1 ∧ N = [Sc (step x s).2])) : CT Tryz.prog 136 ⟨[v, .func (.func g) ⟨fs⟩ ⟨cv⟩]⟩ [Sc s0] H (fun v N => v = iv (idxS step l 0 s0).1 ∧ N = [Sc (idxS step l 0 s0).2]) := by
 refine Zl Tryz.func136 rfl rfl <| Zc <| Za <| JLA rfl <| Zb <| Zc <| Zc <| Za <| JLm v ?_
 obtain ⟨a1, cap1, hv1⟩ := hl.sl
 have hle1 := hl.le
 refine JLn (Pu.lenSl Tryz.runUnderlying26 hv1) <| JLM rfl <| Zb <| Zo <| ZP (fun k ρ M => ∃ (j : Nat) (s : σ), ρ 0 = v ∧ ρ 1 = .func (.func g) ⟨fs⟩ ⟨cv⟩ ∧ ρ 4 = iv 0 ∧ ρ 7 = iv ((l.length : Int)) ∧ ρ 8 = iv ((j : Int)) ∧ Sub [Sc s] M ∧ j ≤ l.length ∧ Inv s ∧ idxS step (l.drop j) j s = idxS step l 0 s0 ∧ k = l.length - j) _ ⟨0, s0, rfl, rfl, rfl, rfl, rfl, (Sk Sub.nil), Nat.zero_le _, h0, rfl, rfl⟩ ?_
 rintro _ ρ2 _ ⟨j, s, e3, e4, e5, e6, e7, hm8, hj, hs, hinv, rfl⟩
 obtain ⟨ρ9, rfl⟩ := Zn (uc e3 (uc e4 (uc e5 (uc e6 (uc e7 un)))))
 clear e3 e4 e5 e6 e7
 refine Z6 hm8 <| Zc <| Za <| JLn (Pu.lss rfl rfl) <| Zb <| Zc <| Zg rfl (fun h10 => ?_) (fun h10 => ?_)
 ·replace h10 := dt h10
  have h10n : j < l.length := by omega
  have hlenl := hl.le
  refine Zm <| Zc <| Zo <| Zc <| Za <| JLM rfl <| JLA rfl <| Zb <| Zc <| Za <| JLM rfl <| JLm v <| JLM rfl ?_
  obtain ⟨b11, o11, cap11, row11, T11, fr11, cs11, hv11, hb11, hs11, hE11⟩ := hl.get j (by first | assumption | omega | decide | simp)
  obtain ⟨ca11, cb11, rfl, hA11, hB11⟩ := hE11
  refine JLq (pp b11 (o11 + j * 71)) (Pu.idx j Tryz.runUnderlying26 ty87 hv11 rfl rfl (by first | assumption | omega | decide | simp)) <| JLr (Zi ty87 rfl (At.im hb11) hs11 <| Zq 0 rfl hcall rfl rfl (fun hin => hg _ (List.getElem_mem h10n) _ hs _ _ (Hle.hu _ _) (RC.mono (Hle.hu _ _) (RC_mk hA11 hB11))) rfl ?_)
  rintro _ _ ⟨rfl, rfl⟩
  refine Zb <| Zg rfl (fun h12 => ?_) (fun h12 => ?_)
  ·refine Zc <| Za <| JLM rfl <| JLA rfl <| Zb <| Zk <| ⟨iv ((j : Int)), [Sc (step (l[j]) s).2], Ret.one rfl (RV.tmp rfl), (Sk Sub.nil), ?_⟩
   refine ⟨?_, ?_⟩ <;> rw [← hinv, Yf h10n, idxS, if_pos h12]
  refine Zm <| Za <| JLn (Pu.inc rfl rfl (by omega)) <| JLM rfl <| Zb <| ⟨_, ?_, (j + 1), ((step (l[j]) s).2), rfl, rfl, rfl, rfl, rfl, (Sk Sub.nil), ?_, ?_, ?_, rfl⟩
  ·omega
  ·omega
  ·exact hI _ (List.getElem_mem h10n) s hs h12
  rw [Yf h10n, idxS, if_neg (by simp [h12])] at hinv; exact hinv
 replace h10 := df h10
 have h10n : l.length ≤ j := by omega
 refine ZG _ rfl <| Zc <| Za <| JLA rfl <| Zb <| Zk <| ⟨iv (-1), [Sc s], Ret.one rfl (RV.tmp rfl), (Sk Sub.nil), ?_⟩
 refine ⟨?_, ?_⟩ <;> rw [← hinv, dropn h10n] <;> rfl
theorem containsP_ct (g : Nat) (fs cv : List Value) (hcall : ∀ args w, (callFunc g args).run Tryz.prog w = .ok (.enter g args) w) {σ : Type} (Sc : σ → Zf) (Inv : σ → Prop) (step : Pt → σ → Bool × σ) (l : List Pt) (v : Value) (H : Heap) (hl : rdS RP 35 H v l) (s0 : σ) (h0 : Inv s0) (hI : ∀ x ∈ l, ∀ s, Inv s → (step x s).1 = false → Inv (step x s).2) (hg : ∀ x ∈ l, ∀ s, Inv s → ∀ a h, Hle H h → RP h a x → CT Tryz.prog g ⟨fs ++ [.agg ⟨a⟩] ++ cv⟩ [Sc s] h (fun v N => v = .bool (step x s).1 ∧ N = [Sc (step x s).2])) : CT Tryz.prog 137 ⟨[v, .func (.func g) ⟨fs⟩ ⟨cv⟩]⟩ [Sc s0] H (fun v N => v = .bool (YB step l s0).1 ∧ N = [Sc (YB step l s0).2]) := by
 refine Zl Tryz.func137 rfl rfl <| Zc <| Za <| JLA rfl <| Zb <| Zc <| Za <| JLm v <| JLM rfl <| Zq 0 rfl Tryz.call155 rfl rfl (fun hin => idxP_ct g fs cv hcall Sc Inv step _ _ _ (RPs.mono (Hle.hu _ _) hl) s0 h0 hI (fun x hx s hs a h hh ra => hg x hx s hs a h (Hle.trans (Hle.hu _ _) hh) ra)) rfl ?_
 rintro _ _ ⟨rfl, rfl⟩
 refine JLn (Pu.geq rfl rfl) <| JLA rfl <| Zb <| Zk <| ⟨.bool (decide (0 ≤ (idxS step l 0 s0).1)), [Sc (idxS step l 0 s0).2], Ret.one rfl (RV.tmp rfl), (Sk Sub.nil), ?_⟩
 exact ⟨by rw [(idxS_any step l 0 s0).1], by rw [(idxS_any step l 0 s0).2]⟩
theorem containsT_ct (g : Nat) (fs cv : List Value) (hcall : ∀ args w, (callFunc g args).run Tryz.prog w = .ok (.enter g args) w) {σ : Type} (Sc : σ → Zf) (Inv : σ → Prop) (step : Tm → σ → Bool × σ) (l : List Tm) (v : Value) (H : Heap) (hl : rdS RT 36 H v l) (s0 : σ) (h0 : Inv s0) (hI : ∀ x ∈ l, ∀ s, Inv s → (step x s).1 = false → Inv (step x s).2) (hg : ∀ x ∈ l, ∀ s, Inv s → ∀ a h, Hle H h → RT h a x → CT Tryz.prog g ⟨fs ++ [.agg ⟨a⟩] ++ cv⟩ [Sc s] h (fun v N => v = .bool (step x s).1 ∧ N = [Sc (step x s).2])) : CT Tryz.prog 109 ⟨[v, .func (.func g) ⟨fs⟩ ⟨cv⟩]⟩ [Sc s0] H (fun v N => v = .bool (YB step l s0).1 ∧ N = [Sc (YB step l s0).2]) := by
 refine Zl Tryz.func109 rfl rfl <| Zc <| Za <| JLA rfl <| Zb <| Zc <| Za <| JLm v <| JLM rfl <| Zq 0 rfl Tryz.call135 rfl rfl (fun hin => idxT_ct g fs cv hcall Sc Inv step _ _ _ (RTs.mono (Hle.hu _ _) hl) s0 h0 hI (fun x hx s hs a h hh ra => hg x hx s hs a h (Hle.trans (Hle.hu _ _) hh) ra)) rfl ?_
 rintro _ _ ⟨rfl, rfl⟩
 refine JLn (Pu.geq rfl rfl) <| JLA rfl <| Zb <| Zk <| ⟨.bool (decide (0 ≤ (idxS step l 0 s0).1)), [Sc (idxS step l 0 s0).2], Ret.one rfl (RV.tmp rfl), (Sk Sub.nil), ?_⟩
 exact ⟨by rw [(idxS_any step l 0 s0).1], by rw [(idxS_any step l 0 s0).2]⟩
theorem containsC_ct (g : Nat) (fs cv : List Value) (hcall : ∀ args w, (callFunc g args).run Tryz.prog w = .ok (.enter g args) w) {σ : Type} (Sc : σ → Zf) (Inv : σ → Prop) (step : (Pt × Tm) → σ → Bool × σ) (l : List (Pt × Tm)) (v : Value) (H : Heap) (hl : rdS RC 71 H v l) (s0 : σ) (h0 : Inv s0) (hI : ∀ x ∈ l, ∀ s, Inv s → (step x s).1 = false → Inv (step x s).2) (hg : ∀ x ∈ l, ∀ s, Inv s → ∀ a h, Hle H h → RC h a x → CT Tryz.prog g ⟨fs ++ [.agg ⟨a⟩] ++ cv⟩ [Sc s] h (fun v N => v = .bool (step x s).1 ∧ N = [Sc (step x s).2])) : CT Tryz.prog 110 ⟨[v, .func (.func g) ⟨fs⟩ ⟨cv⟩]⟩ [Sc s0] H (fun v N => v = .bool (YB step l s0).1 ∧ N = [Sc (YB step l s0).2]) := by
 refine Zl Tryz.func110 rfl rfl <| Zc <| Za <| JLA rfl <| Zb <| Zc <| Za <| JLm v <| JLM rfl <| Zq 0 rfl Tryz.call136 rfl rfl (fun hin => idxC_ct g fs cv hcall Sc Inv step _ _ _ (RCs.mono (Hle.hu _ _) hl) s0 h0 hI (fun x hx s hs a h hh ra => hg x hx s hs a h (Hle.trans (Hle.hu _ _) hh) ra)) rfl ?_
 rintro _ _ ⟨rfl, rfl⟩
 refine JLn (Pu.geq rfl rfl) <| JLA rfl <| Zb <| Zk <| ⟨.bool (decide (0 ≤ (idxS step l 0 s0).1)), [Sc (idxS step l 0 s0).2], Ret.one rfl (RV.tmp rfl), (Sk Sub.nil), ?_⟩
 exact ⟨by rw [(idxS_any step l 0 s0).1], by rw [(idxS_any step l 0 s0).2]⟩
end Go.Proofs.YtjhenmdcnbaobaaGreat.Hs
/-! Walks, printed by a program of this session's own (gen.py). -/
namespace Go.Proofs.YtjhenmdcnbaobaaGreat.Hs
open Go Go.Proofs
set_option maxRecDepth 100000
set_option linter.unusedVariables false
set_option linter.unusedSimpArgs false
attribute [local irreducible] JL J CT wlo DT
theorem longPK_ct : ∀ (x : Pt) (d s : Int) (a : List Value) (H : Heap) (bL bA bD : Nat), RP H a x → H bA = some (.cells ⟨[pp bL 0]⟩ 120 (0, 0)) → H bD = some (.cells ⟨[iv d]⟩ 3 (0, 0)) → 0 ≤ d → d ≤ 100 → (∀ h a, Hle H h → RP h a x → CT Tryz.prog 112 ⟨[pp bL 0, .agg ⟨a⟩, iv (d + 1)]⟩ [(BX bL [iv s] 77)] h (fun v N => v = .bool (cnP stL (d + 1) x s).1 ∧ N = [(BX bL [iv ((cnP stL (d + 1) x s).2)] 77)])) → CT Tryz.prog 138 ⟨[.agg ⟨a⟩, pp bA 0, pp bD 0]⟩ [(BX bL [iv s] 77)] H (fun v N => v = .bool (cnP stL (d + 1) x s).1 ∧ N = [(BX bL [iv ((cnP stL (d + 1) x s).2)] 77)]) := by
 intro x d s a H bL bA bD ra hH1 hH5 hd0 hd1 hg
 refine Zl Tryz.func138 rfl rfl <| Zc <| Za <| JLr (Zp (l := a) rfl rfl fun b1 => JLA rfl <| Zb <| Zc <| Za <| JLr (Ze ty120 rfl (At.im hH1) rfl <| JLr (Zi Z0 rfl (At.bx 0 rfl) (Zu (ZF ra)) <| JLr (Ze ty3 rfl (At.im hH5) rfl <| JLn (Pu.add64 rfl rfl (by first | omega | (constructor <;> omega))) <| Zq 1 rfl Tryz.call112 rfl rfl (fun hin => hg _ _ (Hle.hu _ _) (RP.mono (Hle.hu _ _) ra)) rfl ?_))))
 rintro _ _ ⟨rfl, rfl⟩
 refine JLA rfl <| Zb <| Zk <| ⟨.bool ((cnP stL (d + 1) x s).1), [(BX bL [iv ((cnP stL (d + 1) x s).2)] 77)], Ret.one rfl (RV.tmp rfl), (Sk Sub.nil), ?_⟩
 exact ⟨rfl, rfl⟩
theorem longTK_ct : ∀ (x : Tm) (d s : Int) (a : List Value) (H : Heap) (bL bA bD : Nat), RT H a x → H bA = some (.cells ⟨[pp bL 0]⟩ 120 (0, 0)) → H bD = some (.cells ⟨[iv d]⟩ 3 (0, 0)) → 0 ≤ d → d ≤ 100 → (∀ h a, Hle H h → RT h a x → CT Tryz.prog 58 ⟨[pp bL 0, .agg ⟨a⟩, iv (d + 1)]⟩ [(BX bL [iv s] 77)] h (fun v N => v = .bool (cnT stL (d + 1) x s).1 ∧ N = [(BX bL [iv ((cnT stL (d + 1) x s).2)] 77)])) → CT Tryz.prog 108 ⟨[.agg ⟨a⟩, pp bA 0, pp bD 0]⟩ [(BX bL [iv s] 77)] H (fun v N => v = .bool (cnT stL (d + 1) x s).1 ∧ N = [(BX bL [iv ((cnT stL (d + 1) x s).2)] 77)]) := by
 intro x d s a H bL bA bD ra hH1 hH5 hd0 hd1 hg
 refine Zl Tryz.func108 rfl rfl <| Zc <| Za <| JLr (Zp (l := a) rfl rfl fun b1 => JLA rfl <| Zb <| Zc <| Za <| JLr (Ze ty120 rfl (At.im hH1) rfl <| JLr (Zi Zs rfl (At.bx 0 rfl) (Zu (Zv ra)) <| JLr (Ze ty3 rfl (At.im hH5) rfl <| JLn (Pu.add64 rfl rfl (by first | omega | (constructor <;> omega))) <| Zq 1 rfl Tryz.call58 rfl rfl (fun hin => hg _ _ (Hle.hu _ _) (RT.mono (Hle.hu _ _) ra)) rfl ?_))))
 rintro _ _ ⟨rfl, rfl⟩
 refine JLA rfl <| Zb <| Zk <| ⟨.bool ((cnT stL (d + 1) x s).1), [(BX bL [iv ((cnT stL (d + 1) x s).2)] 77)], Ret.one rfl (RV.tmp rfl), (Sk Sub.nil), ?_⟩
 exact ⟨rfl, rfl⟩
theorem longP_ct : ∀ (p : Pt) (d n : Int) (cs : List Value) (H : Heap) (bL : Nat), RP H cs p → 0 ≤ n → n ≤ 300 → 0 ≤ d → d ≤ 61 → CT Tryz.prog 112 ⟨[pp bL 0, .agg ⟨cs⟩, iv d]⟩ [(BX bL [iv n] 77)] H (fun v N => v = .bool (cnP stL d p n).1 ∧ N = [(BX bL [iv ((cnP stL d p n).2)] 77)]) := by
 intro p
 induction p using Pt.ind with
 | h kind num ref kids ih =>
 intro d n cs H bL hp hn0 hn1 hd0 hd1
 obtain ⟨ks, rfl, hk, hn, hks⟩ := RP_mk.1 hp
 refine Zl Tryz.func112 rfl rfl <| Zc <| Za <| JLr (Zp (l := [pp bL 0]) rfl rfl fun b1 => JLr (Zp (l := pkP kind num ref ks) rfl rfl fun b2 => JLr (Zp (l := [iv d]) rfl rfl fun b3 => JLA rfl <| Zb <| Zc <| Zc <| Za <| JLr (Ze ty120 rfl (At.bx 2 rfl) rfl <| JLq (pp bL 0) (Pu.nilCheck rfl) ?_))))
 refine JLq (pp bL 0) (fa77_0 rfl rfl) <| JLr (Ze ty3 rfl (At.bx 3 rfl) rfl <| JLn (Pu.add64 rfl rfl (by first | omega | (constructor <;> omega))) <| JLq (pp bL 0) (Pu.nilCheck rfl) <| JLq (pp bL 0) (fa77_0 rfl rfl) <| JLr (Zd 3 (vs := [iv (n + 1)]) (l := [iv (n + 1)]) ty3 rfl rfl rfl rfl rfl (Zj rfl Zt) rfl <| Zb <| Zc <| Za <| JLr (Ze ty120 rfl (At.bx 2 rfl) rfl <| JLq (pp bL 0) (Pu.nilCheck rfl) <| JLq (pp bL 0) (fa77_0 rfl rfl) <| JLr (Ze ty3 rfl (At.bx 3 rfl) rfl ?_))))
 refine JLn (Pu.gtr rfl rfl) <| JLM rfl <| Zx 2 [20, 21] [(21, cond (decide (300 < n + 1)) undef (.bool (decide (60 < d))))] ?_ fun f5 => ?_
 ·cases h4 : (decide (300 < n + 1)) with
  | false =>
   replace h4 := df h4
   refine JLr (Ze ty3 rfl (At.bx 0 rfl) rfl <| JLn (Pu.gtr rfl rfl) ?_)
   exact Zb ⟨⟨rfl, trivial⟩, rfl⟩
  | true =>
   exact ZH rfl ⟨rfl, trivial⟩
 refine JLn (Pu.pickOr rfl rfl rfl) <| Zb <| Zg rfl (fun h6 => ?_) (fun h6 => ?_)
 ·refine Zc <| Za <| JLA rfl <| Zb <| Zk <| ⟨.bool true, [(BX bL [iv (n + 1)] 77)], Ret.one rfl (RV.tmp rfl), (Sd (Sd (Sd (Sk Sub.nil)))), ?_⟩
  refine ⟨?_, ?_⟩ <;> rw [cnP, if_pos (by simpa [stL] using h6)]
 obtain ⟨h6a, h6b⟩ := orF h6
 replace h6a := df h6a
 replace h6b := df h6b
 refine Zm <| Zc <| Za <| JLq (pp b2 34) (Y0 rfl rfl) <| JLr (Ze ty83 rfl (At.bx 1 rfl) (pkP_34 ..) <| JLq (.func (.func 138) ⟨[]⟩ ⟨[pp b1 0, pp b3 0]⟩) (Pu.makeFunc rfl rfl) <| Zq 3 rfl Tryz.call137 rfl rfl (fun hin => containsP_ct 138 [] [pp b1 0, pp b3 0] (fun _ _ => rfl) (fun n => (BX bL [iv n] 77)) (fun n => 0 ≤ n ∧ n ≤ 300) (cnP stL (d + 1)) _ _ _ (RPs.mono (Hle.hu _ _) hks) (n + 1) ⟨by omega, by omega⟩ (fun x hx s hs hf => cnP_keep stL_le x _ s hs.1 hf) (fun x hx s hs a h hh ra => longPK_ct x d s a h bL b1 b3 ra (hh _ _ (hin 2 _ rfl _ _ List.mem_cons_self)) (hh _ _ (hin 0 _ rfl _ _ List.mem_cons_self)) (by omega) (by omega) (fun h' a' hh' ra' => ih x hx (d + 1) s a' h' bL ra' hs.1 hs.2 (by omega) (by omega)))) rfl ?_)
 rintro _ _ ⟨rfl, rfl⟩
 refine JLA rfl <| Zb <| Zk <| ⟨.bool ((YB (cnP stL (d + 1)) kids (n + 1)).1), [(BX bL [iv ((YB (cnP stL (d + 1)) kids (n + 1)).2)] 77)], Ret.one rfl (RV.tmp rfl), (Sk Sub.nil), ?_⟩
 refine ⟨?_, ?_⟩ <;> rw [cnP, if_neg (by simp [stL]; omega), cnPs_any]
theorem longC_ct : ∀ (c : Pt × Tm) (d n : Int) (a : List Value) (H : Heap) (bL bA bD bK : Nat), RC H a c → 0 ≤ n → n ≤ 300 → 0 ≤ d → d ≤ 60 → H bA = some (.cells ⟨[pp bL 0]⟩ 120 (0, 0)) → H bD = some (.cells ⟨[iv d]⟩ 3 (0, 0)) → H bK = some (.cells ⟨[.func (.func 108) ⟨[]⟩ ⟨[pp bA 0, pp bD 0]⟩]⟩ 169 (0, 0)) → (∀ s a h, Hle H h → RT h a c.2 → 0 ≤ s → s ≤ 300 → CT Tryz.prog 58 ⟨[pp bL 0, .agg ⟨a⟩, iv (d + 1)]⟩ [(BX bL [iv s] 77)] h (fun v N => v = .bool (cnT stL (d + 1) c.2 s).1 ∧ N = [(BX bL [iv ((cnT stL (d + 1) c.2 s).2)] 77)])) → CT Tryz.prog 111 ⟨[.agg ⟨a⟩, pp bA 0, pp bD 0, pp bK 0]⟩ [(BX bL [iv n] 77)] H (fun v N => v = .bool (cnC stL (d + 1) c n).1 ∧ N = [(BX bL [iv ((cnC stL (d + 1) c n).2)] 77)]) := by
 intro c d n a H bL bA bD bK ⟨ca, cb, e1, ra1, ra2⟩ hn0 hn1 hd0 hd1 hH1 hH5 hH7 hg
 subst e1
 refine Zl Tryz.func111 rfl rfl <| Zc <| Za <| JLr (Zp (l := ca ++ cb) rfl rfl fun b1 => JLA rfl <| Zb <| Zc <| Za <| JLr (Ze ty120 rfl (At.im hH1) rfl <| JLq (pp b1 0) (fa87_0 rfl rfl) <| JLr (Zi Z0 rfl (At.bx 0 rfl) (sub_l (ZF ra1)) <| JLr (Ze ty3 rfl (At.im hH5) rfl <| JLn (Pu.add64 rfl rfl (by first | omega | (constructor <;> omega))) ?_))))
 refine Zq 1 rfl Tryz.call112 rfl rfl (fun hin => longP_ct _ _ _ _ _ _ (RP.mono (Hle.hu _ _) ra1) (by omega) (by omega) (by omega) (by omega)) rfl ?_
 rintro _ _ ⟨rfl, rfl⟩
 refine JLM rfl ?_
 cases h3 : ((cnP stL (d + 1) (c.1) n).1) with
 | true =>
  iterate 4 refine JL_skip rfl ?_
  refine JLq (.bool true) (Pu.pickT rfl rfl) <| JLA rfl <| Zb <| Zk <| ⟨.bool true, [(BX bL [iv ((cnP stL (d + 1) (c.1) n).2)] 77)], Ret.one rfl (RV.tmp rfl), (Sk Sub.nil), ?_⟩
  refine ⟨?_, ?_⟩ <;> rw [cnC, if_pos h3]
 | false =>
  refine JLr (Ze ty169 rfl (At.im hH7) rfl <| JLq (pp b1 35) (fa87_1 rfl rfl) <| JLr (Zi Zs rfl (At.bx 1 rfl) (sub_r (ZF ra1) (Zv ra2)) <| Zq 0 rfl Tryz.call108 rfl rfl (fun hin => longTK_ct _ d _ _ _ bL bA bD (RT.mono (Hle.hu _ _) ra2) (Hle.hu _ _ _ _ hH1) (Hle.hu _ _ _ _ hH5) (by omega) (by omega) (fun h' a' hh' ra' => hg _ _ _ (Hle.trans (Hle.hu _ _) hh') ra' (cnP_keep stL_le _ _ _ hn0 h3).1 (cnP_keep stL_le _ _ _ hn0 h3).2)) rfl ?_))
  rintro _ _ ⟨rfl, rfl⟩
  refine JLq (.bool ((cnT stL (d + 1) (c.2) ((cnP stL (d + 1) (c.1) n).2)).1)) (Pu.pickF rfl rfl) <| JLA rfl <| Zb <| Zk <| ⟨.bool ((cnT stL (d + 1) (c.2) ((cnP stL (d + 1) (c.1) n).2)).1), [(BX bL [iv ((cnT stL (d + 1) (c.2) ((cnP stL (d + 1) (c.1) n).2)).2)] 77)], Ret.one rfl (RV.tmp rfl), (Sk Sub.nil), ?_⟩
  refine ⟨?_, ?_⟩ <;> rw [cnC, if_neg (by simp [h3])]
theorem longT_ct : ∀ (t : Tm) (d n : Int) (cs : List Value) (H : Heap) (bL : Nat), RT H cs t → 0 ≤ n → n ≤ 300 → 0 ≤ d → d ≤ 61 → CT Tryz.prog 58 ⟨[pp bL 0, .agg ⟨cs⟩, iv d]⟩ [(BX bL [iv n] 77)] H (fun v N => v = .bool (cnT stL d t n).1 ∧ N = [(BX bL [iv ((cnT stL d t n).2)] 77)]) := by
 intro t
 induction t using Tm.ind with
 | h kind num ref kids cases ih ih' =>
 intro d n cs H bL ht hn0 hn1 hd0 hd1
 obtain ⟨ks, cv, rfl, hk, hn, hks, hcv⟩ := RT_mk.1 ht
 refine Zl Tryz.func58 rfl rfl <| Zc <| Za <| JLr (Zp (l := [pp bL 0]) rfl rfl fun b1 => JLr (Zp (l := pkT kind num ref ks cv) rfl rfl fun b2 => JLr (Zp (l := [iv d]) rfl rfl fun b3 => JLA rfl <| Zb <| Zc <| Zc <| Za <| JLr (Ze ty120 rfl (At.bx 2 rfl) rfl <| JLq (pp bL 0) (Pu.nilCheck rfl) ?_))))
 refine JLq (pp bL 0) (fa77_0 rfl rfl) <| JLr (Ze ty3 rfl (At.bx 3 rfl) rfl <| JLn (Pu.add64 rfl rfl (by first | omega | (constructor <;> omega))) <| JLq (pp bL 0) (Pu.nilCheck rfl) <| JLq (pp bL 0) (fa77_0 rfl rfl) <| JLr (Zd 3 (vs := [iv (n + 1)]) (l := [iv (n + 1)]) ty3 rfl rfl rfl rfl rfl (Zj rfl Zt) rfl <| Zb <| Zc <| Za <| JLr (Ze ty120 rfl (At.bx 2 rfl) rfl <| JLq (pp bL 0) (Pu.nilCheck rfl) <| JLq (pp bL 0) (fa77_0 rfl rfl) <| JLr (Ze ty3 rfl (At.bx 3 rfl) rfl ?_))))
 refine JLn (Pu.gtr rfl rfl) <| JLM rfl <| Zx 2 [21, 22] [(22, cond (decide (300 < n + 1)) undef (.bool (decide (60 < d))))] ?_ fun f5 => ?_
 ·cases h4 : (decide (300 < n + 1)) with
  | false =>
   replace h4 := df h4
   refine JLr (Ze ty3 rfl (At.bx 0 rfl) rfl <| JLn (Pu.gtr rfl rfl) ?_)
   exact Zb ⟨⟨rfl, trivial⟩, rfl⟩
  | true =>
   exact ZH rfl ⟨rfl, trivial⟩
 refine JLn (Pu.pickOr rfl rfl rfl) <| Zb <| Zg rfl (fun h6 => ?_) (fun h6 => ?_)
 ·refine Zc <| Za <| JLA rfl <| Zb <| Zk <| ⟨.bool true, [(BX bL [iv (n + 1)] 77)], Ret.one rfl (RV.tmp rfl), (Sd (Sd (Sd (Sk Sub.nil)))), ?_⟩
  refine ⟨?_, ?_⟩ <;> rw [cnT, if_pos (by simpa [stL] using h6)]
 obtain ⟨h6a, h6b⟩ := orF h6
 replace h6a := df h6a
 replace h6b := df h6b
 refine Zm <| Zc <| Za <| JLq (.func (.func 108) ⟨[]⟩ ⟨[pp b1 0, pp b3 0]⟩) (Pu.makeFunc rfl rfl) <| JLr (Zh (l := [.nilFunc]) Tryz.zeroValue169 rfl fun b7 => JLr (Zd 0 (vs := [.func (.func 108) ⟨[]⟩ ⟨[pp b1 0, pp b3 0]⟩]) (l := [.func (.func 108) ⟨[]⟩ ⟨[pp b1 0, pp b3 0]⟩]) ty169 rfl rfl rfl rfl rfl (Zj rfl Zt) rfl <| Zb <| Zc <| Za <| JLq (pp b2 34) (Yu rfl rfl) <| JLr (Ze ty25 rfl (At.bx 2 rfl) (Yl ..) <| JLr (Ze ty169 rfl (At.bx 0 rfl) rfl <| Zq 4 rfl Tryz.call109 rfl rfl (fun hin => containsT_ct 108 [] [pp b1 0, pp b3 0] (fun _ _ => rfl) (fun n => (BX bL [iv n] 77)) (fun n => 0 ≤ n ∧ n ≤ 300) (cnT stL (d + 1)) _ _ _ (RTs.mono (Hle.hu _ _) hks) (n + 1) ⟨by omega, by omega⟩ (fun x hx s hs hf => cnT_keep stL_le x _ s hs.1 hf) (fun x hx s hs a h hh ra => longTK_ct x d s a h bL b1 b3 ra (hh _ _ (hin 3 _ rfl _ _ List.mem_cons_self)) (hh _ _ (hin 1 _ rfl _ _ List.mem_cons_self)) (by omega) (by omega) (fun h' a' hh' ra' => ih x hx (d + 1) s a' h' bL ra' hs.1 hs.2 (by omega) (by omega)))) rfl ?_))))
 rintro _ _ ⟨rfl, rfl⟩
 refine JLM rfl ?_
 cases h9 : ((YB (cnT stL (d + 1)) kids (n + 1)).1) with
 | true =>
  iterate 4 refine JL_skip rfl ?_
  refine JLq (.bool true) (Pu.pickT rfl rfl) <| JLA rfl <| Zb <| Zk <| ⟨.bool true, [(BX bL [iv ((YB (cnT stL (d + 1)) kids (n + 1)).2)] 77)], Ret.one rfl (RV.tmp rfl), (Sk Sub.nil), ?_⟩
  refine ⟨?_, ?_⟩ <;> rw [cnT, if_neg (by simp [stL]; omega), cnTs_any, if_pos h9]
 | false =>
  refine JLq (pp b2 35) (YQ rfl rfl) <| JLr (Ze ty26 rfl (At.bx 3 rfl) (YA ..) <| JLq (.func (.func 111) ⟨[]⟩ ⟨[pp b1 0, pp b3 0, pp b7 0]⟩) (Pu.makeFunc rfl rfl) <| Zq 0 rfl Tryz.call110 rfl rfl (fun hin => containsC_ct 111 [] [pp b1 0, pp b3 0, pp b7 0] (fun _ _ => rfl) (fun n => (BX bL [iv n] 77)) (fun n => 0 ≤ n ∧ n ≤ 300) (cnC stL (d + 1)) _ _ _ (RCs.mono (Hle.hu _ _) hcv) ((YB (cnT stL (d + 1)) kids (n + 1)).2) (anyT_keep stL_le _ _ _ (by omega) (by omega) h9) (fun x hx s hs hf => cnC_keep stL_le x _ s hs.1 hf) (fun x hx s hs a h hh ra => longC_ct x d s a h bL b1 b3 b7 ra hs.1 hs.2 (by omega) (by omega) (hh _ _ (hin 3 _ rfl _ _ List.mem_cons_self)) (hh _ _ (hin 1 _ rfl _ _ List.mem_cons_self)) (hh _ _ (hin 0 _ rfl _ _ List.mem_cons_self)) (fun s' a' h' hh' ra' k1 k2 => ih' x hx (d + 1) s' a' h' bL ra' k1 k2 (by omega) (by omega)))) rfl ?_)
  rintro _ _ ⟨rfl, rfl⟩
  refine JLq (.bool ((YB (cnC stL (d + 1)) cases ((YB (cnT stL (d + 1)) kids (n + 1)).2)).1)) (Pu.pickF rfl rfl) <| JLA rfl <| Zb <| Zk <| ⟨.bool ((YB (cnC stL (d + 1)) cases ((YB (cnT stL (d + 1)) kids (n + 1)).2)).1), [(BX bL [iv ((YB (cnC stL (d + 1)) cases ((YB (cnT stL (d + 1)) kids (n + 1)).2)).2)] 77)], Ret.one rfl (RV.tmp rfl), (Sk Sub.nil), ?_⟩
  refine ⟨?_, ?_⟩ <;> rw [cnT, if_neg (by simp [stL]; omega), cnTs_any, if_neg (by simp [h9]), cnCs_any]
end Go.Proofs.YtjhenmdcnbaobaaGreat.Hs
/-! The mapper without a state. -/
namespace Go.Proofs.YtjhenmdcnbaobaaGreat.Hs
open Go Go.Proofs
set_option maxRecDepth 100000

theorem CT.nils {P : Program} {f : FuncId} {a : Array Value} {H : Heap} {t : Tm} (h : CT P f a [] H (fun v N => ∃ cs k, v = .agg ⟨cs⟩ ∧ N = [k] ∧ OT t cs k)) :
    CT P f a [[]] H (fun v N => ∃ cs k, v = .agg ⟨cs⟩ ∧ N = [k, []] ∧ OT t cs k) := fun F w m => by
  refine (h F w (by simpa using m)).mono ?_
  rintro e w' ⟨v, N, h1, h2, cs, k, h3, h4, h5⟩
  subst h4
  exact ⟨v, [k, []], h1, by simpa using h2, cs, k, h3, rfl, h5⟩
theorem CT.unnils {P : Program} {f : FuncId} {a : Array Value} {H : Heap} {t : Tm} (h : CT P f a [[]] H (fun v N => ∃ cs k, v = .agg ⟨cs⟩ ∧ N = [k, []] ∧ OT t cs k)) :
    CT P f a [] H (fun v N => ∃ cs k, v = .agg ⟨cs⟩ ∧ N = [k] ∧ OT t cs k) := fun F w m => by
  refine (h F w (by simpa using m)).mono ?_
  rintro e w' ⟨v, N, h1, h2, cs, k, h3, h4, h5⟩
  subst h4
  exact ⟨v, [k], h1, by simpa using h2, cs, k, h3, rfl, h5⟩

theorem mapTermP_ct (gr : Nat) (frs crs : List Value) (hcallr : ∀ args w, (callFunc gr args).run Tryz.prog w = .ok (.enter gr args) w) (rf : Sm → Sm) (gv : Nat) (fvs cvs : List Value) (hcallv : ∀ args w, (callFunc gv args).run Tryz.prog w = .ok (.enter gv args) w)
    (vf : Int → Int → Tm) (t : Tm) (b : Int) (cs : List Value) (H : Heap) (ht : RT H cs t) (hz : sizeT t ≤ 1000000) (hv : vOK t) (hb0 : 0 ≤ b) (hb : b + 2 * sizeT t ≤ 2000000)
    (hgr : ∀ s h, Hle H h → CT Tryz.prog gr ⟨frs ++ [.agg ⟨sC s⟩] ++ crs⟩ [] h (fun v N => v = .agg ⟨sC (rf s)⟩ ∧ N = []))
    (hgv : ∀ (n b : Int) (h : Heap), Hle H h → 0 ≤ n → n ≤ 2000000 → 0 ≤ b → b ≤ 2000000 → CT Tryz.prog gv ⟨fvs ++ [.int .i64 n, .int .i64 b] ++ cvs⟩ [] h (fun v N => ∃ cs k, v = .agg ⟨cs⟩ ∧ N = [k] ∧ OT (vf n b) cs k)) :
    CT Tryz.prog 51 ⟨[.agg ⟨[.func (.func gv) ⟨fvs⟩ ⟨cvs⟩, .func (.func gr) ⟨frs⟩ ⟨crs⟩]⟩, .agg ⟨cs⟩, .int .i64 b]⟩ [] H (fun v N => ∃ cs k, v = .agg ⟨cs⟩ ∧ N = [k] ∧ OT (mapQ rf vf b t) cs k) :=
  CT.unnils (mapTerm_ct gr frs crs hcallr rf gv fvs cvs hcallv Unit (fun _ => []) (fun _ => True) (fun n b s => (vf n b, s)) (fun _ _ _ _ => trivial) t b () cs H ht hz hv hb0 hb trivial hgr
    (fun n b _ h hh _ h1 h2 h3 h4 => CT.nils (hgv n b h hh h1 h2 h3 h4)))
end Go.Proofs.YtjhenmdcnbaobaaGreat.Hs
/-! Walks, printed by a program of this session's own (gen.py). -/
namespace Go.Proofs.YtjhenmdcnbaobaaGreat.Hs
open Go Go.Proofs
set_option maxRecDepth 100000
set_option linter.unusedVariables false
set_option linter.unusedSimpArgs false
attribute [local irreducible] JL J CT wlo DT
theorem shiftedV_ct (n b dy fr : Int) (H : Heap) (bF bD : Nat) (hF : H bF = some (.cells ⟨[iv fr]⟩ 3 (0, 0))) (hD : H bD = some (.cells ⟨[iv dy]⟩ 3 (0, 0))) (hn0 : 0 ≤ n) (hn1 : n ≤ 2000000) (hb0 : 0 ≤ b) (hb1 : b ≤ 2000000) (hd0 : -2000000 ≤ dy) (hd1 : dy ≤ 2000000) : CT Tryz.prog 80 ⟨[iv n, iv b, pp bF 0, pp bD 0]⟩ [] H (fun v N => ∃ cs k, v = .agg ⟨cs⟩ ∧ N = [k] ∧ OT (shv dy fr n b) cs k) := by
 refine Zl Tryz.func80 rfl rfl <| Zc <| Za <| JLr (Zh (l := pkT 0 0 zS nS nS) Tryz.zeroValue28 rfl fun b1 => Zb <| Zc <| Zc <| Za <| JLM rfl <| JLr (Ze ty3 rfl (At.im hF) rfl <| JLn (Pu.geq rfl rfl) <| Zb <| Zg rfl (fun h2 => ?_) (fun h2 => ?_)))
 ·replace h2 := dt h2
  refine Za <| JLM rfl <| JLr (Ze ty3 rfl (At.im hD) rfl <| JLn (Pu.add64 rfl rfl (by first | omega | (constructor <;> omega))) <| JLA rfl <| Zb <| Zc <| Za <| JLM rfl <| JLM rfl <| Jc Tryz.call49 rfl (fun hin => stay_ct _ _ _ (by unfold inI; omega)) rfl ?_)
  rintro _ _ ⟨cs3, k3, rfl, rfl, hO3⟩
  refine JLr (Zd 1 (vs := cs3) (l := cs3) Zs rfl rfl rfl rfl hO3.len hO3.ok (ZD (n := 36) rfl hO3.len) <| Zb <| Zk <| ⟨.agg ⟨cs3⟩, [k3], Ret.one rfl (RV.cell Zs rfl (At.bx 1 rfl) (Zu hO3.len)), (Sk Sub.nil), ?_⟩)
  have hx : shv dy fr n b = .mk 1 (n + dy + b) zS [] [] := by first | rfl | (simp only [shv]; (repeat' split) <;> first | rfl | (exfalso; omega))
  exact ⟨_, _, rfl, rfl, by rw [hx]; exact hO3⟩
 replace h2 := df h2
 refine Zm <| Zc <| Za <| JLM rfl <| JLM rfl <| Jc Tryz.call49 rfl (fun hin => stay_ct _ _ _ (by unfold inI; omega)) rfl ?_
 rintro _ _ ⟨cs4, k4, rfl, rfl, hO4⟩
 refine JLr (Zd 1 (vs := cs4) (l := cs4) Zs rfl rfl rfl rfl hO4.len hO4.ok (ZD (n := 36) rfl hO4.len) <| Zb <| Zk <| ⟨.agg ⟨cs4⟩, [k4], Ret.one rfl (RV.cell Zs rfl (At.bx 1 rfl) (Zu hO4.len)), (Sk Sub.nil), ?_⟩)
 have hx : shv dy fr n b = .mk 1 (n + b) zS [] [] := by first | rfl | (simp only [shv]; (repeat' split) <;> first | rfl | (exfalso; omega))
 exact ⟨_, _, rfl, rfl, by rw [hx]; exact hO4⟩
theorem shifted_ct (t : Tm) (dy fr : Int) (cs : List Value) (H : Heap) (ht : RT H cs t) (hz : sizeT t ≤ 900000) (hv : vOK t) (hd0 : -2000000 ≤ dy) (hd1 : dy ≤ 2000000) : CT Tryz.prog 48 ⟨[.agg ⟨cs⟩, iv dy, iv fr]⟩ [] H (fun v N => ∃ cs k, v = .agg ⟨cs⟩ ∧ N = [k] ∧ OT (shT dy fr t) cs k) := by
 refine Zl Tryz.func48 rfl rfl <| Zc <| Za <| JLr (Zp (l := cs) rfl rfl fun b1 => JLr (Zp (l := [iv dy]) rfl rfl fun b2 => JLr (Zp (l := [iv fr]) rfl rfl fun b3 => JLr (Zh (l := pkT 0 0 zS nS nS) Tryz.zeroValue28 rfl fun b4 => Zb <| Zc <| Za <| JLq (.func (.func 80) ⟨[]⟩ ⟨[pp b3 0, pp b2 0]⟩) (Pu.makeFunc rfl rfl) <| JLq (.agg ⟨[.func (.func 80) ⟨[]⟩ ⟨[pp b3 0, pp b2 0]⟩, .func (.func 50) ⟨[]⟩ ⟨[]⟩]⟩) (Pu.build (pv := [(0, .func (.func 80) ⟨[]⟩ ⟨[pp b3 0, pp b2 0]⟩), (1, .func (.func 50) ⟨[]⟩ ⟨[]⟩)]) (l := [.func (.func 80) ⟨[]⟩ ⟨[pp b3 0, pp b2 0]⟩, .func (.func 50) ⟨[]⟩ ⟨[]⟩]) rfl (bld109_0_1 _ _ _ _ _ _)) <| JLr (Zi Zs rfl (At.bx 3 rfl) (Zu (Zv ht)) ?_)))))
 refine Jc Tryz.call51 rfl (fun hin => mapTermP_ct 50 [] [] Tryz.call50 (fun s => s) 80 [] [pp b3 0, pp b2 0] Tryz.call80 (shv dy fr) _ _ _ _ (RT.mono (Hle.hu _ _) ht) (by omega) hv (by decide) (by omega) (fun s h hh => same_ct s h) (fun n b h hh h1 h2 h3 h4 => shiftedV_ct n b dy fr h b3 b2 (hh _ _ (hin 1 _ rfl _ _ List.mem_cons_self)) (hh _ _ (hin 2 _ rfl _ _ List.mem_cons_self)) h1 h2 h3 h4 hd0 hd1)) rfl ?_
 rintro _ _ ⟨cs5, k5, rfl, rfl, hO5⟩
 refine JLr (Zd 1 (vs := cs5) (l := cs5) Zs rfl rfl rfl rfl hO5.len hO5.ok (ZD (n := 36) rfl hO5.len) <| Zb <| Zk <| ⟨.agg ⟨cs5⟩, [k5], Ret.one rfl (RV.cell Zs rfl (At.bx 1 rfl) (Zu hO5.len)), (Sk Sub.nil), ?_⟩)
 have hx : shT dy fr t = mapQ (fun s => s) (shv dy fr) 0 t := by first | rfl | (simp only [shT]; (repeat' split) <;> first | rfl | (exfalso; omega))
 exact ⟨_, _, rfl, rfl, by rw [hx]; exact hO5⟩
theorem substV_ct (n b m : Int) (u : Tm) (us : List Value) (H : Heap) (bN bU : Nat) (hN : H bN = some (.cells ⟨[iv m]⟩ 3 (0, 0))) (hU : H bU = some (.cells ⟨us⟩ 28 (0, 0))) (hu1 : RT H us u) (hzu : sizeT u ≤ 900000) (hvu : vOK u) (hn0 : 0 ≤ n) (hn1 : n ≤ 2000000) (hb0 : 0 ≤ b) (hb1 : b ≤ 2000000) : CT Tryz.prog 47 ⟨[iv n, iv b, pp bN 0, pp bU 0]⟩ [] H (fun v N => ∃ cs k, v = .agg ⟨cs⟩ ∧ N = [k] ∧ OT (sbv m u n b) cs k) := by
 refine Zl Tryz.func47 rfl rfl <| Zc <| Za <| JLr (Zh (l := pkT 0 0 zS nS nS) Tryz.zeroValue28 rfl fun b1 => Zb <| Zc <| Zo <| Zc <| Za <| JLM rfl <| JLr (Ze ty3 rfl (At.im hN) rfl <| JLn (Pu.eql rfl rfl) <| JLA rfl ?_))
 refine Zb <| Zg rfl (fun h2 => ?_) (fun h2 => ?_)
 ·replace h2 := dt h2
  refine Zc <| Za <| JLr (Zi Zs rfl (At.im hU) (Zu (Zv hu1)) <| JLM rfl <| Jc Tryz.call48 rfl (fun hin => shifted_ct _ _ _ _ _ (RT.mono (Hle.hu _ _) hu1) hzu hvu (by omega) (by omega)) rfl ?_)
  rintro _ _ ⟨cs3, k3, rfl, rfl, hO3⟩
  refine JLr (Zd 1 (vs := cs3) (l := cs3) Zs rfl rfl rfl rfl hO3.len hO3.ok (ZD (n := 36) rfl hO3.len) <| Zb <| Zk <| ⟨.agg ⟨cs3⟩, [k3], Ret.one rfl (RV.cell Zs rfl (At.bx 1 rfl) (Zu hO3.len)), (Sk Sub.nil), ?_⟩)
  have hx : sbv m u n b = shT b 0 u := by first | rfl | (simp only [sbv]; (repeat' split) <;> first | rfl | (exfalso; omega))
  exact ⟨_, _, rfl, rfl, by rw [hx]; exact hO3⟩
 replace h2 := df h2
 refine Zc <| Za <| JLM rfl <| JLr (Ze ty3 rfl (At.im hN) rfl <| JLn (Pu.gtr rfl rfl) <| JLA rfl <| Zb <| Zg rfl (fun h4 => ?_) (fun h4 => ?_))
 ·replace h4 := dt h4
  refine Za <| JLM rfl <| JLn (Pu.sub64 rfl rfl (by first | omega | (constructor <;> omega))) <| JLA rfl <| Zb <| Zc <| Za <| JLM rfl <| JLM rfl <| Jc Tryz.call49 rfl (fun hin => stay_ct _ _ _ (by unfold inI; omega)) rfl ?_
  rintro _ _ ⟨cs5, k5, rfl, rfl, hO5⟩
  refine JLr (Zd 1 (vs := cs5) (l := cs5) Zs rfl rfl rfl rfl hO5.len hO5.ok (ZD (n := 36) rfl hO5.len) <| Zb <| Zk <| ⟨.agg ⟨cs5⟩, [k5], Ret.one rfl (RV.cell Zs rfl (At.bx 1 rfl) (Zu hO5.len)), (Sk Sub.nil), ?_⟩)
  have hx : sbv m u n b = .mk 1 (n - 1 + b) zS [] [] := by first | rfl | (simp only [sbv]; (repeat' split) <;> first | rfl | (exfalso; omega))
  exact ⟨_, _, rfl, rfl, by rw [hx]; exact hO5⟩
 replace h4 := df h4
 refine Zm <| Zc <| Za <| JLM rfl <| JLM rfl <| Jc Tryz.call49 rfl (fun hin => stay_ct _ _ _ (by unfold inI; omega)) rfl ?_
 rintro _ _ ⟨cs6, k6, rfl, rfl, hO6⟩
 refine JLr (Zd 1 (vs := cs6) (l := cs6) Zs rfl rfl rfl rfl hO6.len hO6.ok (ZD (n := 36) rfl hO6.len) <| Zb <| Zk <| ⟨.agg ⟨cs6⟩, [k6], Ret.one rfl (RV.cell Zs rfl (At.bx 1 rfl) (Zu hO6.len)), (Sk Sub.nil), ?_⟩)
 have hx : sbv m u n b = .mk 1 (n + b) zS [] [] := by first | rfl | (simp only [sbv]; (repeat' split) <;> first | rfl | (exfalso; omega))
 exact ⟨_, _, rfl, rfl, by rw [hx]; exact hO6⟩
theorem short_ct (t : Tm) (cs : List Value) (H : Heap) (ht : RT H cs t) : CT Tryz.prog 46 ⟨[.agg ⟨cs⟩]⟩ [] H (fun v N => v = .tuple ⟨[.agg ⟨if YE t = true then pkT 0 0 zS nS nS else cs⟩, iv (if YE t = true then 11 else 0)]⟩ ∧ N = []) := by
 refine Zl Tryz.func46 rfl rfl <| Zc <| Za <| JLr (Zp (l := cs) rfl rfl fun b1 => JLr (Zh (l := pkT 0 0 zS nS nS) Tryz.zeroValue28 rfl fun b2 => JLA rfl <| Zb <| Zc <| Zc <| Za <| JLq (.agg ⟨[iv 0]⟩) (Pu.build (pv := []) (l := [iv 0]) rfl bld77_) <| JLr (Zp (l := [iv 0]) rfl rfl fun b3 => JLr (Zi Zs rfl (At.bx 2 rfl) (Zu (Zv ht)) ?_))))
 refine Zq 0 rfl Tryz.call58 rfl rfl (fun hin => longT_ct _ _ _ _ _ _ (RT.mono (Hle.hu _ _) ht) (by omega) (by omega) (by omega) (by omega)) rfl ?_
 rintro _ _ ⟨rfl, rfl⟩
 refine Zb <| Zg rfl (fun h5 => ?_) (fun h5 => ?_)
 ·refine Zc <| Za <| JLq (.agg ⟨pkT 0 0 zS nS nS⟩) (Pu.build (pv := []) (l := pkT 0 0 zS nS nS) rfl (bld28_ )) <| JLr (Zd 1 (vs := pkT 0 0 zS nS nS) (l := pkT 0 0 zS nS nS) Zs rfl rfl rfl rfl rfl (ZA rfl rfl) (Z1 ..) <| JLA rfl <| Zb <| Zk <| ⟨.tuple ⟨[.agg ⟨pkT 0 0 zS nS nS⟩, iv 11]⟩, [], Ret.two rfl (RV.cell Zs rfl (At.bx 1 rfl) (ZX ..)) (RV.tmp rfl), Sub.nil, ?_⟩)
  rw [long_eq] at h5
  exact ⟨by simp [h5], rfl⟩
 refine Zm <| Zc <| Za <| JLr (Zi Zs rfl (At.bx 2 rfl) (Zu (Zv ht)) <| JLr (Zd 1 (vs := cs) (l := cs) Zs rfl rfl rfl rfl (Zv ht) (RT_ok ht) (ZD (n := 36) rfl (Zv ht)) <| JLA rfl <| Zb <| Zk <| ⟨.tuple ⟨[.agg ⟨cs⟩, iv 0]⟩, [], Ret.two rfl (RV.cell Zs rfl (At.bx 1 rfl) (Zu (Zv ht))) (RV.tmp rfl), Sub.nil, ?_⟩))
 rw [long_eq] at h5
 exact ⟨by simp [h5], rfl⟩
end Go.Proofs.YtjhenmdcnbaobaaGreat.Hs
/-! Walks, printed by a program of this session's own (gen.py). -/
namespace Go.Proofs.YtjhenmdcnbaobaaGreat.Hs
open Go Go.Proofs
set_option maxRecDepth 100000
set_option linter.unusedVariables false
set_option linter.unusedSimpArgs false
attribute [local irreducible] JL J CT wlo DT
theorem patternError_ct (kind num : Int) (ref : Sm) (ks : Value) (kids : List Pt) (H : Heap) (hks : rdS RP 35 H ks kids) : CT Tryz.prog 141 ⟨[.agg ⟨pkP kind num ref ks⟩]⟩ [] H (fun v N => v = iv (pErr kind num ref kids.length) ∧ N = []) := by
 refine Zl Tryz.func141 rfl rfl <| Zc <| Za <| JLr (Zp (l := pkP kind num ref ks) rfl rfl fun b1 => JLA rfl <| Zb <| Zc <| Za <| JLA rfl <| Zb <| Zc <| Zc <| Za ?_)
 refine JLq (pp b1 0) (YS rfl rfl) <| JLr (Ze ty3 rfl (At.bx 0 rfl) (pkP_0 ..) <| JLn (Pu.eql rfl rfl) <| Zb <| Zg rfl (fun h2 => ?_) (fun h2 => ?_))
 ·replace h2 := dt h2
  refine Za <| JLA rfl <| Zb <| Zc <| Zo <| Zc <| Za <| JLq (pp b1 0) (YS rfl rfl) <| JLr (Ze ty3 rfl (At.bx 0 rfl) (pkP_0 ..) <| Jc Tryz.call45 rfl (fun hin => Yy _ _ _ _) rfl ?_)
  rintro _ _ ⟨rfl, rfl⟩
  refine JLA rfl <| Zb <| Zg rfl (fun h3 => ?_) (fun h3 => ?_)
  ·replace h3 := dt h3
   refine Zc <| Za <| JLA rfl <| Zb <| Zk <| ⟨iv 3, [], Ret.one rfl (RV.tmp rfl), Sub.nil, ?_⟩
   exact ⟨by refine congrArg (Value.int .i64) ?_; simp only [pErr]; (repeat' split) <;> first | rfl | omega | (exfalso; simp_all; done) | (exfalso; simp_all; omega) | grind, rfl⟩
  replace h3 := df h3
  refine Zc <| ZV mixed #[0, 1, 3, 0, 8, 0, 32, 127, 255] 7 [some 12, some 13, some 14, some 15, some 16, some 17, some 18] [] [(2, fun _ _ vw qw => vw = .agg ⟨[.bool (pfN kind), .bool (pfR kind), .bool false]⟩ ∧ qw = [])] rfl (by kernel_rfl) rfl (by kernel_rfl) <| Dq (pp b1 0) (fun _ => YS rfl rfl) <| Dl1 ty3 (At.bx 0 rfl) (pkP_0 ..) <| Dc rfl Tryz.call156 (fun _ => rfl) (fun hin => patternFields_ct _ _) ?_
  rintro _ _ ⟨rfl, rfl⟩
  refine Dq (pp b1 1) (fun _ => fa85_1 rfl rfl) <| Dl1 ty3 (At.bx 0 rfl) (pkP_1 ..) <| Dq (pp b1 2) (fun _ => fa85_2 rfl rfl) <| Dl ty24 (At.bx 0 rfl) (pkP_2 ..) <| Yb (M' := [(BX b1 (pkP kind num ref ks) 85)]) rfl ?_
  show JL _ _ _ [_, _] _ _ _
  refine Jc Tryz.call139 rfl (fun hin => clash_ct _ _ _ _ _ _ _) rfl ?_
  rintro _ _ ⟨rfl, rfl⟩
  refine JLA rfl <| Zb <| Zg rfl (fun h4 => ?_) (fun h4 => ?_)
  ·refine Zc <| Za <| JLA rfl <| Zb <| Zk <| ⟨iv 7, [], Ret.one rfl (RV.tmp rfl), Sub.nil, ?_⟩
   exact ⟨by refine congrArg (Value.int .i64) ?_; simp only [pErr]; (repeat' split) <;> first | rfl | omega | (exfalso; simp_all; done) | (exfalso; simp_all; omega) | grind, rfl⟩
  refine Zc <| Za <| JLq (pp b1 34) (Y0 rfl rfl) <| JLr (Ze ty83 rfl (At.bx 0 rfl) (pkP_34 ..) ?_)
  obtain ⟨a5, cap5, hv5⟩ := hks.sl
  have hle5 := hks.le
  refine JLn (Pu.lenSl Tryz.runUnderlying83 hv5) <| JLM rfl <| JLn (Pu.gtr rfl rfl) <| JLA rfl <| Zb <| Zg rfl (fun h6 => ?_) (fun h6 => ?_)
  ·replace h6 := dt h6
   refine Zc <| Za <| JLA rfl <| Zb <| Zk <| ⟨iv 2, [], Ret.one rfl (RV.tmp rfl), Sub.nil, ?_⟩
   exact ⟨by refine congrArg (Value.int .i64) ?_; simp only [pErr]; (repeat' split) <;> first | rfl | omega | (exfalso; simp_all; done) | (exfalso; simp_all; omega) | grind, rfl⟩
  replace h6 := df h6
  refine Zc <| Zc <| Za <| JLq (pp b1 0) (YS rfl rfl) <| JLr (Ze ty3 rfl (At.bx 0 rfl) (pkP_0 ..) <| JLn (Pu.eql rfl rfl) <| JLM rfl <| Zx 3 [31, 32, 33] [(33, cond (decide (kind = 2)) (.bool (decide (num < 0 ∨ 1073741824 < num))) undef)] ?_ fun f8 => ?_)
  ·cases h7 : (decide (kind = 2)) with
   | true =>
    replace h7 := dt h7
    refine JLq (pp b1 1) (fa85_1 rfl rfl) <| JLr (Ze ty3 rfl (At.bx 0 rfl) (pkP_1 ..) <| Jc Tryz.call45 rfl (fun hin => Yy _ _ _ _) rfl ?_)
    rintro _ _ ⟨rfl, rfl⟩
    exact Zb ⟨⟨rfl, trivial⟩, rfl⟩
   | false =>
    exact ZH rfl ⟨rfl, trivial⟩
  refine JLn (Pu.pickAnd rfl rfl rfl) <| JLA rfl <| Zb <| Zg rfl (fun h9 => ?_) (fun h9 => ?_)
  ·obtain ⟨h9a, h9b⟩ := YC h9
   replace h9a := dt h9a
   replace h9b := dt h9b
   refine Zm <| Zg rfl (fun h10 => ?_) (fun h10 => ?_)
   ·obtain ⟨h10a, h10b⟩ := YC h10
    replace h10a := dt h10a
    replace h10b := dt h10b
    refine Zc <| Za <| JLA rfl <| Zb <| Zk <| ⟨iv 3, [], Ret.one rfl (RV.tmp rfl), Sub.nil, ?_⟩
    exact ⟨by refine congrArg (Value.int .i64) ?_; simp only [pErr]; (repeat' split) <;> first | rfl | omega | (exfalso; simp_all; done) | (exfalso; simp_all; omega) | grind, rfl⟩
   refine Zm <| Zc <| Za <| JLA rfl <| Zb <| Zk <| ⟨iv 0, [], Ret.one rfl (RV.tmp rfl), Sub.nil, ?_⟩
   exact ⟨by refine congrArg (Value.int .i64) ?_; simp only [pErr]; (repeat' split) <;> first | rfl | omega | (exfalso; simp_all; done) | (exfalso; simp_all; omega) | grind, rfl⟩
  refine Za <| JLq (pp b1 0) (YS rfl rfl) <| JLr (Ze ty3 rfl (At.bx 0 rfl) (pkP_0 ..) <| JLn (Pu.eql rfl rfl) <| JLM rfl <| Zx 3 [39, 40, 41] [(41, cond (decide (kind = 3)) (.bool (decide (num < 0 ∨ 7 < num))) undef)] ?_ fun f12 => ?_)
  ·cases h11 : (decide (kind = 3)) with
   | true =>
    replace h11 := dt h11
    refine JLq (pp b1 1) (fa85_1 rfl rfl) <| JLr (Ze ty3 rfl (At.bx 0 rfl) (pkP_1 ..) <| Jc Tryz.call45 rfl (fun hin => Yy _ _ _ _) rfl ?_)
    rintro _ _ ⟨rfl, rfl⟩
    exact Zb ⟨⟨rfl, trivial⟩, rfl⟩
   | false =>
    exact ZH rfl ⟨rfl, trivial⟩
  refine JLn (Pu.pickAnd rfl rfl rfl) <| JLA rfl <| Zb <| Zg rfl (fun h13 => ?_) (fun h13 => ?_)
  ·obtain ⟨h13a, h13b⟩ := YC h13
   replace h13a := dt h13a
   replace h13b := dt h13b
   refine Zc <| Za <| JLA rfl <| Zb <| Zk <| ⟨iv 3, [], Ret.one rfl (RV.tmp rfl), Sub.nil, ?_⟩
   exact ⟨by refine congrArg (Value.int .i64) ?_; simp only [pErr]; (repeat' split) <;> first | rfl | omega | (exfalso; simp_all; done) | (exfalso; simp_all; omega) | grind, rfl⟩
  refine Zm <| Zc <| Za <| JLA rfl <| Zb <| Zk <| ⟨iv 0, [], Ret.one rfl (RV.tmp rfl), Sub.nil, ?_⟩
  exact ⟨by refine congrArg (Value.int .i64) ?_; simp only [pErr]; (repeat' split) <;> first | rfl | omega | (exfalso; simp_all; done) | (exfalso; simp_all; omega) | grind, rfl⟩
 replace h2 := df h2
 refine Zm <| Zc <| Zo <| Zc <| Za <| JLq (pp b1 0) (YS rfl rfl) <| JLr (Ze ty3 rfl (At.bx 0 rfl) (pkP_0 ..) <| Jc Tryz.call45 rfl (fun hin => Yy _ _ _ _) rfl ?_)
 rintro _ _ ⟨rfl, rfl⟩
 refine JLA rfl <| Zb <| Zg rfl (fun h14 => ?_) (fun h14 => ?_)
 ·replace h14 := dt h14
  refine Zc <| Za <| JLA rfl <| Zb <| Zk <| ⟨iv 3, [], Ret.one rfl (RV.tmp rfl), Sub.nil, ?_⟩
  exact ⟨by refine congrArg (Value.int .i64) ?_; simp only [pErr]; (repeat' split) <;> first | rfl | omega | (exfalso; simp_all; done) | (exfalso; simp_all; omega) | grind, rfl⟩
 replace h14 := df h14
 refine Zc <| ZV mixed #[0, 1, 3, 0, 8, 0, 32, 127, 255] 7 [some 12, some 13, some 14, some 15, some 16, some 17, some 18] [] [(2, fun _ _ vw qw => vw = .agg ⟨[.bool (pfN kind), .bool (pfR kind), .bool false]⟩ ∧ qw = [])] rfl (by kernel_rfl) rfl (by kernel_rfl) <| Dq (pp b1 0) (fun _ => YS rfl rfl) <| Dl1 ty3 (At.bx 0 rfl) (pkP_0 ..) <| Dc rfl Tryz.call156 (fun _ => rfl) (fun hin => patternFields_ct _ _) ?_
 rintro _ _ ⟨rfl, rfl⟩
 refine Dq (pp b1 1) (fun _ => fa85_1 rfl rfl) <| Dl1 ty3 (At.bx 0 rfl) (pkP_1 ..) <| Dq (pp b1 2) (fun _ => fa85_2 rfl rfl) <| Dl ty24 (At.bx 0 rfl) (pkP_2 ..) <| Yb (M' := [(BX b1 (pkP kind num ref ks) 85)]) rfl ?_
 show JL _ _ _ [_, _] _ _ _
 refine Jc Tryz.call139 rfl (fun hin => clash_ct _ _ _ _ _ _ _) rfl ?_
 rintro _ _ ⟨rfl, rfl⟩
 refine JLA rfl <| Zb <| Zg rfl (fun h15 => ?_) (fun h15 => ?_)
 ·refine Zc <| Za <| JLA rfl <| Zb <| Zk <| ⟨iv 7, [], Ret.one rfl (RV.tmp rfl), Sub.nil, ?_⟩
  exact ⟨by refine congrArg (Value.int .i64) ?_; simp only [pErr]; (repeat' split) <;> first | rfl | omega | (exfalso; simp_all; done) | (exfalso; simp_all; omega) | grind, rfl⟩
 refine Zc <| Za <| JLq (pp b1 34) (Y0 rfl rfl) <| JLr (Ze ty83 rfl (At.bx 0 rfl) (pkP_34 ..) ?_)
 obtain ⟨a16, cap16, hv16⟩ := hks.sl
 have hle16 := hks.le
 refine JLn (Pu.lenSl Tryz.runUnderlying83 hv16) <| JLM rfl <| JLn (Pu.gtr rfl rfl) <| JLA rfl <| Zb <| Zg rfl (fun h17 => ?_) (fun h17 => ?_)
 ·replace h17 := dt h17
  refine Zc <| Za <| JLA rfl <| Zb <| Zk <| ⟨iv 2, [], Ret.one rfl (RV.tmp rfl), Sub.nil, ?_⟩
  exact ⟨by refine congrArg (Value.int .i64) ?_; simp only [pErr]; (repeat' split) <;> first | rfl | omega | (exfalso; simp_all; done) | (exfalso; simp_all; omega) | grind, rfl⟩
 replace h17 := df h17
 refine Zc <| Zc <| Za <| JLq (pp b1 0) (YS rfl rfl) <| JLr (Ze ty3 rfl (At.bx 0 rfl) (pkP_0 ..) <| JLn (Pu.eql rfl rfl) <| JLM rfl <| Zx 3 [31, 32, 33] [(33, cond (decide (kind = 2)) (.bool (decide (num < 0 ∨ 1073741824 < num))) undef)] ?_ fun f19 => ?_)
 ·cases h18 : (decide (kind = 2)) with
  | true =>
   replace h18 := dt h18
   refine JLq (pp b1 1) (fa85_1 rfl rfl) <| JLr (Ze ty3 rfl (At.bx 0 rfl) (pkP_1 ..) <| Jc Tryz.call45 rfl (fun hin => Yy _ _ _ _) rfl ?_)
   rintro _ _ ⟨rfl, rfl⟩
   exact Zb ⟨⟨rfl, trivial⟩, rfl⟩
  | false =>
   exact ZH rfl ⟨rfl, trivial⟩
 refine JLn (Pu.pickAnd rfl rfl rfl) <| JLA rfl <| Zb <| Zg rfl (fun h20 => ?_) (fun h20 => ?_)
 ·obtain ⟨h20a, h20b⟩ := YC h20
  replace h20a := dt h20a
  replace h20b := dt h20b
  refine Zm <| Zg rfl (fun h21 => ?_) (fun h21 => ?_)
  ·obtain ⟨h21a, h21b⟩ := YC h21
   replace h21a := dt h21a
   replace h21b := dt h21b
   refine Zc <| Za <| JLA rfl <| Zb <| Zk <| ⟨iv 3, [], Ret.one rfl (RV.tmp rfl), Sub.nil, ?_⟩
   exact ⟨by refine congrArg (Value.int .i64) ?_; simp only [pErr]; (repeat' split) <;> first | rfl | omega | (exfalso; simp_all; done) | (exfalso; simp_all; omega) | grind, rfl⟩
  refine Zm <| Zc <| Za <| JLA rfl <| Zb <| Zk <| ⟨iv 0, [], Ret.one rfl (RV.tmp rfl), Sub.nil, ?_⟩
  exact ⟨by refine congrArg (Value.int .i64) ?_; simp only [pErr]; (repeat' split) <;> first | rfl | omega | (exfalso; simp_all; done) | (exfalso; simp_all; omega) | grind, rfl⟩
 refine Za <| JLq (pp b1 0) (YS rfl rfl) <| JLr (Ze ty3 rfl (At.bx 0 rfl) (pkP_0 ..) <| JLn (Pu.eql rfl rfl) <| JLM rfl <| Zx 3 [39, 40, 41] [(41, cond (decide (kind = 3)) (.bool (decide (num < 0 ∨ 7 < num))) undef)] ?_ fun f23 => ?_)
 ·cases h22 : (decide (kind = 3)) with
  | true =>
   replace h22 := dt h22
   refine JLq (pp b1 1) (fa85_1 rfl rfl) <| JLr (Ze ty3 rfl (At.bx 0 rfl) (pkP_1 ..) <| Jc Tryz.call45 rfl (fun hin => Yy _ _ _ _) rfl ?_)
   rintro _ _ ⟨rfl, rfl⟩
   exact Zb ⟨⟨rfl, trivial⟩, rfl⟩
  | false =>
   exact ZH rfl ⟨rfl, trivial⟩
 refine JLn (Pu.pickAnd rfl rfl rfl) <| JLA rfl <| Zb <| Zg rfl (fun h24 => ?_) (fun h24 => ?_)
 ·obtain ⟨h24a, h24b⟩ := YC h24
  replace h24a := dt h24a
  replace h24b := dt h24b
  refine Zc <| Za <| JLA rfl <| Zb <| Zk <| ⟨iv 3, [], Ret.one rfl (RV.tmp rfl), Sub.nil, ?_⟩
  exact ⟨by refine congrArg (Value.int .i64) ?_; simp only [pErr]; (repeat' split) <;> first | rfl | omega | (exfalso; simp_all; done) | (exfalso; simp_all; omega) | grind, rfl⟩
 refine Zm <| Zc <| Za <| JLA rfl <| Zb <| Zk <| ⟨iv 0, [], Ret.one rfl (RV.tmp rfl), Sub.nil, ?_⟩
 exact ⟨by refine congrArg (Value.int .i64) ?_; simp only [pErr]; (repeat' split) <;> first | rfl | omega | (exfalso; simp_all; done) | (exfalso; simp_all; omega) | grind, rfl⟩
theorem patternsError_ct : ∀ (p : Pt) (cs : List Value) (H : Heap), RP H cs p → CT Tryz.prog 114 ⟨[.agg ⟨cs⟩]⟩ [] H (fun v N => v = iv (pErrs p) ∧ N = []) := by
 intro p
 induction p using Pt.ind with
 | h kind num ref kids ih =>
 intro cs H hp
 obtain ⟨ks, rfl, hk, hn, hks⟩ := RP_mk.1 hp
 refine Zl Tryz.func114 rfl rfl <| Zc <| Za <| JLr (Zp (l := pkP kind num ref ks) rfl rfl fun b1 => JLA rfl <| Zb <| Zc <| Za <| JLr (Zi Z0 rfl (At.bx 0 rfl) (pkP_a ..) <| Jc Tryz.call141 rfl (fun hin => patternError_ct _ _ _ _ _ _ (RPs.mono (Hle.hu _ _) hks)) rfl ?_))
 rintro _ _ ⟨rfl, rfl⟩
 refine JLA rfl <| Zb <| Zc <| Zc <| Za <| JLA rfl <| Zb <| Zo <| ZP (fun k ρ M => ∃ (j : Nat) (e : Int), ρ 1 = pp b1 0 ∧ ρ 2 = iv 0 ∧ ρ 3 = iv e ∧ ρ 4 = iv ((j : Int)) ∧ Sub [(BX b1 (pkP kind num ref ks) 85)] M ∧ j ≤ kids.length ∧ (if e = 0 then pErrsL (kids.drop j) else e) = pErrs (.mk kind num ref kids) ∧ k = kids.length - j) _ ⟨0, (pErr kind num ref kids.length), rfl, rfl, rfl, rfl, (Sk Sub.nil), Nat.zero_le _, (by rw [pErrs]; rfl), rfl⟩ ?_
 rintro _ ρ2 _ ⟨j, e, e3, e4, e5, e6, hm7, hj, hinv, rfl⟩
 obtain ⟨ρ8, rfl⟩ := Zn (uc e3 (uc e4 (uc e5 (uc e6 un))))
 clear e3 e4 e5 e6
 refine Z6 hm7 ?_
 have hlen := hks.le
 refine Zc <| Zc <| Za <| JLM rfl <| JLq (pp b1 34) (Y0 rfl rfl) <| JLr (Ze ty83 rfl (At.bx 0 rfl) (pkP_34 ..) ?_)
 obtain ⟨a9, cap9, hv9⟩ := hks.sl
 have hle9 := hks.le
 refine JLn (Pu.lenSl Tryz.runUnderlying83 hv9) <| JLn (Pu.lss rfl rfl) <| JLM rfl <| Zx 2 [13, 14] [(14, cond (decide ((j : Int) < (kids.length : Int))) (.bool (decide (e = 0))) undef)] ?_ fun f11 => ?_
 ·cases h10 : (decide ((j : Int) < (kids.length : Int))) with
  | true =>
   replace h10 := dt h10
   have h10n : j < kids.length := by omega
   refine JLM rfl <| JLn (Pu.eql rfl rfl) ?_
   exact Zb ⟨⟨rfl, trivial⟩, rfl⟩
  | false =>
   exact ZH rfl ⟨rfl, trivial⟩
 refine JLn (Pu.pickAnd rfl rfl rfl) <| Zb <| Zg rfl (fun h12 => ?_) (fun h12 => ?_)
 ·obtain ⟨h12a, h12b⟩ := YC h12
  replace h12a := dt h12a
  have h12an : j < kids.length := by omega
  replace h12b := dt h12b
  refine Zm <| Zc <| Zo <| Za <| JLq (pp b1 34) (Y0 rfl rfl) <| JLr (Ze ty83 rfl (At.bx 0 rfl) (pkP_34 ..) <| JLM rfl ?_)
  obtain ⟨b13, o13, cap13, row13, T13, fr13, cs13, hv13, hb13, hs13, hE13⟩ := hks.get j (by first | assumption | omega | decide | simp)
  refine JLq (pp b13 (o13 + j * 35)) (Pu.idx j Tryz.runUnderlying83 Z0 hv13 rfl rfl (by first | assumption | omega | decide | simp)) <| JLr (Zi Z0 rfl (At.im hb13) hs13 <| Jc Tryz.call114 rfl (fun hin => ih _ (List.getElem_mem h12an) _ _ (RP.mono (Hle.hu _ _) hE13)) rfl ?_)
  rintro _ _ ⟨rfl, rfl⟩
  refine JLA rfl <| Zb <| Za <| JLM rfl <| JLn (Pu.inc rfl rfl (by omega)) <| JLA rfl <| Zb <| ⟨_, ?_, (j + 1), (pErrs (kids[j])), rfl, rfl, rfl, rfl, (Sk Sub.nil), ?_, ?_, rfl⟩
  ·omega
  ·omega
  rw [if_pos (by assumption), Yf h12an, pErrsL] at hinv; exact hinv
 refine ZG _ rfl <| Zc <| Za <| JLM rfl <| JLA rfl <| Zb <| Zk <| ⟨iv e, [], Ret.one rfl (RV.tmp rfl), Sub.nil, ?_⟩
 refine ⟨?_, rfl⟩
 rw [← hinv]; by_cases he : e = 0
 ·have hj2 : kids.length ≤ j := by
   apply Nat.le_of_not_lt; intro hlt; have : (j : Int) < (kids.length : Int) := by omega
   simp_all
  rw [if_pos he, dropn hj2, he]; rfl
 rw [if_neg he]
end Go.Proofs.YtjhenmdcnbaobaaGreat.Hs
/-! Walks, printed by a program of this session's own (gen.py). -/
namespace Go.Proofs.YtjhenmdcnbaobaaGreat.Hs
open Go Go.Proofs
set_option maxRecDepth 100000
set_option linter.unusedVariables false
set_option linter.unusedSimpArgs false
attribute [local irreducible] JL J CT wlo DT
theorem known_ct (n b d : Int) (H : Heap) (bD : Nat) (hD : H bD = some (.cells ⟨[iv d]⟩ 3 (0, 0))) (hb0 : 0 ≤ b) (hb1 : b ≤ 1000000) (hn1 : -9223372036854775808 ≤ n) (hn2 : n ≤ 9223372036854775807) : CT Tryz.prog 59 ⟨[iv n, iv b, pp bD 0]⟩ [] H (fun v N => v = .bool (knownB d n b) ∧ N = []) := by
 refine Zl Tryz.func59 rfl rfl <| Zc <| Za <| JLA rfl <| Zb <| Zc <| Za <| JLM rfl <| JLn (Pu.geq rfl rfl) <| JLM rfl <| Zx 10 [9, 10, 11, 12, 13, 14, 15, 16, 17, 18] [(18, cond (decide (0 ≤ n)) (.bool ((decide (n < b)) || (decide (n - b < d)))) undef)] ?_ fun f4 => ?_
 ·cases h1 : (decide (0 ≤ n)) with
  | true =>
   replace h1 := dt h1
   refine JLM rfl <| JLM rfl <| JLn (Pu.lss rfl rfl) <| JLM rfl <| Zx 5 [13, 14, 15, 16, 17] [(17, cond (decide (n < b)) undef (.bool (decide (n - b < d))))] ?_ fun f3 => ?_
   ·cases h2 : (decide (n < b)) with
    | false =>
     replace h2 := df h2
     refine JLM rfl <| JLM rfl <| JLn (Pu.sub64 rfl rfl (by first | omega | (constructor <;> omega))) <| JLr (Ze ty3 rfl (At.im hD) rfl <| JLn (Pu.lss rfl rfl) ?_)
     exact Zb ⟨⟨rfl, trivial⟩, rfl⟩
    | true =>
     exact ZH rfl ⟨rfl, trivial⟩
   refine JLn (Pu.pickOr rfl rfl rfl) ?_
   exact Zb ⟨⟨rfl, trivial⟩, rfl⟩
  | false =>
   exact ZH rfl ⟨rfl, trivial⟩
 refine JLn (Pu.pickAnd rfl rfl rfl) <| JLA rfl <| Zb <| Zk <| ⟨.bool ((decide (0 ≤ n)) && ((decide (n < b)) || (decide (n - b < d)))), [], Ret.one rfl (RV.tmp rfl), Sub.nil, ?_⟩
 exact ⟨rfl, rfl⟩
set_option maxHeartbeats 2000000 in
theorem chkTerm_ct (kind num : Int) (ref : Sm) (ks cv : Value) (kids : List Tm) (cases : List (Pt × Tm)) (d m b : Int) (H : Heap) (bD : Nat) (hks : rdS RT 36 H ks kids) (hcv : rdS RC 71 H cv cases) (hD : H bD = some (.cells ⟨[iv d]⟩ 3 (0, 0))) (hb0 : 0 ≤ b) (hb1 : b ≤ 1000000) (hn1 : -9223372036854775808 ≤ num) (hn2 : num ≤ 9223372036854775807) : CT Tryz.prog 113 ⟨[.agg ⟨[iv m, .func (.func 59) ⟨[]⟩ ⟨[pp bD 0]⟩]⟩, .agg ⟨pkT kind num ref ks cv⟩, iv b]⟩ [] H (fun v N => v = iv (Yq d m b kind num ref kids.length cases.length) ∧ N = []) := by
 refine Zl Tryz.func113 rfl rfl <| Zc <| Za <| JLr (Zp (l := [iv m, .func (.func 59) ⟨[]⟩ ⟨[pp bD 0]⟩]) rfl rfl fun b1 => JLr (Zp (l := pkT kind num ref ks cv) rfl rfl fun b2 => JLA rfl <| Zb <| Zc <| Zo <| Zc <| Za <| JLq (pp b2 0) (ZI rfl rfl) <| JLr (Ze ty3 rfl (At.bx 0 rfl) (ZQ ..) ?_)))
 refine Jc Tryz.call45 rfl (fun hin => Yy _ _ _ _) rfl ?_
 rintro _ _ ⟨rfl, rfl⟩
 refine JLA rfl <| Zb <| Zg rfl (fun h3 => ?_) (fun h3 => ?_)
 ·replace h3 := dt h3
  refine Zc <| Za <| JLA rfl <| Zb <| Zk <| ⟨iv 3, [], Ret.one rfl (RV.tmp rfl), Sub.nil, ?_⟩
  exact ⟨by refine congrArg (Value.int .i64) ?_; simp only [Yq]; (repeat' split) <;> first | rfl | omega | (exfalso; simp_all; done) | (exfalso; simp_all; omega) | grind, rfl⟩
 replace h3 := df h3
 refine Zc <| ZV mixed #[0, 1, 3, 0, 8, 0, 32, 0, 128, 384, 1023, 2047] 10 [some 13, some 14, some 15, some 16, some 17, some 18, some 19, some 20, some 21, some 22] [] [(2, fun _ _ vw qw => vw = .agg ⟨[.bool (fN kind), .bool (fR kind), .bool (fC kind)]⟩ ∧ qw = [])] rfl (by kernel_rfl) rfl (by kernel_rfl) <| Dq (pp b2 0) (fun _ => ZI rfl rfl) <| Dl1 ty3 (At.bx 0 rfl) (ZQ ..) <| Dc rfl Tryz.call67 (fun _ => rfl) (fun hin => fields_ct _ _) ?_
 rintro _ _ ⟨rfl, rfl⟩
 refine Dq (pp b2 1) (fun _ => Yj rfl rfl) <| Dl1 ty3 (At.bx 0 rfl) (YK ..) <| Dq (pp b2 2) (fun _ => fa28_2 rfl rfl) <| Dl ty24 (At.bx 0 rfl) (pkT_2 ..) <| Dq (pp b2 35) (fun _ => YQ rfl rfl) <| Dl1 ty26 (At.bx 0 rfl) (YA ..) ?_
 obtain ⟨a5, cap5, hv5⟩ := hcv.sl
 have hle5 := hcv.le
 refine Dn (fun _ => Pu.lenSl Tryz.runUnderlying26 hv5) <| Yb (M' := [(BX b2 (pkT kind num ref ks cv) 28), (BX b1 [iv m, .func (.func 59) ⟨[]⟩ ⟨[pp bD 0]⟩] 123)]) rfl ?_
 show JL _ _ _ [_, _] _ _ _
 refine Jc Tryz.call139 rfl (fun hin => clash_ct _ _ _ _ _ _ _) rfl ?_
 rintro _ _ ⟨rfl, rfl⟩
 refine JLA rfl <| Zb <| Zg rfl (fun h6 => ?_) (fun h6 => ?_)
 ·refine Zc <| Za <| JLA rfl <| Zb <| Zk <| ⟨iv 7, [], Ret.one rfl (RV.tmp rfl), Sub.nil, ?_⟩
  exact ⟨by refine congrArg (Value.int .i64) ?_; simp only [Yq]; (repeat' split) <;> first | rfl | omega | (exfalso; simp_all; done) | (exfalso; simp_all; omega) | grind, rfl⟩
 refine Zc <| Za <| JLq (pp b2 0) (ZI rfl rfl) <| JLr (Ze ty3 rfl (At.bx 0 rfl) (ZQ ..) <| JLq (pp b2 34) (Yu rfl rfl) <| JLr (Ze ty25 rfl (At.bx 0 rfl) (Yl ..) ?_))
 obtain ⟨a7, cap7, hv7⟩ := hks.sl
 have hle7 := hks.le
 refine JLn (Pu.lenSl Tryz.runUnderlying25 hv7) <| Jc Tryz.call140 rfl (fun hin => kidsT_ct _ _ _) rfl ?_
 rintro _ _ ⟨rfl, rfl⟩
 refine JLn (Pu.not rfl) <| JLM rfl <| Zx 4 [33, 34, 35, 36] [(36, cond (!(kidsB kind ((kids.length : Int)))) undef (.bool (decide (8 < (cases.length : Int)))))] ?_ fun f10 => ?_
 ·cases h8 : (!(kidsB kind ((kids.length : Int)))) with
  | false =>
   replace h8 := nf h8
   refine JLq (pp b2 35) (YQ rfl rfl) <| JLr (Ze ty26 rfl (At.bx 0 rfl) (YA ..) ?_)
   obtain ⟨a9, cap9, hv9⟩ := hcv.sl
   have hle9 := hcv.le
   refine JLn (Pu.lenSl Tryz.runUnderlying26 hv9) <| JLn (Pu.gtr rfl rfl) ?_
   exact Zb ⟨⟨rfl, trivial⟩, rfl⟩
  | true =>
   exact ZH rfl ⟨rfl, trivial⟩
 refine JLn (Pu.pickOr rfl rfl rfl) <| JLA rfl <| Zb <| Zg rfl (fun h11 => ?_) (fun h11 => ?_)
 ·refine Zc <| Za <| JLA rfl <| Zb <| Zk <| ⟨iv 2, [], Ret.one rfl (RV.tmp rfl), Sub.nil, ?_⟩
  exact ⟨by refine congrArg (Value.int .i64) ?_; simp only [Yq]; (repeat' split) <;> first | rfl | omega | (exfalso; simp_all; done) | (exfalso; simp_all; omega) | grind, rfl⟩
 obtain ⟨h11a, h11b⟩ := orF h11
 replace h11a := nf h11a
 replace h11b := df h11b
 refine Zm <| Zc <| Za <| JLA rfl <| Zb <| Zc <| Zc <| Za <| JLq (pp b2 0) (ZI rfl rfl) <| JLr (Ze ty3 rfl (At.bx 0 rfl) (ZQ ..) <| Zb <| Zo <| Zc ?_)
 refine Za <| JLn (Pu.eql rfl rfl) <| JLA rfl <| Zb <| Zg rfl (fun h12 => ?_) (fun h12 => ?_)
 ·replace h12 := dt h12
  refine Zc <| Za <| JLq (pp b2 1) (Yj rfl rfl) <| JLr (Ze ty3 rfl (At.bx 0 rfl) (YK ..) <| Jc Tryz.call45 rfl (fun hin => Yy _ _ _ _) rfl ?_)
  rintro _ _ ⟨rfl, rfl⟩
  refine Zb <| Zg rfl (fun h13 => ?_) (fun h13 => ?_)
  ·replace h13 := dt h13
   refine Zc <| Za <| JLA rfl <| Zb <| Zk <| ⟨iv 3, [], Ret.one rfl (RV.tmp rfl), Sub.nil, ?_⟩
   exact ⟨by refine congrArg (Value.int .i64) ?_; simp only [Yq]; (repeat' split) <;> first | rfl | omega | (exfalso; simp_all; done) | (exfalso; simp_all; omega) | grind, rfl⟩
  replace h13 := df h13
  refine Zm <| Zc <| Zc <| Za <| JLq (pp b2 0) (ZI rfl rfl) <| JLr (Ze ty3 rfl (At.bx 0 rfl) (ZQ ..) <| JLn (Pu.eql rfl rfl) <| JLM rfl <| Zx 3 [73, 74, 75] [(75, cond (decide (kind = 2)) undef (.bool (decide (kind = 8))))] ?_ fun f15 => ?_)
  ·cases h14 : (decide (kind = 2)) with
   | false =>
    replace h14 := df h14
    refine JLq (pp b2 0) (ZI rfl rfl) <| JLr (Ze ty3 rfl (At.bx 0 rfl) (ZQ ..) <| JLn (Pu.eql rfl rfl) ?_)
    exact Zb ⟨⟨rfl, trivial⟩, rfl⟩
   | true =>
    exact ZH rfl ⟨rfl, trivial⟩
  refine JLn (Pu.pickOr rfl rfl rfl) <| JLM rfl <| Zx 3 [78, 79, 80] [(80, cond ((decide (kind = 2)) || (decide (kind = 8))) undef (.bool (decide (kind = 11))))] ?_ fun f17 => ?_
  ·cases h16 : ((decide (kind = 2)) || (decide (kind = 8))) with
   | false =>
    obtain ⟨h16a, h16b⟩ := orF h16
    replace h16a := df h16a
    replace h16b := df h16b
    refine JLq (pp b2 0) (ZI rfl rfl) <| JLr (Ze ty3 rfl (At.bx 0 rfl) (ZQ ..) <| JLn (Pu.eql rfl rfl) ?_)
    exact Zb ⟨⟨rfl, trivial⟩, rfl⟩
   | true =>
    exact ZH rfl ⟨rfl, trivial⟩
  refine JLn (Pu.pickOr rfl rfl rfl) <| JLM rfl <| Zx 4 [83, 84, 85, 86] [(86, cond (((decide (kind = 2)) || (decide (kind = 8))) || (decide (kind = 11))) (.bool (decide (num < 0 ∨ 1073741824 < num))) undef)] ?_ fun f19 => ?_
  ·cases h18 : (((decide (kind = 2)) || (decide (kind = 8))) || (decide (kind = 11))) with
   | true =>
    refine JLq (pp b2 1) (Yj rfl rfl) <| JLr (Ze ty3 rfl (At.bx 0 rfl) (YK ..) <| JLM rfl <| Jc Tryz.call45 rfl (fun hin => Yy _ _ _ _) rfl ?_)
    rintro _ _ ⟨rfl, rfl⟩
    exact Zb ⟨⟨rfl, trivial⟩, rfl⟩
   | false =>
    exact ZH rfl ⟨rfl, trivial⟩
  refine JLn (Pu.pickAnd rfl rfl rfl) <| Zb <| Zg rfl (fun h20 => ?_) (fun h20 => ?_)
  ·obtain ⟨h20a, h20b⟩ := YC h20
   replace h20b := dt h20b
   refine Zc <| Za <| JLA rfl <| Zb <| Zk <| ⟨iv 3, [], Ret.one rfl (RV.tmp rfl), Sub.nil, ?_⟩
   exact ⟨by refine congrArg (Value.int .i64) ?_; simp only [Yq]; (repeat' split) <;> first | rfl | omega | (exfalso; simp_all; done) | (exfalso; simp_all; omega) | grind, rfl⟩
  refine Zm <| Zc <| Za <| JLA rfl <| Zb <| Zk <| ⟨iv 0, [], Ret.one rfl (RV.tmp rfl), Sub.nil, ?_⟩
  exact ⟨by refine congrArg (Value.int .i64) ?_; simp only [Yq]; (repeat' split) <;> first | rfl | omega | (exfalso; simp_all; done) | (exfalso; simp_all; omega) | grind, rfl⟩
 replace h12 := df h12
 refine Zc <| Zc <| Za <| JLn (Pu.eql rfl rfl) <| JLA rfl <| Zb <| Zg rfl (fun h21 => ?_) (fun h21 => ?_)
 ·replace h21 := dt h21
  refine Zm <| Zg rfl (fun _ => ?_) (fun h22 => absurd h21 (df h22))
  refine Za <| JLA rfl <| Zb <| Zc <| Zc <| Za <| JLq (pp b2 0) (ZI rfl rfl) <| JLr (Ze ty3 rfl (At.bx 0 rfl) (ZQ ..) <| JLn (Pu.eql rfl rfl) <| JLM rfl <| Zx 3 [73, 74, 75] [(75, cond (decide (kind = 2)) undef (.bool (decide (kind = 8))))] ?_ fun f24 => ?_)
  ·cases h23 : (decide (kind = 2)) with
   | false =>
    replace h23 := df h23
    refine JLq (pp b2 0) (ZI rfl rfl) <| JLr (Ze ty3 rfl (At.bx 0 rfl) (ZQ ..) <| JLn (Pu.eql rfl rfl) ?_)
    exact Zb ⟨⟨rfl, trivial⟩, rfl⟩
   | true =>
    exact ZH rfl ⟨rfl, trivial⟩
  refine JLn (Pu.pickOr rfl rfl rfl) <| JLM rfl <| Zx 3 [78, 79, 80] [(80, cond ((decide (kind = 2)) || (decide (kind = 8))) undef (.bool (decide (kind = 11))))] ?_ fun f26 => ?_
  ·cases h25 : ((decide (kind = 2)) || (decide (kind = 8))) with
   | false =>
    obtain ⟨h25a, h25b⟩ := orF h25
    replace h25a := df h25a
    replace h25b := df h25b
    refine JLq (pp b2 0) (ZI rfl rfl) <| JLr (Ze ty3 rfl (At.bx 0 rfl) (ZQ ..) <| JLn (Pu.eql rfl rfl) ?_)
    exact Zb ⟨⟨rfl, trivial⟩, rfl⟩
   | true =>
    exact ZH rfl ⟨rfl, trivial⟩
  refine JLn (Pu.pickOr rfl rfl rfl) <| JLM rfl <| Zx 4 [83, 84, 85, 86] [(86, cond (((decide (kind = 2)) || (decide (kind = 8))) || (decide (kind = 11))) (.bool (decide (num < 0 ∨ 7 < num))) undef)] ?_ fun f28 => ?_
  ·cases h27 : (((decide (kind = 2)) || (decide (kind = 8))) || (decide (kind = 11))) with
   | true =>
    refine JLq (pp b2 1) (Yj rfl rfl) <| JLr (Ze ty3 rfl (At.bx 0 rfl) (YK ..) <| JLM rfl <| Jc Tryz.call45 rfl (fun hin => Yy _ _ _ _) rfl ?_)
    rintro _ _ ⟨rfl, rfl⟩
    exact Zb ⟨⟨rfl, trivial⟩, rfl⟩
   | false =>
    exact ZH rfl ⟨rfl, trivial⟩
  refine JLn (Pu.pickAnd rfl rfl rfl) <| Zb <| Zg rfl (fun h29 => ?_) (fun h29 => ?_)
  ·obtain ⟨h29a, h29b⟩ := YC h29
   replace h29b := dt h29b
   refine Zc <| Za <| JLA rfl <| Zb <| Zk <| ⟨iv 3, [], Ret.one rfl (RV.tmp rfl), Sub.nil, ?_⟩
   exact ⟨by refine congrArg (Value.int .i64) ?_; simp only [Yq]; (repeat' split) <;> first | rfl | omega | (exfalso; simp_all; done) | (exfalso; simp_all; omega) | grind, rfl⟩
  refine Zm <| Zc <| Za <| JLA rfl <| Zb <| Zk <| ⟨iv 0, [], Ret.one rfl (RV.tmp rfl), Sub.nil, ?_⟩
  exact ⟨by refine congrArg (Value.int .i64) ?_; simp only [Yq]; (repeat' split) <;> first | rfl | omega | (exfalso; simp_all; done) | (exfalso; simp_all; omega) | grind, rfl⟩
 replace h21 := df h21
 refine Za <| JLn (Pu.eql rfl rfl) <| JLA rfl <| Zb <| Zg rfl (fun h30 => ?_) (fun h30 => ?_)
 ·replace h30 := dt h30
  refine Za <| JLA rfl <| Zb <| Zc <| Zc <| Za <| JLq (pp b2 0) (ZI rfl rfl) <| JLr (Ze ty3 rfl (At.bx 0 rfl) (ZQ ..) <| JLn (Pu.eql rfl rfl) <| JLM rfl <| Zx 3 [73, 74, 75] [(75, cond (decide (kind = 2)) undef (.bool (decide (kind = 8))))] ?_ fun f32 => ?_)
  ·cases h31 : (decide (kind = 2)) with
   | false =>
    replace h31 := df h31
    refine JLq (pp b2 0) (ZI rfl rfl) <| JLr (Ze ty3 rfl (At.bx 0 rfl) (ZQ ..) <| JLn (Pu.eql rfl rfl) ?_)
    exact Zb ⟨⟨rfl, trivial⟩, rfl⟩
   | true =>
    exact ZH rfl ⟨rfl, trivial⟩
  refine JLn (Pu.pickOr rfl rfl rfl) <| JLM rfl <| Zx 3 [78, 79, 80] [(80, cond ((decide (kind = 2)) || (decide (kind = 8))) undef (.bool (decide (kind = 11))))] ?_ fun f34 => ?_
  ·cases h33 : ((decide (kind = 2)) || (decide (kind = 8))) with
   | false =>
    obtain ⟨h33a, h33b⟩ := orF h33
    replace h33a := df h33a
    replace h33b := df h33b
    refine JLq (pp b2 0) (ZI rfl rfl) <| JLr (Ze ty3 rfl (At.bx 0 rfl) (ZQ ..) <| JLn (Pu.eql rfl rfl) ?_)
    exact Zb ⟨⟨rfl, trivial⟩, rfl⟩
   | true =>
    exact ZH rfl ⟨rfl, trivial⟩
  refine JLn (Pu.pickOr rfl rfl rfl) <| JLM rfl <| Zx 4 [83, 84, 85, 86] [(86, cond (((decide (kind = 2)) || (decide (kind = 8))) || (decide (kind = 11))) (.bool (decide (num < 0 ∨ 7 < num))) undef)] ?_ fun f36 => ?_
  ·cases h35 : (((decide (kind = 2)) || (decide (kind = 8))) || (decide (kind = 11))) with
   | true =>
    refine JLq (pp b2 1) (Yj rfl rfl) <| JLr (Ze ty3 rfl (At.bx 0 rfl) (YK ..) <| JLM rfl <| Jc Tryz.call45 rfl (fun hin => Yy _ _ _ _) rfl ?_)
    rintro _ _ ⟨rfl, rfl⟩
    exact Zb ⟨⟨rfl, trivial⟩, rfl⟩
   | false =>
    exact ZH rfl ⟨rfl, trivial⟩
  refine JLn (Pu.pickAnd rfl rfl rfl) <| Zb <| Zg rfl (fun h37 => ?_) (fun h37 => ?_)
  ·obtain ⟨h37a, h37b⟩ := YC h37
   replace h37b := dt h37b
   refine Zc <| Za <| JLA rfl <| Zb <| Zk <| ⟨iv 3, [], Ret.one rfl (RV.tmp rfl), Sub.nil, ?_⟩
   exact ⟨by refine congrArg (Value.int .i64) ?_; simp only [Yq]; (repeat' split) <;> first | rfl | omega | (exfalso; simp_all; done) | (exfalso; simp_all; omega) | grind, rfl⟩
  refine Zm <| Zc <| Za <| JLA rfl <| Zb <| Zk <| ⟨iv 0, [], Ret.one rfl (RV.tmp rfl), Sub.nil, ?_⟩
  exact ⟨by refine congrArg (Value.int .i64) ?_; simp only [Yq]; (repeat' split) <;> first | rfl | omega | (exfalso; simp_all; done) | (exfalso; simp_all; omega) | grind, rfl⟩
 replace h30 := df h30
 refine Zc <| Za <| JLn (Pu.eql rfl rfl) <| JLA rfl <| Zb <| Zg rfl (fun h38 => ?_) (fun h38 => ?_)
 ·replace h38 := dt h38
  refine Zc <| Za <| JLq (pp b1 1) (fa123_1 rfl rfl) <| JLr (Ze ty121 rfl (At.bx 1 rfl) rfl <| JLq (pp b2 1) (Yj rfl rfl) <| JLr (Ze ty3 rfl (At.bx 0 rfl) (YK ..) <| JLM rfl <| Jc Tryz.call59 rfl (fun hin => known_ct _ _ _ _ bD (Hle.hu _ _ _ _ hD) hb0 hb1 hn1 hn2) rfl ?_))
  rintro _ _ ⟨rfl, rfl⟩
  refine JLn (Pu.not rfl) <| Zb <| Zg rfl (fun h39 => ?_) (fun h39 => ?_)
  ·replace h39 := nt h39
   refine Zc <| Za <| JLA rfl <| Zb <| Zk <| ⟨iv 1, [], Ret.one rfl (RV.tmp rfl), Sub.nil, ?_⟩
   exact ⟨by refine congrArg (Value.int .i64) ?_; simp only [Yq]; (repeat' split) <;> first | rfl | omega | (exfalso; simp_all; done) | (exfalso; simp_all; omega) | grind, rfl⟩
  replace h39 := nf h39
  refine Zm <| Zc <| Zc <| Za <| JLq (pp b2 0) (ZI rfl rfl) <| JLr (Ze ty3 rfl (At.bx 0 rfl) (ZQ ..) <| JLn (Pu.eql rfl rfl) <| JLM rfl <| Zx 3 [73, 74, 75] [(75, cond (decide (kind = 2)) undef (.bool (decide (kind = 8))))] ?_ fun f41 => ?_)
  ·cases h40 : (decide (kind = 2)) with
   | false =>
    replace h40 := df h40
    refine JLq (pp b2 0) (ZI rfl rfl) <| JLr (Ze ty3 rfl (At.bx 0 rfl) (ZQ ..) <| JLn (Pu.eql rfl rfl) ?_)
    exact Zb ⟨⟨rfl, trivial⟩, rfl⟩
   | true =>
    exact ZH rfl ⟨rfl, trivial⟩
  refine JLn (Pu.pickOr rfl rfl rfl) <| JLM rfl <| Zx 3 [78, 79, 80] [(80, cond ((decide (kind = 2)) || (decide (kind = 8))) undef (.bool (decide (kind = 11))))] ?_ fun f43 => ?_
  ·cases h42 : ((decide (kind = 2)) || (decide (kind = 8))) with
   | false =>
    obtain ⟨h42a, h42b⟩ := orF h42
    replace h42a := df h42a
    replace h42b := df h42b
    refine JLq (pp b2 0) (ZI rfl rfl) <| JLr (Ze ty3 rfl (At.bx 0 rfl) (ZQ ..) <| JLn (Pu.eql rfl rfl) ?_)
    exact Zb ⟨⟨rfl, trivial⟩, rfl⟩
   | true =>
    exact ZH rfl ⟨rfl, trivial⟩
  refine JLn (Pu.pickOr rfl rfl rfl) <| JLM rfl <| Zx 4 [83, 84, 85, 86] [(86, cond (((decide (kind = 2)) || (decide (kind = 8))) || (decide (kind = 11))) (.bool (decide (num < 0 ∨ 1073741824 < num))) undef)] ?_ fun f45 => ?_
  ·cases h44 : (((decide (kind = 2)) || (decide (kind = 8))) || (decide (kind = 11))) with
   | true =>
    refine JLq (pp b2 1) (Yj rfl rfl) <| JLr (Ze ty3 rfl (At.bx 0 rfl) (YK ..) <| JLM rfl <| Jc Tryz.call45 rfl (fun hin => Yy _ _ _ _) rfl ?_)
    rintro _ _ ⟨rfl, rfl⟩
    exact Zb ⟨⟨rfl, trivial⟩, rfl⟩
   | false =>
    exact ZH rfl ⟨rfl, trivial⟩
  refine JLn (Pu.pickAnd rfl rfl rfl) <| Zb <| Zg rfl (fun h46 => ?_) (fun h46 => ?_)
  ·obtain ⟨h46a, h46b⟩ := YC h46
   replace h46b := dt h46b
   refine Zc <| Za <| JLA rfl <| Zb <| Zk <| ⟨iv 3, [], Ret.one rfl (RV.tmp rfl), Sub.nil, ?_⟩
   exact ⟨by refine congrArg (Value.int .i64) ?_; simp only [Yq]; (repeat' split) <;> first | rfl | omega | (exfalso; simp_all; done) | (exfalso; simp_all; omega) | grind, rfl⟩
  refine Zm <| Zc <| Za <| JLA rfl <| Zb <| Zk <| ⟨iv 0, [], Ret.one rfl (RV.tmp rfl), Sub.nil, ?_⟩
  exact ⟨by refine congrArg (Value.int .i64) ?_; simp only [Yq]; (repeat' split) <;> first | rfl | omega | (exfalso; simp_all; done) | (exfalso; simp_all; omega) | grind, rfl⟩
 replace h38 := df h38
 refine Zc <| Za <| JLn (Pu.eql rfl rfl) <| JLA rfl <| Zb <| Zg rfl (fun h47 => ?_) (fun h47 => ?_)
 ·replace h47 := dt h47
  refine Zc <| Za <| JLq (pp b2 1) (Yj rfl rfl) <| JLr (Ze ty3 rfl (At.bx 0 rfl) (YK ..) <| JLn (Pu.lss rfl rfl) <| JLM rfl <| Zx 5 [63, 64, 65, 66, 67] [(67, cond (decide (num < 0)) undef (.bool (decide (m ≤ num))))] ?_ fun f49 => ?_)
  ·cases h48 : (decide (num < 0)) with
   | false =>
    replace h48 := df h48
    refine JLq (pp b2 1) (Yj rfl rfl) <| JLr (Ze ty3 rfl (At.bx 0 rfl) (YK ..) <| JLq (pp b1 0) (fa123_0 rfl rfl) <| JLr (Ze ty3 rfl (At.bx 1 rfl) rfl <| JLn (Pu.geq rfl rfl) ?_))
    exact Zb ⟨⟨rfl, trivial⟩, rfl⟩
   | true =>
    exact ZH rfl ⟨rfl, trivial⟩
  refine JLn (Pu.pickOr rfl rfl rfl) <| Zb <| Zg rfl (fun h50 => ?_) (fun h50 => ?_)
  ·refine Zc <| Za <| JLA rfl <| Zb <| Zk <| ⟨iv 1, [], Ret.one rfl (RV.tmp rfl), Sub.nil, ?_⟩
   exact ⟨by refine congrArg (Value.int .i64) ?_; simp only [Yq]; (repeat' split) <;> first | rfl | omega | (exfalso; simp_all; done) | (exfalso; simp_all; omega) | grind, rfl⟩
  obtain ⟨h50a, h50b⟩ := orF h50
  replace h50a := df h50a
  replace h50b := df h50b
  refine Zm <| Zc <| Zc <| Za <| JLq (pp b2 0) (ZI rfl rfl) <| JLr (Ze ty3 rfl (At.bx 0 rfl) (ZQ ..) <| JLn (Pu.eql rfl rfl) <| JLM rfl <| Zx 3 [73, 74, 75] [(75, cond (decide (kind = 2)) undef (.bool (decide (kind = 8))))] ?_ fun f52 => ?_)
  ·cases h51 : (decide (kind = 2)) with
   | false =>
    replace h51 := df h51
    refine JLq (pp b2 0) (ZI rfl rfl) <| JLr (Ze ty3 rfl (At.bx 0 rfl) (ZQ ..) <| JLn (Pu.eql rfl rfl) ?_)
    exact Zb ⟨⟨rfl, trivial⟩, rfl⟩
   | true =>
    exact ZH rfl ⟨rfl, trivial⟩
  refine JLn (Pu.pickOr rfl rfl rfl) <| JLM rfl <| Zx 3 [78, 79, 80] [(80, cond ((decide (kind = 2)) || (decide (kind = 8))) undef (.bool (decide (kind = 11))))] ?_ fun f54 => ?_
  ·cases h53 : ((decide (kind = 2)) || (decide (kind = 8))) with
   | false =>
    obtain ⟨h53a, h53b⟩ := orF h53
    replace h53a := df h53a
    replace h53b := df h53b
    refine JLq (pp b2 0) (ZI rfl rfl) <| JLr (Ze ty3 rfl (At.bx 0 rfl) (ZQ ..) <| JLn (Pu.eql rfl rfl) ?_)
    exact Zb ⟨⟨rfl, trivial⟩, rfl⟩
   | true =>
    exact ZH rfl ⟨rfl, trivial⟩
  refine JLn (Pu.pickOr rfl rfl rfl) <| JLM rfl <| Zx 4 [83, 84, 85, 86] [(86, cond (((decide (kind = 2)) || (decide (kind = 8))) || (decide (kind = 11))) (.bool (decide (num < 0 ∨ 1073741824 < num))) undef)] ?_ fun f56 => ?_
  ·cases h55 : (((decide (kind = 2)) || (decide (kind = 8))) || (decide (kind = 11))) with
   | true =>
    refine JLq (pp b2 1) (Yj rfl rfl) <| JLr (Ze ty3 rfl (At.bx 0 rfl) (YK ..) <| JLM rfl <| Jc Tryz.call45 rfl (fun hin => Yy _ _ _ _) rfl ?_)
    rintro _ _ ⟨rfl, rfl⟩
    exact Zb ⟨⟨rfl, trivial⟩, rfl⟩
   | false =>
    exact ZH rfl ⟨rfl, trivial⟩
  refine JLn (Pu.pickAnd rfl rfl rfl) <| Zb <| Zg rfl (fun h57 => ?_) (fun h57 => ?_)
  ·obtain ⟨h57a, h57b⟩ := YC h57
   replace h57b := dt h57b
   refine Zc <| Za <| JLA rfl <| Zb <| Zk <| ⟨iv 3, [], Ret.one rfl (RV.tmp rfl), Sub.nil, ?_⟩
   exact ⟨by refine congrArg (Value.int .i64) ?_; simp only [Yq]; (repeat' split) <;> first | rfl | omega | (exfalso; simp_all; done) | (exfalso; simp_all; omega) | grind, rfl⟩
  refine Zm <| Zc <| Za <| JLA rfl <| Zb <| Zk <| ⟨iv 0, [], Ret.one rfl (RV.tmp rfl), Sub.nil, ?_⟩
  exact ⟨by refine congrArg (Value.int .i64) ?_; simp only [Yq]; (repeat' split) <;> first | rfl | omega | (exfalso; simp_all; done) | (exfalso; simp_all; omega) | grind, rfl⟩
 replace h47 := df h47
 refine Zm <| Zc <| Zc <| Za <| JLq (pp b2 0) (ZI rfl rfl) <| JLr (Ze ty3 rfl (At.bx 0 rfl) (ZQ ..) <| JLn (Pu.eql rfl rfl) <| JLM rfl <| Zx 3 [73, 74, 75] [(75, cond (decide (kind = 2)) undef (.bool (decide (kind = 8))))] ?_ fun f59 => ?_)
 ·cases h58 : (decide (kind = 2)) with
  | false =>
   replace h58 := df h58
   refine JLq (pp b2 0) (ZI rfl rfl) <| JLr (Ze ty3 rfl (At.bx 0 rfl) (ZQ ..) <| JLn (Pu.eql rfl rfl) ?_)
   exact Zb ⟨⟨rfl, trivial⟩, rfl⟩
  | true =>
   exact ZH rfl ⟨rfl, trivial⟩
 refine JLn (Pu.pickOr rfl rfl rfl) <| JLM rfl <| Zx 3 [78, 79, 80] [(80, cond ((decide (kind = 2)) || (decide (kind = 8))) undef (.bool (decide (kind = 11))))] ?_ fun f61 => ?_
 ·cases h60 : ((decide (kind = 2)) || (decide (kind = 8))) with
  | false =>
   obtain ⟨h60a, h60b⟩ := orF h60
   replace h60a := df h60a
   replace h60b := df h60b
   refine JLq (pp b2 0) (ZI rfl rfl) <| JLr (Ze ty3 rfl (At.bx 0 rfl) (ZQ ..) <| JLn (Pu.eql rfl rfl) ?_)
   exact Zb ⟨⟨rfl, trivial⟩, rfl⟩
  | true =>
   exact ZH rfl ⟨rfl, trivial⟩
 refine JLn (Pu.pickOr rfl rfl rfl) <| JLM rfl <| Zx 4 [83, 84, 85, 86] [(86, cond (((decide (kind = 2)) || (decide (kind = 8))) || (decide (kind = 11))) (.bool (decide (num < 0 ∨ 1073741824 < num))) undef)] ?_ fun f63 => ?_
 ·cases h62 : (((decide (kind = 2)) || (decide (kind = 8))) || (decide (kind = 11))) with
  | true =>
   refine JLq (pp b2 1) (Yj rfl rfl) <| JLr (Ze ty3 rfl (At.bx 0 rfl) (YK ..) <| JLM rfl <| Jc Tryz.call45 rfl (fun hin => Yy _ _ _ _) rfl ?_)
   rintro _ _ ⟨rfl, rfl⟩
   exact Zb ⟨⟨rfl, trivial⟩, rfl⟩
  | false =>
   exact ZH rfl ⟨rfl, trivial⟩
 refine JLn (Pu.pickAnd rfl rfl rfl) <| Zb <| Zg rfl (fun h64 => ?_) (fun h64 => ?_)
 ·obtain ⟨h64a, h64b⟩ := YC h64
  replace h64b := dt h64b
  refine Zc <| Za <| JLA rfl <| Zb <| Zk <| ⟨iv 3, [], Ret.one rfl (RV.tmp rfl), Sub.nil, ?_⟩
  exact ⟨by refine congrArg (Value.int .i64) ?_; simp only [Yq]; (repeat' split) <;> first | rfl | omega | (exfalso; simp_all; done) | (exfalso; simp_all; omega) | grind, rfl⟩
 refine Zm <| Zc <| Za <| JLA rfl <| Zb <| Zk <| ⟨iv 0, [], Ret.one rfl (RV.tmp rfl), Sub.nil, ?_⟩
 exact ⟨by refine congrArg (Value.int .i64) ?_; simp only [Yq]; (repeat' split) <;> first | rfl | omega | (exfalso; simp_all; done) | (exfalso; simp_all; omega) | grind, rfl⟩
end Go.Proofs.YtjhenmdcnbaobaaGreat.Hs
/-! Walks, printed by a program of this session's own (gen.py). -/
namespace Go.Proofs.YtjhenmdcnbaobaaGreat.Hs
open Go Go.Proofs
set_option maxRecDepth 100000
set_option linter.unusedVariables false
set_option linter.unusedSimpArgs false
attribute [local irreducible] JL J CT wlo DT
theorem parts_ct (cs : List Value) (H : Heap) (hl : cs.length = 36) : CT Tryz.prog 115 ⟨[.agg ⟨cs⟩]⟩ [] H (fun v N => ∃ b, v = .func (.func 142) ⟨[]⟩ ⟨[pp b 0]⟩ ∧ N = [(BX b cs 28)]) := by
 refine Zl Tryz.func115 rfl rfl <| Zc <| Za <| JLr (Zp (l := cs) rfl rfl fun b1 => JLa .nilFunc <| Zb <| Zc <| Za <| JLq (.func (.func 142) ⟨[]⟩ ⟨[pp b1 0]⟩) (Pu.makeFunc rfl rfl) <| JLA rfl <| Zb <| Zk <| ⟨.func (.func 142) ⟨[]⟩ ⟨[pp b1 0]⟩, [(BX b1 cs 28)], Ret.one rfl (RV.tmp rfl), (Sk Sub.nil), ?_⟩)
 exact ⟨_, rfl, rfl⟩
theorem parts1_ct (kind num : Int) (ref : Sm) (ks cv : Value) (kids : List Tm) (cases : List (Pt × Tm)) (H : Heap) (bT : Nat) (hks : rdS RT 36 H ks kids) (hcv : rdS RC 71 H cv cases) (hT : H bT = some (.cells ⟨pkT kind num ref ks cv⟩ 28 (0, 0))) (hsz : ∀ c ∈ cases, binds c.1 ≤ 1000000) (hkl : kids.length ≤ 1000000) (hcl : cases.length ≤ 1000000) (l : Nat) {σ : Type} (yc : σ → Zf) (Inv : σ → Prop) (step : Tm → Int → σ → Bool × σ) (s0 : σ) (h0 : Inv s0) (It : Tm → Int → Prop) (hIK : ∀ (j : Nat) (hj : j < kids.length), It kids[j] (more kind j)) (hIC : ∀ (j : Nat) (hj : j < cases.length), It cases[j].2 (binds cases[j].1 : Int)) (hI : ∀ x mo s, Inv s → (step x mo s).1 = true → Inv (step x mo s).2) (hy : ∀ x mo, It x mo → ∀ s (i : Int) a h, Inv s → Hle H h → RT h a x → YT Tryz.prog l ⟨[iv i, .agg ⟨a ++ [iv mo]⟩]⟩ [yc s] h (fun v N => v = .bool (step x mo s).1 ∧ N = [yc (step x mo s).2])) : CT Tryz.prog 142 ⟨[.func (.yield l) ⟨[]⟩ ⟨[]⟩, pp bT 0]⟩ [yc s0] H (fun _ N => N = [yc (yP step kind kids cases s0)]) := by
 refine Zl Tryz.func142 rfl rfl <| Zc <| Zc <| Za <| JLq (pp bT 34) (Yu rfl rfl) <| JLr (Ze ty25 rfl (At.im hT) (Yl ..) ?_)
 obtain ⟨a1, cap1, hv1⟩ := hks.sl
 have hle1 := hks.le
 refine JLn (Pu.lenSl Tryz.runUnderlying25 hv1) <| JLM rfl <| Zb <| Zo <| ZP (fun k ρ M => ∃ (j : Nat) (s : σ), ρ 0 = .func (.yield l) ⟨[]⟩ ⟨[]⟩ ∧ ρ 1 = pp bT 0 ∧ ρ 8 = ks ∧ ρ 9 = iv ((kids.length : Int)) ∧ ρ 10 = iv ((j : Int)) ∧ Sub [yc s] M ∧ j ≤ kids.length ∧ Inv s ∧ yK step kind j (kids.drop j) s = yK step kind 0 kids s0 ∧ k = kids.length - j) _ ⟨0, s0, rfl, rfl, rfl, rfl, rfl, (Sk Sub.nil), Nat.zero_le _, h0, rfl, rfl⟩ ?_
 rintro _ ρ2 _ ⟨j, s, e3, e4, e5, e6, e7, hm8, hj, hs, hinv, rfl⟩
 obtain ⟨ρ9, rfl⟩ := Zn (uc e3 (uc e4 (uc e5 (uc e6 (uc e7 un)))))
 clear e3 e4 e5 e6 e7
 refine Z6 hm8 ?_
 have hlen := hks.le
 refine Zc <| Za <| JLn (Pu.lss rfl rfl) <| Zb <| Zc <| Zg rfl (fun h10 => ?_) (fun h10 => ?_)
 ·replace h10 := dt h10
  have h10n : j < kids.length := by omega
  refine Zm <| Zc <| Zo <| Zc <| Za <| JLM rfl ?_
  obtain ⟨b11, o11, cap11, row11, T11, fr11, cs11, hv11, hb11, hs11, hE11⟩ := hks.get j (by first | assumption | omega | decide | simp)
  refine JLq (pp b11 (o11 + j * 36)) (Pu.idx j Tryz.runUnderlying25 Zs hv11 rfl rfl (by first | assumption | omega | decide | simp)) <| JLr (Zi Zs rfl (At.im hb11) hs11 <| JLr (Zh (l := pkT 0 0 zS nS nS) Tryz.zeroValue28 rfl fun b12 => JLA rfl <| JLr (Zd 0 (vs := cs11) (l := cs11) Zs rfl rfl rfl rfl (Zv hE11) (RT_ok hE11) (ZD (n := 36) rfl (Zv hE11)) <| Zb <| Zc <| ZV mixed #[0, 0, 0, 0, 8, 0, 56, 124, 255, 511] 8 [some 15, some 16, some 17, some 18, some 19, some 20, some 21, some 22] [] [(6, fun _ _ vw qw => vw = iv (more kind ((j : Int))) ∧ qw = [])] rfl (by kernel_rfl) rfl (by kernel_rfl) <| DM (fun _ => rfl) <| DM (fun _ => rfl) <| Dl Zs (At.bx 0 rfl) (Zu (Zv hE11)) <| Dq (pp bT 0) (fun _ => ZI rfl rfl) <| Dl1 ty3 (At.im hT) (ZQ ..) ?_)))
  refine DM (fun _ => rfl) <| Dc rfl Tryz.call81 (fun _ => rfl) (fun hin => more_ct _ _ _) ?_
  rintro _ _ ⟨rfl, rfl⟩
  refine Dq (.agg ⟨cs11 ++ ([iv (more kind ((j : Int)))] : List Value)⟩) (fun _ => Pu.build (pv := [(0, .agg ⟨cs11⟩), (1, iv (more kind ((j : Int))))]) (l := cs11 ++ ([iv (more kind ((j : Int)))] : List Value)) rfl (bld179_0_1 (Zv hE11))) <| Yb (M' := [(BX b12 cs11 28), yc s]) rfl ?_
  show JL _ _ _ [_, _] _ _ _
  refine JL_yield1 1 rfl rfl rfl (fun hin => hy _ _ (hIK j h10n) _ _ _ _ hs (Hle.hu _ _) (RT.mono (Hle.hu _ _) hE11)) rfl ?_
  rintro _ _ ⟨rfl, rfl⟩
  refine JLn (Pu.not rfl) <| Zb <| Zg rfl (fun h13 => ?_) (fun h13 => ?_)
  ·replace h13 := nt h13
   refine Zk <| ⟨.tuple ⟨[]⟩, [yc (step (kids[j]) (more kind ((j : Int))) s).2], Ret.none rfl, (Sk Sub.nil), ?_⟩
   rw [Yf h10n, yK, if_neg (by simp [h13])] at hinv
   show _ = _; rw [yP, ← hinv]; rfl
  replace h13 := nf h13
  refine Zm <| Za <| JLn (Pu.inc rfl rfl (by omega)) <| JLM rfl <| Zb <| ⟨_, ?_, (j + 1), ((step (kids[j]) (more kind ((j : Int))) s).2), rfl, rfl, rfl, rfl, rfl, (Sk Sub.nil), ?_, ?_, ?_, rfl⟩
  ·omega
  ·omega
  ·exact hI _ _ s hs h13
  rw [Yf h10n, yK, if_pos h13] at hinv; exact hinv
 replace h10 := df h10
 have h10n : kids.length ≤ j := by omega
 refine ZG _ rfl <| Zc <| Za <| JLq (pp bT 35) (YQ rfl rfl) <| JLr (Ze ty26 rfl (At.im hT) (YA ..) ?_)
 obtain ⟨a14, cap14, hv14⟩ := hcv.sl
 have hle14 := hcv.le
 refine JLn (Pu.lenSl Tryz.runUnderlying26 hv14) <| JLM rfl <| Zb <| Zo ?_
 have hk1 : yK step kind 0 kids s0 = (true, s) := by rw [← hinv, dropn h10n]; rfl
 refine ZP (fun k ρ M => ∃ (j : Nat) (s2 : σ), ρ 0 = .func (.yield l) ⟨[]⟩ ⟨[]⟩ ∧ ρ 1 = pp bT 0 ∧ ρ 27 = cv ∧ ρ 28 = iv ((cases.length : Int)) ∧ ρ 29 = iv ((j : Int)) ∧ Sub [yc s2] M ∧ j ≤ cases.length ∧ Inv s2 ∧ yC step (cases.drop j) s2 = yC step cases s ∧ k = cases.length - j) _ ⟨0, s, rfl, rfl, rfl, rfl, rfl, (Sk Sub.nil), Nat.zero_le _, hs, rfl, rfl⟩ ?_
 rintro _ ρ15 _ ⟨j, s2, e16, e17, e18, e19, e20, hm21, hj, hs, hinv, rfl⟩
 obtain ⟨ρ22, rfl⟩ := Zn (uc e16 (uc e17 (uc e18 (uc e19 (uc e20 un)))))
 clear e16 e17 e18 e19 e20
 refine Z6 hm21 ?_
 have hlen := hcv.le
 refine Zc <| Za <| JLn (Pu.lss rfl rfl) <| Zb <| Zc <| Zg rfl (fun h23 => ?_) (fun h23 => ?_)
 ·replace h23 := dt h23
  have h23n : j < cases.length := by omega
  have hbm := hsz _ (List.getElem_mem h23n)
  have hlenk := hks.le
  refine Zm <| Zc <| Zo <| Zc <| Za <| JLM rfl ?_
  obtain ⟨b24, o24, cap24, row24, T24, fr24, cs24, hv24, hb24, hs24, hE24⟩ := hcv.get j (by first | assumption | omega | decide | simp)
  obtain ⟨ca24, cb24, rfl, hA24, hB24⟩ := hE24
  refine JLq (pp b24 (o24 + j * 71)) (Pu.idx j Tryz.runUnderlying26 ty87 hv24 rfl rfl (by first | assumption | omega | decide | simp)) <| JLr (Zi ty87 rfl (At.im hb24) hs24 <| JLr (Zh (l := (pkP 0 0 zS nS) ++ (pkT 0 0 zS nS nS)) Tryz.zeroValue87 rfl fun b25 => JLA rfl <| JLr (Zd 0 (vs := ca24 ++ cb24) (l := ca24 ++ cb24) ty87 rfl rfl rfl rfl (ZZ (ZF hA24) (Zv hB24)) (Ya (RP_ok hA24) (RT_ok hB24)) (ZD (n := 71) rfl (ZZ (ZF hA24) (Zv hB24))) <| Zb <| Zc <| ZV mixed #[0, 0, 2, 6, 0, 30, 0, 64, 0, 256, 768, 1984, 4095, 8191] 12 [some 34, some 35, some 36, some 37, some 38, some 39, some 40, some 41, some 42, some 43, some 44, some 45] [] [(10, fun _ _ vw qw => vw = iv ((binds (cases[j].1) : Int)) ∧ qw = [])] rfl (by kernel_rfl) rfl (by kernel_rfl) <| DM (fun _ => rfl) <| Dq (pp bT 34) (fun _ => Yu rfl rfl) <| Dl1 ty25 (At.im hT) (Yl ..) ?_)))
  obtain ⟨a27, cap27, hv27⟩ := hks.sl
  have hle27 := hks.le
  refine Dn (fun _ => Pu.lenSl Tryz.runUnderlying25 hv27) <| DM (fun _ => rfl) ?_
  refine Dn (fun _ => Pu.add64 rfl rfl (by first | omega | (constructor <;> omega))) <| Dq (pp b25 35) (fun _ => fa87_1 rfl rfl) <| Dl Zs (At.bx 0 rfl) (sub_r (ZF hA24) (Zv hB24)) <| Dq (pp b25 0) (fun _ => fa87_0 rfl rfl) <| Dl Z0 (At.bx 0 rfl) (sub_l (ZF hA24)) ?_
  refine Dc rfl Tryz.call83 (fun _ => rfl) (fun hin => binds_ct _ _ _ (RP.mono (Hle.hu _ _) hA24) (by omega)) ?_
  rintro _ _ ⟨rfl, rfl⟩
  refine Dq (.agg ⟨cb24 ++ ([iv ((binds (cases[j].1) : Int))] : List Value)⟩) (fun _ => Pu.build (pv := [(0, .agg ⟨cb24⟩), (1, iv ((binds (cases[j].1) : Int)))]) (l := cb24 ++ ([iv ((binds (cases[j].1) : Int))] : List Value)) rfl (bld179_0_1 (Zv hB24))) <| Yb (M' := [(BX b25 (ca24 ++ cb24) 87), yc s2]) rfl ?_
  show JL _ _ _ [_, _] _ _ _
  refine JL_yield1 1 rfl rfl rfl (fun hin => hy _ _ (hIC j h23n) _ _ _ _ hs (Hle.hu _ _) (RT.mono (Hle.hu _ _) hB24)) rfl ?_
  rintro _ _ ⟨rfl, rfl⟩
  refine JLn (Pu.not rfl) <| Zb <| Zg rfl (fun h28 => ?_) (fun h28 => ?_)
  ·replace h28 := nt h28
   refine Zk <| ⟨.tuple ⟨[]⟩, [yc (step (cases[j].2) ((binds (cases[j].1) : Int)) s2).2], Ret.none rfl, (Sk Sub.nil), ?_⟩
   rw [Yf h23n, yC, if_neg (by simp [h28])] at hinv
   show _ = _; rw [yP, hk1, if_pos rfl, ← hinv]
  replace h28 := nf h28
  refine Zm <| Za <| JLn (Pu.inc rfl rfl (by omega)) <| JLM rfl <| Zb <| ⟨_, ?_, (j + 1), ((step (cases[j].2) ((binds (cases[j].1) : Int)) s2).2), rfl, rfl, rfl, rfl, rfl, (Sk Sub.nil), ?_, ?_, ?_, rfl⟩
  ·omega
  ·omega
  ·exact hI _ _ s2 hs h28
  rw [Yf h23n, yC, if_pos h28] at hinv; exact hinv
 replace h23 := df h23
 have h23n : cases.length ≤ j := by omega
 refine ZG _ rfl <| ⟨.tuple ⟨[]⟩, [yc s2], Ret.none rfl, (Sk Sub.nil), ?_⟩
 show _ = _; rw [yP, hk1, if_pos rfl, ← hinv, dropn h23n]; rfl
end Go.Proofs.YtjhenmdcnbaobaaGreat.Hs
/-! Walks, printed by a program of this session's own (gen.py). -/
namespace Go.Proofs.YtjhenmdcnbaobaaGreat.Hs
open Go Go.Proofs
set_option maxRecDepth 100000
set_option linter.unusedVariables false
set_option linter.unusedSimpArgs false
attribute [local irreducible] JL J CT wlo DT
theorem all_ct : ∀ (t : Tm) (d m b : Int) (cs : List Value) (H : Heap) (bD : Nat), RT H cs t → H bD = some (.cells ⟨[iv d]⟩ 3 (0, 0)) → 0 ≤ b → b + 2 * sizeT t ≤ 1000000 → CT Tryz.prog 60 ⟨[.agg ⟨[iv m, .func (.func 59) ⟨[]⟩ ⟨[pp bD 0]⟩]⟩, .agg ⟨cs⟩, iv b]⟩ [] H (fun v N => v = iv (YR d m b t) ∧ N = []) := by
 intro t
 induction t using Tm.ind with
 | h kind num ref kids cases ih ih' =>
 intro d m b cs H bD ht hD hb0 hb
 obtain ⟨ks, cv, rfl, hk, hn, hks, hcv⟩ := RT_mk.1 ht
 rw [sizeT] at hb
 have hn1 : -9223372036854775808 ≤ num := hn.1
 have hn2 : num ≤ 9223372036854775807 := hn.2
 have ihx : ∀ x mo, (fun x mo => ((∃ (j : Nat) (hj : j < kids.length), x = kids[j]) ∨ ∃ (j : Nat) (hj : j < cases.length), x = cases[j].2) ∧ 0 ≤ mo ∧ mo + 2 * (sizeT x : Int) ≤ 2 * ((1 + sizeTs kids + sizeCs cases : Nat) : Int)) x mo → ∀ (d m b : Int) (cs : List Value) (H : Heap) (bD : Nat), RT H cs x → H bD = some (.cells ⟨[iv d]⟩ 3 (0, 0)) → 0 ≤ b → b + 2 * sizeT x ≤ 1000000 → CT Tryz.prog 60 ⟨[.agg ⟨[iv m, .func (.func 59) ⟨[]⟩ ⟨[pp bD 0]⟩]⟩, .agg ⟨cs⟩, iv b]⟩ [] H (fun v N => v = iv (YR d m b x) ∧ N = []) := by
  rintro x mo ⟨⟨j, hj, rfl⟩ | ⟨j, hj, rfl⟩, _, _⟩
  ·exact ih _ (List.getElem_mem hj)
  ·exact ih' _ (List.getElem_mem hj)
 refine Zl Tryz.func60 rfl rfl <| Zc <| Za <| JLr (Zp (l := [iv m, .func (.func 59) ⟨[]⟩ ⟨[pp bD 0]⟩]) rfl rfl fun b1 => JLr (Zp (l := pkT kind num ref ks cv) rfl rfl fun b2 => JLr (Zp (l := [iv b]) rfl rfl fun b3 => JLr (Zh (l := [iv 0]) Tryz.zeroValue33 rfl fun b4 => Zb <| Zc <| Zc <| Za <| JLr (Zi ty123 rfl (At.bx 3 rfl) rfl <| JLr (Zi Zs rfl (At.bx 2 rfl) (ZX ..) ?_))))))
 refine JLr (Ze ty3 rfl (At.bx 1 rfl) rfl <| Jc Tryz.call113 rfl (fun hin => chkTerm_ct _ _ _ _ _ _ _ _ _ _ _ bD (RTs.mono (Hle.hu _ _) hks) (RCs.mono (Hle.hu _ _) hcv) (Hle.hu _ _ _ _ hD) hb0 (by omega) hn1 hn2) rfl ?_)
 rintro _ _ ⟨rfl, rfl⟩
 refine JLA rfl <| Zb <| Zc <| Za <| JLM rfl <| JLn (Pu.neq rfl rfl) <| Zb <| Zg rfl (fun h5 => ?_) (fun h5 => ?_)
 ·replace h5 := nt h5
  replace h5 := df h5
  refine Zc <| Za <| JLM rfl <| JLr (Zd 0 (vs := [iv (Yq d m b kind num ref kids.length cases.length)]) (l := [iv (Yq d m b kind num ref kids.length cases.length)]) ty33 rfl rfl rfl rfl rfl (Zj rfl Zt) rfl <| Zb <| Zk <| ⟨iv (Yq d m b kind num ref kids.length cases.length), [], Ret.one rfl (RV.cell1 ty33 rfl (At.bx 0 rfl) rfl), Sub.nil, ?_⟩)
  exact ⟨by rw [YR, if_neg h5], rfl⟩
 replace h5 := nf h5
 replace h5 := dt h5
 refine Zm <| Zc <| Zc <| Za <| JLq (pp b2 35) (YQ rfl rfl) <| JLr (Ze ty26 rfl (At.bx 2 rfl) (YA ..) ?_)
 obtain ⟨a6, cap6, hv6⟩ := hcv.sl
 have hle6 := hcv.le
 refine JLn (Pu.lenSl Tryz.runUnderlying26 hv6) <| JLM rfl <| Zb <| Zo ?_
 have hh0 : Yq d m b kind num ref kids.length cases.length = 0 := h5
 refine ZP (fun k ρ M => ∃ (j : Nat), ρ 3 = pp b1 0 ∧ ρ 4 = pp b2 0 ∧ ρ 5 = pp b3 0 ∧ ρ 6 = pp b4 0 ∧ ρ 22 = cv ∧ ρ 23 = iv ((cases.length : Int)) ∧ ρ 24 = iv ((j : Int)) ∧ Sub [(BX b4 [iv 0] 33), (BX b3 [iv b] 3), (BX b2 (pkT kind num ref ks cv) 28), (BX b1 [iv m, .func (.func 59) ⟨[]⟩ ⟨[pp bD 0]⟩] 123)] M ∧ j ≤ cases.length ∧ pErrsC (cases.drop j) = pErrsC cases ∧ k = cases.length - j) _ ⟨0, rfl, rfl, rfl, rfl, rfl, rfl, rfl, (Sk (Sk (Sk (Sk Sub.nil)))), Nat.zero_le _, rfl, rfl⟩ ?_
 rintro _ ρ7 _ ⟨j, e8, e9, e10, e11, e12, e13, e14, hm15, hj, hinv, rfl⟩
 obtain ⟨ρ16, rfl⟩ := Zn (uc e8 (uc e9 (uc e10 (uc e11 (uc e12 (uc e13 (uc e14 un)))))))
 clear e8 e9 e10 e11 e12 e13 e14
 refine Z6 hm15 ?_
 have hlen := hcv.le
 refine Zc <| Za <| JLn (Pu.lss rfl rfl) <| Zb <| Zc <| Zg rfl (fun h17 => ?_) (fun h17 => ?_)
 ·replace h17 := dt h17
  have h17n : j < cases.length := by omega
  refine Zm <| Zc <| Zo <| Zc <| Za ?_
  obtain ⟨b18, o18, cap18, row18, T18, fr18, cs18, hv18, hb18, hs18, hE18⟩ := hcv.get j (by first | assumption | omega | decide | simp)
  obtain ⟨ca18, cb18, rfl, hA18, hB18⟩ := hE18
  refine JLq (pp b18 (o18 + j * 71)) (Pu.idx j Tryz.runUnderlying26 ty87 hv18 rfl rfl (by first | assumption | omega | decide | simp)) <| JLr (Zi ty87 rfl (At.im hb18) hs18 <| JLr (Zh (l := (pkP 0 0 zS nS) ++ (pkT 0 0 zS nS nS)) Tryz.zeroValue87 rfl fun b19 => JLr (Zd 0 (vs := ca18 ++ cb18) (l := ca18 ++ cb18) ty87 rfl rfl rfl rfl (ZZ (ZF hA18) (Zv hB18)) (Ya (RP_ok hA18) (RT_ok hB18)) (ZD (n := 71) rfl (ZZ (ZF hA18) (Zv hB18))) <| Zb <| Zc <| Za <| JLq (pp b19 0) (fa87_0 rfl rfl) <| JLr (Zi Z0 rfl (At.bx 0 rfl) (sub_l (ZF hA18)) <| Jc Tryz.call114 rfl (fun hin => patternsError_ct _ _ _ (RP.mono (Hle.hu _ _) hA18)) rfl ?_))))
  rintro _ _ ⟨rfl, rfl⟩
  refine JLA rfl <| Zb <| Zc <| Za <| JLM rfl <| JLn (Pu.neq rfl rfl) <| Zb <| Zg rfl (fun h20 => ?_) (fun h20 => ?_)
  ·replace h20 := nt h20
   replace h20 := df h20
   refine Zc <| Za <| JLM rfl <| JLr (Zd 1 (vs := [iv (pErrs (cases[j].1))]) (l := [iv (pErrs (cases[j].1))]) ty33 rfl rfl rfl rfl rfl (Zj rfl Zt) rfl <| Zb <| Zk <| ⟨iv (pErrs (cases[j].1)), [], Ret.one rfl (RV.cell1 ty33 rfl (At.bx 1 rfl) rfl), Sub.nil, ?_⟩)
   exact ⟨by rw [YR, if_pos hh0, ← hinv, Yf h17n, pErrsC, if_neg h20, if_neg h20], rfl⟩
  replace h20 := nf h20
  replace h20 := dt h20
  refine Zm <| Za <| JLn (Pu.inc rfl rfl (by omega)) <| JLM rfl <| Zb <| ⟨_, ?_, (j + 1), rfl, rfl, rfl, rfl, rfl, rfl, rfl, (Sd (Sk (Sk (Sk (Sk Sub.nil))))), ?_, ?_, rfl⟩
  ·omega
  ·omega
  rw [Yf h17n, pErrsC, if_pos h20] at hinv; exact hinv
 replace h17 := df h17
 have h17n : cases.length ≤ j := by omega
 refine ZG _ rfl <| Zc <| Zc <| Za <| JLr (Zi Zs rfl (At.bx 2 rfl) (ZX ..) <| Jc Tryz.call115 rfl (fun hin => parts_ct _ _ rfl) rfl ?_)
 rintro _ _ ⟨bT21, rfl, rfl⟩
 refine Zb <| Zo ?_
 have h1 : pErrsC cases = 0 := by rw [← hinv, dropn h17n]; rfl
 refine J_range (L := [(BX bT21 (pkT kind num ref ks cv) 28), (BX b3 [iv b] 3), (BX b2 (pkT kind num ref ks cv) 28), (BX b1 [iv m, .func (.func 59) ⟨[]⟩ ⟨[pp bD 0]⟩] 123)]) (fun e : Int => [(BX b4 [iv e] 33)]) (fun e => !decide (e = 0)) 0 (fun e => e = yP (fun x mo _ => (decide (YR d m (b + mo) x = 0), YR d m (b + mo) x)) kind kids cases 0) rfl rfl Tryz.call142 (flatten_pick (i := 1) rfl) ?_ ?_ ?_
 ·intro l yc hY hin
  refine CT.mono (parts1_ct kind num ref ks cv kids cases _ bT21 (RTs.mono (Hle.hu _ _) hks) (RCs.mono (Hle.hu _ _) hcv) (hin 0 _ rfl _ _ List.mem_cons_self) (fun c hc => by have := sizeCs_mem c hc; have := binds_le c.1; omega) (by have := len_sizeTs kids; omega) (by have := len_sizeCs cases; omega) l yc (fun e => e = 0) (fun x mo _ => (decide (YR d m (b + mo) x = 0), YR d m (b + mo) x)) 0 rfl (fun x mo => ((∃ (j : Nat) (hj : j < kids.length), x = kids[j]) ∨ ∃ (j : Nat) (hj : j < cases.length), x = cases[j].2) ∧ 0 ≤ mo ∧ mo + 2 * (sizeT x : Int) ≤ 2 * ((1 + sizeTs kids + sizeCs cases : Nat) : Int)) ?_ ?_ (fun x mo s _ h => of_decide_eq_true h) ?_) (fun v N hN => ⟨_, hN, rfl⟩)
  ·intro j hj; have hs1 := sizeTs_mem _ (List.getElem_mem hj); have hm1 := more_le kind j; exact ⟨.inl ⟨j, hj, rfl⟩, by omega, by omega⟩
  ·intro j hj; have hs1 := sizeCs_mem _ (List.getElem_mem hj); have hm1 := binds_le (cases[j]).1; have hp1 := sizeT_pos (cases[j]).2; exact ⟨.inr ⟨j, hj, rfl⟩, by omega, by omega⟩
  intro x mo hit e i a h he hh ra
  subst he
  have hb0x : 0 ≤ b + mo := by have := hit.2.1; omega
  have hb1x : b + mo + 2 * (sizeT x : Int) ≤ 1000000 := by have := hit.2.2; omega
  have hp1 := sizeT_pos x
  refine YT.mono (hY 0 [_, _] h (fun e' => e' = YR d m (b + mo) x) rfl rfl (RoundOk.mk ?_)) ?_
  ·show J _ _ _ _ [(BX b4 [iv 0] 33)] _
   refine Za <| JLr (Zh (l := (pkT 0 0 zS nS nS) ++ ([iv 0] : List Value)) Tryz.zeroValue179 rfl fun b22 => JLr (Zd 0 (vs := a ++ ([iv mo] : List Value)) (l := a ++ ([iv mo] : List Value)) ty179 rfl rfl rfl rfl (ZZ (Zv ra) rfl) (Ya (RT_ok ra) (Zj rfl Zt)) (ZD (n := 37) rfl (ZZ (Zv ra) rfl)) <| Zb <| Zo <| Zc <| Za <| JLr (Zi ty123 rfl (At.im (hh _ _ (hin 3 _ rfl _ _ List.mem_cons_self))) rfl <| JLq (pp b22 0) (fa179_0 rfl rfl) <| JLr (Zi Zs rfl (At.bx 0 rfl) (sub_l (Zv ra)) <| JLr (Ze ty3 rfl (At.im (hh _ _ (hin 1 _ rfl _ _ List.mem_cons_self))) rfl <| JLq (pp b22 36) (fa179_1 rfl rfl) <| JLr (Ze ty3 rfl (At.bx 0 rfl) (get_r (n := 36) (i := 0) (Zv ra) rfl) ?_))))))
   refine JLn (Pu.add64 rfl rfl (by first | omega | (constructor <;> omega))) <| Jc Tryz.call60 rfl (fun hin => ihx x mo hit d m _ _ _ bD (RT.mono (Hle.hu _ _) ra) (Hle.hu _ _ _ _ (hh _ _ (Hle.hu _ _ _ _ hD))) hb0x hb1x) rfl ?_
   rintro _ _ ⟨rfl, rfl⟩
   refine JLA rfl <| Zb <| Zc <| Za <| JLM rfl <| JLn (Pu.neq rfl rfl) <| Zb <| Zg rfl (fun h23 => ?_) (fun h23 => ?_)
   ·replace h23 := nt h23
    replace h23 := df h23
    refine Zc <| Za <| JLM rfl <| JLr (Zd 1 (vs := [iv (YR d m (b + mo) x)]) (l := [iv (YR d m (b + mo) x)]) ty33 rfl rfl rfl rfl rfl (Zj rfl Zt) rfl <| Zb <| Zk ?_)
    exact ⟨YR d m (b + mo) x, by simp [h23], (Sd (Sk Sub.nil)), rfl⟩
   replace h23 := nf h23
   replace h23 := dt h23
   refine Zm ?_
   exact ⟨0, rfl, (Sd (Sk Sub.nil)), h23.symm⟩
  rintro v N ⟨e', rfl, rfl, rfl⟩; exact ⟨by simp, rfl⟩
 ·rintro ef hef hp
  refine Zc <| Za <| JLr (Zd 0 (vs := [iv 0]) (l := [iv 0]) ty33 rfl rfl rfl rfl rfl (Zj rfl Zt) rfl <| Zb <| Zk <| ⟨iv 0, [], Ret.one rfl (RV.cell1 ty33 rfl (At.bx 0 rfl) rfl), Sub.nil, ?_⟩)
  rw [yP_err] at hef
  have hp0 : ef = 0 := by simpa using hp
  exact ⟨by rw [YR, if_pos hh0, if_pos h1, ← hef, hp0], rfl⟩
 rintro ef hef hp
 refine ⟨iv ef, [], Ret.one rfl (RV.cell1 ty33 rfl (At.bx 0 rfl) rfl), Sub.nil, ?_⟩
 rw [yP_err] at hef
 have hp0 : ¬ ef = 0 := by simpa using hp
 exact ⟨by rw [YR, if_pos hh0, if_pos h1, ← hef], rfl⟩
end Go.Proofs.YtjhenmdcnbaobaaGreat.Hs
/-! Walks, printed by a program of this session's own (gen.py). -/
namespace Go.Proofs.YtjhenmdcnbaobaaGreat.Hs
open Go Go.Proofs
set_option maxRecDepth 100000
set_option linter.unusedVariables false
set_option linter.unusedSimpArgs false
attribute [local irreducible] JL J CT wlo DT
theorem check_ct (t : Tm) (d m : Int) (cs : List Value) (H : Heap) (ht : RT H cs t) : CT Tryz.prog 26 ⟨[.agg ⟨cs⟩, iv d, iv m]⟩ [] H (fun v N => v = iv (Yg d m t) ∧ N = []) := by
 refine Zl Tryz.func26 rfl rfl <| Zc <| Za <| JLr (Zp (l := cs) rfl rfl fun b1 => JLr (Zp (l := [iv d]) rfl rfl fun b2 => JLA rfl <| Zb <| Zc <| Zc <| Za <| JLq (.agg ⟨[iv 0]⟩) (Pu.build (pv := []) (l := [iv 0]) rfl bld77_) <| JLr (Zp (l := [iv 0]) rfl rfl fun b3 => JLr (Zi Zs rfl (At.bx 2 rfl) (Zu (Zv ht)) ?_))))
 refine Zq 0 rfl Tryz.call58 rfl rfl (fun hin => longT_ct _ _ _ _ _ _ (RT.mono (Hle.hu _ _) ht) (by omega) (by omega) (by omega) (by omega)) rfl ?_
 rintro _ _ ⟨rfl, rfl⟩
 refine Zb <| Zg rfl (fun h5 => ?_) (fun h5 => ?_)
 ·refine Zc <| Za <| JLA rfl <| Zb <| Zk <| ⟨iv 11, [], Ret.one rfl (RV.tmp rfl), Sub.nil, ?_⟩
  exact ⟨by rw [Yg, if_pos (by simp [h5])], rfl⟩
 refine Zm <| Zc <| Za <| JLM rfl <| JLq (.func (.func 59) ⟨[]⟩ ⟨[pp b2 0]⟩) (Pu.makeFunc rfl rfl) <| JLq (.agg ⟨[iv m, .func (.func 59) ⟨[]⟩ ⟨[pp b2 0]⟩]⟩) (Pu.build (pv := [(0, iv m), (1, .func (.func 59) ⟨[]⟩ ⟨[pp b2 0]⟩)]) (l := [iv m, .func (.func 59) ⟨[]⟩ ⟨[pp b2 0]⟩]) rfl (bld123_0_1 _ _ _ _)) <| JLr (Zh (l := [iv 0, .nilFunc]) Tryz.zeroValue123 rfl fun b6 => JLr (Zd 0 (vs := [iv m, .func (.func 59) ⟨[]⟩ ⟨[pp b2 0]⟩]) (l := [iv m, .func (.func 59) ⟨[]⟩ ⟨[pp b2 0]⟩]) ty123 rfl rfl rfl rfl rfl (Zj rfl (Zj rfl Zt)) rfl <| Zb <| Zc <| Za <| JLr (Zi ty123 rfl (At.bx 0 rfl) rfl <| JLr (Zi Zs rfl (At.bx 3 rfl) (Zu (Zv ht)) ?_))))
 refine Jc Tryz.call60 rfl (fun hin => all_ct _ _ _ _ _ _ _ (RT.mono (Hle.hu _ _) ht) (hin 2 _ rfl _ _ List.mem_cons_self) (by decide) (by have e1 := cnT_size t 1 0 h5; have e2 := cnT_le stL_le t 1 0 h5; omega)) rfl ?_
 rintro _ _ ⟨rfl, rfl⟩
 refine JLA rfl <| Zb <| Zk <| ⟨iv (YR d m 0 t), [], Ret.one rfl (RV.tmp rfl), Sub.nil, ?_⟩
 exact ⟨by rw [Yg, if_neg (by simp [h5])], rfl⟩
theorem right_ct (l : List Tm) (v : Value) (H : Heap) (hl : rdS RT 36 H v l) : CT Tryz.prog 30 ⟨[v]⟩ [] H (fun v N => v = iv (ZK l) ∧ N = []) := by
 refine Zl Tryz.func30 rfl rfl <| Zc <| Za <| JLA rfl <| Zb <| Zc <| Zc <| Za <| JLm v ?_
 obtain ⟨a1, cap1, hv1⟩ := hl.sl
 have hle1 := hl.le
 refine JLn (Pu.lenSl Tryz.runUnderlying25 hv1) <| JLM rfl <| Zb <| Zo <| ZP (fun k ρ M => ∃ (j : Nat), ρ 2 = iv 0 ∧ ρ 6 = v ∧ ρ 7 = iv ((l.length : Int)) ∧ ρ 8 = iv ((j : Int)) ∧ Sub [] M ∧ j ≤ l.length ∧ ZK (l.drop j) = ZK l ∧ k = l.length - j) _ ⟨0, rfl, rfl, rfl, rfl, Sub.nil, Nat.zero_le _, rfl, rfl⟩ ?_
 rintro _ ρ2 _ ⟨j, e3, e4, e5, e6, hm7, hj, hinv, rfl⟩
 obtain ⟨ρ8, rfl⟩ := Zn (uc e3 (uc e4 (uc e5 (uc e6 un))))
 clear e3 e4 e5 e6
 refine Z6 hm7 <| Zc <| Za <| JLn (Pu.lss rfl rfl) <| Zb <| Zc <| Zg rfl (fun h9 => ?_) (fun h9 => ?_)
 ·replace h9 := dt h9
  have h9n : j < l.length := by omega
  have hlenl := hl.le
  refine Zm <| Zc <| Zo <| Zc <| Za ?_
  obtain ⟨b10, o10, cap10, row10, T10, fr10, cs10, hv10, hb10, hs10, hE10⟩ := hl.get j (by first | assumption | omega | decide | simp)
  refine JLq (pp b10 (o10 + j * 36)) (Pu.idx j Tryz.runUnderlying25 Zs hv10 rfl rfl (by first | assumption | omega | decide | simp)) <| JLr (Zi Zs rfl (At.im hb10) hs10 <| JLr (Zh (l := pkT 0 0 zS nS nS) Tryz.zeroValue28 rfl fun b11 => JLr (Zd 0 (vs := cs10) (l := cs10) Zs rfl rfl rfl rfl (Zv hE10) (RT_ok hE10) (ZD (n := 36) rfl (Zv hE10)) <| Zb <| Zc <| Za <| JLr (Zi Zs rfl (At.bx 0 rfl) (Zu (Zv hE10)) <| Jc Tryz.call26 rfl (fun hin => check_ct _ _ _ _ _ (RT.mono (Hle.hu _ _) hE10)) rfl ?_))))
  rintro _ _ ⟨rfl, rfl⟩
  refine JLA rfl <| Zb <| Zc <| Za <| JLM rfl <| JLn (Pu.neq rfl rfl) <| Zb <| Zg rfl (fun h12 => ?_) (fun h12 => ?_)
  ·replace h12 := nt h12
   replace h12 := df h12
   refine Zc <| Za <| JLM rfl <| JLA rfl <| Zb <| Zk <| ⟨iv (Yg 60 8 (l[j])), [], Ret.one rfl (RV.tmp rfl), Sub.nil, ?_⟩
   exact ⟨by rw [← hinv, Yf h9n, ZK, if_neg h12], rfl⟩
  replace h12 := nf h12
  replace h12 := dt h12
  refine Zm <| Za <| JLn (Pu.inc rfl rfl (by omega)) <| JLM rfl <| Zb <| ⟨_, ?_, (j + 1), rfl, rfl, rfl, rfl, Sub.nil, ?_, ?_, rfl⟩
  ·omega
  ·omega
  rw [Yf h9n, ZK, if_pos h12] at hinv; exact hinv
 replace h9 := df h9
 have h9n : l.length ≤ j := by omega
 refine ZG _ rfl <| Zc <| Za <| JLA rfl <| Zb <| Zk <| ⟨iv 0, [], Ret.one rfl (RV.tmp rfl), Sub.nil, ?_⟩
 exact ⟨by rw [← hinv, dropn h9n]; rfl, rfl⟩
end Go.Proofs.YtjhenmdcnbaobaaGreat.Hs
/-! Walks, printed by a program of this session's own (gen.py). -/
namespace Go.Proofs.YtjhenmdcnbaobaaGreat.Hs
open Go Go.Proofs
set_option maxRecDepth 100000
set_option linter.unusedVariables false
set_option linter.unusedSimpArgs false
attribute [local irreducible] JL J CT wlo DT
theorem shiftP_ct (t : Tm) (dy fr : Int) (cs : List Value) (H : Heap) (ht : RT H cs t) : CT Tryz.prog 40 ⟨[.agg ⟨cs⟩, iv dy, iv fr]⟩ [] H (fun v N => ∃ cs k, v = .tuple ⟨[.agg ⟨cs⟩, iv (shiftP t dy fr).2]⟩ ∧ N = [k] ∧ OT (shiftP t dy fr).1 cs k) := by
 refine Zl Tryz.func40 rfl rfl <| Zc <| Za <| JLr (Zp (l := cs) rfl rfl fun b1 => JLr (Zp (l := [iv dy]) rfl rfl fun b2 => JLr (Zp (l := [iv fr]) rfl rfl fun b3 => JLr (Zh (l := pkT 0 0 zS nS nS) Tryz.zeroValue28 rfl fun b4 => JLA rfl <| Zb <| Zc <| Zc <| Za <| JLr (Zi Zs rfl (At.bx 3 rfl) (Zu (Zv ht)) ?_)))))
 refine JLr (Zr (vs := [.agg ⟨cs⟩]) [cs] Tryz.runUnderlying25 el28 rfl rfl (by intro e he; simp only [List.mem_cons, List.not_mem_nil, or_false] at he; subst he; exact (Zv ht)) rfl (by decide) fun b5 k5 ho5 hk5 => Jc Tryz.call30 rfl (fun hin => right_ct _ _ _ (Own.rd1 ho5 (hin 0 _ rfl) (RT.mono (Hle.hu _ _) ht))) rfl ?_)
 rintro _ _ ⟨rfl, rfl⟩
 refine JLA rfl <| Zb <| Zc <| Za <| JLM rfl <| JLn (Pu.neq rfl rfl) <| Zb <| Zg rfl (fun h6 => ?_) (fun h6 => ?_)
 ·replace h6 := nt h6
  replace h6 := df h6
  refine Zc <| Za <| JLq (.agg ⟨pkT 0 0 zS nS nS⟩) (Pu.build (pv := []) (l := pkT 0 0 zS nS nS) rfl (bld28_ )) <| JLM rfl <| JLr (Zd 1 (vs := pkT 0 0 zS nS nS) (l := pkT 0 0 zS nS nS) Zs rfl rfl rfl rfl rfl (ZA rfl rfl) (Z1 ..) <| JLA rfl <| Zb <| Zk <| ⟨.tuple ⟨[.agg ⟨pkT 0 0 zS nS nS⟩, iv (ZK [t])]⟩, [[]], Ret.two rfl (RV.cell Zs rfl (At.bx 1 rfl) (ZX ..)) (RV.tmp rfl), (Sub.emp Sub.nil), ?_⟩)
  have hx : shiftP t dy fr = (zT, ZK [t]) := by simp only [shiftP]; (repeat' split) <;> first | rfl | (exfalso; simp_all; done) | (exfalso; simp_all; omega)
  exact ⟨_, _, by rw [hx], rfl, by rw [hx]; exact OT_zero⟩
 replace h6 := nf h6
 replace h6 := dt h6
 refine Zm <| Zc <| Zc <| Za <| JLr (Ze ty3 rfl (At.bx 3 rfl) rfl <| Jc Tryz.call45 rfl (fun hin => Yy _ _ _ _) rfl ?_)
 rintro _ _ ⟨rfl, rfl⟩
 refine JLM rfl <| Zx 2 [19, 20] [(20, cond (decide (dy < -60 ∨ 60 < dy)) undef (.bool (decide (fr < 0 ∨ 60 < fr))))] ?_ fun f8 => ?_
 ·cases h7 : (decide (dy < -60 ∨ 60 < dy)) with
  | false =>
   replace h7 := df h7
   refine JLr (Ze ty3 rfl (At.bx 2 rfl) rfl <| Jc Tryz.call45 rfl (fun hin => Yy _ _ _ _) rfl ?_)
   rintro _ _ ⟨rfl, rfl⟩
   exact Zb ⟨⟨rfl, trivial⟩, rfl⟩
  | true =>
   exact ZH rfl ⟨rfl, trivial⟩
 refine JLn (Pu.pickOr rfl rfl rfl) <| Zb <| Zg rfl (fun h9 => ?_) (fun h9 => ?_)
 ·refine Zc <| Za <| JLq (.agg ⟨pkT 0 0 zS nS nS⟩) (Pu.build (pv := []) (l := pkT 0 0 zS nS nS) rfl (bld28_ )) <| JLr (Zd 1 (vs := pkT 0 0 zS nS nS) (l := pkT 0 0 zS nS nS) Zs rfl rfl rfl rfl rfl (ZA rfl rfl) (Z1 ..) <| JLA rfl <| Zb <| Zk <| ⟨.tuple ⟨[.agg ⟨pkT 0 0 zS nS nS⟩, iv 3]⟩, [[]], Ret.two rfl (RV.cell Zs rfl (At.bx 1 rfl) (ZX ..)) (RV.tmp rfl), (Sub.emp Sub.nil), ?_⟩)
  have hx : shiftP t dy fr = (zT, 3) := by simp only [shiftP]; (repeat' split) <;> first | rfl | (exfalso; simp_all; done) | (exfalso; simp_all; omega)
  exact ⟨_, _, by rw [hx], rfl, by rw [hx]; exact OT_zero⟩
 obtain ⟨h9a, h9b⟩ := orF h9
 replace h9a := df h9a
 replace h9b := df h9b
 refine Zm <| Zc <| Zc <| Za <| JLr (Zi Zs rfl (At.bx 4 rfl) (Zu (Zv ht)) <| Jc Tryz.call44 rfl (fun hin => freeP_ct _ _ _ (RT.mono (Hle.hu _ _) ht) (by have := (Yk (rightT1 ‹ZK [t] = 0›)).1; omega) (Yk (rightT1 ‹ZK [t] = 0›)).2.1) rfl ?_)
 rintro u10 _ ⟨_, k10, hu10, rfl, ho10⟩; subst hu10
 refine JLq (.func (.func 75) ⟨[]⟩ ⟨[pp b3 0, pp b2 0]⟩) (Pu.makeFunc rfl rfl) <| Jc Tryz.call74 rfl (fun hin => every_ct 75 [] [pp b3 0, pp b2 0] Tryz.call75 (mvOk dy fr) _ _ _ (YH ho10 (by have := freeP_len t; omega) (hin 0 _ rfl)) (fun x hx h hh => shiftO_ct x dy fr h b3 b2 (hh _ _ (hin 3 _ rfl _ _ List.mem_cons_self)) (hh _ _ (hin 4 _ rfl _ _ List.mem_cons_self)) (freeP_bound t x hx).1 (by have := (freeP_bound t x hx).2; omega) (by omega) (by omega))) rfl ?_
 rintro _ _ ⟨rfl, rfl⟩
 refine JLn (Pu.not rfl) <| Zb <| Zg rfl (fun h11 => ?_) (fun h11 => ?_)
 ·replace h11 := nt h11
  refine Zc <| Za <| JLq (.agg ⟨pkT 0 0 zS nS nS⟩) (Pu.build (pv := []) (l := pkT 0 0 zS nS nS) rfl (bld28_ )) <| JLr (Zd 2 (vs := pkT 0 0 zS nS nS) (l := pkT 0 0 zS nS nS) Zs rfl rfl rfl rfl rfl (ZA rfl rfl) (Z1 ..) <| JLA rfl <| Zb <| Zk <| ⟨.tuple ⟨[.agg ⟨pkT 0 0 zS nS nS⟩, iv 1]⟩, [[]], Ret.two rfl (RV.cell Zs rfl (At.bx 2 rfl) (ZX ..)) (RV.tmp rfl), (Sub.emp Sub.nil), ?_⟩)
  have hx : shiftP t dy fr = (zT, 1) := by simp only [shiftP]; (repeat' split) <;> first | rfl | (exfalso; simp_all; done) | (exfalso; simp_all; omega)
  exact ⟨_, _, by rw [hx], rfl, by rw [hx]; exact OT_zero⟩
 replace h11 := nf h11
 refine Zm <| Zc <| Za <| JLr (Zi Zs rfl (At.bx 5 rfl) (Zu (Zv ht)) <| JLr (Ze ty3 rfl (At.bx 4 rfl) rfl <| JLr (Ze ty3 rfl (At.bx 3 rfl) rfl <| Jc Tryz.call48 rfl (fun hin => shifted_ct _ _ _ _ _ (RT.mono (Hle.hu _ _) ht) (by have := (Yk (rightT1 ‹ZK [t] = 0›)).1; omega) (Yk (rightT1 ‹ZK [t] = 0›)).2.1 (by omega) (by omega)) rfl ?_)))
 rintro _ _ ⟨cs12, k12, rfl, rfl, hO12⟩
 refine JLr (Zd 3 (vs := cs12) (l := cs12) Zs rfl rfl rfl rfl hO12.len hO12.ok (ZD (n := 36) rfl hO12.len) <| JLA rfl <| Zb <| Zk <| ⟨.tuple ⟨[.agg ⟨cs12⟩, iv 0]⟩, [k12], Ret.two rfl (RV.cell Zs rfl (At.bx 3 rfl) (Zu hO12.len)) (RV.tmp rfl), (Sk Sub.nil), ?_⟩)
 have hx : shiftP t dy fr = (shT dy fr t, 0) := by simp only [shiftP]; (repeat' split) <;> first | rfl | (exfalso; simp_all; done) | (exfalso; simp_all; omega)
 exact ⟨_, _, by rw [hx], rfl, by rw [hx]; exact hO12⟩
theorem freeE_ct (t : Tm) (cs : List Value) (H : Heap) (ht : RT H cs t) : CT Tryz.prog 14 ⟨[.agg ⟨cs⟩]⟩ [] H (fun v N => ∃ u e k, v = .tuple ⟨[u, iv e]⟩ ∧ N = [k] ∧ Own 3 1 u (Z3 (freeE t).1) k ∧ e = (freeE t).2) := by
 refine Zl Tryz.func14 rfl rfl <| Zc <| Za <| JLr (Zp (l := cs) rfl rfl fun b1 => JLA rfl <| JLA rfl <| Zb <| Zc <| Zc <| Za <| JLr (Zi Zs rfl (At.bx 0 rfl) (Zu (Zv ht)) <| JLr (Zr (vs := [.agg ⟨cs⟩]) [cs] Tryz.runUnderlying25 el28 rfl rfl (by intro e he; simp only [List.mem_cons, List.not_mem_nil, or_false] at he; subst he; exact (Zv ht)) rfl (by decide) fun b2 k2 ho2 hk2 => Jc Tryz.call30 rfl (fun hin => right_ct _ _ _ (Own.rd1 ho2 (hin 0 _ rfl) (RT.mono (Hle.hu _ _) ht))) rfl ?_)))
 rintro _ _ ⟨rfl, rfl⟩
 refine JLA rfl <| Zb <| Zc <| Za <| JLM rfl <| JLn (Pu.neq rfl rfl) <| Zb <| Zg rfl (fun h3 => ?_) (fun h3 => ?_)
 ·replace h3 := nt h3
  replace h3 := df h3
  refine Zc <| Za <| JLM rfl <| JLA rfl <| JLA rfl <| Zb <| Zk <| ⟨.tuple ⟨[nS, iv (ZK [t])]⟩, [[]], Ret.two rfl (RV.tmp rfl) (RV.tmp rfl), (Sub.emp Sub.nil), ?_⟩
  have hx : freeE t = ([], ZK [t]) := by rw [freeE, if_neg (by assumption)]
  exact ⟨_, _, _, rfl, rfl, by rw [hx]; exact Own.nil, by rw [hx]⟩
 replace h3 := nf h3
 replace h3 := dt h3
 refine Zm <| Zc <| Za <| JLr (Zi Zs rfl (At.bx 1 rfl) (Zu (Zv ht)) <| Jc Tryz.call44 rfl (fun hin => freeP_ct _ _ _ (RT.mono (Hle.hu _ _) ht) (by have := (Yk (rightT1 ‹ZK [t] = 0›)).1; omega) (Yk (rightT1 ‹ZK [t] = 0›)).2.1) rfl ?_)
 rintro u4 _ ⟨_, k4, hu4, rfl, ho4⟩; subst hu4
 refine JLa u4 <| JLA rfl <| Zb <| Zk <| ⟨.tuple ⟨[u4, iv 0]⟩, [k4], Ret.two rfl (RV.tmp rfl) (RV.tmp rfl), (Sk Sub.nil), ?_⟩
 have hx : freeE t = (Zy t, 0) := by rw [freeE, if_pos (by assumption)]
 exact ⟨_, _, _, rfl, rfl, by rw [hx]; exact ho4, by rw [hx]⟩
theorem substP_ct (t : Tm) (m : Int) (u : Tm) (cs us : List Value) (H : Heap) (ht : RT H cs t) (hu1 : RT H us u) : CT Tryz.prog 15 ⟨[.agg ⟨cs⟩, iv m, .agg ⟨us⟩]⟩ [] H (fun v N => ∃ cs k, v = .tuple ⟨[.agg ⟨cs⟩, iv (YM t m u).2]⟩ ∧ N = [k] ∧ OT (YM t m u).1 cs k) := by
 refine Zl Tryz.func15 rfl rfl <| Zc <| Za <| JLr (Zp (l := cs) rfl rfl fun b1 => JLr (Zp (l := [iv m]) rfl rfl fun b2 => JLr (Zp (l := us) rfl rfl fun b3 => JLr (Zh (l := pkT 0 0 zS nS nS) Tryz.zeroValue28 rfl fun b4 => JLA rfl <| Zb <| Zc <| Zc <| Za <| JLr (Zi Zs rfl (At.bx 3 rfl) (Zu (Zv ht)) ?_)))))
 refine JLr (Zi Zs rfl (At.bx 1 rfl) (Zu (Zv hu1)) <| JLr (Zr (vs := [.agg ⟨cs⟩, .agg ⟨us⟩]) [cs, us] Tryz.runUnderlying25 el28 rfl rfl (by intro e he; simp only [List.mem_cons, List.not_mem_nil, or_false] at he; rcases he with rfl | rfl <;> first | exact (Zv ht) | exact (Zv hu1)) rfl (by decide) fun b5 k5 ho5 hk5 => Jc Tryz.call30 rfl (fun hin => right_ct _ _ _ (Own.rd2 ho5 (hin 0 _ rfl) (RT.mono (Hle.hu _ _) ht) (RT.mono (Hle.hu _ _) hu1))) rfl ?_))
 rintro _ _ ⟨rfl, rfl⟩
 refine JLA rfl <| Zb <| Zc <| Za <| JLM rfl <| JLn (Pu.neq rfl rfl) <| Zb <| Zg rfl (fun h6 => ?_) (fun h6 => ?_)
 ·replace h6 := nt h6
  replace h6 := df h6
  refine Zc <| Za <| JLq (.agg ⟨pkT 0 0 zS nS nS⟩) (Pu.build (pv := []) (l := pkT 0 0 zS nS nS) rfl (bld28_ )) <| JLM rfl <| JLr (Zd 1 (vs := pkT 0 0 zS nS nS) (l := pkT 0 0 zS nS nS) Zs rfl rfl rfl rfl rfl (ZA rfl rfl) (Z1 ..) <| JLA rfl <| Zb <| Zk <| ⟨.tuple ⟨[.agg ⟨pkT 0 0 zS nS nS⟩, iv (ZK [t, u])]⟩, [[]], Ret.two rfl (RV.cell Zs rfl (At.bx 1 rfl) (ZX ..)) (RV.tmp rfl), (Sub.emp Sub.nil), ?_⟩)
  have hx : YM t m u = (zT, ZK [t, u]) := by simp only [YM]; (repeat' split) <;> first | rfl | (exfalso; simp_all; done) | (exfalso; simp_all; omega)
  exact ⟨_, _, by rw [hx], rfl, by rw [hx]; exact OT_zero⟩
 replace h6 := nf h6
 replace h6 := dt h6
 refine Zm <| Zc <| Zc <| Za <| JLr (Ze ty3 rfl (At.bx 3 rfl) rfl <| Jc Tryz.call45 rfl (fun hin => Yy _ _ _ _) rfl ?_)
 rintro _ _ ⟨rfl, rfl⟩
 refine Zb <| Zg rfl (fun h7 => ?_) (fun h7 => ?_)
 ·replace h7 := dt h7
  refine Zc <| Za <| JLq (.agg ⟨pkT 0 0 zS nS nS⟩) (Pu.build (pv := []) (l := pkT 0 0 zS nS nS) rfl (bld28_ )) <| JLr (Zd 1 (vs := pkT 0 0 zS nS nS) (l := pkT 0 0 zS nS nS) Zs rfl rfl rfl rfl rfl (ZA rfl rfl) (Z1 ..) <| JLA rfl <| Zb <| Zk <| ⟨.tuple ⟨[.agg ⟨pkT 0 0 zS nS nS⟩, iv 3]⟩, [[]], Ret.two rfl (RV.cell Zs rfl (At.bx 1 rfl) (ZX ..)) (RV.tmp rfl), (Sub.emp Sub.nil), ?_⟩)
  have hx : YM t m u = (zT, 3) := by simp only [YM]; (repeat' split) <;> first | rfl | (exfalso; simp_all; done) | (exfalso; simp_all; omega)
  exact ⟨_, _, by rw [hx], rfl, by rw [hx]; exact OT_zero⟩
 replace h7 := df h7
 refine Zm <| Zc <| Za <| JLq (.func (.func 47) ⟨[]⟩ ⟨[pp b2 0, pp b3 0]⟩) (Pu.makeFunc rfl rfl) <| JLq (.agg ⟨[.func (.func 47) ⟨[]⟩ ⟨[pp b2 0, pp b3 0]⟩, .func (.func 50) ⟨[]⟩ ⟨[]⟩]⟩) (Pu.build (pv := [(0, .func (.func 47) ⟨[]⟩ ⟨[pp b2 0, pp b3 0]⟩), (1, .func (.func 50) ⟨[]⟩ ⟨[]⟩)]) (l := [.func (.func 47) ⟨[]⟩ ⟨[pp b2 0, pp b3 0]⟩, .func (.func 50) ⟨[]⟩ ⟨[]⟩]) rfl (bld109_0_1 _ _ _ _ _ _)) <| JLr (Zi Zs rfl (At.bx 4 rfl) (Zu (Zv ht)) <| Jc Tryz.call51 rfl (fun hin => mapTermP_ct 50 [] [] Tryz.call50 (fun s => s) 47 [] [pp b2 0, pp b3 0] Tryz.call47 (sbv m u) _ _ _ _ (RT.mono (Hle.hu _ _) ht) (by have := (Yk (rightT2 ‹ZK [t, u] = 0›).1).1; omega) (Yk (rightT2 ‹ZK [t, u] = 0›).1).2.1 (by decide) (by have := (Yk (rightT2 ‹ZK [t, u] = 0›).1).1; omega) (fun s h hh => same_ct s h) (fun n b h hh h1 h2 h3 h4 => substV_ct n b m u _ h b2 b3 (hh _ _ (hin 3 _ rfl _ _ List.mem_cons_self)) (hh _ _ (hin 2 _ rfl _ _ List.mem_cons_self)) (RT.mono (Hle.trans (Hle.hu _ _) hh) hu1) (by have := (Yk (rightT2 ‹ZK [t, u] = 0›).2).1; omega) (Yk (rightT2 ‹ZK [t, u] = 0›).2).2.1 h1 h2 h3 h4)) rfl ?_)
 rintro _ _ ⟨cs8, k8, rfl, rfl, hO8⟩
 refine Jc Tryz.call46 rfl (fun hin => short_ct _ _ _ (hO8.rd (hin 0 _ rfl))) rfl ?_
 rintro _ _ ⟨rfl, rfl⟩
 refine JLn (Pu.extract rfl rfl) <| JLn (Pu.extract rfl rfl) <| JLr (Zd 2 (vs := (if YE (mapQ (fun s => s) (sbv m u) 0 t) = true then pkT 0 0 zS nS nS else cs8)) (l := (if YE (mapQ (fun s => s) (sbv m u) 0 t) = true then pkT 0 0 zS nS nS else cs8)) Zs rfl rfl rfl rfl (len_ite (n := 36) rfl hO8.len) (okc_ite (ZA rfl rfl) hO8.ok) (ZD (n := 36) rfl (len_ite (n := 36) rfl hO8.len)) <| JLA rfl <| Zb <| Zk ?_)
 by_cases hL : YE (mapQ (fun s => s) (sbv m u) 0 t) = true
 ·refine ⟨.tuple ⟨[.agg ⟨(if YE (mapQ (fun s => s) (sbv m u) 0 t) = true then pkT 0 0 zS nS nS else cs8)⟩, iv ((if YE (mapQ (fun s => s) (sbv m u) 0 t) = true then 11 else 0))]⟩, [[]], Ret.two rfl (RV.cell Zs rfl (At.bx 2 rfl) (Zu (len_ite (n := 36) rfl hO8.len))) (RV.tmp rfl), (Sub.emp Sub.nil), ?_⟩
  have hx : YM t m u = (zT, 11) := by rw [YM, if_pos (by assumption), if_neg (by omega), if_pos (show YE (sbT m u t) = true from hL)]
  exact ⟨_, _, by rw [if_pos hL, if_pos hL, hx], rfl, by rw [hx]; exact OT_zero⟩
 refine ⟨.tuple ⟨[.agg ⟨(if YE (mapQ (fun s => s) (sbv m u) 0 t) = true then pkT 0 0 zS nS nS else cs8)⟩, iv ((if YE (mapQ (fun s => s) (sbv m u) 0 t) = true then 11 else 0))]⟩, [k8], Ret.two rfl (RV.cell Zs rfl (At.bx 2 rfl) (Zu (len_ite (n := 36) rfl hO8.len))) (RV.tmp rfl), (Sk Sub.nil), ?_⟩
 have hx : YM t m u = (mapQ (fun s => s) (sbv m u) 0 t, 0) := by rw [YM, if_pos (by assumption), if_neg (by omega), if_neg (show ¬ YE (sbT m u t) = true from hL)]; rfl
 exact ⟨_, _, by rw [if_neg hL, if_neg hL, hx], rfl, by rw [hx]; exact hO8⟩
end Go.Proofs.YtjhenmdcnbaobaaGreat.Hs
/-! Walks, printed by a program of this session's own (gen.py). -/
namespace Go.Proofs.YtjhenmdcnbaobaaGreat.Hs
open Go Go.Proofs
set_option maxRecDepth 100000
set_option linter.unusedVariables false
set_option linter.unusedSimpArgs false
attribute [local irreducible] JL J CT wlo DT
theorem eqFuncP_ct (g : Nat) (fs cv : List Value) (hcall : ∀ args w, (callFunc g args).run Tryz.prog w = .ok (.enter g args) w) (l m : List Pt) (v u : Value) (H : Heap) (hl : rdS RP 35 H v l) (hm : rdS RP 35 H u m) (hg : ∀ x ∈ l, ∀ y ∈ m, ∀ a b h, Hle H h → RP h a x → RP h b y → CT Tryz.prog g ⟨fs ++ [.agg ⟨a⟩, .agg ⟨b⟩] ++ cv⟩ [] h (fun v N => v = .bool (decide (x = y)) ∧ N = [])) : CT Tryz.prog 73 ⟨[v, u, .func (.func g) ⟨fs⟩ ⟨cv⟩]⟩ [] H (fun v N => v = .bool (decide (l = m)) ∧ N = []) := by
 refine Zl Tryz.func73 rfl rfl <| Zc <| Za <| JLA rfl <| Zb <| Zc <| Zc <| Za <| JLm v ?_
 obtain ⟨a1, cap1, hv1⟩ := hl.sl
 have hle1 := hl.le
 refine JLn (Pu.lenSl Tryz.runUnderlying83 hv1) <| JLm u ?_
 obtain ⟨a2, cap2, hv2⟩ := hm.sl
 have hle2 := hm.le
 refine JLn (Pu.lenSl Tryz.runUnderlying83 hv2) <| JLn (Pu.neq rfl rfl) <| Zb <| Zg rfl (fun h3 => ?_) (fun h3 => ?_)
 ·replace h3 := nt h3
  replace h3 := df h3
  refine Zc <| Za <| JLA rfl <| Zb <| Zk <| ⟨.bool false, [], Ret.one rfl (RV.tmp rfl), Sub.nil, ?_⟩
  exact ⟨by rw [decide_eq_false]; intro e; subst e; exact h3 rfl, rfl⟩
 replace h3 := nf h3
 replace h3 := dt h3
 refine Zm <| Zc <| Zc <| Za <| JLm v ?_
 obtain ⟨a4, cap4, hv4⟩ := hl.sl
 have hle4 := hl.le
 refine JLn (Pu.lenSl Tryz.runUnderlying83 hv4) <| JLM rfl <| Zb <| Zo <| ZP (fun k ρ M => ∃ (j : Nat), ρ 1 = u ∧ ρ 2 = .func (.func g) ⟨fs⟩ ⟨cv⟩ ∧ ρ 6 = .bool false ∧ ρ 15 = v ∧ ρ 16 = iv ((l.length : Int)) ∧ ρ 17 = iv ((j : Int)) ∧ Sub [] M ∧ j ≤ l.length ∧ l.length = m.length ∧ l.take j = m.take j ∧ k = l.length - j) _ ⟨0, rfl, rfl, rfl, rfl, rfl, rfl, Sub.nil, Nat.zero_le _, (by omega), rfl, rfl⟩ ?_
 rintro _ ρ5 _ ⟨j, e6, e7, e8, e9, e10, e11, hm12, hj, hlen, htake, rfl⟩
 obtain ⟨ρ13, rfl⟩ := Zn (uc e6 (uc e7 (uc e8 (uc e9 (uc e10 (uc e11 un))))))
 clear e6 e7 e8 e9 e10 e11
 refine Z6 hm12 <| Zc <| Za <| JLn (Pu.lss rfl rfl) <| Zb <| Zc <| Zg rfl (fun h14 => ?_) (fun h14 => ?_)
 ·replace h14 := dt h14
  have h14n : j < l.length := by omega
  have hlenl := hl.le
  have hltm : j < m.length := by omega
  refine Zm <| Zc <| Zo <| Zc <| Za <| JLM rfl ?_
  obtain ⟨b15, o15, cap15, row15, T15, fr15, cs15, hv15, hb15, hs15, hE15⟩ := hl.get j (by first | assumption | omega | decide | simp)
  refine JLq (pp b15 (o15 + j * 35)) (Pu.idx j Tryz.runUnderlying83 Z0 hv15 rfl rfl (by first | assumption | omega | decide | simp)) <| JLr (Zi Z0 rfl (At.im hb15) hs15 <| JLr (Zh (l := pkP 0 0 zS nS) Tryz.zeroValue85 rfl fun b16 => JLA rfl <| JLr (Zd 0 (vs := cs15) (l := cs15) Z0 rfl rfl rfl rfl (ZF hE15) (RP_ok hE15) (ZD (n := 35) rfl (ZF hE15)) <| Zb <| Zc <| Za <| JLm u <| JLM rfl ?_)))
  obtain ⟨b17, o17, cap17, row17, T17, fr17, cs17, hv17, hb17, hs17, hE17⟩ := hm.get j (by first | assumption | omega | decide | simp)
  refine JLq (pp b17 (o17 + j * 35)) (Pu.idx j Tryz.runUnderlying83 Z0 hv17 rfl rfl (by first | assumption | omega | decide | simp)) <| JLr (Zi Z0 rfl (At.im hb17) hs17 <| JLr (Zh (l := pkP 0 0 zS nS) Tryz.zeroValue85 rfl fun b18 => JLr (Zd 0 (vs := cs17) (l := cs17) Z0 rfl rfl rfl rfl (ZF hE17) (RP_ok hE17) (ZD (n := 35) rfl (ZF hE17)) <| Zb <| Zc <| Za <| JLM rfl <| JLr (Zi Z0 rfl (At.bx 1 rfl) (Zu (ZF hE15)) <| JLr (Zi Z0 rfl (At.bx 0 rfl) (Zu (ZF hE17)) <| Jc hcall rfl (fun hin => hg _ (List.getElem_mem h14n) _ (List.getElem_mem (by omega)) _ _ _ (Hle.hu _ _) (RP.mono (Hle.hu _ _) hE15) (RP.mono (Hle.hu _ _) hE17)) rfl ?_)))))
  rintro _ _ ⟨rfl, rfl⟩
  refine JLn (Pu.not rfl) <| Zb <| Zg rfl (fun h19 => ?_) (fun h19 => ?_)
  ·replace h19 := nt h19
   replace h19 := df h19
   refine Zc <| Za <| JLA rfl <| Zb <| Zk <| ⟨.bool false, [], Ret.one rfl (RV.tmp rfl), Sub.nil, ?_⟩
   exact ⟨by rw [decide_eq_false]; intro e; subst e; exact h19 rfl, rfl⟩
  replace h19 := nf h19
  replace h19 := dt h19
  refine Zm <| Za <| JLn (Pu.inc rfl rfl (by omega)) <| JLM rfl <| Zb <| ⟨_, ?_, (j + 1), rfl, rfl, rfl, rfl, rfl, rfl, Sub.nil, ?_, ?_, ?_, rfl⟩
  ·omega
  ·omega
  ·assumption
  rw [List.take_succ_eq_append_getElem h14n, List.take_succ_eq_append_getElem (by omega), htake, h19]
 replace h14 := df h14
 have h14n : l.length ≤ j := by omega
 refine ZG _ rfl <| Zc <| Za <| JLA rfl <| Zb <| Zk <| ⟨.bool true, [], Ret.one rfl (RV.tmp rfl), Sub.nil, ?_⟩
 exact ⟨by rw [decide_eq_true]; have e := htake; rw [List.take_of_length_le h14n, List.take_of_length_le (by omega)] at e; exact e, rfl⟩
theorem eqFuncT_ct (g : Nat) (fs cv : List Value) (hcall : ∀ args w, (callFunc g args).run Tryz.prog w = .ok (.enter g args) w) (l m : List Tm) (v u : Value) (H : Heap) (hl : rdS RT 36 H v l) (hm : rdS RT 36 H u m) (hg : ∀ x ∈ l, ∀ y ∈ m, ∀ a b h, Hle H h → RT h a x → RT h b y → CT Tryz.prog g ⟨fs ++ [.agg ⟨a⟩, .agg ⟨b⟩] ++ cv⟩ [] h (fun v N => v = .bool (decide (x = y)) ∧ N = [])) : CT Tryz.prog 72 ⟨[v, u, .func (.func g) ⟨fs⟩ ⟨cv⟩]⟩ [] H (fun v N => v = .bool (decide (l = m)) ∧ N = []) := by
 refine Zl Tryz.func72 rfl rfl <| Zc <| Za <| JLA rfl <| Zb <| Zc <| Zc <| Za <| JLm v ?_
 obtain ⟨a1, cap1, hv1⟩ := hl.sl
 have hle1 := hl.le
 refine JLn (Pu.lenSl Tryz.runUnderlying25 hv1) <| JLm u ?_
 obtain ⟨a2, cap2, hv2⟩ := hm.sl
 have hle2 := hm.le
 refine JLn (Pu.lenSl Tryz.runUnderlying25 hv2) <| JLn (Pu.neq rfl rfl) <| Zb <| Zg rfl (fun h3 => ?_) (fun h3 => ?_)
 ·replace h3 := nt h3
  replace h3 := df h3
  refine Zc <| Za <| JLA rfl <| Zb <| Zk <| ⟨.bool false, [], Ret.one rfl (RV.tmp rfl), Sub.nil, ?_⟩
  exact ⟨by rw [decide_eq_false]; intro e; subst e; exact h3 rfl, rfl⟩
 replace h3 := nf h3
 replace h3 := dt h3
 refine Zm <| Zc <| Zc <| Za <| JLm v ?_
 obtain ⟨a4, cap4, hv4⟩ := hl.sl
 have hle4 := hl.le
 refine JLn (Pu.lenSl Tryz.runUnderlying25 hv4) <| JLM rfl <| Zb <| Zo <| ZP (fun k ρ M => ∃ (j : Nat), ρ 1 = u ∧ ρ 2 = .func (.func g) ⟨fs⟩ ⟨cv⟩ ∧ ρ 6 = .bool false ∧ ρ 15 = v ∧ ρ 16 = iv ((l.length : Int)) ∧ ρ 17 = iv ((j : Int)) ∧ Sub [] M ∧ j ≤ l.length ∧ l.length = m.length ∧ l.take j = m.take j ∧ k = l.length - j) _ ⟨0, rfl, rfl, rfl, rfl, rfl, rfl, Sub.nil, Nat.zero_le _, (by omega), rfl, rfl⟩ ?_
 rintro _ ρ5 _ ⟨j, e6, e7, e8, e9, e10, e11, hm12, hj, hlen, htake, rfl⟩
 obtain ⟨ρ13, rfl⟩ := Zn (uc e6 (uc e7 (uc e8 (uc e9 (uc e10 (uc e11 un))))))
 clear e6 e7 e8 e9 e10 e11
 refine Z6 hm12 <| Zc <| Za <| JLn (Pu.lss rfl rfl) <| Zb <| Zc <| Zg rfl (fun h14 => ?_) (fun h14 => ?_)
 ·replace h14 := dt h14
  have h14n : j < l.length := by omega
  have hlenl := hl.le
  have hltm : j < m.length := by omega
  refine Zm <| Zc <| Zo <| Zc <| Za <| JLM rfl ?_
  obtain ⟨b15, o15, cap15, row15, T15, fr15, cs15, hv15, hb15, hs15, hE15⟩ := hl.get j (by first | assumption | omega | decide | simp)
  refine JLq (pp b15 (o15 + j * 36)) (Pu.idx j Tryz.runUnderlying25 Zs hv15 rfl rfl (by first | assumption | omega | decide | simp)) <| JLr (Zi Zs rfl (At.im hb15) hs15 <| JLr (Zh (l := pkT 0 0 zS nS nS) Tryz.zeroValue28 rfl fun b16 => JLA rfl <| JLr (Zd 0 (vs := cs15) (l := cs15) Zs rfl rfl rfl rfl (Zv hE15) (RT_ok hE15) (ZD (n := 36) rfl (Zv hE15)) <| Zb <| Zc <| Za <| JLm u <| JLM rfl ?_)))
  obtain ⟨b17, o17, cap17, row17, T17, fr17, cs17, hv17, hb17, hs17, hE17⟩ := hm.get j (by first | assumption | omega | decide | simp)
  refine JLq (pp b17 (o17 + j * 36)) (Pu.idx j Tryz.runUnderlying25 Zs hv17 rfl rfl (by first | assumption | omega | decide | simp)) <| JLr (Zi Zs rfl (At.im hb17) hs17 <| JLr (Zh (l := pkT 0 0 zS nS nS) Tryz.zeroValue28 rfl fun b18 => JLr (Zd 0 (vs := cs17) (l := cs17) Zs rfl rfl rfl rfl (Zv hE17) (RT_ok hE17) (ZD (n := 36) rfl (Zv hE17)) <| Zb <| Zc <| Za <| JLM rfl <| JLr (Zi Zs rfl (At.bx 1 rfl) (Zu (Zv hE15)) <| JLr (Zi Zs rfl (At.bx 0 rfl) (Zu (Zv hE17)) <| Jc hcall rfl (fun hin => hg _ (List.getElem_mem h14n) _ (List.getElem_mem (by omega)) _ _ _ (Hle.hu _ _) (RT.mono (Hle.hu _ _) hE15) (RT.mono (Hle.hu _ _) hE17)) rfl ?_)))))
  rintro _ _ ⟨rfl, rfl⟩
  refine JLn (Pu.not rfl) <| Zb <| Zg rfl (fun h19 => ?_) (fun h19 => ?_)
  ·replace h19 := nt h19
   replace h19 := df h19
   refine Zc <| Za <| JLA rfl <| Zb <| Zk <| ⟨.bool false, [], Ret.one rfl (RV.tmp rfl), Sub.nil, ?_⟩
   exact ⟨by rw [decide_eq_false]; intro e; subst e; exact h19 rfl, rfl⟩
  replace h19 := nf h19
  replace h19 := dt h19
  refine Zm <| Za <| JLn (Pu.inc rfl rfl (by omega)) <| JLM rfl <| Zb <| ⟨_, ?_, (j + 1), rfl, rfl, rfl, rfl, rfl, rfl, Sub.nil, ?_, ?_, ?_, rfl⟩
  ·omega
  ·omega
  ·assumption
  rw [List.take_succ_eq_append_getElem h14n, List.take_succ_eq_append_getElem (by omega), htake, h19]
 replace h14 := df h14
 have h14n : l.length ≤ j := by omega
 refine ZG _ rfl <| Zc <| Za <| JLA rfl <| Zb <| Zk <| ⟨.bool true, [], Ret.one rfl (RV.tmp rfl), Sub.nil, ?_⟩
 exact ⟨by rw [decide_eq_true]; have e := htake; rw [List.take_of_length_le h14n, List.take_of_length_le (by omega)] at e; exact e, rfl⟩
theorem eqFuncC_ct (g : Nat) (fs cv : List Value) (hcall : ∀ args w, (callFunc g args).run Tryz.prog w = .ok (.enter g args) w) (l m : List (Pt × Tm)) (v u : Value) (H : Heap) (hl : rdS RC 71 H v l) (hm : rdS RC 71 H u m) (hg : ∀ x ∈ l, ∀ y ∈ m, ∀ a b h, Hle H h → RC h a x → RC h b y → CT Tryz.prog g ⟨fs ++ [.agg ⟨a⟩, .agg ⟨b⟩] ++ cv⟩ [] h (fun v N => v = .bool (decide (x = y)) ∧ N = [])) : CT Tryz.prog 34 ⟨[v, u, .func (.func g) ⟨fs⟩ ⟨cv⟩]⟩ [] H (fun v N => v = .bool (decide (l = m)) ∧ N = []) := by
 refine Zl Tryz.func34 rfl rfl <| Zc <| Za <| JLA rfl <| Zb <| Zc <| Zc <| Za <| JLm v ?_
 obtain ⟨a1, cap1, hv1⟩ := hl.sl
 have hle1 := hl.le
 refine JLn (Pu.lenSl Tryz.runUnderlying26 hv1) <| JLm u ?_
 obtain ⟨a2, cap2, hv2⟩ := hm.sl
 have hle2 := hm.le
 refine JLn (Pu.lenSl Tryz.runUnderlying26 hv2) <| JLn (Pu.neq rfl rfl) <| Zb <| Zg rfl (fun h3 => ?_) (fun h3 => ?_)
 ·replace h3 := nt h3
  replace h3 := df h3
  refine Zc <| Za <| JLA rfl <| Zb <| Zk <| ⟨.bool false, [], Ret.one rfl (RV.tmp rfl), Sub.nil, ?_⟩
  exact ⟨by rw [decide_eq_false]; intro e; subst e; exact h3 rfl, rfl⟩
 replace h3 := nf h3
 replace h3 := dt h3
 refine Zm <| Zc <| Zc <| Za <| JLm v ?_
 obtain ⟨a4, cap4, hv4⟩ := hl.sl
 have hle4 := hl.le
 refine JLn (Pu.lenSl Tryz.runUnderlying26 hv4) <| JLM rfl <| Zb <| Zo <| ZP (fun k ρ M => ∃ (j : Nat), ρ 1 = u ∧ ρ 2 = .func (.func g) ⟨fs⟩ ⟨cv⟩ ∧ ρ 6 = .bool false ∧ ρ 15 = v ∧ ρ 16 = iv ((l.length : Int)) ∧ ρ 17 = iv ((j : Int)) ∧ Sub [] M ∧ j ≤ l.length ∧ l.length = m.length ∧ l.take j = m.take j ∧ k = l.length - j) _ ⟨0, rfl, rfl, rfl, rfl, rfl, rfl, Sub.nil, Nat.zero_le _, (by omega), rfl, rfl⟩ ?_
 rintro _ ρ5 _ ⟨j, e6, e7, e8, e9, e10, e11, hm12, hj, hlen, htake, rfl⟩
 obtain ⟨ρ13, rfl⟩ := Zn (uc e6 (uc e7 (uc e8 (uc e9 (uc e10 (uc e11 un))))))
 clear e6 e7 e8 e9 e10 e11
 refine Z6 hm12 <| Zc <| Za <| JLn (Pu.lss rfl rfl) <| Zb <| Zc <| Zg rfl (fun h14 => ?_) (fun h14 => ?_)
 ·replace h14 := dt h14
  have h14n : j < l.length := by omega
  have hlenl := hl.le
  have hltm : j < m.length := by omega
  refine Zm <| Zc <| Zo <| Zc <| Za <| JLM rfl ?_
  obtain ⟨b15, o15, cap15, row15, T15, fr15, cs15, hv15, hb15, hs15, hE15⟩ := hl.get j (by first | assumption | omega | decide | simp)
  obtain ⟨ca15, cb15, rfl, hA15, hB15⟩ := hE15
  refine JLq (pp b15 (o15 + j * 71)) (Pu.idx j Tryz.runUnderlying26 ty87 hv15 rfl rfl (by first | assumption | omega | decide | simp)) <| JLr (Zi ty87 rfl (At.im hb15) hs15 <| JLr (Zh (l := (pkP 0 0 zS nS) ++ (pkT 0 0 zS nS nS)) Tryz.zeroValue87 rfl fun b16 => JLA rfl <| JLr (Zd 0 (vs := ca15 ++ cb15) (l := ca15 ++ cb15) ty87 rfl rfl rfl rfl (ZZ (ZF hA15) (Zv hB15)) (Ya (RP_ok hA15) (RT_ok hB15)) (ZD (n := 71) rfl (ZZ (ZF hA15) (Zv hB15))) <| Zb <| Zc <| Za <| JLm u <| JLM rfl ?_)))
  obtain ⟨b17, o17, cap17, row17, T17, fr17, cs17, hv17, hb17, hs17, hE17⟩ := hm.get j (by first | assumption | omega | decide | simp)
  obtain ⟨ca17, cb17, rfl, hA17, hB17⟩ := hE17
  refine JLq (pp b17 (o17 + j * 71)) (Pu.idx j Tryz.runUnderlying26 ty87 hv17 rfl rfl (by first | assumption | omega | decide | simp)) <| JLr (Zi ty87 rfl (At.im hb17) hs17 <| JLr (Zh (l := (pkP 0 0 zS nS) ++ (pkT 0 0 zS nS nS)) Tryz.zeroValue87 rfl fun b18 => JLr (Zd 0 (vs := ca17 ++ cb17) (l := ca17 ++ cb17) ty87 rfl rfl rfl rfl (ZZ (ZF hA17) (Zv hB17)) (Ya (RP_ok hA17) (RT_ok hB17)) (ZD (n := 71) rfl (ZZ (ZF hA17) (Zv hB17))) <| Zb <| Zc <| Za <| JLM rfl <| JLr (Zi ty87 rfl (At.bx 1 rfl) (Zu (ZZ (ZF hA15) (Zv hB15))) <| JLr (Zi ty87 rfl (At.bx 0 rfl) (Zu (ZZ (ZF hA17) (Zv hB17))) <| Jc hcall rfl (fun hin => hg _ (List.getElem_mem h14n) _ (List.getElem_mem (by omega)) _ _ _ (Hle.hu _ _) (RC.mono (Hle.hu _ _) (RC_mk hA15 hB15)) (RC.mono (Hle.hu _ _) (RC_mk hA17 hB17))) rfl ?_)))))
  rintro _ _ ⟨rfl, rfl⟩
  refine JLn (Pu.not rfl) <| Zb <| Zg rfl (fun h19 => ?_) (fun h19 => ?_)
  ·replace h19 := nt h19
   replace h19 := df h19
   refine Zc <| Za <| JLA rfl <| Zb <| Zk <| ⟨.bool false, [], Ret.one rfl (RV.tmp rfl), Sub.nil, ?_⟩
   exact ⟨by rw [decide_eq_false]; intro e; subst e; exact h19 rfl, rfl⟩
  replace h19 := nf h19
  replace h19 := dt h19
  refine Zm <| Za <| JLn (Pu.inc rfl rfl (by omega)) <| JLM rfl <| Zb <| ⟨_, ?_, (j + 1), rfl, rfl, rfl, rfl, rfl, rfl, Sub.nil, ?_, ?_, ?_, rfl⟩
  ·omega
  ·omega
  ·assumption
  rw [List.take_succ_eq_append_getElem h14n, List.take_succ_eq_append_getElem (by omega), htake, h19]
 replace h14 := df h14
 have h14n : l.length ≤ j := by omega
 refine ZG _ rfl <| Zc <| Za <| JLA rfl <| Zb <| Zk <| ⟨.bool true, [], Ret.one rfl (RV.tmp rfl), Sub.nil, ?_⟩
 exact ⟨by rw [decide_eq_true]; have e := htake; rw [List.take_of_length_le h14n, List.take_of_length_le (by omega)] at e; exact e, rfl⟩
theorem samePattern_ct : ∀ (p q : Pt) (cs ds : List Value) (H : Heap), RP H cs p → RP H ds q → CT Tryz.prog 36 ⟨[.agg ⟨cs⟩, .agg ⟨ds⟩]⟩ [] H (fun v N => v = .bool (decide (p = q)) ∧ N = []) := by
 intro p
 induction p using Pt.ind with
 | h kind num ref kids ih =>
 intro q cs ds H hp hq
 obtain ⟨ks, rfl, hk, hn, hks⟩ := RP_mk.1 hp
 obtain ⟨ksq, rfl, hkq, hnq, hksq⟩ := RP_open hq
 refine Zl Tryz.func36 rfl rfl <| Zc <| Za <| JLr (Zp (l := pkP kind num ref ks) rfl rfl fun b1 => JLr (Zp (l := pkP (q.kind) (q.num) (q.ref) ksq) rfl rfl fun b2 => JLA rfl <| Zb <| Zc <| Za <| JLq (pp b1 0) (YS rfl rfl) <| JLr (Ze ty3 rfl (At.bx 1 rfl) (pkP_0 ..) <| JLq (pp b2 0) (YS rfl rfl) <| JLr (Ze ty3 rfl (At.bx 0 rfl) (pkP_0 ..) ?_))))
 refine JLn (Pu.eql rfl rfl) <| JLM rfl <| Zx 5 [11, 12, 13, 14, 15] [(15, cond (decide (kind = q.kind)) (.bool (decide (num = q.num))) undef)] ?_ fun f4 => ?_
 ·cases h3 : (decide (kind = q.kind)) with
  | true =>
   replace h3 := dt h3
   refine JLq (pp b1 1) (fa85_1 rfl rfl) <| JLr (Ze ty3 rfl (At.bx 1 rfl) (pkP_1 ..) <| JLq (pp b2 1) (fa85_1 rfl rfl) <| JLr (Ze ty3 rfl (At.bx 0 rfl) (pkP_1 ..) <| JLn (Pu.eql rfl rfl) ?_))
   exact Zb ⟨⟨rfl, trivial⟩, rfl⟩
  | false =>
   exact ZH rfl ⟨rfl, trivial⟩
 refine JLn (Pu.pickAnd rfl rfl rfl) <| JLM rfl <| Zx 5 [18, 19, 20, 21, 22] [(22, cond ((decide (kind = q.kind)) && (decide (num = q.num))) (.bool (decide (ref = q.ref))) undef)] ?_ fun f6 => ?_
 ·cases h5 : ((decide (kind = q.kind)) && (decide (num = q.num))) with
  | true =>
   obtain ⟨h5a, h5b⟩ := YC h5
   replace h5a := dt h5a
   replace h5b := dt h5b
   refine JLq (pp b1 2) (fa85_2 rfl rfl) <| JLr (Zi ty24 rfl (At.bx 1 rfl) (pkP_2 ..) <| JLq (pp b2 2) (fa85_2 rfl rfl) <| JLr (Zi ty24 rfl (At.bx 0 rfl) (pkP_2 ..) <| JLn (eqS rfl rfl) ?_))
   exact Zb ⟨⟨rfl, trivial⟩, rfl⟩
  | false =>
   exact ZH rfl ⟨rfl, trivial⟩
 refine JLn (Pu.pickAnd rfl rfl rfl) <| JLM rfl <| Zx 5 [25, 26, 27, 28, 29] [(29, cond (((decide (kind = q.kind)) && (decide (num = q.num))) && (decide (ref = q.ref))) (.bool (decide (kids = (q.kids)))) undef)] ?_ fun f8 => ?_
 ·cases h7 : (((decide (kind = q.kind)) && (decide (num = q.num))) && (decide (ref = q.ref))) with
  | true =>
   obtain ⟨h7a, h7b⟩ := YC h7
   obtain ⟨h7aa, h7ab⟩ := YC h7a
   replace h7aa := dt h7aa
   replace h7ab := dt h7ab
   replace h7b := dt h7b
   refine JLq (pp b1 34) (Y0 rfl rfl) <| JLr (Ze ty83 rfl (At.bx 1 rfl) (pkP_34 ..) <| JLq (pp b2 34) (Y0 rfl rfl) <| JLr (Ze ty83 rfl (At.bx 0 rfl) (pkP_34 ..) <| Jc Tryz.call73 rfl (fun hin => eqFuncP_ct 36 [] [] (fun _ _ => rfl) _ _ _ _ _ (RPs.mono (Hle.hu _ _) hks) (RPs.mono (Hle.hu _ _) hksq) (fun x hx y hy a b h hh ra rb => ih x hx y a b h ra rb)) rfl ?_))
   rintro _ _ ⟨rfl, rfl⟩
   exact Zb ⟨⟨rfl, trivial⟩, rfl⟩
  | false =>
   exact ZH rfl ⟨rfl, trivial⟩
 refine JLn (Pu.pickAnd rfl rfl rfl) <| JLA rfl <| Zb <| Zk <| ⟨.bool ((((decide (kind = q.kind)) && (decide (num = q.num))) && (decide (ref = q.ref))) && (decide (kids = (q.kids)))), [], Ret.one rfl (RV.tmp rfl), Sub.nil, ?_⟩
 exact ⟨congrArg Value.bool (eqPd ..), rfl⟩
theorem sameCase_ct : ∀ (c d : Pt × Tm) (a b : List Value) (H : Heap), RC H a c → RC H b d → (∀ h a b, Hle H h → RT h a c.2 → RT h b d.2 → CT Tryz.prog 11 ⟨[.agg ⟨a⟩, .agg ⟨b⟩]⟩ [] h (fun v N => v = .bool (decide (c.2 = d.2)) ∧ N = [])) → CT Tryz.prog 35 ⟨[.agg ⟨a⟩, .agg ⟨b⟩]⟩ [] H (fun v N => v = .bool (decide (c = d)) ∧ N = []) := by
 intro c d a b H ⟨ca, cb, e1, ra1, ra2⟩ ⟨da, db, e2, rb1, rb2⟩ hg
 subst e1 e2
 refine Zl Tryz.func35 rfl rfl <| Zc <| Za <| JLr (Zp (l := ca ++ cb) rfl rfl fun b1 => JLr (Zp (l := da ++ db) rfl rfl fun b2 => JLA rfl <| Zb <| Zc <| Za <| JLq (pp b1 0) (fa87_0 rfl rfl) <| JLr (Zi Z0 rfl (At.bx 1 rfl) (sub_l (ZF ra1)) <| JLq (pp b2 0) (fa87_0 rfl rfl) <| JLr (Zi Z0 rfl (At.bx 0 rfl) (sub_l (ZF rb1)) ?_))))
 refine Jc Tryz.call36 rfl (fun hin => samePattern_ct _ _ _ _ _ (RP.mono (Hle.hu _ _) ra1) (RP.mono (Hle.hu _ _) rb1)) rfl ?_
 rintro _ _ ⟨rfl, rfl⟩
 refine JLM rfl <| Zx 5 [11, 12, 13, 14, 15] [(15, cond (decide ((c.1) = (d.1))) (.bool (decide ((c.2) = (d.2)))) undef)] ?_ fun f4 => ?_
 ·cases h3 : (decide ((c.1) = (d.1))) with
  | true =>
   replace h3 := dt h3
   refine JLq (pp b1 35) (fa87_1 rfl rfl) <| JLr (Zi Zs rfl (At.bx 1 rfl) (sub_r (ZF ra1) (Zv ra2)) <| JLq (pp b2 35) (fa87_1 rfl rfl) <| JLr (Zi Zs rfl (At.bx 0 rfl) (sub_r (ZF rb1) (Zv rb2)) <| Jc Tryz.call11 rfl (fun hin => hg _ _ _ (Hle.hu _ _) (RT.mono (Hle.hu _ _) ra2) (RT.mono (Hle.hu _ _) rb2)) rfl ?_))
   rintro _ _ ⟨rfl, rfl⟩
   exact Zb ⟨⟨rfl, trivial⟩, rfl⟩
  | false =>
   exact ZH rfl ⟨rfl, trivial⟩
 refine JLn (Pu.pickAnd rfl rfl rfl) <| JLA rfl <| Zb <| Zk <| ⟨.bool ((decide ((c.1) = (d.1))) && (decide ((c.2) = (d.2)))), [], Ret.one rfl (RV.tmp rfl), Sub.nil, ?_⟩
 exact ⟨by obtain ⟨c1, c2⟩ := c; obtain ⟨d1, d2⟩ := d; refine congrArg Value.bool ?_; rw [Bool.eq_iff_iff]; simp, rfl⟩
theorem sameTerms_ct : ∀ (l m : List Tm) (v u : Value) (H : Heap) (_ : rdS RT 36 H v l) (_ : rdS RT 36 H u m) (_ : ∀ x ∈ l, ∀ y a b h, Hle H h → RT h a x → RT h b y → CT Tryz.prog 11 ⟨[.agg ⟨a⟩, .agg ⟨b⟩]⟩ [] h (fun v N => v = .bool (decide (x = y)) ∧ N = [])), CT Tryz.prog 33 ⟨[v, u]⟩ [] H (fun v N => v = .bool (decide (l = m)) ∧ N = []) := by
 intro l m v u H hl hm hg
 refine Zl Tryz.func33 rfl rfl <| Zc <| Za <| JLA rfl <| Zb <| Zc <| Za <| JLm v <| JLm u <| Jc Tryz.call72 rfl (fun hin => eqFuncT_ct 11 [] [] (fun _ _ => rfl) _ _ _ _ _ (RTs.mono (Hle.hu _ _) hl) (RTs.mono (Hle.hu _ _) hm) (fun x hx y hy a b h hh ra rb => hg x hx y a b h (Hle.trans (Hle.hu _ _) hh) ra rb)) rfl ?_
 rintro _ _ ⟨rfl, rfl⟩
 refine JLA rfl <| Zb <| Zk <| ⟨.bool (decide (l = m)), [], Ret.one rfl (RV.tmp rfl), Sub.nil, ?_⟩
 exact ⟨rfl, rfl⟩
theorem sameTerm_ct : ∀ (t u : Tm) (cs ds : List Value) (H : Heap), RT H cs t → RT H ds u → CT Tryz.prog 11 ⟨[.agg ⟨cs⟩, .agg ⟨ds⟩]⟩ [] H (fun v N => v = .bool (decide (t = u)) ∧ N = []) := by
 intro t
 induction t using Tm.ind with
 | h kind num ref kids cases ih ih' =>
 intro u cs ds H ht hu
 obtain ⟨ks, cv, rfl, hk, hn, hks, hcv⟩ := RT_mk.1 ht
 obtain ⟨ksu, cvu, rfl, hku, hnu, hksu, hcvu⟩ := RT_open hu
 refine Zl Tryz.func11 rfl rfl <| Zc <| Za <| JLr (Zp (l := pkT kind num ref ks cv) rfl rfl fun b1 => JLr (Zp (l := pkT (u.kind) (u.num) (u.ref) ksu cvu) rfl rfl fun b2 => JLA rfl <| Zb <| Zc <| Za <| JLq (pp b1 0) (ZI rfl rfl) <| JLr (Ze ty3 rfl (At.bx 1 rfl) (ZQ ..) <| JLq (pp b2 0) (ZI rfl rfl) <| JLr (Ze ty3 rfl (At.bx 0 rfl) (ZQ ..) ?_))))
 refine JLn (Pu.eql rfl rfl) <| JLM rfl <| Zx 5 [11, 12, 13, 14, 15] [(15, cond (decide (kind = u.kind)) (.bool (decide (num = u.num))) undef)] ?_ fun f4 => ?_
 ·cases h3 : (decide (kind = u.kind)) with
  | true =>
   replace h3 := dt h3
   refine JLq (pp b1 1) (Yj rfl rfl) <| JLr (Ze ty3 rfl (At.bx 1 rfl) (YK ..) <| JLq (pp b2 1) (Yj rfl rfl) <| JLr (Ze ty3 rfl (At.bx 0 rfl) (YK ..) <| JLn (Pu.eql rfl rfl) ?_))
   exact Zb ⟨⟨rfl, trivial⟩, rfl⟩
  | false =>
   exact ZH rfl ⟨rfl, trivial⟩
 refine JLn (Pu.pickAnd rfl rfl rfl) <| JLM rfl <| Zx 5 [18, 19, 20, 21, 22] [(22, cond ((decide (kind = u.kind)) && (decide (num = u.num))) (.bool (decide (ref = u.ref))) undef)] ?_ fun f6 => ?_
 ·cases h5 : ((decide (kind = u.kind)) && (decide (num = u.num))) with
  | true =>
   obtain ⟨h5a, h5b⟩ := YC h5
   replace h5a := dt h5a
   replace h5b := dt h5b
   refine JLq (pp b1 2) (fa28_2 rfl rfl) <| JLr (Zi ty24 rfl (At.bx 1 rfl) (pkT_2 ..) <| JLq (pp b2 2) (fa28_2 rfl rfl) <| JLr (Zi ty24 rfl (At.bx 0 rfl) (pkT_2 ..) <| JLn (eqS rfl rfl) ?_))
   exact Zb ⟨⟨rfl, trivial⟩, rfl⟩
  | false =>
   exact ZH rfl ⟨rfl, trivial⟩
 refine JLn (Pu.pickAnd rfl rfl rfl) <| JLM rfl <| Zx 5 [25, 26, 27, 28, 29] [(29, cond (((decide (kind = u.kind)) && (decide (num = u.num))) && (decide (ref = u.ref))) (.bool (decide (kids = (u.kids)))) undef)] ?_ fun f8 => ?_
 ·cases h7 : (((decide (kind = u.kind)) && (decide (num = u.num))) && (decide (ref = u.ref))) with
  | true =>
   obtain ⟨h7a, h7b⟩ := YC h7
   obtain ⟨h7aa, h7ab⟩ := YC h7a
   replace h7aa := dt h7aa
   replace h7ab := dt h7ab
   replace h7b := dt h7b
   refine JLq (pp b1 34) (Yu rfl rfl) <| JLr (Ze ty25 rfl (At.bx 1 rfl) (Yl ..) <| JLq (pp b2 34) (Yu rfl rfl) <| JLr (Ze ty25 rfl (At.bx 0 rfl) (Yl ..) <| Jc Tryz.call33 rfl (fun hin => sameTerms_ct _ _ _ _ _ (RTs.mono (Hle.hu _ _) hks) (RTs.mono (Hle.hu _ _) hksu) (fun x hx y a b h _ ra rb => ih x hx y a b h ra rb)) rfl ?_))
   rintro _ _ ⟨rfl, rfl⟩
   exact Zb ⟨⟨rfl, trivial⟩, rfl⟩
  | false =>
   exact ZH rfl ⟨rfl, trivial⟩
 refine JLn (Pu.pickAnd rfl rfl rfl) <| JLM rfl <| Zx 5 [32, 33, 34, 35, 36] [(36, cond ((((decide (kind = u.kind)) && (decide (num = u.num))) && (decide (ref = u.ref))) && (decide (kids = (u.kids)))) (.bool (decide (cases = (u.cases)))) undef)] ?_ fun f10 => ?_
 ·cases h9 : ((((decide (kind = u.kind)) && (decide (num = u.num))) && (decide (ref = u.ref))) && (decide (kids = (u.kids)))) with
  | true =>
   obtain ⟨h9a, h9b⟩ := YC h9
   obtain ⟨h9aa, h9ab⟩ := YC h9a
   obtain ⟨h9aaa, h9aab⟩ := YC h9aa
   replace h9aaa := dt h9aaa
   replace h9aab := dt h9aab
   replace h9ab := dt h9ab
   replace h9b := dt h9b
   refine JLq (pp b1 35) (YQ rfl rfl) <| JLr (Ze ty26 rfl (At.bx 1 rfl) (YA ..) <| JLq (pp b2 35) (YQ rfl rfl) <| JLr (Ze ty26 rfl (At.bx 0 rfl) (YA ..) <| Jc Tryz.call34 rfl (fun hin => eqFuncC_ct 35 [] [] (fun _ _ => rfl) _ _ _ _ _ (RCs.mono (Hle.hu _ _) hcv) (RCs.mono (Hle.hu _ _) hcvu) (fun x hx y hy a b h hh ra rb => sameCase_ct x y a b h ra rb (fun h' a' b' _ r1 r2 => ih' x hx y.2 a' b' h' r1 r2))) rfl ?_))
   rintro _ _ ⟨rfl, rfl⟩
   exact Zb ⟨⟨rfl, trivial⟩, rfl⟩
  | false =>
   exact ZH rfl ⟨rfl, trivial⟩
 refine JLn (Pu.pickAnd rfl rfl rfl) <| JLA rfl <| Zb <| Zk <| ⟨.bool (((((decide (kind = u.kind)) && (decide (num = u.num))) && (decide (ref = u.ref))) && (decide (kids = (u.kids)))) && (decide (cases = (u.cases)))), [], Ret.one rfl (RV.tmp rfl), Sub.nil, ?_⟩
 exact ⟨congrArg Value.bool (eqTd ..), rfl⟩
end Go.Proofs.YtjhenmdcnbaobaaGreat.Hs
/-! A store of drawn numbers: words on its operations. -/
namespace Go.Proofs.YtjhenmdcnbaobaaGreat.Hs
open Go Go.Proofs
set_option maxRecDepth 100000
/-- What a xor of two words is. -/
def xr (a b : Int) : Int := IntKind.u64.wrap ((BitVec.ofInt IntKind.u64.bits a ^^^ BitVec.ofInt IntKind.u64.bits b).toNat : Int)
/-- The next seed. -/
def nx (a : Int) : Int := IntKind.u64.wrap (IntKind.u64.wrap (a * 6364136223846793005) + 1442695040888963407)
theorem wrap_u64 (x : Int) : 0 ≤ IntKind.u64.wrap x ∧ IntKind.u64.wrap x < 18446744073709551616 := by
  have e : IntKind.u64.wrap x = x % 18446744073709551616 := rfl
  rw [e]; omega
theorem nx_range (a : Int) : 0 ≤ (nx a).fdiv 1099511627776 ∧ (nx a).fdiv 1099511627776 < 16777216 := by
  have h := wrap_u64 (IntKind.u64.wrap (a * 6364136223846793005) + 1442695040888963407)
  rw [Int.fdiv_eq_ediv_of_nonneg _ (by decide)]
  unfold nx
  omega
section
variable {P : Program} {e : Operand → Value} {d : Option Nat} {ot : TypeId} {pos : String} {af : Array Edge} {g : Option (Nat × Bool)} {T T' : TypeId} {x y z : Operand} {k : IntKind} {a b : Int} {ats : Array TypeId}
theorem Pu.xor (hx : e x = .int .u64 a) (hy : e y = .int .u64 b) : Pu P e ⟨d, .binOp .xor T x y T', ot, pos, af, g⟩ (.int .u64 (xr a b)) := fun w => by
  simp only [execOp, hx, hy, eqGuard, binOp, Op.intBits]; simp [xr]
theorem Pu.shr {k' : IntKind} (hx : e x = .int k a) (hy : e y = .int k' 40) (hk : min 40 k.bits = 40) : Pu P e ⟨d, .binOp .shr T x y T', ot, pos, af, g⟩ (.int k (a.fdiv 1099511627776)) := fun w => by
  have h40 : (40 : Int).toNat = 40 := rfl
  have hp : (2 : Int) ^ 40 = 1099511627776 := by decide
  simp only [execOp, hx, hy, eqGuard, binOp, Op.shift, h40, hk, hp]; simp
theorem Pu.min2 {v : Int} (hx : e x = .int k a) (hy : e y = .int k b) (hv : (if b < a then b else a) = v) : Pu P e ⟨d, .call { callee := .builtin .min, args := #[x, y], argTypes := ats }, ot, pos, af, g⟩ (.int k v) := fun w => by
  subst hv
  simp [execOp, resolve, invoke, builtin, Builtin.min_, Builtin.min2, hx, hy]
end
/-- what a value holds -/
def ivl : Value → Int
  | .int _ n => n
  | _ => 0
def cll : Value → List Value
  | .agg ⟨l⟩ => l
  | _ => []
def sth (c : Zf) (i : Nat) : Int := match c with
  | (_, .cells ⟨l⟩ _ _) :: _ => ivl (l.getD i undef)
  | _ => 0
/-- A digest with one byte. -/
def smOne (n : UInt8) : Sm := zS.set 0 n
theorem smOne_cells (n : UInt8) : sC (smOne n) = .int .u8 (n.toNat : Int) :: (sC zS).drop 1 := rfl
theorem w8 {n : Int} (h : 0 ≤ n ∧ n < 256) : IntKind.u8.wrap n = n := by
  have e : IntKind.u8.wrap n = n % 256 := rfl
  rw [e]; omega
theorem bldS1 (n : Int) (h0 : 0 ≤ n) (h1 : n < 256) : ∀ w, (Instr.build 24 ⟨[(0, .int .u8 n)]⟩).run Tryz.prog w = .ok (.agg ⟨sC (smOne (UInt8.ofNat n.toNat))⟩) w := by
  have e0 : ((UInt8.ofNat n.toNat).toNat : Int) = n := by
    rw [UInt8.toNat_ofNat']; omega
  rw [smOne_cells, e0]
  exact run_buildA Tryz.zeroValue24 Tryz.runUnderlying24 Tryz.sizeOf5 rfl
/-- The digest that cells are. -/
noncomputable def sml (v : Value) : Sm := by
  classical exact if h : ∃ r, v = .agg ⟨sC r⟩ then h.choose else zS
theorem sml_eq (r : Sm) : Value.agg ⟨sC r⟩ = .agg ⟨sC (sml (.agg ⟨sC r⟩))⟩ := by
  have h : ∃ q, Value.agg ⟨sC r⟩ = .agg ⟨sC q⟩ := ⟨r, rfl⟩
  unfold sml
  rw [dif_pos h]
  exact h.choose_spec
theorem bldMk (b : Nat) (n : Int) : ∀ w, (Instr.build 119 ⟨[(0, .pointer (some ⟨b, 0, none⟩)), (1, .int .i64 n)]⟩).run Tryz.prog w = .ok (.agg ⟨[.pointer (some ⟨b, 0, none⟩), .int .i64 n]⟩) w :=
  ZL Tryz.zeroValue119 Tryz.runUnderlying119 pl119 (by kernel_rfl)
theorem bldSt {v : Value} {a : Option Addr} {n c : Nat} (s : Int) (hv : v = .slice a n c) : ∀ w, (Instr.build 69 ⟨[(0, v), (2, .int .u64 s)]⟩).run Tryz.prog w = .ok (.agg ⟨[v, .int .i64 0, .int .u64 s]⟩) w := by
  subst hv
  exact ZL Tryz.zeroValue69 Tryz.runUnderlying69 pl69 (by kernel_rfl)
/-- A slice of bytes with its room. -/
def bytesR (H : Heap) (v : Value) (l : List Int) : Prop := ∃ a cap, v = .slice a l.length cap ∧ l.length ≤ cap ∧ Hs.rdS RB 1 H v l
theorem bytesR.mono {h h' : Heap} (hh : Hle h h') {v : Value} {l : List Int} (q : bytesR h v l) : bytesR h' v l := by
  obtain ⟨a, cap, e, h1, h2⟩ := q
  exact ⟨a, cap, e, h1, RBs.mono hh h2⟩
theorem rd_take {E : Heap → List Value → Int → Prop} {sz : Nat} {h : Heap} {l : List Int} {a : Option Addr} {N cap cap' : Nat} (r : Hs.rdS E sz h (.slice a N cap) l) (n : Nat) (hn : n ≤ l.length) : Hs.rdS E sz h (.slice (if cap = 0 then a else a.map (·.add (0 * sz))) n cap') (l.take n) := by
  have ea : (if cap = 0 then a else a.map (·.add (0 * sz))) = a := by
    cases a with
    | none => simp
    | some a => simp [Addr.add]
  rw [ea]
  have hln : (l.take n).length = n := by rw [List.length_take]; omega
  obtain ⟨a', c', e, h1, h0⟩ := r
  cases e
  refine ⟨a, cap', by rw [hln], by rw [hln]; omega, ?_⟩
  rcases h0 with h0 | ⟨b, o, row, T, fr, e1, e2, e3⟩
  · left; omega
  · right
    refine ⟨b, o, row, T, fr, e1, e2, rows.mk fun i hi => ?_⟩
    rw [List.length_take] at hi
    obtain ⟨cs, h2, h3⟩ := e3.get i (by omega)
    exact ⟨cs, h2, by rw [List.getElem_take]; exact h3⟩
section
variable {c : Cx} {H : Heap} {ρ : Nat → Value} {M : List Zf} {K : Value → List Zf → Prop} {d : Option Nat} {ot : TypeId} {pos : String} {af : Array Edge} {g : Option (Nat × Bool)} {x y : Operand}
/-- the first ones of a slice of bytes -/
theorem Runs_sliceTo {T el : TypeId} {k : IntKind} {v : Value} {l : List Int} {H0 : Heap} {n : Nat} (hp : bytesR H0 v l) (hn : n ≤ l.length) (hT : ∀ w, (underlying T).run c.P w = .ok (.slice el) w) (hsz : ∀ w, (sizeOf el).run c.P w = .ok 1 w) (hx : ev c.n ρ x = v) (hy : ev c.n ρ y = .int k ((n : Nat) : Int))
    (h : ∀ u, (∀ h, Hs.rdS RB 1 h v l → Hs.rdS RB 1 h u (l.take n)) → K u M) : Runs c H ⟨d, .slice T x none (some y) none, ot, pos, af, g⟩ ρ M K := fun F w m => by
  obtain ⟨a, cap, rfl, h1, h2⟩ := hp
  refine ⟨_, w, M, .inl ?_, m, h (.slice (if cap = 0 then a else a.map (·.add (0 * 1))) n cap) (fun h' q => rd_take q n hn)⟩
  have : ((n : Int) ≤ (cap : Int)) := by omega
  have h3 : n ≤ cap := by omega
  simp [execOp, Instr.sliceAt, Instr.slice, Instr.sliceBounds, Instr.sliceBound, asIntOf, hx, hy, hT, hsz, Result.andThen, h3]
end
end Go.Proofs.YtjhenmdcnbaobaaGreat.Hs
/-! Walks, printed by a program of this session's own (gen.py). -/
namespace Go.Proofs.YtjhenmdcnbaobaaGreat.Hs
open Go Go.Proofs
set_option maxRecDepth 100000
set_option linter.unusedVariables false
set_option linter.unusedSimpArgs false
attribute [local irreducible] JL J CT wlo DT
theorem draw_ct (bS : Nat) (v : Value) (l : List Int) (a s : Int) (H : Heap) (hv : Hs.rdS RB 1 H v l) (ha0 : 0 ≤ a) (ha1 : a ≤ 2000000000) : CT Tryz.prog 131 ⟨[pp bS 0]⟩ [(BX bS [v, iv a, .int .u64 s] 69)] H (fun r N => ∃ n a' s', r = iv n ∧ N = [(BX bS [v, iv (a'), .int .u64 (s')] 69)] ∧ (0 ≤ n ∧ n < 16777216) ∧ (a ≤ a' ∧ a' ≤ a + 1)) := by
 refine Zl Tryz.func131 rfl rfl <| Zc <| Za <| JLA rfl <| Zb <| Zc <| Zc <| Za <| JLM rfl <| JLq (pp bS 0) (Pu.nilCheck rfl) <| JLq (pp bS 0) (fa69_0 rfl rfl) <| JLr (Ze ty22 rfl (At.bx 0 rfl) rfl ?_)
 obtain ⟨a1, cap1, hv1⟩ := hv.sl
 have hle1 := hv.le
 refine JLn (Pu.lenSl Tryz.runUnderlying22 hv1) <| JLn (Pu.gtr rfl rfl) <| Zb <| Zg rfl (fun h2 => ?_) (fun h2 => ?_)
 ·replace h2 := dt h2
  refine Zc <| ZV mixed #[0, 1, 3, 7, 0, 16, 48, 112, 0, 256, 768, 1792, 0, 4096, 12288, 28672, 61440, 130816, 262128, 524272, 1048560, 2097151, 4194303, 8388607, 16777215] 21 [some 9, some 10, some 11, some 12, some 13, some 14, some 15, some 16, some 17, some 18, some 19, some 20, some 21, some 22, some 23, some 24, some 25, some 26, some 27, some 28, some 29] [] [] rfl (by kernel_rfl) rfl (by kernel_rfl) <| DM (fun _ => rfl) <| Dq (pp bS 0) (fun _ => Pu.nilCheck rfl) <| Dq (pp bS 2) (fun _ => fa69_2 rfl rfl) <| Dl1 ty67 (At.bx 0 rfl) rfl <| DM (fun _ => rfl) <| Dq (pp bS 0) (fun _ => Pu.nilCheck rfl) <| Dq (pp bS 0) (fun _ => fa69_0 rfl rfl) <| Dl1 ty22 (At.bx 0 rfl) rfl <| DM (fun _ => rfl) <| Dq (pp bS 0) (fun _ => Pu.nilCheck rfl) <| Dq (pp bS 1) (fun _ => fa69_1 rfl rfl) ?_
  refine Dl1 ty3 (At.bx 0 rfl) rfl <| DM (fun _ => rfl) <| Dq (pp bS 0) (fun _ => Pu.nilCheck rfl) <| Dq (pp bS 0) (fun _ => fa69_0 rfl rfl) <| Dl1 ty22 (At.bx 0 rfl) rfl ?_
  obtain ⟨a6, cap6, hv6⟩ := hv.sl
  have hle6 := hv.le
  refine Dn (fun _ => Pu.lenSl Tryz.runUnderlying22 hv6) ?_
  have hrm7 : 0 ≤ a % ((l.length : Int)) ∧ a % ((l.length : Int)) < (l.length : Int) := ⟨Int.emod_nonneg _ (by omega), Int.emod_lt_of_pos _ (by omega)⟩
  refine Dq (iv (a % ((l.length : Int)))) (fun _ => Pu.rem rfl rfl (by omega) (Int.tmod_eq_emod_of_nonneg (by omega))) ?_
  obtain ⟨b8, o8, cap8, row8, T8, fr8, cs8, hv8, hb8, hs8, hE8⟩ := hv.get (a % ((l.length : Int))).toNat (by first | assumption | omega | decide | simp)
  refine Dq (pp b8 (o8 + (a % ((l.length : Int))).toNat * 1)) (fun _ => Pu.idx (a % ((l.length : Int))).toNat Tryz.runUnderlying22 ty5 hv8 rfl (by first | rfl | omega) (by first | assumption | omega | decide | simp)) <| Dl1 ty5 (At.im hb8) (Yx ((show cs8 = [Value.int .u8 (l[(a % ((l.length : Int))).toNat])] from hE8) ▸ hs8)) <| Dq (.int .u64 (IntKind.u64.wrap (l[(a % ((l.length : Int))).toNat]))) (fun _ => Pu.conv Tryz.runUnderlying5 Tryz.runUnderlying67 rfl rfl) <| Yb (M' := [(BX bS [v, iv a, .int .u64 s] 69)]) rfl ?_
  show JL _ _ _ [_, _, _, _] _ _ _
  refine JLq (.int .u64 (xr s (IntKind.u64.wrap (l[(a % ((l.length : Int))).toNat])))) (Pu.xor rfl rfl) <| JLq (pp bS 0) (Pu.nilCheck rfl) <| JLq (pp bS 2) (fa69_2 rfl rfl) <| JLr (Zd 0 (vs := [.int .u64 (xr s (IntKind.u64.wrap (l[(a % ((l.length : Int))).toNat])))]) (l := [v, iv a, .int .u64 (xr s (IntKind.u64.wrap (l[(a % ((l.length : Int))).toNat])))]) ty67 rfl rfl rfl rfl rfl (Zj rfl Zt) rfl <| Zb <| Za <| JLM rfl <| JLq (pp bS 0) (Pu.nilCheck rfl) <| JLq (pp bS 1) (fa69_1 rfl rfl) <| JLr (Ze ty3 rfl (At.bx 0 rfl) rfl <| JLn (Pu.add64 rfl rfl (by first | omega | (constructor <;> omega))) <| JLq (pp bS 0) (Pu.nilCheck rfl) <| JLq (pp bS 1) (fa69_1 rfl rfl) ?_))
  refine JLr (Zd 0 (vs := [iv (a + 1)]) (l := [v, iv (a + 1), .int .u64 (xr s (IntKind.u64.wrap (l[(a % ((l.length : Int))).toNat])))]) ty3 rfl rfl rfl rfl rfl (Zj rfl Zt) rfl <| Zb <| Zc <| Za <| JLM rfl <| JLM rfl <| JLq (pp bS 0) (Pu.nilCheck rfl) <| JLq (pp bS 2) (fa69_2 rfl rfl) <| JLr (Ze ty67 rfl (At.bx 0 rfl) rfl <| JLq (.int .u64 (IntKind.u64.wrap (xr s (IntKind.u64.wrap (l[(a % ((l.length : Int))).toNat])) * 6364136223846793005))) (Pu.arithM rfl rfl rfl) <| JLq (.int .u64 (nx (xr s (IntKind.u64.wrap (l[(a % ((l.length : Int))).toNat]))))) (Pu.arith rfl rfl rfl) <| JLq (pp bS 0) (Pu.nilCheck rfl) <| JLq (pp bS 2) (fa69_2 rfl rfl) ?_))
  refine JLr (Zd 0 (vs := [.int .u64 (nx (xr s (IntKind.u64.wrap (l[(a % ((l.length : Int))).toNat]))))]) (l := [v, iv (a + 1), .int .u64 (nx (xr s (IntKind.u64.wrap (l[(a % ((l.length : Int))).toNat]))))]) ty67 rfl rfl rfl rfl rfl (Zj rfl Zt) rfl <| Zb <| Zc <| Za <| JLM rfl <| JLq (pp bS 0) (Pu.nilCheck rfl) <| JLq (pp bS 2) (fa69_2 rfl rfl) <| JLr (Ze ty67 rfl (At.bx 0 rfl) rfl ?_))
  have hnx9 := nx_range (xr s (IntKind.u64.wrap (l[(a % ((l.length : Int))).toNat])))
  refine JLq (.int .u64 ((nx (xr s (IntKind.u64.wrap (l[(a % ((l.length : Int))).toNat])))).fdiv 1099511627776)) (Pu.shr rfl rfl rfl) <| JLq (iv ((nx (xr s (IntKind.u64.wrap (l[(a % ((l.length : Int))).toNat])))).fdiv 1099511627776)) (Pu.conv Tryz.runUnderlying67 Tryz.runUnderlying3 rfl (w64 (by omega))) <| JLA rfl <| Zb <| Zk <| ⟨iv ((nx (xr s (IntKind.u64.wrap (l[(a % ((l.length : Int))).toNat])))).fdiv 1099511627776), [(BX bS [v, iv (a + 1), .int .u64 (nx (xr s (IntKind.u64.wrap (l[(a % ((l.length : Int))).toNat]))))] 69)], Ret.one rfl (RV.tmp rfl), (Sk Sub.nil), ?_⟩
  exact ⟨_, _, _, rfl, rfl, by omega, by omega⟩
 replace h2 := df h2
 refine Zm <| Zc <| Za <| JLM rfl <| JLM rfl <| JLq (pp bS 0) (Pu.nilCheck rfl) <| JLq (pp bS 2) (fa69_2 rfl rfl) <| JLr (Ze ty67 rfl (At.bx 0 rfl) rfl <| JLq (.int .u64 (IntKind.u64.wrap (s * 6364136223846793005))) (Pu.arithM rfl rfl rfl) <| JLq (.int .u64 (nx s)) (Pu.arith rfl rfl rfl) <| JLq (pp bS 0) (Pu.nilCheck rfl) <| JLq (pp bS 2) (fa69_2 rfl rfl) <| JLr (Zd 0 (vs := [.int .u64 (nx s)]) (l := [v, iv a, .int .u64 (nx s)]) ty67 rfl rfl rfl rfl rfl (Zj rfl Zt) rfl ?_))
 refine Zb <| Zc <| Za <| JLM rfl <| JLq (pp bS 0) (Pu.nilCheck rfl) <| JLq (pp bS 2) (fa69_2 rfl rfl) <| JLr (Ze ty67 rfl (At.bx 0 rfl) rfl ?_)
 have hnx10 := nx_range s
 refine JLq (.int .u64 ((nx s).fdiv 1099511627776)) (Pu.shr rfl rfl rfl) <| JLq (iv ((nx s).fdiv 1099511627776)) (Pu.conv Tryz.runUnderlying67 Tryz.runUnderlying3 rfl (w64 (by omega))) <| JLA rfl <| Zb <| Zk <| ⟨iv ((nx s).fdiv 1099511627776), [(BX bS [v, iv a, .int .u64 (nx s)] 69)], Ret.one rfl (RV.tmp rfl), (Sk Sub.nil), ?_⟩
 exact ⟨_, _, _, rfl, rfl, by omega, by omega⟩
theorem Yz (bS : Nat) (v : Value) (l : List Int) (a s : Int) (H : Heap) (hv : Hs.rdS RB 1 H v l) (ha0 : 0 ≤ a) (ha1 : a ≤ 2000000000) (m : Int) : CT Tryz.prog 96 ⟨[pp bS 0, iv m]⟩ [(BX bS [v, iv a, .int .u64 s] 69)] H (fun r N => ∃ n a' s', r = iv n ∧ N = [(BX bS [v, iv (a'), .int .u64 (s')] 69)] ∧ (0 ≤ n ∧ (0 < m → n < m) ∧ (m ≤ 0 → n = 0)) ∧ (a ≤ a' ∧ a' ≤ a + 1)) := by
 refine Zl Tryz.func96 rfl rfl <| Zc <| Za <| JLA rfl <| Zb <| Zc <| Zc <| Za <| JLM rfl <| JLn (Pu.leq rfl rfl) <| Zb <| Zg rfl (fun h1 => ?_) (fun h1 => ?_)
 ·replace h1 := dt h1
  refine Zc <| Za <| JLA rfl <| Zb <| Zk <| ⟨iv 0, [(BX bS [v, iv a, .int .u64 s] 69)], Ret.one rfl (RV.tmp rfl), (Sk Sub.nil), ?_⟩
  exact ⟨_, _, _, rfl, rfl, by omega, by omega⟩
 replace h1 := df h1
 refine Zm <| Zc <| Za <| JLM rfl <| Zq 0 rfl Tryz.call131 rfl rfl (fun hin => draw_ct _ _ _ _ _ _ (RBs.mono (Hle.hu _ _) hv) (by omega) (by omega)) rfl ?_
 rintro _ _ ⟨n2, a2, s2, rfl, rfl, hn2, ha2⟩
 refine JLM rfl ?_
 have hrm3 : 0 ≤ n2 % m ∧ n2 % m < m := ⟨Int.emod_nonneg _ (by omega), Int.emod_lt_of_pos _ (by omega)⟩
 refine JLq (iv (n2 % m)) (Pu.rem rfl rfl (by omega) (Int.tmod_eq_emod_of_nonneg (by omega))) <| JLA rfl <| Zb <| Zk <| ⟨iv (n2 % m), [(BX bS [v, iv a2, .int .u64 s2] 69)], Ret.one rfl (RV.tmp rfl), (Sk Sub.nil), ?_⟩
 exact ⟨_, _, _, rfl, rfl, by omega, by omega⟩
theorem from_ct (bS : Nat) (v : Value) (l : List Int) (a s : Int) (H : Heap) (hv : Hs.rdS RB 1 H v l) (ha0 : 0 ≤ a) (ha1 : a ≤ 2000000000) (lo hi : Int) (h0 : -1000 ≤ lo) (h1 : lo ≤ hi) (h2 : hi ≤ 1000) : CT Tryz.prog 102 ⟨[pp bS 0, iv lo, iv hi]⟩ [(BX bS [v, iv a, .int .u64 s] 69)] H (fun r N => ∃ n a' s', r = iv n ∧ N = [(BX bS [v, iv (a'), .int .u64 (s')] 69)] ∧ (lo ≤ n ∧ n ≤ hi) ∧ (a ≤ a' ∧ a' ≤ a + 1)) := by
 refine Zl Tryz.func102 rfl rfl <| Zc <| Za <| JLA rfl <| Zb <| Zc <| Za <| JLM rfl <| JLM rfl <| JLM rfl <| JLM rfl <| JLn (Pu.sub64 rfl rfl (by first | omega | (constructor <;> omega))) <| JLn (Pu.add64 rfl rfl (by first | omega | (constructor <;> omega))) ?_
 refine Zq 0 rfl Tryz.call96 rfl rfl (fun hin => Yz _ _ _ _ _ _ (RBs.mono (Hle.hu _ _) hv) (by omega) (by omega) _) rfl ?_
 rintro _ _ ⟨n1, a1, s1, rfl, rfl, hn1, ha1⟩
 refine JLn (Pu.add64 rfl rfl (by first | omega | (constructor <;> omega))) <| JLA rfl <| Zb <| Zk <| ⟨iv (lo + n1), [(BX bS [v, iv a1, .int .u64 s1] 69)], Ret.one rfl (RV.tmp rfl), (Sk Sub.nil), ?_⟩
 exact ⟨_, _, _, rfl, rfl, by omega, by omega⟩
theorem sum_ct (bS : Nat) (v : Value) (l : List Int) (a s : Int) (H : Heap) (hv : Hs.rdS RB 1 H v l) (ha0 : 0 ≤ a) (ha1 : a ≤ 2000000000) (f m : Int) (h0 : 0 ≤ f) (h1 : 1 ≤ m) (h2 : f + m ≤ 256) : CT Tryz.prog 99 ⟨[pp bS 0, iv f, iv m]⟩ [(BX bS [v, iv a, .int .u64 s] 69)] H (fun r N => ∃ n a' s', r = .agg ⟨sC n⟩ ∧ N = [(BX bS [v, iv (a'), .int .u64 (s')] 69)] ∧ (a ≤ a' ∧ a' ≤ a + 1)) := by
 refine Zl Tryz.func99 rfl rfl <| Zc <| Za <| JLr (Zh (l := sC zS) Tryz.zeroValue24 rfl fun b1 => Zb <| Zc <| Za <| JLM rfl <| JLM rfl <| JLM rfl <| JLM rfl <| JLn (Pu.add64 rfl rfl (by first | omega | (constructor <;> omega))) <| JLn (Pu.sub64 rfl rfl (by first | omega | (constructor <;> omega))) ?_)
 refine Zq 1 rfl Tryz.call102 rfl rfl (fun hin => from_ct _ _ _ _ _ _ (RBs.mono (Hle.hu _ _) hv) (by omega) (by omega) _ _ (by omega) (by omega) (by omega)) rfl ?_
 rintro _ _ ⟨n2, a2, s2, rfl, rfl, hn2, ha2⟩
 refine JLq (.int .u8 n2) (Pu.conv Tryz.runUnderlying3 Tryz.runUnderlying5 rfl (w8 (by omega))) <| JLq (.agg ⟨sC (smOne (UInt8.ofNat n2.toNat))⟩) (Pu.build (pv := [(0, .int .u8 n2)]) (l := sC (smOne (UInt8.ofNat n2.toNat))) rfl (bldS1 _ (by omega) (by omega))) <| JLr (Zd 1 (vs := sC (smOne (UInt8.ofNat n2.toNat))) (l := sC (smOne (UInt8.ofNat n2.toNat))) ty24 rfl rfl rfl rfl rfl (sC_ok _) (ZD rfl rfl) <| Zb <| Zk <| ⟨.agg ⟨sC (smOne (UInt8.ofNat n2.toNat))⟩, [(BX bS [v, iv a2, .int .u64 s2] 69)], Ret.one rfl (RV.cell ty24 rfl (At.bx 1 rfl) (Zu rfl)), (Sk Sub.nil), ?_⟩)
 exact ⟨_, _, _, rfl, rfl, by omega⟩
theorem pc_ct (f : Sm) (n : Int) (sa : Option Addr) (sn sc : Nat) (H : Heap) : CT Tryz.prog 132 ⟨[.agg ⟨sC f⟩, iv n, .slice sa sn sc]⟩ [] H (fun r N => r = .agg ⟨pkP 3 n f (.slice sa sn sc)⟩ ∧ N = []) := by
 refine Zl Tryz.func132 rfl rfl <| Zc <| Za <| JLr (Zp (l := sC f) rfl rfl fun b1 => JLr (Zh (l := pkP 0 0 zS nS) Tryz.zeroValue85 rfl fun b2 => Zb <| Zc <| Za <| JLr (Zi ty24 rfl (At.bx 1 rfl) (Zu rfl) <| JLM rfl <| JLM rfl <| JLq (.agg ⟨pkP 3 n f (.slice sa sn sc)⟩) (Pu.build (pv := [(0, iv 3), (2, .agg ⟨sC f⟩), (1, iv n), (3, .slice sa sn sc)]) (l := pkP 3 n f (.slice sa sn sc)) rfl (bld85_0_2_1_3 _ _ _ _ _ _)) <| JLr (Zd 0 (vs := pkP 3 n f (.slice sa sn sc)) (l := pkP 3 n f (.slice sa sn sc)) Z0 rfl rfl rfl rfl rfl (pkP_ok rfl) (pkP_s ..) ?_))))
 refine Zb <| Zk <| ⟨.agg ⟨pkP 3 n f (.slice sa sn sc)⟩, [], Ret.one rfl (RV.cell Z0 rfl (At.bx 0 rfl) (pkP_a ..)), Sub.nil, ?_⟩
 exact ⟨rfl, rfl⟩
theorem pn_ct (n : Int) (H : Heap) : CT Tryz.prog 133 ⟨[iv n]⟩ [] H (fun r N => r = .agg ⟨pkP 2 n zS nS⟩ ∧ N = []) := by
 refine Zl Tryz.func133 rfl rfl <| Zc <| Za <| JLr (Zh (l := pkP 0 0 zS nS) Tryz.zeroValue85 rfl fun b1 => Zb <| Zc <| Za <| JLM rfl <| JLq (.agg ⟨pkP 2 n zS nS⟩) (Pu.build (pv := [(0, iv 2), (1, iv n)]) (l := pkP 2 n zS nS) rfl (bld85_0_1 _ _)) <| JLr (Zd 0 (vs := pkP 2 n zS nS) (l := pkP 2 n zS nS) Z0 rfl rfl rfl rfl rfl (pkP_ok rfl) (pkP_s ..) <| Zb <| Zk <| ⟨.agg ⟨pkP 2 n zS nS⟩, [], Ret.one rfl (RV.cell Z0 rfl (At.bx 0 rfl) (pkP_a ..)), Sub.nil, ?_⟩))
 exact ⟨rfl, rfl⟩
theorem any_ct  (H : Heap) : CT Tryz.prog 134 ⟨[]⟩ [] H (fun r N => r = .agg ⟨pkP 1 0 zS nS⟩ ∧ N = []) := by
 refine Zl Tryz.func134 rfl rfl <| Zc <| Za <| JLr (Zh (l := pkP 0 0 zS nS) Tryz.zeroValue85 rfl fun b1 => Zb <| Zc <| Za <| JLq (.agg ⟨pkP 1 0 zS nS⟩) (Pu.build (pv := [(0, iv 1)]) (l := pkP 1 0 zS nS) rfl (bld85_0 _)) <| JLr (Zd 0 (vs := pkP 1 0 zS nS) (l := pkP 1 0 zS nS) Z0 rfl rfl rfl rfl rfl (pkP_ok rfl) (pkP_s ..) <| Zb <| Zk <| ⟨.agg ⟨pkP 1 0 zS nS⟩, [], Ret.one rfl (RV.cell Z0 rfl (At.bx 0 rfl) (pkP_a ..)), Sub.nil, ?_⟩))
 exact ⟨rfl, rfl⟩
theorem co_ct (f : Sm) (n : Int) (sa : Option Addr) (sn sc : Nat) (H : Heap) : CT Tryz.prog 107 ⟨[.agg ⟨sC f⟩, iv n, .slice sa sn sc]⟩ [] H (fun r N => r = .agg ⟨pkT 8 n f (.slice sa sn sc) nS⟩ ∧ N = []) := by
 refine Zl Tryz.func107 rfl rfl <| Zc <| Za <| JLr (Zp (l := sC f) rfl rfl fun b1 => JLr (Zh (l := pkT 0 0 zS nS nS) Tryz.zeroValue28 rfl fun b2 => Zb <| Zc <| Za <| JLr (Zi ty24 rfl (At.bx 1 rfl) (Zu rfl) <| JLM rfl <| JLM rfl <| JLq (.agg ⟨pkT 8 n f (.slice sa sn sc) nS⟩) (Pu.build (pv := [(0, iv 8), (2, .agg ⟨sC f⟩), (1, iv n), (3, .slice sa sn sc)]) (l := pkT 8 n f (.slice sa sn sc) nS) rfl (bld28_0_2_1_3 _ _ _ _ _ _)) <| JLr (Zd 0 (vs := pkT 8 n f (.slice sa sn sc) nS) (l := pkT 8 n f (.slice sa sn sc) nS) Zs rfl rfl rfl rfl rfl (ZA rfl rfl) (Z1 ..) ?_))))
 refine Zb <| Zk <| ⟨.agg ⟨pkT 8 n f (.slice sa sn sc) nS⟩, [], Ret.one rfl (RV.cell Zs rfl (At.bx 0 rfl) (ZX ..)), Sub.nil, ?_⟩
 exact ⟨rfl, rfl⟩
theorem se_ct (n : Int) (H : Heap) : CT Tryz.prog 97 ⟨[iv n]⟩ [] H (fun r N => r = .agg ⟨pkT 7 n zS nS nS⟩ ∧ N = []) := by
 refine Zl Tryz.func97 rfl rfl <| Zc <| Za <| JLr (Zh (l := pkT 0 0 zS nS nS) Tryz.zeroValue28 rfl fun b1 => Zb <| Zc <| Za <| JLM rfl <| JLq (.agg ⟨pkT 7 n zS nS nS⟩) (Pu.build (pv := [(0, iv 7), (1, iv n)]) (l := pkT 7 n zS nS nS) rfl (bld28_0_1 _ _)) <| JLr (Zd 0 (vs := pkT 7 n zS nS nS) (l := pkT 7 n zS nS nS) Zs rfl rfl rfl rfl rfl (ZA rfl rfl) (Z1 ..) <| Zb <| Zk <| ⟨.agg ⟨pkT 7 n zS nS nS⟩, [], Ret.one rfl (RV.cell Zs rfl (At.bx 0 rfl) (ZX ..)), Sub.nil, ?_⟩))
 exact ⟨rfl, rfl⟩
theorem de_ct (f : Sm) (H : Heap) : CT Tryz.prog 98 ⟨[.agg ⟨sC f⟩]⟩ [] H (fun r N => r = .agg ⟨pkT 6 0 f nS nS⟩ ∧ N = []) := by
 refine Zl Tryz.func98 rfl rfl <| Zc <| Za <| JLr (Zp (l := sC f) rfl rfl fun b1 => JLr (Zh (l := pkT 0 0 zS nS nS) Tryz.zeroValue28 rfl fun b2 => Zb <| Zc <| Za <| JLr (Zi ty24 rfl (At.bx 1 rfl) (Zu rfl) <| JLq (.agg ⟨pkT 6 0 f nS nS⟩) (Pu.build (pv := [(0, iv 6), (2, .agg ⟨sC f⟩)]) (l := pkT 6 0 f nS nS) rfl (bld28_0_2 _ _)) <| JLr (Zd 0 (vs := pkT 6 0 f nS nS) (l := pkT 6 0 f nS nS) Zs rfl rfl rfl rfl rfl (ZA rfl rfl) (Z1 ..) <| Zb <| Zk ?_))))
 refine ⟨.agg ⟨pkT 6 0 f nS nS⟩, [], Ret.one rfl (RV.cell Zs rfl (At.bx 0 rfl) (ZX ..)), Sub.nil, ?_⟩
 exact ⟨rfl, rfl⟩
end Go.Proofs.YtjhenmdcnbaobaaGreat.Hs
/-! Walks, printed by a program of this session's own (gen.py). -/
namespace Go.Proofs.YtjhenmdcnbaobaaGreat.Hs
open Go Go.Proofs
set_option maxRecDepth 100000
set_option linter.unusedVariables false
set_option linter.unusedSimpArgs false
attribute [local irreducible] JL J CT wlo DT
theorem pattern_ct : ∀ (dp : Nat) (bS : Nat) (v : Value) (l : List Int) (a s d : Int) (H : Heap), d = (dp : Int) → dp ≤ 2 → Hs.rdS RB 1 H v l → 0 ≤ a → a + ((dz dp : Nat) : Int) ≤ 1900000000 → CT Tryz.prog 105 ⟨[pp bS 0, iv d]⟩ [(BX bS [v, iv a, .int .u64 s] 69)] H (fun r N => ∃ p cs k a' s', r = .agg ⟨cs⟩ ∧ N = [(BX bS [v, iv (a'), .int .u64 (s')] 69), k] ∧ OP p cs k ∧ (YL p = 0 ∧ sizeP p ≤ pz dp) ∧ (a ≤ a' ∧ a' ≤ a + ((dz dp : Nat) : Int))) := by
 intro dp
 induction dp using Nat.strongRecOn with
 | _ dp ih =>
 intro bS v l a s d H hd hdp hv ha0 ha1
 have hdz := dz_le (show dp - 1 ≤ 2 by omega)
 have hdz2 := dz_ge dp
 refine Zl Tryz.func105 rfl rfl <| Zc <| Za <| JLr (Zh (l := pkP 0 0 zS nS) Tryz.zeroValue85 rfl fun b1 => Zb <| Zc <| Zc <| Za <| JLM rfl <| Zq 1 rfl Tryz.call96 rfl rfl (fun hin => Yz _ _ _ _ _ _ (RBs.mono (Hle.hu _ _) hv) (by omega) (by omega) _) rfl ?_)
 rintro _ _ ⟨n2, a2, s2, rfl, rfl, hn2, ha2⟩
 refine JLA rfl <| Zb <| Zo <| Zc <| Za <| JLM rfl <| JLn (Pu.gtr rfl rfl) <| JLM rfl <| Zx 2 [13, 14] [(14, cond (decide (0 < d)) (.bool (decide (n2 < 3))) undef)] ?_ fun f4 => ?_
 ·cases h3 : (decide (0 < d)) with
  | true =>
   replace h3 := dt h3
   refine JLM rfl <| JLn (Pu.lss rfl rfl) ?_
   exact Zb ⟨⟨rfl, trivial⟩, rfl⟩
  | false =>
   exact ZH rfl ⟨rfl, trivial⟩
 refine JLn (Pu.pickAnd rfl rfl rfl) <| JLA rfl <| Zb <| Zg rfl (fun h5 => ?_) (fun h5 => ?_)
 ·obtain ⟨h5a, h5b⟩ := YC h5
  replace h5a := dt h5a
  replace h5b := dt h5b
  refine Zc <| Za <| JLM rfl <| Zq 0 rfl Tryz.call99 rfl rfl (fun hin => sum_ct _ _ _ _ _ _ (RBs.mono (Hle.hu _ _) hv) (by omega) (by omega) _ _ (by omega) (by omega) (by omega)) rfl ?_
  rintro _ _ ⟨n6, a6, s6, rfl, rfl, ha6⟩
  refine JLM rfl <| Zq 0 rfl Tryz.call96 rfl rfl (fun hin => Yz _ _ _ _ _ _ (RBs.mono (Hle.hu _ _) hv) (by omega) (by omega) _) rfl ?_
  rintro _ _ ⟨n7, a7, s7, rfl, rfl, hn7, ha7⟩
  refine Jc Tryz.call132 rfl (fun hin => pc_ct _ _ none 0 0 _) rfl ?_
  rintro _ _ ⟨rfl, rfl⟩
  refine JLr (Zh (l := pkP 0 0 zS nS) Tryz.zeroValue85 rfl fun b8 => JLr (Zd 0 (vs := pkP 3 n7 n6 nS) (l := pkP 3 n7 n6 nS) Z0 rfl rfl rfl rfl rfl (pkP_ok rfl) (pkP_s ..) <| Zb <| Zc <| Zc <| Za <| JLM rfl <| Zq 1 rfl Tryz.call96 rfl rfl (fun hin => Yz _ _ _ _ _ _ (RBs.mono (Hle.hu _ _) hv) (by omega) (by omega) _) rfl ?_))
  rintro _ _ ⟨n9, a9, s9, rfl, rfl, hn9, ha9⟩
  refine JLM rfl <| Zb <| Zo <| ZP (fun k ρ M => ∃ (j : Nat) (ps : List Pt) (w : Value) (es : List (List Value)) (k1 k2 : Zf) (aw sw : Int), ρ 0 = pp bS 0 ∧ ρ 1 = iv d ∧ ρ 4 = pp b1 0 ∧ ρ 6 = pp b8 0 ∧ ρ 22 = iv n9 ∧ ρ 23 = iv ((j : Int)) ∧ Sub [(BX b8 (pkP 3 n7 n6 w) 85), k1, k2, (BX bS [v, iv aw, .int .u64 sw] 69), (BX b1 (pkP 0 0 zS nS) 85)] M ∧ (j : Int) ≤ n9 ∧ Own 85 35 w es k1 ∧ OPs ps es k2 ∧ ps.length = j ∧ YX ps = 0 ∧ ZR ps ≤ j * pz (dp - 1) ∧ (a9 ≤ aw ∧ aw ≤ a9 + ((j * dz (dp - 1) : Nat) : Int)) ∧ k = n9.toNat - j) _ ⟨0, [], nS, [], [], [], a9, s9, rfl, rfl, rfl, rfl, rfl, rfl, (Sub.cons 1 rfl (Sub.emp (Sub.emp (Sk (Sk Sub.nil))))), (by omega), Own.nil, OPs.nil, rfl, rfl, by simp [ZR], by omega, rfl⟩ ?_
  rintro _ ρ10 _ ⟨j, ps, w, es, k1, k2, aw, sw, e11, e12, e13, e14, e15, e16, hm17, hj, how, hopw, hpl, hpe, hps, hpa, rfl⟩
  obtain ⟨ρ18, rfl⟩ := Zn (uc e11 (uc e12 (uc e13 (uc e14 (uc e15 (uc e16 un))))))
  clear e11 e12 e13 e14 e15 e16
  refine Z6 hm17 <| Zc <| Za <| JLn (Pu.lss rfl rfl) <| Zb <| Zc <| Zg rfl (fun h19 => ?_) (fun h19 => ?_)
  ·replace h19 := dt h19
   have helw := OPs_len hopw
   have hmd := Nat.mul_le_mul_right (dz (dp - 1)) (show j + 1 ≤ 2 by omega)
   rw [Nat.succ_mul] at hmd
   have hmd2 := dz_pos (show 0 < dp by omega)
   refine Zm <| Zc <| Zo <| J_drawM mixed #[0, 1, 0, 0, 8, 28, 60, 127, 255, 511] 7 3 [5] rfl (by kernel_rfl) (by decide) rfl (by kernel_rfl) (fun i r20 N20 => match i with | 0 => (r20 0) = pp b8 34 | 1 => (r20 1) = w | 2 => (r20 2) = pp bS 0 | 3 => (r20 3) = iv d | 4 => (r20 4) = iv (d - 1) | 5 => (r20 5) = .agg ⟨(cll (r20 5))⟩ ∧ (cll (r20 5)).length = 35 ∧ okc (cll (r20 5)) ∧ ∃ pM kM aM sM, (N20 5) = (BX bS [v, iv aM, .int .u64 sM] 69) ++ kM ∧ OP pM (cll (r20 5)) kM ∧ (YL pM = 0 ∧ sizeP pM ≤ pz (dp - 1)) ∧ (aw ≤ aM ∧ aM ≤ aw + ((dz (dp - 1) : Nat) : Int)) | 6 => (r20 6) = .slice (some ⟨(YW (r20 6)), 0, none⟩) 1 1 ∧ (N20 6) = [(YW (r20 6), .cells ⟨List.flatten [(cll (r20 5))]⟩ 85 (0, 0))] ∧ Own 85 35 (.slice (some ⟨(YW (r20 6)), 0, none⟩) 1 1) [(cll (r20 5))] (N20 6) | _ => True) ⟨?_, ?_, ?_, ?_, ?_, ?_, ?_, trivial⟩ ?_
   ·intro ρ r20 N20 B hB hBa hBb hp hr hr0
    obtain ⟨ρ21, rfl⟩ := Zn (uc (show ρ 6 = pp b8 0 from hr0 6 (by kernel_rfl)) un)
    refine JLq (pp b8 34) (Y0 rfl rfl) <| Zb ?_
    exact ⟨pp b8 34, [], rfl, (Sub.emp Sub.refl), rfl⟩
   ·intro ρ r20 N20 B hB hBa hBb hp hr hr0
    have p0 : (r20 0) = pp b8 34 := hp 0 (by decide) rfl
    obtain ⟨ρ22, rfl⟩ := Zn (uc (show ρ 25 = pp b8 34 from (hr 0 _ _ (by decide) rfl rfl rfl).trans p0) un)
    refine JLr (Ze ty83 rfl (At.bx 7 (Ye ((hB 0 (by decide)).trans rfl))) (pkP_34 ..) <| Zb ?_)
    exact ⟨w, [], rfl, (Sub.emp Sub.refl), rfl⟩
   ·intro ρ r20 N20 B hB hBa hBb hp hr hr0
    obtain ⟨ρ23, rfl⟩ := Zn (uc (show ρ 0 = pp bS 0 from hr0 0 (by kernel_rfl)) un)
    refine JLM rfl <| Zb ?_
    exact ⟨pp bS 0, [], rfl, (Sub.emp Sub.refl), rfl⟩
   ·intro ρ r20 N20 B hB hBa hBb hp hr hr0
    obtain ⟨ρ24, rfl⟩ := Zn (uc (show ρ 1 = iv d from hr0 1 (by kernel_rfl)) un)
    refine JLM rfl <| Zb ?_
    exact ⟨iv d, [], rfl, (Sub.emp Sub.refl), rfl⟩
   ·intro ρ r20 N20 B hB hBa hBb hp hr hr0
    have p3 : (r20 3) = iv d := hp 3 (by decide) rfl
    obtain ⟨ρ25, rfl⟩ := Zn (uc (show ρ 28 = iv d from (hr 3 _ _ (by decide) rfl rfl rfl).trans p3) un)
    refine JLn (Pu.sub64 rfl rfl (by first | omega | (constructor <;> omega))) <| Zb ?_
    exact ⟨iv (d - 1), [], rfl, (Sub.emp Sub.refl), rfl⟩
   ·intro ρ r20 N20 B hB hBa hBb hp hr hr0
    have p2 : (r20 2) = pp bS 0 := hp 2 (by decide) rfl
    have p4 : (r20 4) = iv (d - 1) := hp 4 (by decide) rfl
    obtain ⟨ρ26, rfl⟩ := Zn (uc (show ρ 27 = pp bS 0 from (hr 2 _ _ (by decide) rfl rfl rfl).trans p2) (uc (show ρ 29 = iv (d - 1) from (hr 4 _ _ (by decide) rfl rfl rfl).trans p4) un))
    have hB2 := hBa rfl
    change B = [(BX b8 (pkP 3 n7 n6 w) 85), k1, k2, (BX bS [v, iv aw, .int .u64 sw] 69), (BX b1 (pkP 0 0 zS nS) 85)] at hB2
    subst hB2
    refine Zw (M' := [(N20 0), (N20 1), (N20 2), (N20 3), (N20 4), [], (N20 6), (BX b8 (pkP 3 n7 n6 w) 85), k1, k2, (BX bS [v, iv aw, .int .u64 sw] 69), (BX b1 (pkP 0 0 zS nS) 85)]) Sub.refl <| Zq 10 rfl Tryz.call105 rfl rfl (fun hin => ih (dp - 1) (by omega) _ _ _ _ _ _ _ (by omega) (by omega) (RBs.mono (Hle.hu _ _) hv) (by omega) (by omega)) rfl ?_
    rintro _ _ ⟨p27_, cs27, k27, a27, s27, rfl, rfl, hO27, hg27, ha27⟩
    have hbl27 := binds_le p27_
    refine Zb ?_
    exact ⟨.agg ⟨cs27⟩, ((BX bS [v, iv a27, .int .u64 s27] 69)) ++ k27, rfl, (Sub.flat (M' := [(N20 0), (N20 1), (N20 2), (N20 3), (N20 4), [], (N20 6), (BX b8 (pkP 3 n7 n6 w) 85), k1, k2, ((BX bS [v, iv a27, .int .u64 s27] 69)) ++ k27, (BX b1 (pkP 0 0 zS nS) 85)]) (Sub.cons 2 rfl (Sub.cons 2 rfl (Sub.cons 2 rfl (Sub.cons 2 rfl (Sub.cons 2 rfl (Sub.emp (Sub.cons 3 rfl (Sub.cons 3 rfl (Sub.cons 3 rfl (Sub.cons 3 rfl (Sub.join (Sk (Sk (Sd (Sk Sub.nil))))))))))))))) rfl), ⟨rfl, hO27.len, hO27.ok, p27_, k27, a27, s27, rfl, hO27, hg27, ha27⟩⟩
   ·intro ρ r20 N20 B hB hBa hBb hp hr hr0
    have p5 : (r20 5) = .agg ⟨(cll (r20 5))⟩ ∧ (cll (r20 5)).length = 35 ∧ okc (cll (r20 5)) ∧ ∃ pM kM aM sM, (N20 5) = (BX bS [v, iv aM, .int .u64 sM] 69) ++ kM ∧ OP pM (cll (r20 5)) kM ∧ (YL pM = 0 ∧ sizeP pM ≤ pz (dp - 1)) ∧ (aw ≤ aM ∧ aM ≤ aw + ((dz (dp - 1) : Nat) : Int)) := hp 5 (by decide) rfl
    obtain ⟨ρ28, rfl⟩ := Zn (uc (show ρ 30 = .agg ⟨(cll (r20 5))⟩ from (hr 5 _ _ (by decide) rfl rfl rfl).trans p5.1) un)
    refine JLr (Zr (vs := [.agg ⟨(cll (r20 5))⟩]) [(cll (r20 5))] Tryz.runUnderlying83 el85 rfl rfl (by intro e he; simp only [List.mem_cons, List.not_mem_nil, or_false] at he; subst he; exact p5.2.1) rfl (by decide) fun b29 k29 ho29 hk29 => Zb ?_)
    exact ⟨.slice (some ⟨b29, 0, none⟩) 1 1, k29, rfl, Sub.refl, ⟨rfl, hk29, ho29⟩⟩
   intro ρ r20 N20 hp hr hr0
   have p5 : (r20 5) = .agg ⟨(cll (r20 5))⟩ ∧ (cll (r20 5)).length = 35 ∧ okc (cll (r20 5)) ∧ ∃ pM kM aM sM, (N20 5) = (BX bS [v, iv aM, .int .u64 sM] 69) ++ kM ∧ OP pM (cll (r20 5)) kM ∧ (YL pM = 0 ∧ sizeP pM ≤ pz (dp - 1)) ∧ (aw ≤ aM ∧ aM ≤ aw + ((dz (dp - 1) : Nat) : Int)) := hp 5 (by decide)
   have p6 : (r20 6) = .slice (some ⟨(YW (r20 6)), 0, none⟩) 1 1 ∧ (N20 6) = [(YW (r20 6), .cells ⟨List.flatten [(cll (r20 5))]⟩ 85 (0, 0))] ∧ Own 85 35 (.slice (some ⟨(YW (r20 6)), 0, none⟩) 1 1) [(cll (r20 5))] (N20 6) := hp 6 (by decide)
   obtain ⟨ρ30, rfl⟩ := Zn (uc (show ρ 0 = pp bS 0 from hr0 0 (by kernel_rfl)) (uc (show ρ 1 = iv d from hr0 1 (by kernel_rfl)) (uc (show ρ 4 = pp b1 0 from hr0 4 (by kernel_rfl)) (uc (show ρ 6 = pp b8 0 from hr0 6 (by kernel_rfl)) (uc (show ρ 22 = iv n9 from hr0 22 (by kernel_rfl)) (uc (show ρ 23 = iv ((j : Int)) from hr0 23 (by kernel_rfl)) (uc (show ρ 26 = w from (hr 1 _ _ (by decide) rfl rfl).trans (hp 1 (by decide))) (uc (show ρ 31 = .slice (some ⟨(YW (r20 6)), 0, none⟩) 1 1 from (hr 6 _ _ (by decide) rfl rfl).trans p6.1) un))))))))
   have p20_5 := p5; have p20_6 := p6
   clear hp hr hr0 p5 p6
   refine Zw (M' := [(N20 0), (N20 1), (N20 2), (N20 3), (N20 4), [], (N20 6), (BX b8 (pkP 3 n7 n6 w) 85), k1, k2, (N20 5), (BX b1 (pkP 0 0 zS nS) 85)]) Sub.refl ?_
   obtain ⟨pM20_5, kM20_5, aM20_5, sM20_5, hNM20_5, hOM20_5, hgM20_5, haM20_5⟩ := p20_5.2.2.2
   refine Zw (M' := [(N20 6), (BX b8 (pkP 3 n7 n6 w) 85), k1, k2, (BX bS [v, iv aM20_5, .int .u64 sM20_5] 69) ++ kM20_5, (BX b1 (pkP 0 0 zS nS) 85)]) (Sd (Sd (Sd (Sd (Sd (Sd (Sk (Sk (Sk (Sk (Se hNM20_5 (Sk Sub.nil)))))))))))) <| Zw (M' := [(N20 6), (BX b8 (pkP 3 n7 n6 w) 85), k1, k2, (BX bS [v, iv aM20_5, .int .u64 sM20_5] 69), kM20_5, (BX b1 (pkP 0 0 zS nS) 85)]) (Sub.flat Sub.refl (by simp)) ?_
   show JL _ _ _ [_, _, _] _ _ _
   have hlens31 : ∀ e ∈ ([(cll (r20 5))] : List (List Value)), List.length e = 35 := by
    intro e he; simp only [List.mem_cons, List.not_mem_nil, or_false] at he
    rcases he with rfl
    ·exact p20_5.2.1
   have hoks31 : ∀ e ∈ ([(cll (r20 5))] : List (List Value)), okc e := by
    intro e he; simp only [List.mem_cons, List.not_mem_nil, or_false] at he
    rcases he with rfl
    ·exact p20_5.2.2.1
   refine JLr (ZE (i := 2) (n := 1) (es' := [(cll (r20 5))]) Tryz.runUnderlying83 Tryz.runUnderlying83 (Or.inl rfl) el85 rfl rfl rfl how (fun F w m => Src.row (((At.k 0 rfl (by rw [p20_6.2.1]; exact List.mem_cons_self))).heap m) (Zu (ZB hlens31))) rfl hlens31 hoks31 (by decide) (by omega) fun v31 k31 ho31 => JLq (pp b8 34) (Y0 rfl rfl) <| JLr (Zd 1 (vs := [v31]) (l := pkP 3 n7 n6 v31) ty83 rfl rfl rfl (Z9 ho31.one) rfl (Zj ho31.one Zt) (pkP_s34 ..) <| Zb <| Za <| JLn (Pu.inc rfl rfl (by omega)) <| JLM rfl <| Zb <| ⟨_, ?_, (j + 1), (ps ++ [pM20_5]), v31, (es ++ [(cll (r20 5))]), k31, (k2 ++ kM20_5), aM20_5, sM20_5, rfl, rfl, rfl, rfl, rfl, rfl, (Sd (Sk (Sk (Sub.join (Sk (Sub.cons 1 rfl (Sk (Sk Sub.nil)))))))), ?_, ?_, ?_, ?_, ?_, ?_, ?_, rfl⟩))
   ·omega
   ·omega
   ·exact ho31
   ·exact OPs.snoc hOM20_5 hopw
   ·simp; omega
   ·exact pErrRL_snoc hpe hgM20_5.1
   ·have := hgM20_5.2; rw [sizePs_snoc, Nat.succ_mul]; omega
   have := haM20_5; rw [Nat.succ_mul]; omega
  replace h19 := df h19
  refine ZG _ rfl <| Zc <| Za <| JLr (Zi Z0 rfl (At.bx 0 rfl) (pkP_a ..) <| JLr (Zd 4 (vs := pkP 3 n7 n6 w) (l := pkP 3 n7 n6 w) Z0 rfl rfl rfl rfl rfl (pkP_ok how.one) (pkP_s ..) <| Zb <| Zk <| ⟨.agg ⟨pkP 3 n7 n6 w⟩, [(BX bS [v, iv aw, .int .u64 sw] 69), k1 ++ k2], Ret.one rfl (RV.cell Z0 rfl (At.bx 4 rfl) (pkP_a ..)), (Sd (Sub.cons 2 rfl (Sub.join (Sk (Sk Sub.nil))))), ?_⟩))
  have hmz := Nat.mul_le_mul_right (pz (dp - 1)) (show j ≤ 2 by omega)
  have hmd := Nat.mul_le_mul_right (dz (dp - 1)) (show j ≤ 2 by omega)
  have e1 := pz_pos (show 0 < dp by omega)
  have e2 := dz_pos (show 0 < dp by omega)
  exact ⟨.mk 3 n7 n6 ps, _, _, _, _, rfl, rfl, OP_mk.2 ⟨w, es, k1, k2, rfl, by unfold inI; omega, by unfold inI; omega, how, hopw, rfl, by omega⟩, ⟨pErrR_con (by omega) (by omega) (by omega) hpe, by rw [sizeP]; omega⟩, by omega⟩
 refine Zc <| Za <| JLM rfl <| JLn (Pu.eql rfl rfl) <| JLA rfl <| Zb <| Zg rfl (fun h32 => ?_) (fun h32 => ?_)
 ·replace h32 := dt h32
  refine Zc <| Za <| JLM rfl <| Zq 0 rfl Tryz.call96 rfl rfl (fun hin => Yz _ _ _ _ _ _ (RBs.mono (Hle.hu _ _) hv) (by omega) (by omega) _) rfl ?_
  rintro _ _ ⟨n33, a33, s33, rfl, rfl, hn33, ha33⟩
  refine Jc Tryz.call133 rfl (fun hin => pn_ct _ _) rfl ?_
  rintro _ _ ⟨rfl, rfl⟩
  refine JLr (Zd 1 (vs := pkP 2 n33 zS nS) (l := pkP 2 n33 zS nS) Z0 rfl rfl rfl rfl rfl (pkP_ok rfl) (pkP_s ..) <| Zb <| Zk <| ⟨.agg ⟨pkP 2 n33 zS nS⟩, [(BX bS [v, iv a33, .int .u64 s33] 69), []], Ret.one rfl (RV.cell Z0 rfl (At.bx 1 rfl) (pkP_a ..)), (Sk (Sub.emp Sub.nil)), ?_⟩)
  have e1 := pz_ge dp
  have e2 := dz_ge dp
  exact ⟨.mk 2 n33 zS [], _, _, _, _, rfl, rfl, OP_leaf (by unfold inI; omega) (by unfold inI; omega), ⟨pErrR_num (by omega) (by omega), by simp [sizeP, ZR]; omega⟩, by omega⟩
 replace h32 := df h32
 refine Zm <| Zc <| Za <| Jc Tryz.call134 rfl (fun hin => any_ct _) rfl ?_
 rintro _ _ ⟨rfl, rfl⟩
 refine JLr (Zd 1 (vs := pkP 1 0 zS nS) (l := pkP 1 0 zS nS) Z0 rfl rfl rfl rfl rfl (pkP_ok rfl) (pkP_s ..) <| Zb <| Zk <| ⟨.agg ⟨pkP 1 0 zS nS⟩, [(BX bS [v, iv a2, .int .u64 s2] 69), []], Ret.one rfl (RV.cell Z0 rfl (At.bx 1 rfl) (pkP_a ..)), (Sk (Sub.emp Sub.nil)), ?_⟩)
 have e1 := pz_ge dp
 have e2 := dz_ge dp
 exact ⟨.mk 1 0 zS [], _, _, _, _, rfl, rfl, OP_leaf (by unfold inI; omega) (by unfold inI; omega), ⟨pErrR_any, by simp [sizeP, ZR]; omega⟩, by omega⟩
theorem bindsK_ct : ∀ (p : Pt) (cs : List Value) (H : Heap), RP H cs p → YL p = 0 → binds p ≤ 1000000 → CT Tryz.prog 55 ⟨[.agg ⟨cs⟩]⟩ [] H (fun v N => v = iv (binds p : Int) ∧ N = []) := by
 intro p
 induction p using Pt.ind with
 | h kind num ref kids ih =>
 intro cs H hp hpe hb
 obtain ⟨ks, rfl, hk, hn, hks⟩ := RP_mk.1 hp
 obtain ⟨hpl, hpk⟩ := pErrR_open hpe
 have hpm := pErrRL_mem hpl
 rw [binds] at hb ⊢
 refine Zl Tryz.func55 rfl rfl <| Zc <| Za <| JLr (Zp (l := pkP kind num ref ks) rfl rfl fun b1 => JLA rfl <| Zb <| Zc <| Zc <| Za <| JLq (pp b1 0) (YS rfl rfl) <| JLr (Ze ty3 rfl (At.bx 0 rfl) (pkP_0 ..) <| JLn (Pu.eql rfl rfl) <| Zb ?_))
 refine Zg rfl (fun h2 => ?_) (fun h2 => ?_)
 ·replace h2 := dt h2
  refine Zc <| Za <| JLA rfl <| Zb <| Zk <| ⟨iv 1, [], Ret.one rfl (RV.tmp rfl), Sub.nil, ?_⟩
  exact ⟨by rw [if_pos (by assumption)]; rfl, rfl⟩
 replace h2 := df h2
 refine Zm <| Zc <| Za <| JLA rfl <| Zb <| Zc <| Zc <| Za <| JLq (pp b1 0) (YS rfl rfl) <| JLr (Ze ty3 rfl (At.bx 0 rfl) (pkP_0 ..) <| JLn (Pu.eql rfl rfl) <| Zb <| Zg rfl (fun h3 => ?_) (fun h3 => ?_))
 ·replace h3 := dt h3
  refine Zc <| Za <| JLq (pp b1 34) (Y0 rfl rfl) <| JLr (Ze ty83 rfl (At.bx 0 rfl) (pkP_34 ..) ?_)
  obtain ⟨a4, cap4, hv4⟩ := hks.sl
  have hle4 := hks.le
  refine JLn (Pu.lenSl Tryz.runUnderlying83 hv4) <| JLM rfl <| Zb <| Zo <| ZP (fun k ρ M => ∃ (j : Nat), ρ 2 = iv 0 ∧ ρ 3 = iv ((Yv (kids.take j) : Int)) ∧ ρ 13 = ks ∧ ρ 14 = iv ((kids.length : Int)) ∧ ρ 15 = iv ((j : Int)) ∧ Sub [(BX b1 (pkP kind num ref ks) 85)] M ∧ j ≤ kids.length ∧ k = kids.length - j) _ ⟨0, rfl, rfl, rfl, rfl, rfl, (Sk Sub.nil), Nat.zero_le _, rfl⟩ ?_
  rintro _ ρ5 _ ⟨j, e6, e7, e8, e9, e10, hm11, hj, rfl⟩
  obtain ⟨ρ12, rfl⟩ := Zn (uc e6 (uc e7 (uc e8 (uc e9 (uc e10 un)))))
  clear e6 e7 e8 e9 e10
  refine Z6 hm11 ?_
  have hlen := hks.le
  refine Zc <| Za <| JLn (Pu.lss rfl rfl) <| Zb <| Zc <| Zg rfl (fun h13 => ?_) (fun h13 => ?_)
  ·replace h13 := dt h13
   have h13n : j < kids.length := by omega
   have hm1 := binds_mem kids _ (List.getElem_mem h13n)
   have hm2 := bindsL_take kids _ h13n
   have hm3 := bindsL_take_le kids (j + 1)
   rw [if_neg (by assumption)] at hb
   refine Zm <| Zc <| Zo <| Zc <| Za ?_
   obtain ⟨b14, o14, cap14, row14, T14, fr14, cs14, hv14, hb14, hs14, hE14⟩ := hks.get j (by first | assumption | omega | decide | simp)
   refine JLq (pp b14 (o14 + j * 35)) (Pu.idx j Tryz.runUnderlying83 Z0 hv14 rfl rfl (by first | assumption | omega | decide | simp)) <| JLr (Zi Z0 rfl (At.im hb14) hs14 <| JLr (Zh (l := pkP 0 0 zS nS) Tryz.zeroValue85 rfl fun b15 => JLr (Zd 0 (vs := cs14) (l := cs14) Z0 rfl rfl rfl rfl (ZF hE14) (RP_ok hE14) (ZD (n := 35) rfl (ZF hE14)) <| Zb <| Za <| JLM rfl <| JLr (Zi Z0 rfl (At.bx 0 rfl) (Zu (ZF hE14)) <| Jc Tryz.call55 rfl (fun hin => ih _ (List.getElem_mem h13n) _ _ (RP.mono (Hle.hu _ _) hE14) (hpm _ (List.getElem_mem h13n)) (by omega)) rfl ?_))))
   rintro _ _ ⟨rfl, rfl⟩
   refine JLn (Pu.add64 rfl rfl (by first | omega | (constructor <;> omega))) <| JLA rfl <| Zb <| Za <| JLn (Pu.inc rfl rfl (by omega)) <| JLM rfl <| Zb <| ⟨_, ?_, (j + 1), rfl, (ieq rfl (by omega)), rfl, rfl, rfl, (Sd (Sk Sub.nil)), ?_, rfl⟩
   ·omega
   omega
  replace h13 := df h13
  have h13n : kids.length ≤ j := by omega
  refine ZG _ rfl <| Zc <| Za <| JLM rfl <| JLA rfl <| Zb <| Zk <| ⟨iv ((Yv (kids.take j) : Int)), [], Ret.one rfl (RV.tmp rfl), Sub.nil, ?_⟩
  exact ⟨by rw [if_neg (by assumption), List.take_of_length_le h13n], rfl⟩
 replace h3 := df h3
 refine Zm <| Zc <| Za <| JLM rfl <| JLA rfl <| Zb <| Zk <| ⟨iv 0, [], Ret.one rfl (RV.tmp rfl), Sub.nil, ?_⟩
 obtain rfl : kids = [] := by rcases hpk with e | e | e; exact absurd e (by assumption); exact absurd e (by assumption); exact e.2
 exact ⟨by rw [if_neg (by assumption)]; rfl, rfl⟩
end Go.Proofs.YtjhenmdcnbaobaaGreat.Hs
/-! Walks, printed by a program of this session's own (gen.py). -/
namespace Go.Proofs.YtjhenmdcnbaobaaGreat.Hs
open Go Go.Proofs
set_option maxRecDepth 100000
set_option linter.unusedVariables false
set_option linter.unusedSimpArgs false
attribute [local irreducible] JL J CT wlo DT
theorem equalI_ct (l m : List Int) (v u : Value) (H : Heap) (hl : rdS RI 1 H v l) (hm : rdS RI 1 H u m) : CT Tryz.prog 21 ⟨[v, u]⟩ [] H (fun v N => v = .bool (eqL l m) ∧ N = []) := by
 refine Zl Tryz.func21 rfl rfl <| Zc <| Za <| JLA rfl <| Zb <| Zc <| Zc <| Za <| JLm v ?_
 obtain ⟨a1, cap1, hv1⟩ := hl.sl
 have hle1 := hl.le
 refine JLn (Pu.lenSl Tryz.runUnderlying49 hv1) <| JLm u ?_
 obtain ⟨a2, cap2, hv2⟩ := hm.sl
 have hle2 := hm.le
 refine JLn (Pu.lenSl Tryz.runUnderlying49 hv2) <| JLn (Pu.neq rfl rfl) <| Zb <| Zg rfl (fun h3 => ?_) (fun h3 => ?_)
 ·replace h3 := nt h3
  replace h3 := df h3
  refine Zc <| Za <| JLA rfl <| Zb <| Zk <| ⟨.bool false, [], Ret.one rfl (RV.tmp rfl), Sub.nil, ?_⟩
  exact ⟨by rw [eqL_false (fun e => by subst e; exact absurd rfl h3)], rfl⟩
 replace h3 := nf h3
 replace h3 := dt h3
 refine Zm <| Zc <| Zc <| Za <| JLm v ?_
 obtain ⟨a4, cap4, hv4⟩ := hl.sl
 have hle4 := hl.le
 refine JLn (Pu.lenSl Tryz.runUnderlying49 hv4) <| JLM rfl <| Zb <| Zo <| ZP (fun k ρ M => ∃ (j : Nat), ρ 0 = v ∧ ρ 1 = u ∧ ρ 4 = .bool false ∧ ρ 12 = iv ((l.length : Int)) ∧ ρ 13 = iv ((j : Int)) ∧ Sub [] M ∧ j ≤ l.length ∧ l.take j = m.take j ∧ k = l.length - j) _ ⟨0, rfl, rfl, rfl, rfl, rfl, Sub.nil, Nat.zero_le _, rfl, rfl⟩ ?_
 rintro _ ρ5 _ ⟨j, e6, e7, e8, e9, e10, hm11, hj, hinv, rfl⟩
 obtain ⟨ρ12, rfl⟩ := Zn (uc e6 (uc e7 (uc e8 (uc e9 (uc e10 un)))))
 clear e6 e7 e8 e9 e10
 refine Z6 hm11 <| Zc <| Za <| JLn (Pu.lss rfl rfl) <| Zb <| Zc <| Zg rfl (fun h13 => ?_) (fun h13 => ?_)
 ·replace h13 := dt h13
  have h13n : j < l.length := by omega
  have hlenl := hl.le
  have hjm : j < m.length := by omega
  refine Zm <| Zc <| Zo <| Zc <| Za <| JLM rfl <| JLA rfl <| Zb <| Zc <| ZV mixed #[0, 0, 3, 7, 0, 0, 48, 112, 255] 8 [some 16, some 17, some 18, some 19, some 20, some 21, some 22, some 23] [] [] rfl (by kernel_rfl) rfl (by kernel_rfl) <| Dm v <| DM (fun _ => rfl) ?_
  obtain ⟨b16, o16, cap16, row16, T16, fr16, cs16, hv16, hb16, hs16, hE16⟩ := hl.get j (by first | assumption | omega | decide | simp)
  refine Dq (pp b16 (o16 + j * 1)) (fun _ => Pu.idx j Tryz.runUnderlying49 ty3 hv16 rfl rfl (by first | assumption | omega | decide | simp)) <| Dl1 ty3 (At.im hb16) (Yx ((show cs16 = [Value.int .i64 (l[j])] from hE16) ▸ hs16)) <| Dm u <| DM (fun _ => rfl) ?_
  obtain ⟨b17, o17, cap17, row17, T17, fr17, cs17, hv17, hb17, hs17, hE17⟩ := hm.get j (by first | assumption | omega | decide | simp)
  refine Dq (pp b17 (o17 + j * 1)) (fun _ => Pu.idx j Tryz.runUnderlying49 ty3 hv17 rfl rfl (by first | assumption | omega | decide | simp)) <| Dl1 ty3 (At.im hb17) (Yx ((show cs17 = [Value.int .i64 (m[j])] from hE17) ▸ hs17)) <| Yb (M' := []) rfl ?_
  show JL _ _ _ [_] _ _ _
  refine JLn (Pu.neq rfl rfl) <| Zb <| Zg rfl (fun h18 => ?_) (fun h18 => ?_)
  ·replace h18 := nt h18
   replace h18 := df h18
   refine Zc <| Za <| JLA rfl <| Zb <| Zk <| ⟨.bool false, [], Ret.one rfl (RV.tmp rfl), Sub.nil, ?_⟩
   exact ⟨by rw [eqL_false (fun e => by subst e; exact h18 rfl)], rfl⟩
  replace h18 := nf h18
  replace h18 := dt h18
  refine Zm <| Za <| JLn (Pu.inc rfl rfl (by omega)) <| JLM rfl <| Zb <| ⟨_, ?_, (j + 1), rfl, rfl, rfl, rfl, rfl, Sub.nil, ?_, ?_, rfl⟩
  ·omega
  ·omega
  rw [List.take_succ_eq_append_getElem h13n, List.take_succ_eq_append_getElem hjm, hinv, h18]
 replace h13 := df h13
 have h13n : l.length ≤ j := by omega
 refine ZG _ rfl <| Zc <| Za <| JLA rfl <| Zb <| Zk <| ⟨.bool true, [], Ret.one rfl (RV.tmp rfl), Sub.nil, ?_⟩
 exact ⟨by rw [eqL_true (by rw [← List.take_of_length_le h13n, hinv, List.take_of_length_le (by omega)])], rfl⟩
theorem equalS_ct (l m : List ByteArray) (v u : Value) (H : Heap) (hl : rdS RS 1 H v l) (hm : rdS RS 1 H u m) : CT Tryz.prog 42 ⟨[v, u]⟩ [] H (fun v N => v = .bool (eqL l m) ∧ N = []) := by
 refine Zl Tryz.func42 rfl rfl <| Zc <| Za <| JLA rfl <| Zb <| Zc <| Zc <| Za <| JLm v ?_
 obtain ⟨a1, cap1, hv1⟩ := hl.sl
 have hle1 := hl.le
 refine JLn (Pu.lenSl Tryz.runUnderlying93 hv1) <| JLm u ?_
 obtain ⟨a2, cap2, hv2⟩ := hm.sl
 have hle2 := hm.le
 refine JLn (Pu.lenSl Tryz.runUnderlying93 hv2) <| JLn (Pu.neq rfl rfl) <| Zb <| Zg rfl (fun h3 => ?_) (fun h3 => ?_)
 ·replace h3 := nt h3
  replace h3 := df h3
  refine Zc <| Za <| JLA rfl <| Zb <| Zk <| ⟨.bool false, [], Ret.one rfl (RV.tmp rfl), Sub.nil, ?_⟩
  exact ⟨by rw [eqL_false (fun e => by subst e; exact absurd rfl h3)], rfl⟩
 replace h3 := nf h3
 replace h3 := dt h3
 refine Zm <| Zc <| Zc <| Za <| JLm v ?_
 obtain ⟨a4, cap4, hv4⟩ := hl.sl
 have hle4 := hl.le
 refine JLn (Pu.lenSl Tryz.runUnderlying93 hv4) <| JLM rfl <| Zb <| Zo <| ZP (fun k ρ M => ∃ (j : Nat), ρ 0 = v ∧ ρ 1 = u ∧ ρ 4 = .bool false ∧ ρ 12 = iv ((l.length : Int)) ∧ ρ 13 = iv ((j : Int)) ∧ Sub [] M ∧ j ≤ l.length ∧ l.take j = m.take j ∧ k = l.length - j) _ ⟨0, rfl, rfl, rfl, rfl, rfl, Sub.nil, Nat.zero_le _, rfl, rfl⟩ ?_
 rintro _ ρ5 _ ⟨j, e6, e7, e8, e9, e10, hm11, hj, hinv, rfl⟩
 obtain ⟨ρ12, rfl⟩ := Zn (uc e6 (uc e7 (uc e8 (uc e9 (uc e10 un)))))
 clear e6 e7 e8 e9 e10
 refine Z6 hm11 <| Zc <| Za <| JLn (Pu.lss rfl rfl) <| Zb <| Zc <| Zg rfl (fun h13 => ?_) (fun h13 => ?_)
 ·replace h13 := dt h13
  have h13n : j < l.length := by omega
  have hlenl := hl.le
  have hjm : j < m.length := by omega
  refine Zm <| Zc <| Zo <| Zc <| Za <| JLM rfl <| JLA rfl <| Zb <| Zc <| ZV mixed #[0, 0, 3, 7, 0, 0, 48, 112, 255] 8 [some 16, some 17, some 18, some 19, some 20, some 21, some 22, some 23] [] [] rfl (by kernel_rfl) rfl (by kernel_rfl) <| Dm v <| DM (fun _ => rfl) ?_
  obtain ⟨b16, o16, cap16, row16, T16, fr16, cs16, hv16, hb16, hs16, hE16⟩ := hl.get j (by first | assumption | omega | decide | simp)
  refine Dq (pp b16 (o16 + j * 1)) (fun _ => Pu.idx j Tryz.runUnderlying93 ty9 hv16 rfl rfl (by first | assumption | omega | decide | simp)) <| Dl1 ty9 (At.im hb16) (Yx ((show cs16 = [Value.string (l[j])] from hE16) ▸ hs16)) <| Dm u <| DM (fun _ => rfl) ?_
  obtain ⟨b17, o17, cap17, row17, T17, fr17, cs17, hv17, hb17, hs17, hE17⟩ := hm.get j (by first | assumption | omega | decide | simp)
  refine Dq (pp b17 (o17 + j * 1)) (fun _ => Pu.idx j Tryz.runUnderlying93 ty9 hv17 rfl rfl (by first | assumption | omega | decide | simp)) <| Dl1 ty9 (At.im hb17) (Yx ((show cs17 = [Value.string (m[j])] from hE17) ▸ hs17)) <| Yb (M' := []) rfl ?_
  show JL _ _ _ [_] _ _ _
  refine JLn (Pu.neqS rfl rfl) <| Zb <| Zg rfl (fun h18 => ?_) (fun h18 => ?_)
  ·replace h18 := nt h18
   replace h18 := df h18
   refine Zc <| Za <| JLA rfl <| Zb <| Zk <| ⟨.bool false, [], Ret.one rfl (RV.tmp rfl), Sub.nil, ?_⟩
   exact ⟨by rw [eqL_false (fun e => by subst e; exact h18 rfl)], rfl⟩
  replace h18 := nf h18
  replace h18 := dt h18
  refine Zm <| Za <| JLn (Pu.inc rfl rfl (by omega)) <| JLM rfl <| Zb <| ⟨_, ?_, (j + 1), rfl, rfl, rfl, rfl, rfl, Sub.nil, ?_, ?_, rfl⟩
  ·omega
  ·omega
  rw [List.take_succ_eq_append_getElem h13n, List.take_succ_eq_append_getElem hjm, hinv, h18]
 replace h13 := df h13
 have h13n : l.length ≤ j := by omega
 refine ZG _ rfl <| Zc <| Za <| JLA rfl <| Zb <| Zk <| ⟨.bool true, [], Ret.one rfl (RV.tmp rfl), Sub.nil, ?_⟩
 exact ⟨by rw [eqL_true (by rw [← List.take_of_length_le h13n, hinv, List.take_of_length_le (by omega)])], rfl⟩
theorem idxS_ct (l : List ByteArray) (x : ByteArray) (v : Value) (H : Heap) (hl : rdS RS 1 H v l) : CT Tryz.prog 123 ⟨[v, .string x]⟩ [] H (fun v N => v = iv (fstS x l 0) ∧ N = []) := by
 refine Zl Tryz.func123 rfl rfl <| Zc <| Za <| JLA rfl <| Zb <| Zc <| Zc <| Za <| JLm v ?_
 obtain ⟨a1, cap1, hv1⟩ := hl.sl
 have hle1 := hl.le
 refine JLn (Pu.lenSl Tryz.runUnderlying93 hv1) <| JLM rfl <| Zb <| Zo <| ZP (fun k ρ M => ∃ (j : Nat), ρ 0 = v ∧ ρ 1 = .string x ∧ ρ 4 = iv 0 ∧ ρ 7 = iv ((l.length : Int)) ∧ ρ 8 = iv ((j : Int)) ∧ Sub [] M ∧ j ≤ l.length ∧ fstS x (l.drop j) j = fstS x l 0 ∧ k = l.length - j) _ ⟨0, rfl, rfl, rfl, rfl, rfl, Sub.nil, Nat.zero_le _, rfl, rfl⟩ ?_
 rintro _ ρ2 _ ⟨j, e3, e4, e5, e6, e7, hm8, hj, hinv, rfl⟩
 obtain ⟨ρ9, rfl⟩ := Zn (uc e3 (uc e4 (uc e5 (uc e6 (uc e7 un)))))
 clear e3 e4 e5 e6 e7
 refine Z6 hm8 <| Zc <| Za <| JLn (Pu.lss rfl rfl) <| Zb <| Zc <| Zg rfl (fun h10 => ?_) (fun h10 => ?_)
 ·replace h10 := dt h10
  have h10n : j < l.length := by omega
  have hlenl := hl.le
  refine Zm <| Zc <| Zo <| Zc <| Za <| JLM rfl <| JLA rfl <| Zb <| Zc <| Za <| JLM rfl <| JLm v <| JLM rfl ?_
  obtain ⟨b11, o11, cap11, row11, T11, fr11, cs11, hv11, hb11, hs11, hE11⟩ := hl.get j (by first | assumption | omega | decide | simp)
  refine JLq (pp b11 (o11 + j * 1)) (Pu.idx j Tryz.runUnderlying93 ty9 hv11 rfl rfl (by first | assumption | omega | decide | simp)) <| JLr (Ze ty9 rfl (At.im hb11) (Yx ((show cs11 = [Value.string (l[j])] from hE11) ▸ hs11)) <| JLn (Pu.eqlS rfl rfl) <| Zb <| Zg rfl (fun h12 => ?_) (fun h12 => ?_))
  ·replace h12 := dt h12
   refine Zc <| Za <| JLM rfl <| JLA rfl <| Zb <| Zk <| ⟨iv ((j : Int)), [], Ret.one rfl (RV.tmp rfl), Sub.nil, ?_⟩
   exact ⟨by rw [← hinv, Yf h10n, fstS, if_pos h12], rfl⟩
  replace h12 := df h12
  refine Zm <| Za <| JLn (Pu.inc rfl rfl (by omega)) <| JLM rfl <| Zb <| ⟨_, ?_, (j + 1), rfl, rfl, rfl, rfl, rfl, Sub.nil, ?_, ?_, rfl⟩
  ·omega
  ·omega
  rw [Yf h10n, fstS, if_neg h12] at hinv; exact hinv
 replace h10 := df h10
 have h10n : l.length ≤ j := by omega
 refine ZG _ rfl <| Zc <| Za <| JLA rfl <| Zb <| Zk <| ⟨iv (-1), [], Ret.one rfl (RV.tmp rfl), Sub.nil, ?_⟩
 exact ⟨by rw [← hinv, dropn h10n]; rfl, rfl⟩
theorem containsS_ct (l : List ByteArray) (x : ByteArray) (v : Value) (H : Heap) (hl : rdS RS 1 H v l) : CT Tryz.prog 76 ⟨[v, .string x]⟩ [] H (fun v N => v = .bool (l.any (fun y => decide (x = y))) ∧ N = []) := by
 refine Zl Tryz.func76 rfl rfl <| Zc <| Za <| JLA rfl <| Zb <| Zc <| Za <| JLm v <| JLM rfl <| Jc Tryz.call123 rfl (fun hin => idxS_ct _ _ _ _ (RSs.mono (Hle.hu _ _) hl)) rfl ?_
 rintro _ _ ⟨rfl, rfl⟩
 refine JLn (Pu.geq rfl rfl) <| JLA rfl <| Zb <| Zk <| ⟨.bool (decide (0 ≤ fstS x l 0)), [], Ret.one rfl (RV.tmp rfl), Sub.nil, ?_⟩
 exact ⟨by rw [← fstS_mem x l 0], rfl⟩
theorem number_ct (i : Nat) (H : Heap) (hi : i < 26) : CT Tryz.prog 158 ⟨[.string (ltr i)]⟩ [] H (fun v N => v = iv (i : Int) ∧ N = []) := by
 refine Zl Tryz.func158 rfl rfl <| Zc <| Za <| JLA rfl <| Zb <| Zc <| Za <| JLA rfl <| Zb <| Zc <| Zc <| Za <| JLM rfl ?_
 refine JLr (Runs_rangeS Tryz.underlying9 rfl fun r1 => Zb <| Zo <| Yw 2 <| ZO <| Zc <| Za <| JLr (Runs_nextL (i := 0) rfl rfl hi <| JLn (Pu.extract rfl rfl) <| Zb <| Zc <| Zg (b := true) rfl (fun _ => ?_) (fun h => absurd h (by simp))))
 refine Zm <| Zo <| Zc <| Za <| JLn (Pu.extract rfl rfl) <| JLA rfl <| Zb <| Zc <| Zc <| Za <| JLM rfl <| JLn (Pu.lss rfl rfl) <| JLM rfl ?_
 refine Zx 2 [14, 15] [(15, cond (decide (97 + (i : Int) < 97)) undef (.bool (decide (122 < 97 + (i : Int)))))] ?_ fun f3 => ?_
 ·cases h2 : (decide (97 + (i : Int) < 97)) with
  | false =>
   replace h2 := df h2
   refine JLM rfl <| JLn (Pu.gtr rfl rfl) ?_
   exact Zb ⟨⟨rfl, trivial⟩, rfl⟩
  | true =>
   exact ZH rfl ⟨rfl, trivial⟩
 refine JLn (Pu.pickOr rfl rfl rfl) <| JLM rfl <| Zx 2 [18, 19] [(19, cond ((decide (97 + (i : Int) < 97)) || (decide (122 < 97 + (i : Int)))) undef (.bool false))] ?_ fun f5 => ?_
 ·cases h4 : ((decide (97 + (i : Int) < 97)) || (decide (122 < 97 + (i : Int)))) with
  | false =>
   obtain ⟨h4a, h4b⟩ := orF h4
   replace h4a := df h4a
   replace h4b := df h4b
   refine JLM rfl <| JLq (.bool false) (show Pu _ _ _ (.bool (decide ((1073741824 : Int) < -1))) from Pu.gtr rfl rfl) ?_
   exact Zb ⟨⟨rfl, trivial⟩, rfl⟩
  | true =>
   exact ZH rfl ⟨rfl, trivial⟩
 refine JLn (Pu.pickOr rfl rfl rfl) <| Zb <| Zg rfl (fun h6 => ?_) (fun h6 => ?_)
 ·exfalso; simp at h6; omega
 obtain ⟨h6a, h6b⟩ := orF h6
 obtain ⟨h6aa, h6ab⟩ := orF h6a
 replace h6aa := df h6aa
 replace h6ab := df h6ab
 refine Zm <| Za <| JLM rfl <| JLq (iv 0) (Pu.arith rfl rfl rfl) <| JLq (iv 0) (Pu.arithM rfl rfl rfl) <| JLM rfl <| JLq (.int .i32 ((i : Int))) (Pu.arithS rfl rfl ((w32 (by omega)).trans (by omega))) <| JLq (iv ((i : Int))) (Pu.conv Tryz.runUnderlying21 Tryz.runUnderlying3 rfl (w64 (by omega))) <| JLn (Pu.add64 rfl rfl (by first | omega | (constructor <;> omega))) <| JLA rfl <| Zb <| ZO <| Zc ?_
 refine Za <| JLr (Runs_nextE (i := 0) rfl rfl (by rw [ltr_size]; decide) <| JLn (Pu.extract rfl rfl) <| Zb <| Zc <| Zg (b := false) rfl (fun h => absurd h (by simp)) (fun _ => ZG _ rfl <| Zc <| Za <| JLM rfl <| JLA rfl <| Zb <| Zk ?_))
 refine ⟨iv (0 + ((i : Int))), [], Ret.one rfl (RV.tmp rfl), Sub.nil, ?_⟩
 exact ⟨congrArg (Value.int .i64) (by omega), rfl⟩
theorem name_ct (i : Nat) (H : Heap) (hi : i < 26) : CT Tryz.prog 152 ⟨[iv ((i : Int))]⟩ [] H (fun v N => v = .string (ltr i) ∧ N = []) := by
 refine Zl Tryz.func152 rfl rfl <| Zc <| Za <| JLA rfl <| Zb <| Zc <| Zc <| Za <| JLM rfl <| JLn (Pu.lss rfl rfl) <| Zb <| Zg rfl (fun h1 => ?_) (fun h1 => ?_)
 ·replace h1 := dt h1
  have h1n : i < 26 := by omega
  refine Zc <| Za <| JLM rfl <| JLn (Pu.add64 rfl rfl (by first | omega | (constructor <;> omega))) <| JLq (.int .i32 (97 + ((i : Int)))) (Pu.conv Tryz.runUnderlying3 Tryz.runUnderlying21 rfl (w32 (by omega))) <| JLq (.string (ltr i)) (Pu.convS Tryz.runUnderlying21 Tryz.runUnderlying9 rfl (ltr_enc' i hi)) <| JLA rfl <| Zb <| Zk <| ⟨.string (ltr i), [], Ret.one rfl (RV.tmp rfl), Sub.nil, ?_⟩
  exact ⟨rfl, rfl⟩
 replace h1 := df h1
 have h1n : 26 ≤ i := by omega
 exfalso; omega
theorem mark_ct (i n : Nat) (l : List Bool) (bF : Nat) (H : Heap) (hi : i < 26) (hl : l.length = n) : CT Tryz.prog 150 ⟨[.slice (some ⟨bF, 0, none⟩) n n, .string (ltr i)]⟩ [(BX bF (bls l) 4)] H (fun v N => v = .tuple ⟨[]⟩ ∧ N = [(BX bF (bls (markL i l)) 4)]) := by
 refine Zl Tryz.func150 rfl rfl <| Zc <| Za <| JLM rfl <| Jc Tryz.call158 rfl (fun hin => number_ct i _ hi) rfl ?_
 rintro _ _ ⟨rfl, rfl⟩
 refine JLA rfl <| Zb <| Zc <| Za <| JLM rfl <| JLn (Pu.geq rfl rfl) <| JLM rfl ?_
 cases h1 : (decide (0 ≤ (i : Int))) with
 | true =>
  replace h1 := dt h1
  refine JLM rfl <| JLM rfl <| JLn (Pu.lenSl Tryz.runUnderlying218 rfl) <| JLn (Pu.lss rfl rfl) <| JLq (.bool (decide ((i : Int) < (n : Int)))) (Pu.pickT rfl rfl) <| Zb <| Zg rfl (fun h2 => ?_) (fun h2 => ?_)
  ·replace h2 := dt h2
   have h2n : i < n := by omega
   refine Za <| JLM rfl <| JLM rfl <| JLq (pp bF (0 + i * 1)) (Pu.idx i Tryz.runUnderlying218 ty4 rfl rfl (by omega) (by omega)) <| JLr (Zd 0 (vs := [.bool true]) (l := bls (l.set i true)) ty4 rfl rfl rfl rfl rfl (Zj rfl Zt) (bls_set1 (by have hbl : List.length l = n := hl; omega)) <| Zb <| ⟨.tuple ⟨[]⟩, [(BX bF (bls (l.set i true)) 4)], Ret.none rfl, (Sk Sub.nil), ?_⟩)
   exact ⟨rfl, by rw [markL, if_pos (by omega)]⟩
  replace h2 := df h2
  have h2n : n ≤ i := by omega
  refine Zm <| ⟨.tuple ⟨[]⟩, [(BX bF (bls l) 4)], Ret.none rfl, (Sk Sub.nil), ?_⟩
  exact ⟨rfl, by rw [markL, if_neg (by omega)] <;> rfl⟩
 | false =>
  replace h1 := df h1
  iterate 4 refine JL_skip rfl ?_
  refine JLq (.bool false) (Pu.pickF rfl rfl) <| Zb <| Zg (b := false) rfl (fun h => absurd h (by simp)) (fun _ => Zm <| ⟨.tuple ⟨[]⟩, [(BX bF (bls l) 4)], Ret.none rfl, (Sk Sub.nil), ?_⟩)
  exact ⟨rfl, by rw [markL, if_neg (by omega)] <;> rfl⟩
theorem idxB_ct (x : Bool) (l : List Bool) (bF n : Nat) (H : Heap) (hl : l.length = n) (hn : n ≤ 1000000) (hB : H bF = some (.cells ⟨bls l⟩ 4 (0, 0))) : CT Tryz.prog 151 ⟨[.slice (some ⟨bF, 0, none⟩) n n, .bool x]⟩ [] H (fun v N => v = iv (fstB x l 0) ∧ N = []) := by
 refine Zl Tryz.func151 rfl rfl <| Zc <| Za <| JLA rfl <| Zb <| Zc <| Zc <| Za <| JLM rfl <| JLn (Pu.lenSl Tryz.runUnderlying218 rfl) <| JLM rfl <| Zb <| Zo ?_
 refine ZP (fun k ρ M => ∃ (j : Nat), ρ 0 = .slice (some ⟨bF, 0, none⟩) n n ∧ ρ 1 = .bool x ∧ ρ 4 = iv 0 ∧ ρ 7 = iv ((n : Int)) ∧ ρ 8 = iv ((j : Int)) ∧ Sub [] M ∧ j ≤ l.length ∧ fstB x (l.drop j) j = fstB x l 0 ∧ k = l.length - j) _ ⟨0, rfl, rfl, rfl, rfl, rfl, Sub.nil, Nat.zero_le _, rfl, rfl⟩ ?_
 rintro _ ρ1 _ ⟨j, e2, e3, e4, e5, e6, hm7, hj, hinv, rfl⟩
 obtain ⟨ρ8, rfl⟩ := Zn (uc e2 (uc e3 (uc e4 (uc e5 (uc e6 un)))))
 clear e2 e3 e4 e5 e6
 refine Z6 hm7 <| Zc <| Za <| JLn (Pu.lss rfl rfl) <| Zb <| Zc <| Zg rfl (fun h9 => ?_) (fun h9 => ?_)
 ·replace h9 := dt h9
  have h9n : j < n := by omega
  refine Zm <| Zc <| Zo <| Zc <| Za <| JLM rfl <| JLA rfl <| Zb <| Zc <| Za <| JLM rfl <| JLM rfl <| JLM rfl ?_
  refine JLq (pp bF (0 + j * 1)) (Pu.idx j Tryz.runUnderlying218 ty4 rfl rfl (by omega) (by omega)) <| JLr (Ze ty4 rfl (At.im hB) (bls_get1 (by omega)) <| JLn (Pu.eqlB Tryz.runUnderlying4 rfl rfl) <| Zb <| Zg rfl (fun h10 => ?_) (fun h10 => ?_))
  ·refine Zc <| Za <| JLM rfl <| JLA rfl <| Zb <| Zk <| ⟨iv ((j : Int)), [], Ret.one rfl (RV.tmp rfl), Sub.nil, ?_⟩
   exact ⟨by rw [← hinv, Yf (by omega : j < l.length), fstB, if_pos (by simpa [(by omega : j < l.length)] using h10)], rfl⟩
  refine Zm <| Za <| JLn (Pu.inc rfl rfl (by omega)) <| JLM rfl <| Zb <| ⟨_, ?_, (j + 1), rfl, rfl, rfl, rfl, rfl, Sub.nil, ?_, ?_, rfl⟩
  ·omega
  ·omega
  rw [Yf (by omega : j < l.length), fstB, if_neg (by simpa [(by omega : j < l.length)] using h10)] at hinv; exact hinv
 replace h9 := df h9
 have h9n : n ≤ j := by omega
 refine ZG _ rfl <| Zc <| Za <| JLA rfl <| Zb <| Zk <| ⟨iv (-1), [], Ret.one rfl (RV.tmp rfl), Sub.nil, ?_⟩
 exact ⟨by rw [← hinv, dropn (by omega)]; rfl, rfl⟩
end Go.Proofs.YtjhenmdcnbaobaaGreat.Hs
