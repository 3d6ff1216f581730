import Derived.Test.YtfdeibbpfgolcaaGreatRepli
import Derived.Lib.SlicesCompact
/-! What is free in a term with another one put into it; lists of numbers in order. -/
namespace Go.Proofs.YtfdeibbpfgolcaaGreat.Hs
open Go Go.Proofs
end Go.Proofs.YtfdeibbpfgolcaaGreat.Hs
/-! Digests in order; lists of digests in order, each once. Plain. -/
namespace Go.Proofs.YtfdeibbpfgolcaaGreat.Hs
open Go Go.Proofs
/-- a digest ahead of another one: the first byte that differs is less -/
def befL : List UInt8 → List UInt8 → Bool
  | [], _ => false
  | _, [] => false
  | a :: l, b :: m => if a = b then befL l m else decide (a < b)
theorem befL_irr (l : List UInt8) : befL l l = false := by
  induction l with
  | nil => rw [befL]
  | cons a l ih => rw [befL, if_pos rfl, ih]
theorem befL_trans : ∀ {a b c : List UInt8}, befL a b = true → befL b c = true → befL a c = true := by
  intro a
  induction a with
  | nil => intro b c h; rw [befL] at h; cases h
  | cons x a ih =>
    intro b c h1 h2
    cases b with
    | nil => rw [befL] at h1; cases h1; intro h; cases h
    | cons y b =>
      cases c with
      | nil => rw [befL] at h2; cases h2; intro h; cases h
      | cons z c =>
        rw [befL] at h1 h2 ⊢
        by_cases e1 : x = y
        · subst e1
          rw [if_pos rfl] at h1
          by_cases e2 : x = z
          · subst e2; rw [if_pos rfl] at h2 ⊢; exact ih h1 h2
          · rw [if_neg e2] at h2 ⊢; exact h2
        · rw [if_neg e1] at h1
          have h1' := of_decide_eq_true h1
          by_cases e2 : y = z
          · subst e2; rw [if_neg e1]; exact h1
          · rw [if_neg e2] at h2
            have h2' := of_decide_eq_true h2
            have h3 : x < z := UInt8.lt_trans h1' h2'
            rw [if_neg (fun e => by subst e; exact absurd (UInt8.lt_trans h1' h2') (UInt8.lt_irrefl _))]
            exact decide_eq_true h3
theorem befL_tri : ∀ {a b : List UInt8}, a.length = b.length → befL a b = false → befL b a = false → a = b := by
  intro a
  induction a with
  | nil => intro b h _ _; exact (List.eq_nil_of_length_eq_zero h.symm).symm
  | cons x a ih =>
    intro b hl h1 h2
    cases b with
    | nil => cases hl
    | cons y b =>
      rw [befL] at h1 h2
      by_cases e : x = y
      · subst e
        rw [if_pos rfl] at h1 h2
        rw [ih (by simpa using hl) h1 h2]
      · rw [if_neg e] at h1
        rw [if_neg (fun q => e q.symm)] at h2
        have h1' := of_decide_eq_false h1
        have h2' := of_decide_eq_false h2
        exact absurd (UInt8.le_antisymm (UInt8.not_lt.1 h2') (UInt8.not_lt.1 h1')) e
def bef (a b : Sm) : Bool := befL a.toList b.toList
theorem bef_irr (a : Sm) : bef a a = false := befL_irr _
theorem bef_trans {a b c : Sm} (h : bef a b = true) (h' : bef b c = true) : bef a c = true := befL_trans h h'
theorem bef_tri {a b : Sm} (h : bef a b = false) (h' : bef b a = false) : a = b := Vector.toList_inj.1 (befL_tri (by simp) h h')
/-- in order, each once -/
def risS (l : List Sm) : Prop := l.Pairwise (fun a b => bef a b = true)
theorem ris_unique : ∀ {a b : List Sm}, risS a → risS b → (∀ x, x ∈ a ↔ x ∈ b) → a = b := by
  intro a
  induction a with
  | nil =>
    intro b _ _ h
    cases b with
    | nil => rfl
    | cons y b => exact absurd ((h y).2 (by simp)) (by simp)
  | cons x a ih =>
    intro b ha hb h
    cases b with
    | nil => exact absurd ((h x).1 (by simp)) (by simp)
    | cons y b =>
      unfold risS at ha hb
      rw [List.pairwise_cons] at ha hb
      have no : ∀ z : Sm, ¬ bef z z = true := fun z e => by rw [bef_irr] at e; cases e
      have e : x = y := by
        have h1 := (h x).1 (by simp)
        have h2 := (h y).2 (by simp)
        rcases List.mem_cons.1 h1 with h1 | h1
        · exact h1
        · rcases List.mem_cons.1 h2 with h2 | h2
          · exact h2.symm
          · exact absurd (bef_trans (hb.1 x h1) (ha.1 y h2)) (no y)
      subst e
      congr 1
      refine ih ha.2 hb.2 fun z => ⟨fun hz => ?_, fun hz => ?_⟩
      · rcases List.mem_cons.1 ((h z).1 (by simp [hz])) with h1 | h1
        · subst h1; exact absurd (ha.1 z hz) (no z)
        · exact h1
      · rcases List.mem_cons.1 ((h z).2 (by simp [hz])) with h1 | h1
        · subst h1; exact absurd (hb.1 z hz) (no z)
        · exact h1
/-- a digest put into a rising list, as the reference does -/
def among : List Sm → Sm → List Sm
  | [], s => [s]
  | x :: l, s => if bef x s = true then x :: among l s else if x = s then x :: l else s :: x :: l
theorem among_mem {s x : Sm} : ∀ {l : List Sm}, x ∈ among l s ↔ x = s ∨ x ∈ l := by
  intro l
  induction l with
  | nil => rw [among]; simp
  | cons y l ih =>
    rw [among]
    split
    · rw [List.mem_cons, ih, List.mem_cons]
      constructor
      · rintro (h | h | h)
        · exact .inr (.inl h)
        · exact .inl h
        · exact .inr (.inr h)
      · rintro (h | h | h)
        · exact .inr (.inl h)
        · exact .inl h
        · exact .inr (.inr h)
    · split
      · rename_i e
        constructor
        · intro h; exact .inr h
        · rintro (h | h)
          · rw [h, ← e]; simp
          · exact h
      · rw [List.mem_cons]
theorem among_ris {s : Sm} : ∀ {l : List Sm}, risS l → risS (among l s) := by
  intro l
  induction l with
  | nil => intro _; rw [among]; exact List.pairwise_singleton ..
  | cons y l ih =>
    intro h
    unfold risS at h
    rw [List.pairwise_cons] at h
    rw [among]
    split
    · rename_i e
      unfold risS
      rw [List.pairwise_cons]
      refine ⟨fun z hz => ?_, ih h.2⟩
      rcases among_mem.1 hz with rfl | hz
      · exact e
      · exact h.1 z hz
    · rename_i e1
      split
      · unfold risS; rw [List.pairwise_cons]; exact h
      · rename_i e2
        have hs : bef s y = true := by
          cases e3 : bef s y with
          | true => rfl
          | false => exact absurd (bef_tri (Bool.eq_false_iff.2 e1) e3) e2
        unfold risS
        rw [List.pairwise_cons, List.pairwise_cons]
        refine ⟨fun z hz => ?_, h⟩
        rcases List.mem_cons.1 hz with rfl | hz
        · exact hs
        · exact bef_trans hs (h.1 z hz)
end Go.Proofs.YtfdeibbpfgolcaaGreat.Hs
/-! The digests of a term: as they are met, as the program gathers them, as the reference does. Plain. -/
namespace Go.Proofs.YtfdeibbpfgolcaaGreat.Hs
open Go Go.Proofs
set_option maxRecDepth 100000
abbrev Hd := Int × Sm
/-- the sort of digest that a node of a kind has -/
def srt (k : Int) : Int := if k = 6 then 6 else if k = 8 then 8 else if k = 11 ∨ k = 12 then 11 else 0
mutual
def hdsP : Pt → List Hd
  | .mk k _ r kids => (if k = 3 then [(8, r)] else []) ++ hdsPs kids
def hdsPs : List Pt → List Hd
  | [] => []
  | p :: l => hdsP p ++ hdsPs l
end
mutual
def YC : Tm → List Hd
  | .mk k _ r kids cases => (if srt k = 0 then [] else [(srt k, r)]) ++ (hdsTs kids ++ hdsCs cases)
def hdsTs : List Tm → List Hd
  | [] => []
  | t :: l => YC t ++ hdsTs l
def hdsCs : List (Pt × Tm) → List Hd
  | [] => []
  | (p, t) :: l => hdsP p ++ (YC t ++ hdsCs l)
end
/-! the program: each once, as they are met -/
def Ys (l : List Hd) (h : Hd) : List Hd := if h ∈ l then l else l ++ [h]
theorem addH_mem {l : List Hd} {h x : Hd} : x ∈ Ys l h ↔ x ∈ l ∨ x = h := by
  unfold Ys
  split
  · rename_i e; constructor
    · exact .inl
    · rintro (q | rfl)
      · exact q
      · exact e
  · simp
theorem addH_nodup {l : List Hd} {h : Hd} (q : l.Nodup) : (Ys l h).Nodup := by
  unfold Ys
  split
  · exact q
  · rename_i e
    rw [List.nodup_append]
    exact ⟨q, by simp, fun a ha b hb e2 => by simp at hb; subst hb e2; exact e ha⟩
mutual
def gP : Pt → List Hd → List Hd
  | .mk k _ r kids, l => gPs kids (if k = 3 then Ys l (8, r) else l)
def gPs : List Pt → List Hd → List Hd
  | [], l => l
  | p :: ps, l => gPs ps (gP p l)
end
def gCp : List (Pt × Tm) → List Hd → List Hd
  | [], l => l
  | c :: cs, l => gCp cs (gP c.1 l)
def hd0 (k : Int) (r : Sm) (l : List Hd) : List Hd := if srt k = 0 then l else Ys l (srt k, r)
mutual
def gT : Tm → List Hd → List Hd
  | .mk k _ r kids cases, l => gBs cases (gTs kids (gCp cases (hd0 k r l)))
def gTs : List Tm → List Hd → List Hd
  | [], l => l
  | t :: ts, l => gTs ts (gT t l)
def gBs : List (Pt × Tm) → List Hd → List Hd
  | [], l => l
  | (_, t) :: cs, l => gBs cs (gT t l)
end
theorem gP_mem (p : Pt) : ∀ (l : List Hd) (x : Hd), x ∈ gP p l ↔ x ∈ l ∨ x ∈ hdsP p := by
  induction p using Pt.ind with
  | h k n r kids ih =>
    intro l x
    have : ∀ (ps : List Pt), (∀ p ∈ ps, ∀ (l : List Hd) (x : Hd), x ∈ gP p l ↔ x ∈ l ∨ x ∈ hdsP p) → ∀ l, x ∈ gPs ps l ↔ x ∈ l ∨ x ∈ hdsPs ps := by
      intro ps
      induction ps with
      | nil => intro _ l; simp [gPs, hdsPs]
      | cons p ps ihp => intro h l; rw [gPs, hdsPs, ihp (fun q hq => h q (by simp [hq])), h p (by simp)]; simp [or_assoc]
    rw [gP, hdsP, this kids ih]
    split
    · rw [addH_mem]; simp [or_assoc]
    · simp
theorem gP_nodup (p : Pt) : ∀ (l : List Hd), l.Nodup → (gP p l).Nodup := by
  induction p using Pt.ind with
  | h k n r kids ih =>
    intro l hl
    have : ∀ (ps : List Pt), (∀ p ∈ ps, ∀ (l : List Hd), l.Nodup → (gP p l).Nodup) → ∀ l, l.Nodup → (gPs ps l).Nodup := by
      intro ps
      induction ps with
      | nil => intro _ l h; rw [gPs]; exact h
      | cons p ps ihp => intro h l q; rw [gPs]; exact ihp (fun q hq => h q (by simp [hq])) _ (h p (by simp) _ q)
    rw [gP]
    refine this kids ih _ ?_
    split
    · exact addH_nodup hl
    · exact hl
theorem gCp_mem {x : Hd} : ∀ (cs : List (Pt × Tm)) (l : List Hd), x ∈ gCp cs l ↔ x ∈ l ∨ ∃ c ∈ cs, x ∈ hdsP c.1 := by
  intro cs
  induction cs with
  | nil => intro l; simp [gCp]
  | cons c cs ih => intro l; rw [gCp, ih, gP_mem]; simp [or_assoc]
theorem gCp_nodup : ∀ (cs : List (Pt × Tm)) (l : List Hd), l.Nodup → (gCp cs l).Nodup := by
  intro cs
  induction cs with
  | nil => intro l h; rw [gCp]; exact h
  | cons c cs ih => intro l h; rw [gCp]; exact ih _ (gP_nodup _ _ h)
theorem hdsCs_mem {x : Hd} : ∀ (cs : List (Pt × Tm)), x ∈ hdsCs cs ↔ (∃ c ∈ cs, x ∈ hdsP c.1) ∨ ∃ c ∈ cs, x ∈ YC c.2 := by
  intro cs
  induction cs with
  | nil => simp [hdsCs]
  | cons c cs ih =>
    obtain ⟨p, t⟩ := c
    rw [hdsCs, List.mem_append, List.mem_append, ih]
    simp only [List.mem_cons, exists_eq_or_imp]
    constructor
    · rintro (h | h | h | h)
      · exact .inl (.inl h)
      · exact .inr (.inl h)
      · exact .inl (.inr h)
      · exact .inr (.inr h)
    · rintro ((h | h) | h | h)
      · exact .inl h
      · exact .inr (.inr (.inl h))
      · exact .inr (.inl h)
      · exact .inr (.inr (.inr h))
theorem hdsTs_mem {x : Hd} : ∀ (ts : List Tm), x ∈ hdsTs ts ↔ ∃ t ∈ ts, x ∈ YC t := by
  intro ts
  induction ts with
  | nil => simp [hdsTs]
  | cons t ts ih => rw [hdsTs, List.mem_append, ih]; simp
theorem gT_mem (t : Tm) : ∀ (l : List Hd) (x : Hd), x ∈ gT t l ↔ x ∈ l ∨ x ∈ YC t := by
  induction t using Tm.ind with
  | h k n r kids cases ih ih' =>
    intro l x
    have h1 : ∀ (ts : List Tm), (∀ t ∈ ts, ∀ (l : List Hd) (x : Hd), x ∈ gT t l ↔ x ∈ l ∨ x ∈ YC t) → ∀ l, x ∈ gTs ts l ↔ x ∈ l ∨ ∃ t ∈ ts, x ∈ YC t := by
      intro ts
      induction ts with
      | nil => intro _ l; simp [gTs]
      | cons p ps ihp => intro h l; rw [gTs, ihp (fun q hq => h q (by simp [hq])), h p (by simp)]; simp [or_assoc]
    have h2 : ∀ (ts : List (Pt × Tm)), (∀ c ∈ ts, ∀ (l : List Hd) (x : Hd), x ∈ gT c.2 l ↔ x ∈ l ∨ x ∈ YC c.2) → ∀ l, x ∈ gBs ts l ↔ x ∈ l ∨ ∃ c ∈ ts, x ∈ YC c.2 := by
      intro ts
      induction ts with
      | nil => intro _ l; simp [gBs]
      | cons c ps ihp => obtain ⟨p, t⟩ := c; intro h l; rw [gBs, ihp (fun q hq => h q (by simp [hq])), h (p, t) (by simp)]; simp [or_assoc]
    rw [gT, h2 cases ih', h1 kids ih, gCp_mem, YC, List.mem_append, List.mem_append, hdsTs_mem, hdsCs_mem]
    unfold hd0
    split
    · simp only [List.not_mem_nil, false_or]
      constructor
      · rintro (((h | h) | h) | h)
        · exact .inl h
        · exact .inr (.inr (.inl h))
        · exact .inr (.inl h)
        · exact .inr (.inr (.inr h))
      · rintro (h | h | h | h)
        · exact .inl (.inl (.inl h))
        · exact .inl (.inr h)
        · exact .inl (.inl (.inr h))
        · exact .inr h
    · rw [addH_mem, List.mem_singleton]
      constructor
      · rintro ((((h | h) | h) | h) | h)
        · exact .inl h
        · exact .inr (.inl h)
        · exact .inr (.inr (.inr (.inl h)))
        · exact .inr (.inr (.inl h))
        · exact .inr (.inr (.inr (.inr h)))
      · rintro (h | h | h | h | h)
        · exact .inl (.inl (.inl (.inl h)))
        · exact .inl (.inl (.inl (.inr h)))
        · exact .inl (.inr h)
        · exact .inl (.inl (.inr h))
        · exact .inr h
theorem gT_nodup (t : Tm) : ∀ (l : List Hd), l.Nodup → (gT t l).Nodup := by
  induction t using Tm.ind with
  | h k n r kids cases ih ih' =>
    intro l hl
    have h1 : ∀ (ts : List Tm), (∀ t ∈ ts, ∀ (l : List Hd), l.Nodup → (gT t l).Nodup) → ∀ l, l.Nodup → (gTs ts l).Nodup := by
      intro ts
      induction ts with
      | nil => intro _ l h; rw [gTs]; exact h
      | cons p ps ihp => intro h l q; rw [gTs]; exact ihp (fun q hq => h q (by simp [hq])) _ (h p (by simp) _ q)
    have h2 : ∀ (ts : List (Pt × Tm)), (∀ c ∈ ts, ∀ (l : List Hd), l.Nodup → (gT c.2 l).Nodup) → ∀ l, l.Nodup → (gBs ts l).Nodup := by
      intro ts
      induction ts with
      | nil => intro _ l h; rw [gBs]; exact h
      | cons c ps ihp => obtain ⟨p, t⟩ := c; intro h l q; rw [gBs]; exact ihp (fun q hq => h q (by simp [hq])) _ (h (p, t) (by simp) _ q)
    rw [gT]
    refine h2 cases ih' _ (h1 kids ih _ (gCp_nodup _ _ ?_))
    unfold hd0
    split
    · exact hl
    · exact addH_nodup hl
/-- the digests of one sort -/
def sel (k : Int) (l : List Hd) : List Sm := l.filterMap fun h => if h.1 = k then some h.2 else none
theorem sel_mem {k : Int} {l : List Hd} {r : Sm} : r ∈ sel k l ↔ (k, r) ∈ l := by
  unfold sel
  rw [List.mem_filterMap]
  constructor
  · rintro ⟨⟨a, b⟩, h1, h2⟩
    split at h2
    · rename_i e; cases e; cases h2; exact h1
    · cases h2
  · intro h; exact ⟨_, h, by simp⟩
theorem sel_app (k : Int) (a b : List Hd) : sel k (a ++ b) = sel k a ++ sel k b := by unfold sel; rw [List.filterMap_append]
theorem sel_one (k : Int) (r : Sm) : sel k [(k, r)] = [r] := by simp [sel]
theorem sel_other {k j : Int} (r : Sm) (h : j ≠ k) : sel k [(j, r)] = [] := by simp [sel, h]
theorem sel_nodup {k : Int} : ∀ {l : List Hd}, l.Nodup → (sel k l).Nodup := by
  intro l
  induction l with
  | nil => intro _; simp [sel]
  | cons a l ih =>
    intro h
    rw [List.nodup_cons] at h
    obtain ⟨i, r⟩ := a
    rw [show (i, r) :: l = [(i, r)] ++ l from rfl, sel_app]
    by_cases e : i = k
    · subst e
      rw [sel_one, List.singleton_append, List.nodup_cons]
      exact ⟨fun q => h.1 (sel_mem.1 q), ih h.2⟩
    · rw [sel_other r e]; exact ih h.2
theorem sel_len (k : Int) (l : List Hd) : (sel k l).length ≤ l.length := List.length_filterMap_le ..
/-! how many there are at most -/
theorem addH_len (l : List Hd) (h : Hd) : (Ys l h).length ≤ l.length + 1 := by unfold Ys; split <;> simp
theorem gP_len (p : Pt) : ∀ l, (gP p l).length ≤ l.length + sizeP p := by
  induction p using Pt.ind with
  | h k n r kids ih =>
    intro l
    have : ∀ (ps : List Pt), (∀ p ∈ ps, ∀ l, (gP p l).length ≤ l.length + sizeP p) → ∀ l, (gPs ps l).length ≤ l.length + ZH ps := by
      intro ps
      induction ps with
      | nil => intro _ l; simp [gPs]
      | cons p ps ihp => intro h l; rw [gPs, ZH]; have := ihp (fun q hq => h q (by simp [hq])) (gP p l); have := h p (by simp) l; omega
    rw [gP, sizeP]
    have h1 := this kids ih (if k = 3 then Ys l (8, r) else l)
    have h2 := addH_len l (8, r)
    split at h1 <;> split <;> first | omega | contradiction
theorem gCp_len (cs : List (Pt × Tm)) : ∀ l, (gCp cs l).length + 0 ≤ l.length + (cs.map fun c => sizeP c.1).sum := by
  induction cs with
  | nil => intro l; simp [gCp]
  | cons c cs ih => intro l; rw [gCp]; have := ih (gP c.1 l); have := gP_len c.1 l; simp only [List.map_cons, List.sum_cons]; omega
theorem gT_len (t : Tm) : ∀ l, (gT t l).length ≤ l.length + sizeT t := by
  induction t using Tm.ind with
  | h k n r kids cases ih ih' =>
    intro l
    have h1 : ∀ (ts : List Tm), (∀ t ∈ ts, ∀ l, (gT t l).length ≤ l.length + sizeT t) → ∀ l, (gTs ts l).length ≤ l.length + sizeTs ts := by
      intro ts
      induction ts with
      | nil => intro _ l; simp [gTs]
      | cons p ps ihp => intro h l; rw [gTs, sizeTs]; have := ihp (fun q hq => h q (by simp [hq])) (gT p l); have := h p (by simp) l; omega
    have h2 : ∀ (ts : List (Pt × Tm)), (∀ c ∈ ts, ∀ l, (gT c.2 l).length ≤ l.length + sizeT c.2) → ∀ l, (gBs ts l).length + (ts.map fun c => sizeP c.1).sum ≤ l.length + sizeCs ts := by
      intro ts
      induction ts with
      | nil => intro _ l; simp [gBs]
      | cons c ps ihp => obtain ⟨p, t⟩ := c; intro h l; rw [gBs, sizeCs]; have := ihp (fun q hq => h q (by simp [hq])) (gT t l); have := h (p, t) (by simp) l; simp only [List.map_cons, List.sum_cons] at *; omega
    have h3 : (hd0 k r l).length ≤ l.length + 1 := by
      unfold hd0; split
      · omega
      · exact addH_len _ _
    rw [gT, sizeT]
    have e1 := h2 cases ih' (gTs kids (gCp cases (hd0 k r l)))
    have e2 := h1 kids ih (gCp cases (hd0 k r l))
    have e3 := gCp_len cases (hd0 k r l)
    omega
/-! the reference: three rising lists -/
structure L3 where
  a : List Sm
  b : List Sm
  c : List Sm
mutual
def rP : Pt → List Sm → List Sm
  | .mk k _ r kids, l => rPs kids (if k = 3 then among l r else l)
def rPs : List Pt → List Sm → List Sm
  | [], l => l
  | p :: ps, l => rPs ps (rP p l)
end
def rH (k : Int) (r : Sm) (l : L3) : L3 := ⟨if k = 6 then among l.a r else l.a, if k = 8 then among l.b r else l.b, if k = 11 ∨ k = 12 then among l.c r else l.c⟩
mutual
def rT : Tm → L3 → L3
  | .mk k _ r kids cases, l => rCs cases (rTs kids (rH k r l))
def rTs : List Tm → L3 → L3
  | [], l => l
  | t :: ts, l => rTs ts (rT t l)
def rCs : List (Pt × Tm) → L3 → L3
  | [], l => l
  | (p, t) :: cs, l => rCs cs (rT t ⟨l.a, rP p l.b, l.c⟩)
end
theorem rP_ok (p : Pt) : ∀ l, risS l → risS (rP p l) ∧ ∀ x, x ∈ rP p l ↔ x ∈ l ∨ (8, x) ∈ hdsP p := by
  induction p using Pt.ind with
  | h k n r kids ih =>
    intro l hl
    have : ∀ (ps : List Pt), (∀ p ∈ ps, ∀ l, risS l → risS (rP p l) ∧ ∀ x, x ∈ rP p l ↔ x ∈ l ∨ (8, x) ∈ hdsP p) → ∀ l, risS l → risS (rPs ps l) ∧ ∀ x, x ∈ rPs ps l ↔ x ∈ l ∨ (8, x) ∈ hdsPs ps := by
      intro ps
      induction ps with
      | nil => intro _ l h; rw [rPs]; exact ⟨h, by simp [hdsPs]⟩
      | cons p ps ihp =>
        intro h l q
        obtain ⟨e1, e2⟩ := h p (by simp) l q
        obtain ⟨e3, e4⟩ := ihp (fun q hq => h q (by simp [hq])) _ e1
        rw [rPs]; exact ⟨e3, fun x => by rw [e4, e2, hdsPs, List.mem_append, or_assoc]⟩
    rw [rP]
    split
    · rename_i hk
      obtain ⟨e1, e2⟩ := this kids ih _ (among_ris (s := r) hl)
      refine ⟨e1, fun x => ?_⟩
      rw [e2, among_mem, hdsP, if_pos hk, List.mem_append, List.mem_singleton, Prod.mk.injEq]
      constructor
      · rintro ((h | h) | h)
        · exact .inr (.inl ⟨rfl, h⟩)
        · exact .inl h
        · exact .inr (.inr h)
      · rintro (h | ⟨_, h⟩ | h)
        · exact .inl (.inr h)
        · exact .inl (.inl h)
        · exact .inr h
    · rename_i hk
      obtain ⟨e1, e2⟩ := this kids ih _ hl
      exact ⟨e1, fun x => by rw [e2, hdsP, if_neg hk, List.nil_append]⟩
/-- what a triple of lists holds of a list of digests -/
def H3 (l : L3) (m : Hd → Prop) : Prop := risS l.a ∧ risS l.b ∧ risS l.c ∧ (∀ x, x ∈ l.a ↔ m (6, x)) ∧ (∀ x, x ∈ l.b ↔ m (8, x)) ∧ (∀ x, x ∈ l.c ↔ m (11, x))
theorem H3.cong {l : L3} {m m' : Hd → Prop} (h : H3 l m) (e : ∀ x, m x ↔ m' x) : H3 l m' :=
  ⟨h.1, h.2.1, h.2.2.1, fun x => (h.2.2.2.1 x).trans (e _), fun x => (h.2.2.2.2.1 x).trans (e _), fun x => (h.2.2.2.2.2 x).trans (e _)⟩
theorem rH_ok {k : Int} {r : Sm} {l : L3} {m : Hd → Prop} (h : H3 l m) : H3 (rH k r l) (fun x => m x ∨ (srt k ≠ 0 ∧ x = (srt k, r))) := by
  obtain ⟨h1, h2, h3, h4, h5, h6⟩ := h
  by_cases e6 : k = 6
  · subst e6
    refine ⟨?_, ?_, ?_, ?_, ?_, ?_⟩ <;> simp [rH, srt, among_ris, h1, h2, h3, h4, h5, h6, among_mem, or_comm]
  by_cases e8 : k = 8
  · subst e8
    refine ⟨?_, ?_, ?_, ?_, ?_, ?_⟩ <;> simp [rH, srt, among_ris, h1, h2, h3, h4, h5, h6, among_mem, or_comm]
  by_cases e11 : k = 11 ∨ k = 12
  · refine ⟨?_, ?_, ?_, ?_, ?_, ?_⟩ <;> simp [rH, srt, among_ris, h1, h2, h3, h4, h5, h6, among_mem, or_comm, e6, e8, e11]
  · refine ⟨?_, ?_, ?_, ?_, ?_, ?_⟩ <;> simp [rH, srt, h1, h2, h3, h4, h5, h6, e6, e8, e11]
theorem rT_ok (t : Tm) : ∀ l m, H3 l m → H3 (rT t l) (fun x => m x ∨ x ∈ YC t) := by
  induction t using Tm.ind with
  | h k n r kids cases ih ih' =>
    intro l m hl
    have h1 : ∀ (ts : List Tm), (∀ t ∈ ts, ∀ l m, H3 l m → H3 (rT t l) (fun x => m x ∨ x ∈ YC t)) → ∀ l m, H3 l m → H3 (rTs ts l) (fun x => m x ∨ x ∈ hdsTs ts) := by
      intro ts
      induction ts with
      | nil => intro _ l m h; rw [rTs]; exact h.cong fun x => by simp [hdsTs]
      | cons t ts ihp =>
        intro h l m q
        rw [rTs]
        exact (ihp (fun q hq => h q (by simp [hq])) _ _ (h t (by simp) l m q)).cong fun x => by rw [hdsTs, List.mem_append, or_assoc]
    have h2 : ∀ (ts : List (Pt × Tm)), (∀ c ∈ ts, ∀ l m, H3 l m → H3 (rT c.2 l) (fun x => m x ∨ x ∈ YC c.2)) → ∀ l m, H3 l m → H3 (rCs ts l) (fun x => m x ∨ x ∈ hdsCs ts) := by
      intro ts
      induction ts with
      | nil => intro _ l m h; rw [rCs]; exact h.cong fun x => by simp [hdsCs]
      | cons c ts ihp =>
        obtain ⟨p, t⟩ := c
        intro h l m q
        rw [rCs]
        have q1 : H3 ⟨l.a, rP p l.b, l.c⟩ (fun x => m x ∨ x ∈ hdsP p) := by
          obtain ⟨q1, q2, q3, q4, q5, q6⟩ := q
          have hno : ∀ x : Hd, x ∈ hdsP p → x.1 = 8 := by
            clear h ihp q1 q2 q3 q4 q5 q6
            induction p using Pt.ind with
            | h k n r kids ih =>
              intro x hx
              rw [hdsP, List.mem_append] at hx
              rcases hx with hx | hx
              · split at hx
                · rw [List.mem_singleton] at hx; subst hx; rfl
                · cases hx
              · induction kids with
                | nil => rw [hdsPs] at hx; cases hx
                | cons q ps ihq =>
                  rw [hdsPs, List.mem_append] at hx
                  rcases hx with hx | hx
                  · exact ih q (by simp) x hx
                  · exact ihq (fun z hz => ih z (by simp [hz])) hx
          have hb := rP_ok p l.b q2
          refine ⟨q1, hb.1, q3, fun x => ?_, fun x => ?_, fun x => ?_⟩
          · show x ∈ l.a ↔ _
            rw [q4]
            exact ⟨.inl, fun h => h.elim id fun h => absurd (hno _ h) (by simp)⟩
          · show x ∈ rP p l.b ↔ _
            rw [hb.2, q5]
          · show x ∈ l.c ↔ _
            rw [q6]
            exact ⟨.inl, fun h => h.elim id fun h => absurd (hno _ h) (by simp)⟩
        exact (ihp (fun q hq => h q (by simp [hq])) _ _ (h (p, t) (by simp) _ _ q1)).cong fun x => by
          rw [hdsCs, List.mem_append, List.mem_append]; simp only [or_assoc]
    rw [rT]
    refine (h2 cases ih' _ _ (h1 kids ih _ _ (rH_ok (k := k) (r := r) hl))).cong fun x => ?_
    rw [YC, List.mem_append, List.mem_append]
    split
    · rename_i e; simp [e, or_assoc]
    · rename_i e; simp [e, or_assoc]
/-- each sort of the reference's lists -/
theorem Y2 (t : Tm) : H3 (rT t ⟨[], [], []⟩) (fun x => x ∈ YC t) :=
  (rT_ok t ⟨[], [], []⟩ (fun _ => False) ⟨List.Pairwise.nil, List.Pairwise.nil, List.Pairwise.nil, by simp, by simp, by simp⟩).cong fun x => by simp
/-- a list of digests in order: what is sorted and has no two alike -/
theorem sorted_ris {l : List Sm} (hn : l.Nodup) (hs : l.Pairwise fun x y => bef y x = false) : risS l := by
  unfold risS
  rw [List.Nodup] at hn
  refine (hn.and hs).imp fun {a b} h => ?_
  cases e : bef a b with
  | true => rfl
  | false => exact absurd (bef_tri e h.2) h.1
end Go.Proofs.YtfdeibbpfgolcaaGreat.Hs
/-! Rows of digests. Generic but for the digest's cells. -/
namespace Go.Proofs.YtfdeibbpfgolcaaGreat.Hs
open Go Go.Proofs
/-- a digest, as cells read -/
def RSm (_ : Heap) (cs : List Value) (r : Sm) : Prop := cs = sC r
theorem RSms.mono {h h' : Heap} (hh : Hle h h') {v : Value} {l : List Sm} (q : Hs.rdS RSm 32 h v l) : Hs.rdS RSm 32 h' v l := rdS.mono q hh fun _ _ _ e => e
def sms (l : List Sm) : List (List Value) := l.map sC
theorem ZU (l : List Sm) : (sms l).length = l.length := by simp [sms]
theorem sms_snoc (l : List Sm) (r : Sm) : sms (l ++ [r]) = sms l ++ [sC r] := by simp [sms]
theorem sms_app (a b : List Sm) : sms (a ++ b) = sms a ++ sms b := by simp [sms]
theorem sms_get (l : List Sm) (j : Nat) (h : j < l.length) : (sms l)[j]'(by rw [ZU]; exact h) = sC l[j] := by simp [sms]
theorem YX (l : List Sm) : ∀ e ∈ sms l, e.length = 32 := by
  intro e he; obtain ⟨x, _, rfl⟩ := List.mem_map.1 he; exact sC_len x
theorem sms_ok (l : List Sm) : ∀ e ∈ sms l, okc e := by
  intro e he; obtain ⟨x, _, rfl⟩ := List.mem_map.1 he; exact sC_ok x
theorem own_sms {T : TypeId} {v : Value} {l : List Sm} {k : Zf} {h : Heap} (o : Own T 32 v (sms l) k) (hn : l.length ≤ 9223372036854775807) (hk : Has k h) : Hs.rdS RSm 32 h v l :=
  o.rdS (ZU l).symm hn hk fun i h1 h2 => by simp [sms, RSm]
end Go.Proofs.YtfdeibbpfgolcaaGreat.Hs
/-! Walks, printed by a program of this session's own (gen.py). -/
namespace Go.Proofs.YtfdeibbpfgolcaaGreat.Hs
open Go Go.Proofs
set_option maxRecDepth 100000
set_option linter.unusedVariables false
set_option linter.unusedSimpArgs false
attribute [local irreducible] JL J CT wlo DT
theorem more_ct (k j : Int) (H : Heap) : CT Tryz.prog 96 ⟨[iv k, iv j]⟩ [] H (fun v N => v = iv (more k j) ∧ N = []) := by
 refine Zk Tryz.func96 rfl rfl <| Zc <| Za <| JLA rfl <| Zb <| Zc <| Zo <| Zc <| Zc <| Za <| JLM rfl <| JLn (Pu.eql rfl rfl) <| JLA rfl ?_
 refine Zb <| Zg rfl (fun h1 => ?_) (fun h1 => ?_)
 ·replace h1 := dt h1
  refine Zm <| Zg rfl (fun _ => ?_) (fun h2 => absurd h1 (df h2))
  refine Zc <| Za <| JLA rfl <| Zb <| Zl <| ⟨iv 1, [], Ret.one rfl (RV.tmp rfl), Sub.nil, ?_⟩
  exact ⟨by first | (simp_all [more]; done) | (congr 1; unfold more; simp_all; try omega), rfl⟩
 replace h1 := df h1
 refine Zc <| Za <| JLM rfl <| JLn (Pu.eql rfl rfl) <| JLM rfl <| ZC 2 [11, 12] [(12, cond (decide (k = 5)) (.bool (decide (j = 1))) undef)] ?_ fun f4 => ?_
 ·cases h3 : (decide (k = 5)) with
  | true =>
   replace h3 := dt h3
   refine JLM rfl <| JLn (Pu.eql rfl rfl) ?_
   exact Zb ⟨⟨rfl, trivial⟩, rfl⟩
  | false =>
   exact ZP rfl ⟨rfl, trivial⟩
 refine JLn (Pu.pickAnd rfl rfl rfl) <| JLA rfl <| Zb <| Zg rfl (fun h5 => ?_) (fun h5 => ?_)
 ·obtain ⟨h5a, h5b⟩ := YW h5
  replace h5a := dt h5a
  replace h5b := dt h5b
  refine Zm <| Zg rfl (fun h6 => ?_) (fun h6 => ?_)
  ·obtain ⟨h6a, h6b⟩ := YW h6
   replace h6a := dt h6a
   replace h6b := dt h6b
   refine Zc <| Za <| JLA rfl <| Zb <| Zl <| ⟨iv 1, [], Ret.one rfl (RV.tmp rfl), Sub.nil, ?_⟩
   exact ⟨by first | (simp_all [more]; done) | (congr 1; unfold more; simp_all; try omega), rfl⟩
  refine Zc <| Za <| JLM rfl <| JLn (Pu.eql rfl rfl) <| JLM rfl <| ZC 2 [24, 25] [(25, cond (decide (k = 12)) (.bool (decide (1 < j))) undef)] ?_ fun f8 => ?_
  ·cases h7 : (decide (k = 12)) with
   | true =>
    replace h7 := dt h7
    refine JLM rfl <| JLn (Pu.gtr rfl rfl) ?_
    exact Zb ⟨⟨rfl, trivial⟩, rfl⟩
   | false =>
    exact ZP rfl ⟨rfl, trivial⟩
  refine JLn (Pu.pickAnd rfl rfl rfl) <| JLA rfl <| Zb <| Zg rfl (fun h9 => ?_) (fun h9 => ?_)
  ·obtain ⟨h9a, h9b⟩ := YW h9
   replace h9a := dt h9a
   replace h9b := dt h9b
   refine Zc <| Za <| JLA rfl <| Zb <| Zl <| ⟨iv 2, [], Ret.one rfl (RV.tmp rfl), Sub.nil, ?_⟩
   exact ⟨by first | (simp_all [more]; done) | (congr 1; unfold more; simp_all; try omega), rfl⟩
  refine Zm <| Zc <| Za <| JLA rfl <| Zb <| Zl <| ⟨iv 0, [], Ret.one rfl (RV.tmp rfl), Sub.nil, ?_⟩
  exact ⟨by first | (simp_all [more]; done) | (congr 1; unfold more; simp_all; try omega), rfl⟩
 refine Za <| JLM rfl <| JLn (Pu.eql rfl rfl) <| JLM rfl <| ZC 2 [17, 18] [(18, cond (decide (k = 12)) (.bool (decide (j = 1))) undef)] ?_ fun f11 => ?_
 ·cases h10 : (decide (k = 12)) with
  | true =>
   replace h10 := dt h10
   refine JLM rfl <| JLn (Pu.eql rfl rfl) ?_
   exact Zb ⟨⟨rfl, trivial⟩, rfl⟩
  | false =>
   exact ZP rfl ⟨rfl, trivial⟩
 refine JLn (Pu.pickAnd rfl rfl rfl) <| JLA rfl <| Zb <| Zg rfl (fun h12 => ?_) (fun h12 => ?_)
 ·obtain ⟨h12a, h12b⟩ := YW h12
  replace h12a := dt h12a
  replace h12b := dt h12b
  refine Zc <| Za <| JLA rfl <| Zb <| Zl <| ⟨iv 1, [], Ret.one rfl (RV.tmp rfl), Sub.nil, ?_⟩
  exact ⟨by first | (simp_all [more]; done) | (congr 1; unfold more; simp_all; try omega), rfl⟩
 refine Zc <| Za <| JLM rfl <| JLn (Pu.eql rfl rfl) <| JLM rfl <| ZC 2 [24, 25] [(25, cond (decide (k = 12)) (.bool (decide (1 < j))) undef)] ?_ fun f14 => ?_
 ·cases h13 : (decide (k = 12)) with
  | true =>
   replace h13 := dt h13
   refine JLM rfl <| JLn (Pu.gtr rfl rfl) ?_
   exact Zb ⟨⟨rfl, trivial⟩, rfl⟩
  | false =>
   exact ZP rfl ⟨rfl, trivial⟩
 refine JLn (Pu.pickAnd rfl rfl rfl) <| JLA rfl <| Zb <| Zg rfl (fun h15 => ?_) (fun h15 => ?_)
 ·obtain ⟨h15a, h15b⟩ := YW h15
  replace h15a := dt h15a
  replace h15b := dt h15b
  refine Zc <| Za <| JLA rfl <| Zb <| Zl <| ⟨iv 2, [], Ret.one rfl (RV.tmp rfl), Sub.nil, ?_⟩
  exact ⟨by first | (simp_all [more]; done) | (congr 1; unfold more; simp_all; try omega), rfl⟩
 refine Zm <| Zc <| Za <| JLA rfl <| Zb <| Zl <| ⟨iv 0, [], Ret.one rfl (RV.tmp rfl), Sub.nil, ?_⟩
 exact ⟨by first | (simp_all [more]; done) | (congr 1; unfold more; simp_all; try omega), rfl⟩
theorem Yt (n lo hi : Int) (H : Heap) : CT Tryz.prog 79 ⟨[iv n, iv lo, iv hi]⟩ [] H (fun v N => v = .bool (decide (n < lo ∨ hi < n)) ∧ N = []) := by
 refine Zk Tryz.func79 rfl rfl <| Zc <| Za <| JLA rfl <| Zb <| Zc <| Za <| JLM rfl <| JLM rfl <| JLn (Pu.lss rfl rfl) <| JLM rfl <| ZC 3 [11, 12, 13] [(13, cond (decide (n < lo)) undef (.bool (decide (hi < n))))] ?_ fun f2 => ?_
 ·cases h1 : (decide (n < lo)) with
  | false =>
   replace h1 := df h1
   refine JLM rfl <| JLM rfl <| JLn (Pu.gtr rfl rfl) ?_
   exact Zb ⟨⟨rfl, trivial⟩, rfl⟩
  | true =>
   exact ZP rfl ⟨rfl, trivial⟩
 refine JLn (Pu.pickOr rfl rfl rfl) <| JLA rfl <| Zb <| Zl <| ⟨.bool ((decide (n < lo)) || (decide (hi < n))), [], Ret.one rfl (RV.tmp rfl), Sub.nil, ?_⟩
 exact ⟨by simp, rfl⟩
theorem binds_ct : ∀ (p : Pt) (cs : List Value) (H : Heap), RP H cs p → binds p ≤ 1000000 → CT Tryz.prog 97 ⟨[.agg ⟨cs⟩]⟩ [] H (fun v N => v = iv (binds p : Int) ∧ N = []) := by
 intro p
 induction p using Pt.ind with
 | h kind num ref kids ih =>
 intro cs H hp hb
 obtain ⟨ks, rfl, hk, hn, hks⟩ := RP_mk.1 hp
 rw [binds] at hb ⊢
 refine Zk Tryz.func97 rfl rfl <| Zc <| Za <| JLr (Zp (l := pkP kind num ref ks) rfl rfl fun b1 => JLA rfl <| Zb <| Zc <| Zc <| Za <| JLq (pp b1 0) (YI rfl rfl) <| JLr (Ze ty3 rfl (At.bx 0 rfl) (pkP_0 ..) <| JLn (Pu.eql rfl rfl) <| Zb ?_))
 refine Zg rfl (fun h2 => ?_) (fun h2 => ?_)
 ·replace h2 := dt h2
  refine Zc <| Za <| JLA rfl <| Zb <| Zl <| ⟨iv 1, [], Ret.one rfl (RV.tmp rfl), Sub.nil, ?_⟩
  exact ⟨by rw [if_pos (by assumption)]; rfl, rfl⟩
 replace h2 := df h2
 refine Zm <| Zc <| Za <| JLA rfl <| Zb <| Zc <| Zc <| Za <| JLq (pp b1 34) (Yv rfl rfl) <| JLr (Ze ty52 rfl (At.bx 0 rfl) (YG ..) ?_)
 obtain ⟨a3, cap3, hv3⟩ := hks.sl
 have hle3 := hks.le
 refine JLn (Pu.lenSl Tryz.runUnderlying52 hv3) <| JLM rfl <| Zb <| Zo <| ZT (fun k ρ M => ∃ (j : Nat), ρ 2 = iv 0 ∧ ρ 3 = iv ((Yd (kids.take j) : Int)) ∧ ρ 10 = ks ∧ ρ 11 = iv ((kids.length : Int)) ∧ ρ 12 = iv ((j : Int)) ∧ Sub [(BX b1 (pkP kind num ref ks) 54)] M ∧ j ≤ kids.length ∧ k = kids.length - j) _ ⟨0, rfl, rfl, rfl, rfl, rfl, (Sk Sub.nil), Nat.zero_le _, rfl⟩ ?_
 rintro _ ρ4 _ ⟨j, e5, e6, e7, e8, e9, hm10, hj, rfl⟩
 obtain ⟨ρ11, rfl⟩ := Zn (uc e5 (uc e6 (uc e7 (uc e8 (uc e9 un)))))
 clear e5 e6 e7 e8 e9
 refine ZS hm10 ?_
 have hlen := hks.le
 refine Zc <| Za <| JLn (Pu.lss rfl rfl) <| Zb <| Zc <| Zg rfl (fun h12 => ?_) (fun h12 => ?_)
 ·replace h12 := dt h12
  have h12n : j < kids.length := by omega
  have hm1 := binds_mem kids _ (List.getElem_mem h12n)
  have hm2 := bindsL_take kids _ h12n
  have hm3 := bindsL_take_le kids (j + 1)
  rw [if_neg (by assumption)] at hb
  refine Zm <| Zc <| Zo <| Zc <| Za ?_
  obtain ⟨b13, o13, cap13, row13, T13, fr13, cs13, hv13, hb13, hs13, hE13⟩ := hks.get j (by first | assumption | omega | decide | simp)
  refine JLq (pp b13 (o13 + j * 35)) (Pu.idx j Tryz.runUnderlying52 ZQ hv13 rfl rfl (by first | assumption | omega | decide | simp)) <| JLr (Zi ZQ rfl (At.im hb13) hs13 <| JLr (Zh (l := pkP 0 0 zS nS) Tryz.zeroValue54 rfl fun b14 => JLr (Zd 0 (vs := cs13) (l := cs13) ZQ rfl rfl rfl rfl (ZA hE13) (RP_ok hE13) (Zy (n := 35) rfl (ZA hE13)) <| Zb <| Za <| JLM rfl <| JLr (Zi ZQ rfl (At.bx 0 rfl) (Zu (ZA hE13)) <| Jc Tryz.call97 rfl (fun hin => ih _ (List.getElem_mem h12n) _ _ (RP.mono (Hle.hu _ _) hE13) (by omega)) rfl ?_))))
  rintro _ _ ⟨rfl, rfl⟩
  refine JLn (Pu.add64 rfl rfl (by first | omega | (constructor <;> omega))) <| JLA rfl <| Zb <| Za <| JLn (Pu.inc rfl rfl (by omega)) <| JLM rfl <| Zb <| ⟨_, ?_, (j + 1), rfl, (ieq rfl (by omega)), rfl, rfl, rfl, (Sd (Sk Sub.nil)), ?_, rfl⟩
  ·omega
  omega
 replace h12 := df h12
 have h12n : kids.length ≤ j := by omega
 refine ZB _ rfl <| Zc <| Za <| JLM rfl <| JLA rfl <| Zb <| Zl <| ⟨iv ((Yd (kids.take j) : Int)), [], Ret.one rfl (RV.tmp rfl), Sub.nil, ?_⟩
 exact ⟨by rw [if_neg (by assumption), List.take_of_length_le h12n], rfl⟩
end Go.Proofs.YtfdeibbpfgolcaaGreat.Hs
/-! Walks, printed by a program of this session's own (gen.py). -/
namespace Go.Proofs.YtfdeibbpfgolcaaGreat.Hs
open Go Go.Proofs
set_option maxRecDepth 100000
set_option linter.unusedVariables false
set_option linter.unusedSimpArgs false
attribute [local irreducible] JL J CT wlo DT
theorem parts_ct (cs : List Value) (H : Heap) (hl : cs.length = 36) : CT Tryz.prog 53 ⟨[.agg ⟨cs⟩]⟩ [] H (fun v N => ∃ b, v = .func (.func 95) ⟨[]⟩ ⟨[pp b 0]⟩ ∧ N = [(BX b cs 27)]) := by
 refine Zk Tryz.func53 rfl rfl <| Zc <| Za <| JLr (Zp (l := cs) rfl rfl fun b1 => JLa .nilFunc <| Zb <| Zc <| Za <| JLq (.func (.func 95) ⟨[]⟩ ⟨[pp b1 0]⟩) (Pu.makeFunc rfl rfl) <| JLA rfl <| Zb <| Zl <| ⟨.func (.func 95) ⟨[]⟩ ⟨[pp b1 0]⟩, [(BX b1 cs 27)], Ret.one rfl (RV.tmp rfl), (Sk Sub.nil), ?_⟩)
 exact ⟨_, rfl, rfl⟩
theorem parts1_ct (kind num : Int) (ref : Sm) (ks cv : Value) (kids : List Tm) (cases : List (Pt × Tm)) (H : Heap) (bT : Nat) (hks : rdS RT 36 H ks kids) (hcv : rdS RC 71 H cv cases) (hT : H bT = some (.cells ⟨pkT kind num ref ks cv⟩ 27 (0, 0))) (hsz : ∀ c ∈ cases, binds c.1 ≤ 1000000) (hkl : kids.length ≤ 1000000) (hcl : cases.length ≤ 1000000) (l : Nat) {σ : Type} (yc : σ → Zf) (Inv : σ → Prop) (step : Tm → Int → σ → Bool × σ) (s0 : σ) (h0 : Inv s0) (It : Tm → Int → Prop) (hIK : ∀ (j : Nat) (hj : j < kids.length), It kids[j] (more kind j)) (hIC : ∀ (j : Nat) (hj : j < cases.length), It cases[j].2 (binds cases[j].1 : Int)) (hI : ∀ x mo s, Inv s → (step x mo s).1 = true → Inv (step x mo s).2) (hy : ∀ x mo, It x mo → ∀ s (i : Int) a h, Inv s → Hle H h → RT h a x → YT Tryz.prog l ⟨[iv i, .agg ⟨a ++ [iv mo]⟩]⟩ [yc s] h (fun v N => v = .bool (step x mo s).1 ∧ N = [yc (step x mo s).2])) : CT Tryz.prog 95 ⟨[.func (.yield l) ⟨[]⟩ ⟨[]⟩, pp bT 0]⟩ [yc s0] H (fun _ N => N = [yc (yP step kind kids cases s0)]) := by
 refine Zk Tryz.func95 rfl rfl <| Zc <| Zc <| Za <| JLq (pp bT 34) (Yb rfl rfl) <| JLr (Ze ty24 rfl (At.im hT) (Z9 ..) ?_)
 obtain ⟨a1, cap1, hv1⟩ := hks.sl
 have hle1 := hks.le
 refine JLn (Pu.lenSl Tryz.runUnderlying24 hv1) <| JLM rfl <| Zb <| Zo <| ZT (fun k ρ M => ∃ (j : Nat) (s : σ), ρ 0 = .func (.yield l) ⟨[]⟩ ⟨[]⟩ ∧ ρ 1 = pp bT 0 ∧ ρ 8 = ks ∧ ρ 9 = iv ((kids.length : Int)) ∧ ρ 10 = iv ((j : Int)) ∧ Sub [yc s] M ∧ j ≤ kids.length ∧ Inv s ∧ yK step kind j (kids.drop j) s = yK step kind 0 kids s0 ∧ k = kids.length - j) _ ⟨0, s0, rfl, rfl, rfl, rfl, rfl, (Sk Sub.nil), Nat.zero_le _, h0, rfl, rfl⟩ ?_
 rintro _ ρ2 _ ⟨j, s, e3, e4, e5, e6, e7, hm8, hj, hs, hinv, rfl⟩
 obtain ⟨ρ9, rfl⟩ := Zn (uc e3 (uc e4 (uc e5 (uc e6 (uc e7 un)))))
 clear e3 e4 e5 e6 e7
 refine ZS hm8 ?_
 have hlen := hks.le
 refine Zc <| Za <| JLn (Pu.lss rfl rfl) <| Zb <| Zc <| Zg rfl (fun h10 => ?_) (fun h10 => ?_)
 ·replace h10 := dt h10
  have h10n : j < kids.length := by omega
  refine Zm <| Zc <| Zo <| Zc <| Za <| JLM rfl ?_
  obtain ⟨b11, o11, cap11, row11, T11, fr11, cs11, hv11, hb11, hs11, hE11⟩ := hks.get j (by first | assumption | omega | decide | simp)
  refine JLq (pp b11 (o11 + j * 36)) (Pu.idx j Tryz.runUnderlying24 Zs hv11 rfl rfl (by first | assumption | omega | decide | simp)) <| JLr (Zi Zs rfl (At.im hb11) hs11 <| JLr (Zh (l := pkT 0 0 zS nS nS) Tryz.zeroValue27 rfl fun b12 => JLA rfl <| JLr (Zd 0 (vs := cs11) (l := cs11) Zs rfl rfl rfl rfl (Zv hE11) (Y5 hE11) (Zy (n := 36) rfl (Zv hE11)) <| Zb <| Zc <| ZL mixed #[0, 0, 0, 0, 8, 0, 56, 124, 255, 511] 8 [some 15, some 16, some 17, some 18, some 19, some 20, some 21, some 22] [] [(6, fun _ _ vw qw => vw = iv (more kind ((j : Int))) ∧ qw = [])] rfl (by kernel_rfl) rfl (by kernel_rfl) <| DM (fun _ => rfl) <| DM (fun _ => rfl) <| Dl Zs (At.bx 0 rfl) (Zu (Zv hE11)) <| Dq (pp bT 0) (fun _ => ZO rfl rfl) <| Dl1 ty3 (At.im hT) (Z5 ..) ?_)))
  refine DM (fun _ => rfl) <| Dc rfl Tryz.call96 (fun _ => rfl) (fun hin => more_ct _ _ _) ?_
  rintro _ _ ⟨rfl, rfl⟩
  refine Dq (.agg ⟨cs11 ++ ([iv (more kind ((j : Int)))] : List Value)⟩) (fun _ => Pu.build (pv := [(0, .agg ⟨cs11⟩), (1, iv (more kind ((j : Int))))]) (l := cs11 ++ ([iv (more kind ((j : Int)))] : List Value)) rfl (bld107_0_1 (Zv hE11))) <| ZZ (M' := [(BX b12 cs11 27), yc s]) rfl ?_
  show JL _ _ _ [_, _] _ _ _
  refine JL_yield1 1 rfl rfl rfl (fun hin => hy _ _ (hIK j h10n) _ _ _ _ hs (Hle.hu _ _) (RT.mono (Hle.hu _ _) hE11)) rfl ?_
  rintro _ _ ⟨rfl, rfl⟩
  refine JLn (Pu.not rfl) <| Zb <| Zg rfl (fun h13 => ?_) (fun h13 => ?_)
  ·replace h13 := nt h13
   refine Zl <| ⟨.tuple ⟨[]⟩, [yc (step (kids[j]) (more kind ((j : Int))) s).2], Ret.none rfl, (Sk Sub.nil), ?_⟩
   rw [Yr h10n, yK, if_neg (by simp [h13])] at hinv
   show _ = _; rw [yP, ← hinv]; rfl
  replace h13 := nf h13
  refine Zm <| Za <| JLn (Pu.inc rfl rfl (by omega)) <| JLM rfl <| Zb <| ⟨_, ?_, (j + 1), ((step (kids[j]) (more kind ((j : Int))) s).2), rfl, rfl, rfl, rfl, rfl, (Sk Sub.nil), ?_, ?_, ?_, rfl⟩
  ·omega
  ·omega
  ·exact hI _ _ s hs h13
  rw [Yr h10n, yK, if_pos h13] at hinv; exact hinv
 replace h10 := df h10
 have h10n : kids.length ≤ j := by omega
 refine ZB _ rfl <| Zc <| Za <| JLq (pp bT 35) (Yw rfl rfl) <| JLr (Ze ty25 rfl (At.im hT) (Yj ..) ?_)
 obtain ⟨a14, cap14, hv14⟩ := hcv.sl
 have hle14 := hcv.le
 refine JLn (Pu.lenSl Tryz.runUnderlying25 hv14) <| JLM rfl <| Zb <| Zo ?_
 have hk1 : yK step kind 0 kids s0 = (true, s) := by rw [← hinv, dropn h10n]; rfl
 refine ZT (fun k ρ M => ∃ (j : Nat) (s2 : σ), ρ 0 = .func (.yield l) ⟨[]⟩ ⟨[]⟩ ∧ ρ 1 = pp bT 0 ∧ ρ 27 = cv ∧ ρ 28 = iv ((cases.length : Int)) ∧ ρ 29 = iv ((j : Int)) ∧ Sub [yc s2] M ∧ j ≤ cases.length ∧ Inv s2 ∧ yC step (cases.drop j) s2 = yC step cases s ∧ k = cases.length - j) _ ⟨0, s, rfl, rfl, rfl, rfl, rfl, (Sk Sub.nil), Nat.zero_le _, hs, rfl, rfl⟩ ?_
 rintro _ ρ15 _ ⟨j, s2, e16, e17, e18, e19, e20, hm21, hj, hs, hinv, rfl⟩
 obtain ⟨ρ22, rfl⟩ := Zn (uc e16 (uc e17 (uc e18 (uc e19 (uc e20 un)))))
 clear e16 e17 e18 e19 e20
 refine ZS hm21 ?_
 have hlen := hcv.le
 refine Zc <| Za <| JLn (Pu.lss rfl rfl) <| Zb <| Zc <| Zg rfl (fun h23 => ?_) (fun h23 => ?_)
 ·replace h23 := dt h23
  have h23n : j < cases.length := by omega
  have hbm := hsz _ (List.getElem_mem h23n)
  have hlenk := hks.le
  refine Zm <| Zc <| Zo <| Zc <| Za <| JLM rfl ?_
  obtain ⟨b24, o24, cap24, row24, T24, fr24, cs24, hv24, hb24, hs24, hE24⟩ := hcv.get j (by first | assumption | omega | decide | simp)
  obtain ⟨ca24, cb24, rfl, hA24, hB24⟩ := hE24
  refine JLq (pp b24 (o24 + j * 71)) (Pu.idx j Tryz.runUnderlying25 YR hv24 rfl rfl (by first | assumption | omega | decide | simp)) <| JLr (Zi YR rfl (At.im hb24) hs24 <| JLr (Zh (l := (pkP 0 0 zS nS) ++ (pkT 0 0 zS nS nS)) Tryz.zeroValue56 rfl fun b25 => JLA rfl <| JLr (Zd 0 (vs := ca24 ++ cb24) (l := ca24 ++ cb24) YR rfl rfl rfl rfl (ZR (ZA hA24) (Zv hB24)) (Z2 (RP_ok hA24) (Y5 hB24)) (Zy (n := 71) rfl (ZR (ZA hA24) (Zv hB24))) <| Zb <| Zc <| ZL mixed #[0, 0, 2, 6, 0, 30, 0, 64, 0, 256, 768, 1984, 4095, 8191] 12 [some 34, some 35, some 36, some 37, some 38, some 39, some 40, some 41, some 42, some 43, some 44, some 45] [] [(10, fun _ _ vw qw => vw = iv ((binds (cases[j].1) : Int)) ∧ qw = [])] rfl (by kernel_rfl) rfl (by kernel_rfl) <| DM (fun _ => rfl) <| Dq (pp bT 34) (fun _ => Yb rfl rfl) <| Dl1 ty24 (At.im hT) (Z9 ..) ?_)))
  obtain ⟨a27, cap27, hv27⟩ := hks.sl
  have hle27 := hks.le
  refine Dn (fun _ => Pu.lenSl Tryz.runUnderlying24 hv27) <| DM (fun _ => rfl) ?_
  refine Dn (fun _ => Pu.add64 rfl rfl (by first | omega | (constructor <;> omega))) <| Dq (pp b25 35) (fun _ => fa56_1 rfl rfl) <| Dl Zs (At.bx 0 rfl) (sub_r (ZA hA24) (Zv hB24)) <| Dq (pp b25 0) (fun _ => fa56_0 rfl rfl) <| Dl ZQ (At.bx 0 rfl) (sub_l (ZA hA24)) ?_
  refine Dc rfl Tryz.call97 (fun _ => rfl) (fun hin => binds_ct _ _ _ (RP.mono (Hle.hu _ _) hA24) (by omega)) ?_
  rintro _ _ ⟨rfl, rfl⟩
  refine Dq (.agg ⟨cb24 ++ ([iv ((binds (cases[j].1) : Int))] : List Value)⟩) (fun _ => Pu.build (pv := [(0, .agg ⟨cb24⟩), (1, iv ((binds (cases[j].1) : Int)))]) (l := cb24 ++ ([iv ((binds (cases[j].1) : Int))] : List Value)) rfl (bld107_0_1 (Zv hB24))) <| ZZ (M' := [(BX b25 (ca24 ++ cb24) 56), yc s2]) rfl ?_
  show JL _ _ _ [_, _] _ _ _
  refine JL_yield1 1 rfl rfl rfl (fun hin => hy _ _ (hIC j h23n) _ _ _ _ hs (Hle.hu _ _) (RT.mono (Hle.hu _ _) hB24)) rfl ?_
  rintro _ _ ⟨rfl, rfl⟩
  refine JLn (Pu.not rfl) <| Zb <| Zg rfl (fun h28 => ?_) (fun h28 => ?_)
  ·replace h28 := nt h28
   refine Zl <| ⟨.tuple ⟨[]⟩, [yc (step (cases[j].2) ((binds (cases[j].1) : Int)) s2).2], Ret.none rfl, (Sk Sub.nil), ?_⟩
   rw [Yr h23n, yC, if_neg (by simp [h28])] at hinv
   show _ = _; rw [yP, hk1, if_pos rfl, ← hinv]
  replace h28 := nf h28
  refine Zm <| Za <| JLn (Pu.inc rfl rfl (by omega)) <| JLM rfl <| Zb <| ⟨_, ?_, (j + 1), ((step (cases[j].2) ((binds (cases[j].1) : Int)) s2).2), rfl, rfl, rfl, rfl, rfl, (Sk Sub.nil), ?_, ?_, ?_, rfl⟩
  ·omega
  ·omega
  ·exact hI _ _ s2 hs h28
  rw [Yr h23n, yC, if_pos h28] at hinv; exact hinv
 replace h23 := df h23
 have h23n : cases.length ≤ j := by omega
 refine ZB _ rfl <| ⟨.tuple ⟨[]⟩, [yc s2], Ret.none rfl, (Sk Sub.nil), ?_⟩
 show _ = _; rw [yP, hk1, if_pos rfl, ← hinv, dropn h23n]; rfl
end Go.Proofs.YtfdeibbpfgolcaaGreat.Hs
/-! A term with a digest in the place of another one; owned trees changed in their place. -/
namespace Go.Proofs.YtfdeibbpfgolcaaGreat.Hs
open Go Go.Proofs
set_option maxRecDepth 100000
mutual
def rpP (f g : Sm) : Pt → Pt
  | .mk k n r kids => .mk k n (if k = 3 ∧ r = f then g else r) (rpPs f g kids)
def rpPs (f g : Sm) : List Pt → List Pt
  | [] => []
  | p :: l => rpP f g p :: rpPs f g l
end
mutual
def rpT (f g : Sm) : Tm → Tm
  | .mk k n r kids cases => .mk k n (if ZF k = true ∧ r = f then g else r) (rpTs f g kids) (rpCs f g cases)
def rpTs (f g : Sm) : List Tm → List Tm
  | [] => []
  | t :: l => rpT f g t :: rpTs f g l
def rpCs (f g : Sm) : List (Pt × Tm) → List (Pt × Tm)
  | [] => []
  | (p, t) :: l => (rpP f g p, rpT f g t) :: rpCs f g l
end
theorem rpPs_map (f g : Sm) (l : List Pt) : rpPs f g l = l.map (rpP f g) := by induction l with
  | nil => rfl
  | cons p l ih => rw [rpPs, ih]; rfl
theorem rpTs_map (f g : Sm) (l : List Tm) : rpTs f g l = l.map (rpT f g) := by induction l with
  | nil => rfl
  | cons p l ih => rw [rpTs, ih]; rfl
theorem rpCs_map (f g : Sm) (l : List (Pt × Tm)) : rpCs f g l = l.map fun c => (rpP f g c.1, rpT f g c.2) := by induction l with
  | nil => rfl
  | cons c l ih => obtain ⟨p, t⟩ := c; rw [rpCs, ih]; rfl
theorem rpPs_len (f g : Sm) (l : List Pt) : (rpPs f g l).length = l.length := by rw [rpPs_map, List.length_map]
theorem rpTs_len (f g : Sm) (l : List Tm) : (rpTs f g l).length = l.length := by rw [rpTs_map, List.length_map]
theorem rpCs_len (f g : Sm) (l : List (Pt × Tm)) : (rpCs f g l).length = l.length := by rw [rpCs_map, List.length_map]
theorem rpPs_take (f g : Sm) (l : List Pt) (j : Nat) (h : j < l.length) : rpPs f g (l.take (j + 1)) = rpPs f g (l.take j) ++ [rpP f g l[j]] := by
  rw [rpPs_map, rpPs_map, List.take_succ_eq_append_getElem h, List.map_append]; rfl
theorem rpTs_take (f g : Sm) (l : List Tm) (j : Nat) (h : j < l.length) : rpTs f g (l.take (j + 1)) = rpTs f g (l.take j) ++ [rpT f g l[j]] := by
  rw [rpTs_map, rpTs_map, List.take_succ_eq_append_getElem h, List.map_append]; rfl
theorem rpCs_take (f g : Sm) (l : List (Pt × Tm)) (j : Nat) (h : j < l.length) : rpCs f g (l.take (j + 1)) = rpCs f g (l.take j) ++ [(rpP f g (l[j]).1, rpT f g (l[j]).2)] := by
  rw [rpCs_map, rpCs_map, List.take_succ_eq_append_getElem h, List.map_append]; rfl
theorem fR_eq (k : Int) : fR k = ZF k := by
  unfold fR ZF
  rw [Bool.eq_iff_iff]
  simp only [decide_eq_true_eq, Bool.or_eq_true]
  omega
theorem put_ref {k : Int} {r f g : Sm} : (if fR k = true then (if r = f then g else r) else r) = if ZF k = true ∧ r = f then g else r := by
  rw [fR_eq]
  by_cases h1 : ZF k = true <;> by_cases h2 : r = f <;> simp [h1, h2]
theorem put_refP {k : Int} {r f g : Sm} : (if k = 3 then (if r = f then g else r) else r) = if k = 3 ∧ r = f then g else r := by
  by_cases h1 : k = 3 <;> by_cases h2 : r = f <;> simp [h1, h2]
/-- what the program's Replace hands back -/
def rpE (f g : Sm) (t : Tm) : Tm × Int := if ZI [t] = 0 then (rpT f g t, 0) else (zT, ZI [t])
/-! sizes stay -/
theorem rpP_size (f g : Sm) (p : Pt) : sizeP (rpP f g p) = sizeP p := by
  induction p using Pt.ind with
  | h k n r kids ih =>
    rw [rpP, sizeP, sizeP]
    congr 1
    induction kids with
    | nil => rfl
    | cons p l ihl => rw [rpPs, ZH, ZH, ih p (by simp), ihl (fun x hx => ih x (by simp [hx]))]
theorem rpT_size (f g : Sm) (t : Tm) : sizeT (rpT f g t) = sizeT t := by
  induction t using Tm.ind with
  | h k n r kids cases ih ih' =>
    rw [rpT, sizeT, sizeT]
    have e1 : sizeTs (rpTs f g kids) = sizeTs kids := by
      clear ih'
      induction kids with
      | nil => rfl
      | cons p l ihl => rw [rpTs, sizeTs, sizeTs, ih p (by simp), ihl (fun x hx => ih x (by simp [hx]))]
    have e2 : sizeCs (rpCs f g cases) = sizeCs cases := by
      clear ih e1
      induction cases with
      | nil => rfl
      | cons c l ihl => obtain ⟨p, t⟩ := c; rw [rpCs, sizeCs, sizeCs, ih' (p, t) (by simp), rpP_size, ihl (fun x hx => ih' x (by simp [hx]))]
    rw [e1, e2]
/-! owned rows, one element after the other -/
theorem OPs.take {l : List Pt} {es : List (List Value)} {c : Zf} {j : Nat} (h : OPs (l.drop j) (es.drop j) c) (hj : j < l.length) :
    ∃ e k c', es[j]? = some e ∧ OP l[j] e k ∧ c = k ++ c' ∧ ∀ x, OPs (l.drop (j + 1)) ((es.set j x).drop (j + 1)) c' := by
  rw [List.drop_eq_getElem_cons hj, OPs] at h
  obtain ⟨e, es', k, c', h1, h2, h3, h4⟩ := h
  have hj' : es[j]? = some e := by
    have := congrArg (fun l => l[0]?) h1
    simpa [List.getElem?_drop] using this
  refine ⟨e, k, c', hj', h2, h4, fun x => ?_⟩
  rw [List.drop_set_of_lt (by omega)]
  have : es.drop (j + 1) = es' := by rw [← List.drop_drop, h1]; rfl
  rw [this]; exact h3
theorem OCs.take2 {l : List (Pt × Tm)} {es : List (List Value)} {c : Zf} {j : Nat} (h : OCs (l.drop j) (es.drop j) c) (hj : j < l.length) :
    ∃ a b ka kb c', es[j]? = some (a ++ b) ∧ OP (l[j]).1 a ka ∧ OT (l[j]).2 b kb ∧ c = ka ++ (kb ++ c') ∧ ∀ x, OCs (l.drop (j + 1)) ((es.set j x).drop (j + 1)) c' := by
  rw [List.drop_eq_getElem_cons hj] at h
  cases hlj : l[j] with
  | mk p t =>
    rw [hlj, OCs] at h
    obtain ⟨a, b, es', ka, kb, c', h1, h2, h3, h4, h5⟩ := h
    have hj' : es[j]? = some (a ++ b) := by
      have := congrArg (fun l => l[0]?) h1
      simpa [List.getElem?_drop] using this
    refine ⟨a, b, ka, kb, c', hj', h2, h3, h5, fun x => ?_⟩
    rw [List.drop_set_of_lt (by omega)]
    have : es.drop (j + 1) = es' := by rw [← List.drop_drop, h1]; rfl
    rw [this]; exact h4
theorem take_set {es : List (List Value)} {x e : List Value} {j : Nat} (h : es[j]? = some e) : (es.set j x).take (j + 1) = es.take j ++ [x] := by
  have hj := (List.getElem?_eq_some_iff.1 h).1
  rw [List.take_succ_eq_append_getElem (by simpa using hj), List.take_set_of_le (by omega)]
  simp
end Go.Proofs.YtfdeibbpfgolcaaGreat.Hs
/-! Walks, printed by a program of this session's own (gen.py). -/
namespace Go.Proofs.YtfdeibbpfgolcaaGreat.Hs
open Go Go.Proofs
set_option maxRecDepth 100000
set_option linter.unusedVariables false
set_option linter.unusedSimpArgs false
attribute [local irreducible] JL J CT wlo DT
theorem idxP_ct (g : Nat) (fs cv : List Value) (hcall : ∀ args w, (callFunc g args).run Tryz.prog w = .ok (.enter g args) w) {σ : Type} (Sc : σ → Zf) (Inv : σ → Prop) (step : Pt → σ → Bool × σ) (l : List Pt) (v : Value) (H : Heap) (hl : rdS RP 35 H v l) (s0 : σ) (h0 : Inv s0) (hI : ∀ x ∈ l, ∀ s, Inv s → (step x s).1 = false → Inv (step x s).2) (hg : ∀ x ∈ l, ∀ s, Inv s → ∀ a h, Hle H h → RP h a x → CT Tryz.prog g ⟨fs ++ [.agg ⟨a⟩] ++ cv⟩ [Sc s] h (fun v N => v = .bool (step x s).1 ∧ N = [Sc (step x s).2])) : CT Tryz.prog 75 ⟨[v, .func (.func g) ⟨fs⟩ ⟨cv⟩]⟩ [Sc s0] H (fun v N => v = iv (idxS step l 0 s0).1 ∧ N = [Sc (idxS step l 0 s0).2]) := by
 refine Zk Tryz.func75 rfl rfl <| Zc <| Za <| JLA rfl <| Zb <| Zc <| Zc <| Za <| JLm v ?_
 obtain ⟨a1, cap1, hv1⟩ := hl.sl
 have hle1 := hl.le
 refine JLn (Pu.lenSl Tryz.runUnderlying52 hv1) <| JLM rfl <| Zb <| Zo <| ZT (fun k ρ M => ∃ (j : Nat) (s : σ), ρ 0 = v ∧ ρ 1 = .func (.func g) ⟨fs⟩ ⟨cv⟩ ∧ ρ 4 = iv 0 ∧ ρ 7 = iv ((l.length : Int)) ∧ ρ 8 = iv ((j : Int)) ∧ Sub [Sc s] M ∧ j ≤ l.length ∧ Inv s ∧ idxS step (l.drop j) j s = idxS step l 0 s0 ∧ k = l.length - j) _ ⟨0, s0, rfl, rfl, rfl, rfl, rfl, (Sk Sub.nil), Nat.zero_le _, h0, rfl, rfl⟩ ?_
 rintro _ ρ2 _ ⟨j, s, e3, e4, e5, e6, e7, hm8, hj, hs, hinv, rfl⟩
 obtain ⟨ρ9, rfl⟩ := Zn (uc e3 (uc e4 (uc e5 (uc e6 (uc e7 un)))))
 clear e3 e4 e5 e6 e7
 refine ZS hm8 <| Zc <| Za <| JLn (Pu.lss rfl rfl) <| Zb <| Zc <| Zg rfl (fun h10 => ?_) (fun h10 => ?_)
 ·replace h10 := dt h10
  have h10n : j < l.length := by omega
  have hlenl := hl.le
  refine Zm <| Zc <| Zo <| Zc <| Za <| JLM rfl <| JLA rfl <| Zb <| Zc <| Za <| JLM rfl <| JLm v <| JLM rfl ?_
  obtain ⟨b11, o11, cap11, row11, T11, fr11, cs11, hv11, hb11, hs11, hE11⟩ := hl.get j (by first | assumption | omega | decide | simp)
  refine JLq (pp b11 (o11 + j * 35)) (Pu.idx j Tryz.runUnderlying52 ZQ hv11 rfl rfl (by first | assumption | omega | decide | simp)) <| JLr (Zi ZQ rfl (At.im hb11) hs11 <| Zr 0 rfl hcall rfl rfl (fun hin => hg _ (List.getElem_mem h10n) _ hs _ _ (Hle.hu _ _) (RP.mono (Hle.hu _ _) hE11)) rfl ?_)
  rintro _ _ ⟨rfl, rfl⟩
  refine Zb <| Zg rfl (fun h12 => ?_) (fun h12 => ?_)
  ·refine Zc <| Za <| JLM rfl <| JLA rfl <| Zb <| Zl <| ⟨iv ((j : Int)), [Sc (step (l[j]) s).2], Ret.one rfl (RV.tmp rfl), (Sk Sub.nil), ?_⟩
   refine ⟨?_, ?_⟩ <;> rw [← hinv, Yr h10n, idxS, if_pos h12]
  refine Zm <| Za <| JLn (Pu.inc rfl rfl (by omega)) <| JLM rfl <| Zb <| ⟨_, ?_, (j + 1), ((step (l[j]) s).2), rfl, rfl, rfl, rfl, rfl, (Sk Sub.nil), ?_, ?_, ?_, rfl⟩
  ·omega
  ·omega
  ·exact hI _ (List.getElem_mem h10n) s hs h12
  rw [Yr h10n, idxS, if_neg (by simp [h12])] at hinv; exact hinv
 replace h10 := df h10
 have h10n : l.length ≤ j := by omega
 refine ZB _ rfl <| Zc <| Za <| JLA rfl <| Zb <| Zl <| ⟨iv (-1), [Sc s], Ret.one rfl (RV.tmp rfl), (Sk Sub.nil), ?_⟩
 refine ⟨?_, ?_⟩ <;> rw [← hinv, dropn h10n] <;> rfl
theorem idxT_ct (g : Nat) (fs cv : List Value) (hcall : ∀ args w, (callFunc g args).run Tryz.prog w = .ok (.enter g args) w) {σ : Type} (Sc : σ → Zf) (Inv : σ → Prop) (step : Tm → σ → Bool × σ) (l : List Tm) (v : Value) (H : Heap) (hl : rdS RT 36 H v l) (s0 : σ) (h0 : Inv s0) (hI : ∀ x ∈ l, ∀ s, Inv s → (step x s).1 = false → Inv (step x s).2) (hg : ∀ x ∈ l, ∀ s, Inv s → ∀ a h, Hle H h → RT h a x → CT Tryz.prog g ⟨fs ++ [.agg ⟨a⟩] ++ cv⟩ [Sc s] h (fun v N => v = .bool (step x s).1 ∧ N = [Sc (step x s).2])) : CT Tryz.prog 76 ⟨[v, .func (.func g) ⟨fs⟩ ⟨cv⟩]⟩ [Sc s0] H (fun v N => v = iv (idxS step l 0 s0).1 ∧ N = [Sc (idxS step l 0 s0).2]) := by
 refine Zk Tryz.func76 rfl rfl <| Zc <| Za <| JLA rfl <| Zb <| Zc <| Zc <| Za <| JLm v ?_
 obtain ⟨a1, cap1, hv1⟩ := hl.sl
 have hle1 := hl.le
 refine JLn (Pu.lenSl Tryz.runUnderlying24 hv1) <| JLM rfl <| Zb <| Zo <| ZT (fun k ρ M => ∃ (j : Nat) (s : σ), ρ 0 = v ∧ ρ 1 = .func (.func g) ⟨fs⟩ ⟨cv⟩ ∧ ρ 4 = iv 0 ∧ ρ 7 = iv ((l.length : Int)) ∧ ρ 8 = iv ((j : Int)) ∧ Sub [Sc s] M ∧ j ≤ l.length ∧ Inv s ∧ idxS step (l.drop j) j s = idxS step l 0 s0 ∧ k = l.length - j) _ ⟨0, s0, rfl, rfl, rfl, rfl, rfl, (Sk Sub.nil), Nat.zero_le _, h0, rfl, rfl⟩ ?_
 rintro _ ρ2 _ ⟨j, s, e3, e4, e5, e6, e7, hm8, hj, hs, hinv, rfl⟩
 obtain ⟨ρ9, rfl⟩ := Zn (uc e3 (uc e4 (uc e5 (uc e6 (uc e7 un)))))
 clear e3 e4 e5 e6 e7
 refine ZS hm8 <| Zc <| Za <| JLn (Pu.lss rfl rfl) <| Zb <| Zc <| Zg rfl (fun h10 => ?_) (fun h10 => ?_)
 ·replace h10 := dt h10
  have h10n : j < l.length := by omega
  have hlenl := hl.le
  refine Zm <| Zc <| Zo <| Zc <| Za <| JLM rfl <| JLA rfl <| Zb <| Zc <| Za <| JLM rfl <| JLm v <| JLM rfl ?_
  obtain ⟨b11, o11, cap11, row11, T11, fr11, cs11, hv11, hb11, hs11, hE11⟩ := hl.get j (by first | assumption | omega | decide | simp)
  refine JLq (pp b11 (o11 + j * 36)) (Pu.idx j Tryz.runUnderlying24 Zs hv11 rfl rfl (by first | assumption | omega | decide | simp)) <| JLr (Zi Zs rfl (At.im hb11) hs11 <| Zr 0 rfl hcall rfl rfl (fun hin => hg _ (List.getElem_mem h10n) _ hs _ _ (Hle.hu _ _) (RT.mono (Hle.hu _ _) hE11)) rfl ?_)
  rintro _ _ ⟨rfl, rfl⟩
  refine Zb <| Zg rfl (fun h12 => ?_) (fun h12 => ?_)
  ·refine Zc <| Za <| JLM rfl <| JLA rfl <| Zb <| Zl <| ⟨iv ((j : Int)), [Sc (step (l[j]) s).2], Ret.one rfl (RV.tmp rfl), (Sk Sub.nil), ?_⟩
   refine ⟨?_, ?_⟩ <;> rw [← hinv, Yr h10n, idxS, if_pos h12]
  refine Zm <| Za <| JLn (Pu.inc rfl rfl (by omega)) <| JLM rfl <| Zb <| ⟨_, ?_, (j + 1), ((step (l[j]) s).2), rfl, rfl, rfl, rfl, rfl, (Sk Sub.nil), ?_, ?_, ?_, rfl⟩
  ·omega
  ·omega
  ·exact hI _ (List.getElem_mem h10n) s hs h12
  rw [Yr h10n, idxS, if_neg (by simp [h12])] at hinv; exact hinv
 replace h10 := df h10
 have h10n : l.length ≤ j := by omega
 refine ZB _ rfl <| Zc <| Za <| JLA rfl <| Zb <| Zl <| ⟨iv (-1), [Sc s], Ret.one rfl (RV.tmp rfl), (Sk Sub.nil), ?_⟩
 refine ⟨?_, ?_⟩ <;> rw [← hinv, dropn h10n] <;> rfl
theorem idxC_ct (g : Nat) (fs cv : List Value) (hcall : ∀ args w, (callFunc g args).run Tryz.prog w = .ok (.enter g args) w) {σ : Type} (Sc : σ → Zf) (Inv : σ → Prop) (step : (Pt × Tm) → σ → Bool × σ) (l : List (Pt × Tm)) (v : Value) (H : Heap) (hl : rdS RC 71 H v l) (s0 : σ) (h0 : Inv s0) (hI : ∀ x ∈ l, ∀ s, Inv s → (step x s).1 = false → Inv (step x s).2) (hg : ∀ x ∈ l, ∀ s, Inv s → ∀ a h, Hle H h → RC h a x → CT Tryz.prog g ⟨fs ++ [.agg ⟨a⟩] ++ cv⟩ [Sc s] h (fun v N => v = .bool (step x s).1 ∧ N = [Sc (step x s).2])) : CT Tryz.prog 77 ⟨[v, .func (.func g) ⟨fs⟩ ⟨cv⟩]⟩ [Sc s0] H (fun v N => v = iv (idxS step l 0 s0).1 ∧ N = [Sc (idxS step l 0 s0).2]) := by
 refine Zk Tryz.func77 rfl rfl <| Zc <| Za <| JLA rfl <| Zb <| Zc <| Zc <| Za <| JLm v ?_
 obtain ⟨a1, cap1, hv1⟩ := hl.sl
 have hle1 := hl.le
 refine JLn (Pu.lenSl Tryz.runUnderlying25 hv1) <| JLM rfl <| Zb <| Zo <| ZT (fun k ρ M => ∃ (j : Nat) (s : σ), ρ 0 = v ∧ ρ 1 = .func (.func g) ⟨fs⟩ ⟨cv⟩ ∧ ρ 4 = iv 0 ∧ ρ 7 = iv ((l.length : Int)) ∧ ρ 8 = iv ((j : Int)) ∧ Sub [Sc s] M ∧ j ≤ l.length ∧ Inv s ∧ idxS step (l.drop j) j s = idxS step l 0 s0 ∧ k = l.length - j) _ ⟨0, s0, rfl, rfl, rfl, rfl, rfl, (Sk Sub.nil), Nat.zero_le _, h0, rfl, rfl⟩ ?_
 rintro _ ρ2 _ ⟨j, s, e3, e4, e5, e6, e7, hm8, hj, hs, hinv, rfl⟩
 obtain ⟨ρ9, rfl⟩ := Zn (uc e3 (uc e4 (uc e5 (uc e6 (uc e7 un)))))
 clear e3 e4 e5 e6 e7
 refine ZS hm8 <| Zc <| Za <| JLn (Pu.lss rfl rfl) <| Zb <| Zc <| Zg rfl (fun h10 => ?_) (fun h10 => ?_)
 ·replace h10 := dt h10
  have h10n : j < l.length := by omega
  have hlenl := hl.le
  refine Zm <| Zc <| Zo <| Zc <| Za <| JLM rfl <| JLA rfl <| Zb <| Zc <| Za <| JLM rfl <| JLm v <| JLM rfl ?_
  obtain ⟨b11, o11, cap11, row11, T11, fr11, cs11, hv11, hb11, hs11, hE11⟩ := hl.get j (by first | assumption | omega | decide | simp)
  obtain ⟨ca11, cb11, rfl, hA11, hB11⟩ := hE11
  refine JLq (pp b11 (o11 + j * 71)) (Pu.idx j Tryz.runUnderlying25 YR hv11 rfl rfl (by first | assumption | omega | decide | simp)) <| JLr (Zi YR rfl (At.im hb11) hs11 <| Zr 0 rfl hcall rfl rfl (fun hin => hg _ (List.getElem_mem h10n) _ hs _ _ (Hle.hu _ _) (RC.mono (Hle.hu _ _) (RC_mk hA11 hB11))) rfl ?_)
  rintro _ _ ⟨rfl, rfl⟩
  refine Zb <| Zg rfl (fun h12 => ?_) (fun h12 => ?_)
  ·refine Zc <| Za <| JLM rfl <| JLA rfl <| Zb <| Zl <| ⟨iv ((j : Int)), [Sc (step (l[j]) s).2], Ret.one rfl (RV.tmp rfl), (Sk Sub.nil), ?_⟩
   refine ⟨?_, ?_⟩ <;> rw [← hinv, Yr h10n, idxS, if_pos h12]
  refine Zm <| Za <| JLn (Pu.inc rfl rfl (by omega)) <| JLM rfl <| Zb <| ⟨_, ?_, (j + 1), ((step (l[j]) s).2), rfl, rfl, rfl, rfl, rfl, (Sk Sub.nil), ?_, ?_, ?_, rfl⟩
  ·omega
  ·omega
  ·exact hI _ (List.getElem_mem h10n) s hs h12
  rw [Yr h10n, idxS, if_neg (by simp [h12])] at hinv; exact hinv
 replace h10 := df h10
 have h10n : l.length ≤ j := by omega
 refine ZB _ rfl <| Zc <| Za <| JLA rfl <| Zb <| Zl <| ⟨iv (-1), [Sc s], Ret.one rfl (RV.tmp rfl), (Sk Sub.nil), ?_⟩
 refine ⟨?_, ?_⟩ <;> rw [← hinv, dropn h10n] <;> rfl
theorem containsP_ct (g : Nat) (fs cv : List Value) (hcall : ∀ args w, (callFunc g args).run Tryz.prog w = .ok (.enter g args) w) {σ : Type} (Sc : σ → Zf) (Inv : σ → Prop) (step : Pt → σ → Bool × σ) (l : List Pt) (v : Value) (H : Heap) (hl : rdS RP 35 H v l) (s0 : σ) (h0 : Inv s0) (hI : ∀ x ∈ l, ∀ s, Inv s → (step x s).1 = false → Inv (step x s).2) (hg : ∀ x ∈ l, ∀ s, Inv s → ∀ a h, Hle H h → RP h a x → CT Tryz.prog g ⟨fs ++ [.agg ⟨a⟩] ++ cv⟩ [Sc s] h (fun v N => v = .bool (step x s).1 ∧ N = [Sc (step x s).2])) : CT Tryz.prog 27 ⟨[v, .func (.func g) ⟨fs⟩ ⟨cv⟩]⟩ [Sc s0] H (fun v N => v = .bool (YD step l s0).1 ∧ N = [Sc (YD step l s0).2]) := by
 refine Zk Tryz.func27 rfl rfl <| Zc <| Za <| JLA rfl <| Zb <| Zc <| Za <| JLm v <| JLM rfl <| Zr 0 rfl Tryz.call75 rfl rfl (fun hin => idxP_ct g fs cv hcall Sc Inv step _ _ _ (RPs.mono (Hle.hu _ _) hl) s0 h0 hI (fun x hx s hs a h hh ra => hg x hx s hs a h (Hle.trans (Hle.hu _ _) hh) ra)) rfl ?_
 rintro _ _ ⟨rfl, rfl⟩
 refine JLn (Pu.geq rfl rfl) <| JLA rfl <| Zb <| Zl <| ⟨.bool (decide (0 ≤ (idxS step l 0 s0).1)), [Sc (idxS step l 0 s0).2], Ret.one rfl (RV.tmp rfl), (Sk Sub.nil), ?_⟩
 exact ⟨by rw [(idxS_any step l 0 s0).1], by rw [(idxS_any step l 0 s0).2]⟩
theorem containsT_ct (g : Nat) (fs cv : List Value) (hcall : ∀ args w, (callFunc g args).run Tryz.prog w = .ok (.enter g args) w) {σ : Type} (Sc : σ → Zf) (Inv : σ → Prop) (step : Tm → σ → Bool × σ) (l : List Tm) (v : Value) (H : Heap) (hl : rdS RT 36 H v l) (s0 : σ) (h0 : Inv s0) (hI : ∀ x ∈ l, ∀ s, Inv s → (step x s).1 = false → Inv (step x s).2) (hg : ∀ x ∈ l, ∀ s, Inv s → ∀ a h, Hle H h → RT h a x → CT Tryz.prog g ⟨fs ++ [.agg ⟨a⟩] ++ cv⟩ [Sc s] h (fun v N => v = .bool (step x s).1 ∧ N = [Sc (step x s).2])) : CT Tryz.prog 29 ⟨[v, .func (.func g) ⟨fs⟩ ⟨cv⟩]⟩ [Sc s0] H (fun v N => v = .bool (YD step l s0).1 ∧ N = [Sc (YD step l s0).2]) := by
 refine Zk Tryz.func29 rfl rfl <| Zc <| Za <| JLA rfl <| Zb <| Zc <| Za <| JLm v <| JLM rfl <| Zr 0 rfl Tryz.call76 rfl rfl (fun hin => idxT_ct g fs cv hcall Sc Inv step _ _ _ (RTs.mono (Hle.hu _ _) hl) s0 h0 hI (fun x hx s hs a h hh ra => hg x hx s hs a h (Hle.trans (Hle.hu _ _) hh) ra)) rfl ?_
 rintro _ _ ⟨rfl, rfl⟩
 refine JLn (Pu.geq rfl rfl) <| JLA rfl <| Zb <| Zl <| ⟨.bool (decide (0 ≤ (idxS step l 0 s0).1)), [Sc (idxS step l 0 s0).2], Ret.one rfl (RV.tmp rfl), (Sk Sub.nil), ?_⟩
 exact ⟨by rw [(idxS_any step l 0 s0).1], by rw [(idxS_any step l 0 s0).2]⟩
theorem containsC_ct (g : Nat) (fs cv : List Value) (hcall : ∀ args w, (callFunc g args).run Tryz.prog w = .ok (.enter g args) w) {σ : Type} (Sc : σ → Zf) (Inv : σ → Prop) (step : (Pt × Tm) → σ → Bool × σ) (l : List (Pt × Tm)) (v : Value) (H : Heap) (hl : rdS RC 71 H v l) (s0 : σ) (h0 : Inv s0) (hI : ∀ x ∈ l, ∀ s, Inv s → (step x s).1 = false → Inv (step x s).2) (hg : ∀ x ∈ l, ∀ s, Inv s → ∀ a h, Hle H h → RC h a x → CT Tryz.prog g ⟨fs ++ [.agg ⟨a⟩] ++ cv⟩ [Sc s] h (fun v N => v = .bool (step x s).1 ∧ N = [Sc (step x s).2])) : CT Tryz.prog 30 ⟨[v, .func (.func g) ⟨fs⟩ ⟨cv⟩]⟩ [Sc s0] H (fun v N => v = .bool (YD step l s0).1 ∧ N = [Sc (YD step l s0).2]) := by
 refine Zk Tryz.func30 rfl rfl <| Zc <| Za <| JLA rfl <| Zb <| Zc <| Za <| JLm v <| JLM rfl <| Zr 0 rfl Tryz.call77 rfl rfl (fun hin => idxC_ct g fs cv hcall Sc Inv step _ _ _ (RCs.mono (Hle.hu _ _) hl) s0 h0 hI (fun x hx s hs a h hh ra => hg x hx s hs a h (Hle.trans (Hle.hu _ _) hh) ra)) rfl ?_
 rintro _ _ ⟨rfl, rfl⟩
 refine JLn (Pu.geq rfl rfl) <| JLA rfl <| Zb <| Zl <| ⟨.bool (decide (0 ≤ (idxS step l 0 s0).1)), [Sc (idxS step l 0 s0).2], Ret.one rfl (RV.tmp rfl), (Sk Sub.nil), ?_⟩
 exact ⟨by rw [(idxS_any step l 0 s0).1], by rw [(idxS_any step l 0 s0).2]⟩
end Go.Proofs.YtfdeibbpfgolcaaGreat.Hs
/-! Walks, printed by a program of this session's own (gen.py). -/
namespace Go.Proofs.YtfdeibbpfgolcaaGreat.Hs
open Go Go.Proofs
set_option maxRecDepth 100000
set_option linter.unusedVariables false
set_option linter.unusedSimpArgs false
attribute [local irreducible] JL J CT wlo DT
theorem longPK_ct : ∀ (x : Pt) (d s : Int) (a : List Value) (H : Heap) (bL bA bD : Nat), RP H a x → H bA = some (.cells ⟨[pp bL 0]⟩ 130 (0, 0)) → H bD = some (.cells ⟨[iv d]⟩ 3 (0, 0)) → 0 ≤ d → d ≤ 100 → (∀ h a, Hle H h → RP h a x → CT Tryz.prog 106 ⟨[pp bL 0, .agg ⟨a⟩, iv (d + 1)]⟩ [(BX bL [iv s] 132)] h (fun v N => v = .bool (cnP stL (d + 1) x s).1 ∧ N = [(BX bL [iv ((cnP stL (d + 1) x s).2)] 132)])) → CT Tryz.prog 142 ⟨[.agg ⟨a⟩, pp bA 0, pp bD 0]⟩ [(BX bL [iv s] 132)] H (fun v N => v = .bool (cnP stL (d + 1) x s).1 ∧ N = [(BX bL [iv ((cnP stL (d + 1) x s).2)] 132)]) := by
 intro x d s a H bL bA bD ra hH1 hH5 hd0 hd1 hg
 refine Zk Tryz.func142 rfl rfl <| Zc <| Za <| JLr (Zp (l := a) rfl rfl fun b1 => JLA rfl <| Zb <| Zc <| Za <| JLr (Ze ty130 rfl (At.im hH1) rfl <| JLr (Zi ZQ rfl (At.bx 0 rfl) (Zu (ZA ra)) <| JLr (Ze ty3 rfl (At.im hH5) rfl <| JLn (Pu.add64 rfl rfl (by first | omega | (constructor <;> omega))) <| Zr 1 rfl Tryz.call106 rfl rfl (fun hin => hg _ _ (Hle.hu _ _) (RP.mono (Hle.hu _ _) ra)) rfl ?_))))
 rintro _ _ ⟨rfl, rfl⟩
 refine JLA rfl <| Zb <| Zl <| ⟨.bool ((cnP stL (d + 1) x s).1), [(BX bL [iv ((cnP stL (d + 1) x s).2)] 132)], Ret.one rfl (RV.tmp rfl), (Sk Sub.nil), ?_⟩
 exact ⟨rfl, rfl⟩
theorem longTK_ct : ∀ (x : Tm) (d s : Int) (a : List Value) (H : Heap) (bL bA bD : Nat), RT H a x → H bA = some (.cells ⟨[pp bL 0]⟩ 130 (0, 0)) → H bD = some (.cells ⟨[iv d]⟩ 3 (0, 0)) → 0 ≤ d → d ≤ 100 → (∀ h a, Hle H h → RT h a x → CT Tryz.prog 74 ⟨[pp bL 0, .agg ⟨a⟩, iv (d + 1)]⟩ [(BX bL [iv s] 132)] h (fun v N => v = .bool (cnT stL (d + 1) x s).1 ∧ N = [(BX bL [iv ((cnT stL (d + 1) x s).2)] 132)])) → CT Tryz.prog 104 ⟨[.agg ⟨a⟩, pp bA 0, pp bD 0]⟩ [(BX bL [iv s] 132)] H (fun v N => v = .bool (cnT stL (d + 1) x s).1 ∧ N = [(BX bL [iv ((cnT stL (d + 1) x s).2)] 132)]) := by
 intro x d s a H bL bA bD ra hH1 hH5 hd0 hd1 hg
 refine Zk Tryz.func104 rfl rfl <| Zc <| Za <| JLr (Zp (l := a) rfl rfl fun b1 => JLA rfl <| Zb <| Zc <| Za <| JLr (Ze ty130 rfl (At.im hH1) rfl <| JLr (Zi Zs rfl (At.bx 0 rfl) (Zu (Zv ra)) <| JLr (Ze ty3 rfl (At.im hH5) rfl <| JLn (Pu.add64 rfl rfl (by first | omega | (constructor <;> omega))) <| Zr 1 rfl Tryz.call74 rfl rfl (fun hin => hg _ _ (Hle.hu _ _) (RT.mono (Hle.hu _ _) ra)) rfl ?_))))
 rintro _ _ ⟨rfl, rfl⟩
 refine JLA rfl <| Zb <| Zl <| ⟨.bool ((cnT stL (d + 1) x s).1), [(BX bL [iv ((cnT stL (d + 1) x s).2)] 132)], Ret.one rfl (RV.tmp rfl), (Sk Sub.nil), ?_⟩
 exact ⟨rfl, rfl⟩
theorem longP_ct : ∀ (p : Pt) (d n : Int) (cs : List Value) (H : Heap) (bL : Nat), RP H cs p → 0 ≤ n → n ≤ 300 → 0 ≤ d → d ≤ 61 → CT Tryz.prog 106 ⟨[pp bL 0, .agg ⟨cs⟩, iv d]⟩ [(BX bL [iv n] 132)] H (fun v N => v = .bool (cnP stL d p n).1 ∧ N = [(BX bL [iv ((cnP stL d p n).2)] 132)]) := by
 intro p
 induction p using Pt.ind with
 | h kind num ref kids ih =>
 intro d n cs H bL hp hn0 hn1 hd0 hd1
 obtain ⟨ks, rfl, hk, hn, hks⟩ := RP_mk.1 hp
 refine Zk Tryz.func106 rfl rfl <| Zc <| Za <| JLr (Zp (l := [pp bL 0]) rfl rfl fun b1 => JLr (Zp (l := pkP kind num ref ks) rfl rfl fun b2 => JLr (Zp (l := [iv d]) rfl rfl fun b3 => JLA rfl <| Zb <| Zc <| Zc <| Za <| JLr (Ze ty130 rfl (At.bx 2 rfl) rfl <| JLq (pp bL 0) (Pu.nilCheck rfl) ?_))))
 refine JLq (pp bL 0) (fa132_0 rfl rfl) <| JLr (Ze ty3 rfl (At.bx 3 rfl) rfl <| JLn (Pu.add64 rfl rfl (by first | omega | (constructor <;> omega))) <| JLq (pp bL 0) (Pu.nilCheck rfl) <| JLq (pp bL 0) (fa132_0 rfl rfl) <| JLr (Zd 3 (vs := [iv (n + 1)]) (l := [iv (n + 1)]) ty3 rfl rfl rfl rfl rfl (Zj rfl Zt) rfl <| Zb <| Zc <| Za <| JLr (Ze ty130 rfl (At.bx 2 rfl) rfl <| JLq (pp bL 0) (Pu.nilCheck rfl) <| JLq (pp bL 0) (fa132_0 rfl rfl) <| JLr (Ze ty3 rfl (At.bx 3 rfl) rfl ?_))))
 refine JLn (Pu.gtr rfl rfl) <| JLM rfl <| ZC 2 [20, 21] [(21, cond (decide (300 < n + 1)) undef (.bool (decide (60 < d))))] ?_ fun f5 => ?_
 ·cases h4 : (decide (300 < n + 1)) with
  | false =>
   replace h4 := df h4
   refine JLr (Ze ty3 rfl (At.bx 0 rfl) rfl <| JLn (Pu.gtr rfl rfl) ?_)
   exact Zb ⟨⟨rfl, trivial⟩, rfl⟩
  | true =>
   exact ZP rfl ⟨rfl, trivial⟩
 refine JLn (Pu.pickOr rfl rfl rfl) <| Zb <| Zg rfl (fun h6 => ?_) (fun h6 => ?_)
 ·refine Zc <| Za <| JLA rfl <| Zb <| Zl <| ⟨.bool true, [(BX bL [iv (n + 1)] 132)], Ret.one rfl (RV.tmp rfl), (Sd (Sd (Sd (Sk Sub.nil)))), ?_⟩
  refine ⟨?_, ?_⟩ <;> rw [cnP, if_pos (by simpa [stL] using h6)]
 obtain ⟨h6a, h6b⟩ := orF h6
 replace h6a := df h6a
 replace h6b := df h6b
 refine Zm <| Zc <| Za <| JLq (pp b2 34) (Yv rfl rfl) <| JLr (Ze ty52 rfl (At.bx 1 rfl) (YG ..) <| JLq (.func (.func 142) ⟨[]⟩ ⟨[pp b1 0, pp b3 0]⟩) (Pu.makeFunc rfl rfl) <| Zr 3 rfl Tryz.call27 rfl rfl (fun hin => containsP_ct 142 [] [pp b1 0, pp b3 0] (fun _ _ => rfl) (fun n => (BX bL [iv n] 132)) (fun n => 0 ≤ n ∧ n ≤ 300) (cnP stL (d + 1)) _ _ _ (RPs.mono (Hle.hu _ _) hks) (n + 1) ⟨by omega, by omega⟩ (fun x hx s hs hf => cnP_keep stL_le x _ s hs.1 hf) (fun x hx s hs a h hh ra => longPK_ct x d s a h bL b1 b3 ra (hh _ _ (hin 2 _ rfl _ _ List.mem_cons_self)) (hh _ _ (hin 0 _ rfl _ _ List.mem_cons_self)) (by omega) (by omega) (fun h' a' hh' ra' => ih x hx (d + 1) s a' h' bL ra' hs.1 hs.2 (by omega) (by omega)))) rfl ?_)
 rintro _ _ ⟨rfl, rfl⟩
 refine JLA rfl <| Zb <| Zl <| ⟨.bool ((YD (cnP stL (d + 1)) kids (n + 1)).1), [(BX bL [iv ((YD (cnP stL (d + 1)) kids (n + 1)).2)] 132)], Ret.one rfl (RV.tmp rfl), (Sk Sub.nil), ?_⟩
 refine ⟨?_, ?_⟩ <;> rw [cnP, if_neg (by simp [stL]; omega), cnPs_any]
theorem longC_ct : ∀ (c : Pt × Tm) (d n : Int) (a : List Value) (H : Heap) (bL bA bD bK : Nat), RC H a c → 0 ≤ n → n ≤ 300 → 0 ≤ d → d ≤ 60 → H bA = some (.cells ⟨[pp bL 0]⟩ 130 (0, 0)) → H bD = some (.cells ⟨[iv d]⟩ 3 (0, 0)) → H bK = some (.cells ⟨[.func (.func 104) ⟨[]⟩ ⟨[pp bA 0, pp bD 0]⟩]⟩ 28 (0, 0)) → (∀ s a h, Hle H h → RT h a c.2 → 0 ≤ s → s ≤ 300 → CT Tryz.prog 74 ⟨[pp bL 0, .agg ⟨a⟩, iv (d + 1)]⟩ [(BX bL [iv s] 132)] h (fun v N => v = .bool (cnT stL (d + 1) c.2 s).1 ∧ N = [(BX bL [iv ((cnT stL (d + 1) c.2 s).2)] 132)])) → CT Tryz.prog 105 ⟨[.agg ⟨a⟩, pp bA 0, pp bD 0, pp bK 0]⟩ [(BX bL [iv n] 132)] H (fun v N => v = .bool (cnC stL (d + 1) c n).1 ∧ N = [(BX bL [iv ((cnC stL (d + 1) c n).2)] 132)]) := by
 intro c d n a H bL bA bD bK ⟨ca, cb, e1, ra1, ra2⟩ hn0 hn1 hd0 hd1 hH1 hH5 hH7 hg
 subst e1
 refine Zk Tryz.func105 rfl rfl <| Zc <| Za <| JLr (Zp (l := ca ++ cb) rfl rfl fun b1 => JLA rfl <| Zb <| Zc <| Za <| JLr (Ze ty130 rfl (At.im hH1) rfl <| JLq (pp b1 0) (fa56_0 rfl rfl) <| JLr (Zi ZQ rfl (At.bx 0 rfl) (sub_l (ZA ra1)) <| JLr (Ze ty3 rfl (At.im hH5) rfl <| JLn (Pu.add64 rfl rfl (by first | omega | (constructor <;> omega))) ?_))))
 refine Zr 1 rfl Tryz.call106 rfl rfl (fun hin => longP_ct _ _ _ _ _ _ (RP.mono (Hle.hu _ _) ra1) (by omega) (by omega) (by omega) (by omega)) rfl ?_
 rintro _ _ ⟨rfl, rfl⟩
 refine JLM rfl ?_
 cases h3 : ((cnP stL (d + 1) (c.1) n).1) with
 | true =>
  iterate 4 refine JL_skip rfl ?_
  refine JLq (.bool true) (Pu.pickT rfl rfl) <| JLA rfl <| Zb <| Zl <| ⟨.bool true, [(BX bL [iv ((cnP stL (d + 1) (c.1) n).2)] 132)], Ret.one rfl (RV.tmp rfl), (Sk Sub.nil), ?_⟩
  refine ⟨?_, ?_⟩ <;> rw [cnC, if_pos h3]
 | false =>
  refine JLr (Ze ty28 rfl (At.im hH7) rfl <| JLq (pp b1 35) (fa56_1 rfl rfl) <| JLr (Zi Zs rfl (At.bx 1 rfl) (sub_r (ZA ra1) (Zv ra2)) <| Zr 0 rfl Tryz.call104 rfl rfl (fun hin => longTK_ct _ d _ _ _ bL bA bD (RT.mono (Hle.hu _ _) ra2) (Hle.hu _ _ _ _ hH1) (Hle.hu _ _ _ _ hH5) (by omega) (by omega) (fun h' a' hh' ra' => hg _ _ _ (Hle.trans (Hle.hu _ _) hh') ra' (cnP_keep stL_le _ _ _ hn0 h3).1 (cnP_keep stL_le _ _ _ hn0 h3).2)) rfl ?_))
  rintro _ _ ⟨rfl, rfl⟩
  refine JLq (.bool ((cnT stL (d + 1) (c.2) ((cnP stL (d + 1) (c.1) n).2)).1)) (Pu.pickF rfl rfl) <| JLA rfl <| Zb <| Zl <| ⟨.bool ((cnT stL (d + 1) (c.2) ((cnP stL (d + 1) (c.1) n).2)).1), [(BX bL [iv ((cnT stL (d + 1) (c.2) ((cnP stL (d + 1) (c.1) n).2)).2)] 132)], Ret.one rfl (RV.tmp rfl), (Sk Sub.nil), ?_⟩
  refine ⟨?_, ?_⟩ <;> rw [cnC, if_neg (by simp [h3])]
theorem longT_ct : ∀ (t : Tm) (d n : Int) (cs : List Value) (H : Heap) (bL : Nat), RT H cs t → 0 ≤ n → n ≤ 300 → 0 ≤ d → d ≤ 61 → CT Tryz.prog 74 ⟨[pp bL 0, .agg ⟨cs⟩, iv d]⟩ [(BX bL [iv n] 132)] H (fun v N => v = .bool (cnT stL d t n).1 ∧ N = [(BX bL [iv ((cnT stL d t n).2)] 132)]) := by
 intro t
 induction t using Tm.ind with
 | h kind num ref kids cases ih ih' =>
 intro d n cs H bL ht hn0 hn1 hd0 hd1
 obtain ⟨ks, cv, rfl, hk, hn, hks, hcv⟩ := RT_mk.1 ht
 refine Zk Tryz.func74 rfl rfl <| Zc <| Za <| JLr (Zp (l := [pp bL 0]) rfl rfl fun b1 => JLr (Zp (l := pkT kind num ref ks cv) rfl rfl fun b2 => JLr (Zp (l := [iv d]) rfl rfl fun b3 => JLA rfl <| Zb <| Zc <| Zc <| Za <| JLr (Ze ty130 rfl (At.bx 2 rfl) rfl <| JLq (pp bL 0) (Pu.nilCheck rfl) ?_))))
 refine JLq (pp bL 0) (fa132_0 rfl rfl) <| JLr (Ze ty3 rfl (At.bx 3 rfl) rfl <| JLn (Pu.add64 rfl rfl (by first | omega | (constructor <;> omega))) <| JLq (pp bL 0) (Pu.nilCheck rfl) <| JLq (pp bL 0) (fa132_0 rfl rfl) <| JLr (Zd 3 (vs := [iv (n + 1)]) (l := [iv (n + 1)]) ty3 rfl rfl rfl rfl rfl (Zj rfl Zt) rfl <| Zb <| Zc <| Za <| JLr (Ze ty130 rfl (At.bx 2 rfl) rfl <| JLq (pp bL 0) (Pu.nilCheck rfl) <| JLq (pp bL 0) (fa132_0 rfl rfl) <| JLr (Ze ty3 rfl (At.bx 3 rfl) rfl ?_))))
 refine JLn (Pu.gtr rfl rfl) <| JLM rfl <| ZC 2 [21, 22] [(22, cond (decide (300 < n + 1)) undef (.bool (decide (60 < d))))] ?_ fun f5 => ?_
 ·cases h4 : (decide (300 < n + 1)) with
  | false =>
   replace h4 := df h4
   refine JLr (Ze ty3 rfl (At.bx 0 rfl) rfl <| JLn (Pu.gtr rfl rfl) ?_)
   exact Zb ⟨⟨rfl, trivial⟩, rfl⟩
  | true =>
   exact ZP rfl ⟨rfl, trivial⟩
 refine JLn (Pu.pickOr rfl rfl rfl) <| Zb <| Zg rfl (fun h6 => ?_) (fun h6 => ?_)
 ·refine Zc <| Za <| JLA rfl <| Zb <| Zl <| ⟨.bool true, [(BX bL [iv (n + 1)] 132)], Ret.one rfl (RV.tmp rfl), (Sd (Sd (Sd (Sk Sub.nil)))), ?_⟩
  refine ⟨?_, ?_⟩ <;> rw [cnT, if_pos (by simpa [stL] using h6)]
 obtain ⟨h6a, h6b⟩ := orF h6
 replace h6a := df h6a
 replace h6b := df h6b
 refine Zm <| Zc <| Za <| JLq (.func (.func 104) ⟨[]⟩ ⟨[pp b1 0, pp b3 0]⟩) (Pu.makeFunc rfl rfl) <| JLr (Zh (l := [.nilFunc]) Tryz.zeroValue28 rfl fun b7 => JLr (Zd 0 (vs := [.func (.func 104) ⟨[]⟩ ⟨[pp b1 0, pp b3 0]⟩]) (l := [.func (.func 104) ⟨[]⟩ ⟨[pp b1 0, pp b3 0]⟩]) ty28 rfl rfl rfl rfl rfl (Zj rfl Zt) rfl <| Zb <| Zc <| Za <| JLq (pp b2 34) (Yb rfl rfl) <| JLr (Ze ty24 rfl (At.bx 2 rfl) (Z9 ..) <| JLr (Ze ty28 rfl (At.bx 0 rfl) rfl <| Zr 4 rfl Tryz.call29 rfl rfl (fun hin => containsT_ct 104 [] [pp b1 0, pp b3 0] (fun _ _ => rfl) (fun n => (BX bL [iv n] 132)) (fun n => 0 ≤ n ∧ n ≤ 300) (cnT stL (d + 1)) _ _ _ (RTs.mono (Hle.hu _ _) hks) (n + 1) ⟨by omega, by omega⟩ (fun x hx s hs hf => cnT_keep stL_le x _ s hs.1 hf) (fun x hx s hs a h hh ra => longTK_ct x d s a h bL b1 b3 ra (hh _ _ (hin 3 _ rfl _ _ List.mem_cons_self)) (hh _ _ (hin 1 _ rfl _ _ List.mem_cons_self)) (by omega) (by omega) (fun h' a' hh' ra' => ih x hx (d + 1) s a' h' bL ra' hs.1 hs.2 (by omega) (by omega)))) rfl ?_))))
 rintro _ _ ⟨rfl, rfl⟩
 refine JLM rfl ?_
 cases h9 : ((YD (cnT stL (d + 1)) kids (n + 1)).1) with
 | true =>
  iterate 4 refine JL_skip rfl ?_
  refine JLq (.bool true) (Pu.pickT rfl rfl) <| JLA rfl <| Zb <| Zl <| ⟨.bool true, [(BX bL [iv ((YD (cnT stL (d + 1)) kids (n + 1)).2)] 132)], Ret.one rfl (RV.tmp rfl), (Sk Sub.nil), ?_⟩
  refine ⟨?_, ?_⟩ <;> rw [cnT, if_neg (by simp [stL]; omega), cnTs_any, if_pos h9]
 | false =>
  refine JLq (pp b2 35) (Yw rfl rfl) <| JLr (Ze ty25 rfl (At.bx 3 rfl) (Yj ..) <| JLq (.func (.func 105) ⟨[]⟩ ⟨[pp b1 0, pp b3 0, pp b7 0]⟩) (Pu.makeFunc rfl rfl) <| Zr 0 rfl Tryz.call30 rfl rfl (fun hin => containsC_ct 105 [] [pp b1 0, pp b3 0, pp b7 0] (fun _ _ => rfl) (fun n => (BX bL [iv n] 132)) (fun n => 0 ≤ n ∧ n ≤ 300) (cnC stL (d + 1)) _ _ _ (RCs.mono (Hle.hu _ _) hcv) ((YD (cnT stL (d + 1)) kids (n + 1)).2) (anyT_keep stL_le _ _ _ (by omega) (by omega) h9) (fun x hx s hs hf => cnC_keep stL_le x _ s hs.1 hf) (fun x hx s hs a h hh ra => longC_ct x d s a h bL b1 b3 b7 ra hs.1 hs.2 (by omega) (by omega) (hh _ _ (hin 3 _ rfl _ _ List.mem_cons_self)) (hh _ _ (hin 1 _ rfl _ _ List.mem_cons_self)) (hh _ _ (hin 0 _ rfl _ _ List.mem_cons_self)) (fun s' a' h' hh' ra' k1 k2 => ih' x hx (d + 1) s' a' h' bL ra' k1 k2 (by omega) (by omega)))) rfl ?_)
  rintro _ _ ⟨rfl, rfl⟩
  refine JLq (.bool ((YD (cnC stL (d + 1)) cases ((YD (cnT stL (d + 1)) kids (n + 1)).2)).1)) (Pu.pickF rfl rfl) <| JLA rfl <| Zb <| Zl <| ⟨.bool ((YD (cnC stL (d + 1)) cases ((YD (cnT stL (d + 1)) kids (n + 1)).2)).1), [(BX bL [iv ((YD (cnC stL (d + 1)) cases ((YD (cnT stL (d + 1)) kids (n + 1)).2)).2)] 132)], Ret.one rfl (RV.tmp rfl), (Sk Sub.nil), ?_⟩
  refine ⟨?_, ?_⟩ <;> rw [cnT, if_neg (by simp [stL]; omega), cnTs_any, if_neg (by simp [h9]), cnCs_any]
end Go.Proofs.YtfdeibbpfgolcaaGreat.Hs
/-! Walks, printed by a program of this session's own (gen.py). -/
namespace Go.Proofs.YtfdeibbpfgolcaaGreat.Hs
open Go Go.Proofs
set_option maxRecDepth 100000
set_option linter.unusedVariables false
set_option linter.unusedSimpArgs false
attribute [local irreducible] JL J CT wlo DT
theorem fields_ct (k : Int) (H : Heap) : CT Tryz.prog 60 ⟨[iv k]⟩ [] H (fun v N => v = .agg ⟨[.bool (fN k), .bool (fR k), .bool (fC k)]⟩ ∧ N = []) := by
 refine Zk Tryz.func60 rfl rfl <| Zc <| Za <| JLr (Zh (l := [.bool false, .bool false, .bool false]) Tryz.zeroValue114 rfl fun b1 => Zb <| Zc <| Za <| JLr (Zh (l := [.bool false, .bool false, .bool false]) Tryz.zeroValue114 rfl fun b2 => Zb <| Zc <| Zc <| Za <| JLM rfl ?_))
 refine Zb <| Zo <| Zc <| Zc <| Za <| JLn (Pu.eql rfl rfl) <| JLA rfl <| Zb <| Zg rfl (fun h3 => ?_) (fun h3 => ?_)
 ·replace h3 := dt h3
  refine Zm <| Zg rfl (fun _ => ?_) (fun h4 => absurd h3 (df h4))
  refine Za <| JLq (pp b2 0) (Pu.idxA 0 Tryz.runUnderlying114 ty4 rfl rfl (by decide) (by decide)) <| JLr (Zd 0 (vs := [.bool true]) (l := [.bool true, .bool false, .bool false]) ty4 rfl rfl rfl rfl rfl (Zj rfl Zt) rfl <| Zb <| Zc <| Za <| JLr (Zi Z1 rfl (At.bx 0 rfl) rfl <| JLr (Zd 1 (vs := [.bool true, .bool false, .bool false]) (l := [.bool true, .bool false, .bool false]) Z1 rfl rfl rfl rfl rfl (Zj rfl (Zj rfl (Zj rfl Zt))) rfl <| Zb <| Zl <| ⟨.agg ⟨[.bool true, .bool false, .bool false]⟩, [], Ret.one rfl (RV.cell Z1 rfl (At.bx 1 rfl) rfl), Sub.nil, ?_⟩)))
  exact ⟨by simp_all [fN, fR, fC], rfl⟩
 replace h3 := df h3
 refine Zc <| Za <| JLn (Pu.eql rfl rfl) <| JLA rfl <| Zb <| Zg rfl (fun h5 => ?_) (fun h5 => ?_)
 ·replace h5 := dt h5
  refine Zm <| Zg rfl (fun _ => ?_) (fun h6 => absurd h5 (df h6))
  refine Za <| JLq (pp b2 0) (Pu.idxA 0 Tryz.runUnderlying114 ty4 rfl rfl (by decide) (by decide)) <| JLr (Zd 0 (vs := [.bool true]) (l := [.bool true, .bool false, .bool false]) ty4 rfl rfl rfl rfl rfl (Zj rfl Zt) rfl <| Zb <| Zc <| Za <| JLr (Zi Z1 rfl (At.bx 0 rfl) rfl <| JLr (Zd 1 (vs := [.bool true, .bool false, .bool false]) (l := [.bool true, .bool false, .bool false]) Z1 rfl rfl rfl rfl rfl (Zj rfl (Zj rfl (Zj rfl Zt))) rfl <| Zb <| Zl <| ⟨.agg ⟨[.bool true, .bool false, .bool false]⟩, [], Ret.one rfl (RV.cell Z1 rfl (At.bx 1 rfl) rfl), Sub.nil, ?_⟩)))
  exact ⟨by simp_all [fN, fR, fC], rfl⟩
 replace h5 := df h5
 refine Zc <| Za <| JLn (Pu.eql rfl rfl) <| JLA rfl <| Zb <| Zg rfl (fun h7 => ?_) (fun h7 => ?_)
 ·replace h7 := dt h7
  refine Zm <| Zg rfl (fun _ => ?_) (fun h8 => absurd h7 (df h8))
  refine Za <| JLq (pp b2 0) (Pu.idxA 0 Tryz.runUnderlying114 ty4 rfl rfl (by decide) (by decide)) <| JLr (Zd 0 (vs := [.bool true]) (l := [.bool true, .bool false, .bool false]) ty4 rfl rfl rfl rfl rfl (Zj rfl Zt) rfl <| Zb <| Zc <| Za <| JLr (Zi Z1 rfl (At.bx 0 rfl) rfl <| JLr (Zd 1 (vs := [.bool true, .bool false, .bool false]) (l := [.bool true, .bool false, .bool false]) Z1 rfl rfl rfl rfl rfl (Zj rfl (Zj rfl (Zj rfl Zt))) rfl <| Zb <| Zl <| ⟨.agg ⟨[.bool true, .bool false, .bool false]⟩, [], Ret.one rfl (RV.cell Z1 rfl (At.bx 1 rfl) rfl), Sub.nil, ?_⟩)))
  exact ⟨by simp_all [fN, fR, fC], rfl⟩
 replace h7 := df h7
 refine Za <| JLn (Pu.eql rfl rfl) <| JLA rfl <| Zb <| Zg rfl (fun h9 => ?_) (fun h9 => ?_)
 ·replace h9 := dt h9
  refine Za <| JLq (pp b2 0) (Pu.idxA 0 Tryz.runUnderlying114 ty4 rfl rfl (by decide) (by decide)) <| JLr (Zd 0 (vs := [.bool true]) (l := [.bool true, .bool false, .bool false]) ty4 rfl rfl rfl rfl rfl (Zj rfl Zt) rfl <| Zb <| Zc <| Za <| JLr (Zi Z1 rfl (At.bx 0 rfl) rfl <| JLr (Zd 1 (vs := [.bool true, .bool false, .bool false]) (l := [.bool true, .bool false, .bool false]) Z1 rfl rfl rfl rfl rfl (Zj rfl (Zj rfl (Zj rfl Zt))) rfl <| Zb <| Zl <| ⟨.agg ⟨[.bool true, .bool false, .bool false]⟩, [], Ret.one rfl (RV.cell Z1 rfl (At.bx 1 rfl) rfl), Sub.nil, ?_⟩)))
  exact ⟨by simp_all [fN, fR, fC], rfl⟩
 replace h9 := df h9
 refine Zc <| Zc <| Za <| JLn (Pu.eql rfl rfl) <| JLA rfl <| Zb <| Zg rfl (fun h10 => ?_) (fun h10 => ?_)
 ·replace h10 := dt h10
  refine Zm <| Zg rfl (fun _ => ?_) (fun h11 => absurd h10 (df h11))
  refine Za <| JLq (pp b2 0) (Pu.idxA 0 Tryz.runUnderlying114 ty4 rfl rfl (by decide) (by decide)) <| JLr (Zd 0 (vs := [.bool true]) (l := [.bool true, .bool false, .bool false]) ty4 rfl rfl rfl rfl rfl (Zj rfl Zt) rfl <| JLq (pp b2 1) (Pu.idxA 1 Tryz.runUnderlying114 ty4 rfl rfl (by decide) (by decide)) <| JLr (Zd 0 (vs := [.bool true]) (l := [.bool true, .bool true, .bool false]) ty4 rfl rfl rfl rfl rfl (Zj rfl Zt) rfl <| Zb <| Zc <| Za <| JLr (Zi Z1 rfl (At.bx 0 rfl) rfl <| JLr (Zd 1 (vs := [.bool true, .bool true, .bool false]) (l := [.bool true, .bool true, .bool false]) Z1 rfl rfl rfl rfl rfl (Zj rfl (Zj rfl (Zj rfl Zt))) rfl <| Zb <| Zl <| ⟨.agg ⟨[.bool true, .bool true, .bool false]⟩, [], Ret.one rfl (RV.cell Z1 rfl (At.bx 1 rfl) rfl), Sub.nil, ?_⟩))))
  exact ⟨by simp_all [fN, fR, fC], rfl⟩
 replace h10 := df h10
 refine Za <| JLn (Pu.eql rfl rfl) <| JLA rfl <| Zb <| Zg rfl (fun h12 => ?_) (fun h12 => ?_)
 ·replace h12 := dt h12
  refine Za <| JLq (pp b2 0) (Pu.idxA 0 Tryz.runUnderlying114 ty4 rfl rfl (by decide) (by decide)) <| JLr (Zd 0 (vs := [.bool true]) (l := [.bool true, .bool false, .bool false]) ty4 rfl rfl rfl rfl rfl (Zj rfl Zt) rfl <| JLq (pp b2 1) (Pu.idxA 1 Tryz.runUnderlying114 ty4 rfl rfl (by decide) (by decide)) <| JLr (Zd 0 (vs := [.bool true]) (l := [.bool true, .bool true, .bool false]) ty4 rfl rfl rfl rfl rfl (Zj rfl Zt) rfl <| Zb <| Zc <| Za <| JLr (Zi Z1 rfl (At.bx 0 rfl) rfl <| JLr (Zd 1 (vs := [.bool true, .bool true, .bool false]) (l := [.bool true, .bool true, .bool false]) Z1 rfl rfl rfl rfl rfl (Zj rfl (Zj rfl (Zj rfl Zt))) rfl <| Zb <| Zl <| ⟨.agg ⟨[.bool true, .bool true, .bool false]⟩, [], Ret.one rfl (RV.cell Z1 rfl (At.bx 1 rfl) rfl), Sub.nil, ?_⟩))))
  exact ⟨by simp_all [fN, fR, fC], rfl⟩
 replace h12 := df h12
 refine Zc <| Zc <| Za <| JLn (Pu.eql rfl rfl) <| JLA rfl <| Zb <| Zg rfl (fun h13 => ?_) (fun h13 => ?_)
 ·replace h13 := dt h13
  refine Zm <| Zg rfl (fun _ => ?_) (fun h14 => absurd h13 (df h14))
  refine Za <| JLq (pp b2 1) (Pu.idxA 1 Tryz.runUnderlying114 ty4 rfl rfl (by decide) (by decide)) <| JLr (Zd 0 (vs := [.bool true]) (l := [.bool false, .bool true, .bool false]) ty4 rfl rfl rfl rfl rfl (Zj rfl Zt) rfl <| Zb <| Zc <| Za <| JLr (Zi Z1 rfl (At.bx 0 rfl) rfl <| JLr (Zd 1 (vs := [.bool false, .bool true, .bool false]) (l := [.bool false, .bool true, .bool false]) Z1 rfl rfl rfl rfl rfl (Zj rfl (Zj rfl (Zj rfl Zt))) rfl <| Zb <| Zl <| ⟨.agg ⟨[.bool false, .bool true, .bool false]⟩, [], Ret.one rfl (RV.cell Z1 rfl (At.bx 1 rfl) rfl), Sub.nil, ?_⟩)))
  exact ⟨by simp_all [fN, fR, fC], rfl⟩
 replace h13 := df h13
 refine Za <| JLn (Pu.eql rfl rfl) <| JLA rfl <| Zb <| Zg rfl (fun h15 => ?_) (fun h15 => ?_)
 ·replace h15 := dt h15
  refine Za <| JLq (pp b2 1) (Pu.idxA 1 Tryz.runUnderlying114 ty4 rfl rfl (by decide) (by decide)) <| JLr (Zd 0 (vs := [.bool true]) (l := [.bool false, .bool true, .bool false]) ty4 rfl rfl rfl rfl rfl (Zj rfl Zt) rfl <| Zb <| Zc <| Za <| JLr (Zi Z1 rfl (At.bx 0 rfl) rfl <| JLr (Zd 1 (vs := [.bool false, .bool true, .bool false]) (l := [.bool false, .bool true, .bool false]) Z1 rfl rfl rfl rfl rfl (Zj rfl (Zj rfl (Zj rfl Zt))) rfl <| Zb <| Zl <| ⟨.agg ⟨[.bool false, .bool true, .bool false]⟩, [], Ret.one rfl (RV.cell Z1 rfl (At.bx 1 rfl) rfl), Sub.nil, ?_⟩)))
  exact ⟨by simp_all [fN, fR, fC], rfl⟩
 replace h15 := df h15
 refine Zc <| Za <| JLn (Pu.eql rfl rfl) <| JLA rfl <| Zb <| Zg rfl (fun h16 => ?_) (fun h16 => ?_)
 ·replace h16 := dt h16
  refine Za <| JLq (pp b2 2) (Pu.idxA 2 Tryz.runUnderlying114 ty4 rfl rfl (by decide) (by decide)) <| JLr (Zd 0 (vs := [.bool true]) (l := [.bool false, .bool false, .bool true]) ty4 rfl rfl rfl rfl rfl (Zj rfl Zt) rfl <| Zb <| Zc <| Za <| JLr (Zi Z1 rfl (At.bx 0 rfl) rfl <| JLr (Zd 1 (vs := [.bool false, .bool false, .bool true]) (l := [.bool false, .bool false, .bool true]) Z1 rfl rfl rfl rfl rfl (Zj rfl (Zj rfl (Zj rfl Zt))) rfl <| Zb <| Zl <| ⟨.agg ⟨[.bool false, .bool false, .bool true]⟩, [], Ret.one rfl (RV.cell Z1 rfl (At.bx 1 rfl) rfl), Sub.nil, ?_⟩)))
  exact ⟨by simp_all [fN, fR, fC], rfl⟩
 replace h16 := df h16
 refine Zm <| Zc <| Za <| JLr (Zi Z1 rfl (At.bx 0 rfl) rfl <| JLr (Zd 1 (vs := [.bool false, .bool false, .bool false]) (l := [.bool false, .bool false, .bool false]) Z1 rfl rfl rfl rfl rfl (Zj rfl (Zj rfl (Zj rfl Zt))) rfl <| Zb <| Zl <| ⟨.agg ⟨[.bool false, .bool false, .bool false]⟩, [], Ret.one rfl (RV.cell Z1 rfl (At.bx 1 rfl) rfl), Sub.nil, ?_⟩))
 exact ⟨by simp_all [fN, fR, fC], rfl⟩
theorem patternFields_ct (k : Int) (H : Heap) : CT Tryz.prog 169 ⟨[iv k]⟩ [] H (fun v N => v = .agg ⟨[.bool (pfN k), .bool (pfR k), .bool false]⟩ ∧ N = []) := by
 refine Zk Tryz.func169 rfl rfl <| Zc <| Za <| JLr (Zh (l := [.bool false, .bool false, .bool false]) Tryz.zeroValue114 rfl fun b1 => Zb <| Zc <| Zc <| Za <| JLM rfl <| Zb <| Zo <| Zc <| Za ?_)
 refine JLn (Pu.eql rfl rfl) <| JLA rfl <| Zb <| Zg rfl (fun h2 => ?_) (fun h2 => ?_)
 ·replace h2 := dt h2
  refine Zc <| Za <| JLq (.agg ⟨[.bool true, .bool false, .bool false]⟩) (Pu.build (pv := [(0, .bool true), (1, .bool false), (2, .bool false)]) (l := [.bool true, .bool false, .bool false]) rfl (bld114_0_1_2 _ _ _)) <| JLr (Zd 0 (vs := [.bool true, .bool false, .bool false]) (l := [.bool true, .bool false, .bool false]) Z1 rfl rfl rfl rfl rfl (Zj rfl (Zj rfl (Zj rfl Zt))) rfl <| Zb <| Zl <| ⟨.agg ⟨[.bool true, .bool false, .bool false]⟩, [], Ret.one rfl (RV.cell Z1 rfl (At.bx 0 rfl) rfl), Sub.nil, ?_⟩)
  exact ⟨by simp_all [pfN, pfR], rfl⟩
 replace h2 := df h2
 refine Zc <| Za <| JLn (Pu.eql rfl rfl) <| JLA rfl <| Zb <| Zg rfl (fun h3 => ?_) (fun h3 => ?_)
 ·replace h3 := dt h3
  refine Zc <| Za <| JLq (.agg ⟨[.bool true, .bool true, .bool false]⟩) (Pu.build (pv := [(0, .bool true), (1, .bool true), (2, .bool false)]) (l := [.bool true, .bool true, .bool false]) rfl (bld114_0_1_2 _ _ _)) <| JLr (Zd 0 (vs := [.bool true, .bool true, .bool false]) (l := [.bool true, .bool true, .bool false]) Z1 rfl rfl rfl rfl rfl (Zj rfl (Zj rfl (Zj rfl Zt))) rfl <| Zb <| Zl <| ⟨.agg ⟨[.bool true, .bool true, .bool false]⟩, [], Ret.one rfl (RV.cell Z1 rfl (At.bx 0 rfl) rfl), Sub.nil, ?_⟩)
  exact ⟨by simp_all [pfN, pfR], rfl⟩
 replace h3 := df h3
 refine Zm <| Zc <| Za <| JLq (.agg ⟨[.bool false, .bool false, .bool false]⟩) (Pu.build (pv := []) (l := [.bool false, .bool false, .bool false]) rfl bld114_) <| JLr (Zd 0 (vs := [.bool false, .bool false, .bool false]) (l := [.bool false, .bool false, .bool false]) Z1 rfl rfl rfl rfl rfl (Zj rfl (Zj rfl (Zj rfl Zt))) rfl <| Zb <| Zl <| ⟨.agg ⟨[.bool false, .bool false, .bool false]⟩, [], Ret.one rfl (RV.cell Z1 rfl (At.bx 0 rfl) rfl), Sub.nil, ?_⟩)
 exact ⟨by simp_all [pfN, pfR], rfl⟩
theorem clash_ct (a b c : Bool) (n : Int) (r : Sm) (m : Int) (H : Heap) : CT Tryz.prog 148 ⟨[.agg ⟨[.bool a, .bool b, .bool c]⟩, iv n, .agg ⟨sC r⟩, iv m]⟩ [] H (fun v N => v = .bool (clashB a b c n r m) ∧ N = []) := by
 refine Zk Tryz.func148 rfl rfl <| Zc <| Za <| JLr (Zp (l := [.bool a, .bool b, .bool c]) rfl rfl fun b1 => JLr (Zp (l := sC r) rfl rfl fun b2 => JLA rfl <| Zb <| Zc <| Za <| JLM rfl <| JLn (Pu.neq rfl rfl) <| JLr (Zi Z3 rfl (At.bx 0 rfl) (Zu rfl) <| JLq (.agg ⟨sC zS⟩) (Pu.build (pv := []) (l := sC zS) rfl bld23_) ?_)))
 refine JLn (neqS rfl rfl) <| JLM rfl <| JLn (Pu.gtr rfl rfl) <| JLq (.agg ⟨[.bool (!decide (n = 0)), .bool (!decide (r = zS)), .bool (decide (0 < m))]⟩) (Pu.build (pv := [(0, .bool (!decide (n = 0))), (1, .bool (!decide (r = zS))), (2, .bool (decide (0 < m)))]) (l := [.bool (!decide (n = 0)), .bool (!decide (r = zS)), .bool (decide (0 < m))]) rfl (bld114_0_1_2 _ _ _)) <| JLr (Zh (l := [.bool false, .bool false, .bool false]) Tryz.zeroValue114 rfl fun b3 => JLr (Zd 0 (vs := [.bool (!decide (n = 0)), .bool (!decide (r = zS)), .bool (decide (0 < m))]) (l := [.bool (!decide (n = 0)), .bool (!decide (r = zS)), .bool (decide (0 < m))]) Z1 rfl rfl rfl rfl rfl (Zj rfl (Zj rfl (Zj rfl Zt))) rfl <| Zb <| Zc <| Za <| JLr (Zi Z1 rfl (At.bx 0 rfl) rfl <| JLr (Zh (l := [.bool false, .bool false, .bool false]) Tryz.zeroValue114 rfl fun b4 => JLr (Zd 0 (vs := [.bool (!decide (n = 0)), .bool (!decide (r = zS)), .bool (decide (0 < m))]) (l := [.bool (!decide (n = 0)), .bool (!decide (r = zS)), .bool (decide (0 < m))]) Z1 rfl rfl rfl rfl rfl (Zj rfl (Zj rfl (Zj rfl Zt))) rfl <| Zb ?_)))))
 refine Zc <| Zc <| Za <| JLM rfl <| Zb <| Zo <| Ya 4 <| ZG <| Zc <| Za <| JLq (.bool true) (show Pu _ _ _ (.bool (decide ((0 : Int) < 3))) from Pu.lss rfl rfl) <| Zb <| Zc ?_
 refine Zg (b := true) rfl (fun _ => ?_) (fun h => absurd h (by simp))
 refine Zm <| Zc <| Zo <| Zc <| Za <| JLM rfl <| JLA rfl <| Zb <| Za <| JLM rfl <| JLM rfl <| JLq (pp b3 0) (Pu.idxA 0 Tryz.runUnderlying114 ty4 rfl rfl (by decide) (by decide)) <| JLr (Ze ty4 rfl (At.bx 1 rfl) rfl ?_)
 refine JLM rfl <| ZC 3 [29, 30, 31] [(31, cond (!decide (n = 0)) (.bool a) undef)] ?_ fun f6 => ?_
 ·cases h5 : (!decide (n = 0)) with
  | true =>
   replace h5 := nt h5
   replace h5 := df h5
   refine JLM rfl <| JLq (pp b1 0) (Pu.idxA 0 Tryz.runUnderlying114 ty4 rfl rfl (by decide) (by decide)) <| JLr (Ze ty4 rfl (At.bx 3 rfl) rfl ?_)
   exact Zb ⟨⟨rfl, trivial⟩, rfl⟩
  | false =>
   exact ZP rfl ⟨rfl, trivial⟩
 refine JLn (Pu.pickAnd rfl rfl rfl) <| JLq (pp b4 0) (Pu.idxA 0 Tryz.runUnderlying114 ty4 rfl rfl (by decide) (by decide)) <| JLr (Zd 0 (vs := [.bool ((!decide (n = 0)) && a)]) (l := [.bool ((!decide (n = 0)) && a), .bool (!decide (r = zS)), .bool (decide (0 < m))]) ty4 rfl rfl rfl rfl rfl (Zj rfl Zt) rfl <| Zb <| Za <| JLq (iv 1) (Pu.arith rfl rfl rfl) <| JLM rfl <| Zb <| ZG <| Zc <| Za <| JLq (.bool true) (show Pu _ _ _ (.bool (decide ((1 : Int) < 3))) from Pu.lss rfl rfl) <| Zb ?_)
 refine Zc <| Zg (b := true) rfl (fun _ => ?_) (fun h => absurd h (by simp))
 refine Zm <| Zc <| Zo <| Zc <| Za <| JLM rfl <| JLA rfl <| Zb <| Za <| JLM rfl <| JLM rfl <| JLq (pp b3 1) (Pu.idxA 1 Tryz.runUnderlying114 ty4 rfl rfl (by decide) (by decide)) <| JLr (Ze ty4 rfl (At.bx 1 rfl) rfl ?_)
 refine JLM rfl <| ZC 3 [29, 30, 31] [(31, cond (!decide (r = zS)) (.bool b) undef)] ?_ fun f8 => ?_
 ·cases h7 : (!decide (r = zS)) with
  | true =>
   replace h7 := nt h7
   replace h7 := df h7
   refine JLM rfl <| JLq (pp b1 1) (Pu.idxA 1 Tryz.runUnderlying114 ty4 rfl rfl (by decide) (by decide)) <| JLr (Ze ty4 rfl (At.bx 3 rfl) rfl ?_)
   exact Zb ⟨⟨rfl, trivial⟩, rfl⟩
  | false =>
   exact ZP rfl ⟨rfl, trivial⟩
 refine JLn (Pu.pickAnd rfl rfl rfl) <| JLq (pp b4 1) (Pu.idxA 1 Tryz.runUnderlying114 ty4 rfl rfl (by decide) (by decide)) <| JLr (Zd 0 (vs := [.bool ((!decide (r = zS)) && b)]) (l := [.bool ((!decide (n = 0)) && a), .bool ((!decide (r = zS)) && b), .bool (decide (0 < m))]) ty4 rfl rfl rfl rfl rfl (Zj rfl Zt) rfl <| Zb <| Za <| JLq (iv 2) (Pu.arith rfl rfl rfl) <| JLM rfl <| Zb <| ZG <| Zc <| Za <| JLq (.bool true) (show Pu _ _ _ (.bool (decide ((2 : Int) < 3))) from Pu.lss rfl rfl) <| Zb ?_)
 refine Zc <| Zg (b := true) rfl (fun _ => ?_) (fun h => absurd h (by simp))
 refine Zm <| Zc <| Zo <| Zc <| Za <| JLM rfl <| JLA rfl <| Zb <| Za <| JLM rfl <| JLM rfl <| JLq (pp b3 2) (Pu.idxA 2 Tryz.runUnderlying114 ty4 rfl rfl (by decide) (by decide)) <| JLr (Ze ty4 rfl (At.bx 1 rfl) rfl ?_)
 refine JLM rfl <| ZC 3 [29, 30, 31] [(31, cond (decide (0 < m)) (.bool c) undef)] ?_ fun f10 => ?_
 ·cases h9 : (decide (0 < m)) with
  | true =>
   replace h9 := dt h9
   refine JLM rfl <| JLq (pp b1 2) (Pu.idxA 2 Tryz.runUnderlying114 ty4 rfl rfl (by decide) (by decide)) <| JLr (Ze ty4 rfl (At.bx 3 rfl) rfl ?_)
   exact Zb ⟨⟨rfl, trivial⟩, rfl⟩
  | false =>
   exact ZP rfl ⟨rfl, trivial⟩
 refine JLn (Pu.pickAnd rfl rfl rfl) <| JLq (pp b4 2) (Pu.idxA 2 Tryz.runUnderlying114 ty4 rfl rfl (by decide) (by decide)) <| JLr (Zd 0 (vs := [.bool ((decide (0 < m)) && c)]) (l := [.bool ((!decide (n = 0)) && a), .bool ((!decide (r = zS)) && b), .bool ((decide (0 < m)) && c)]) ty4 rfl rfl rfl rfl rfl (Zj rfl Zt) rfl <| Zb <| Za <| JLq (iv 3) (Pu.arith rfl rfl rfl) <| JLM rfl <| Zb <| ZG <| Zc <| Za <| JLq (.bool false) (show Pu _ _ _ (.bool (decide ((3 : Int) < 3))) from Pu.lss rfl rfl) <| Zb ?_)
 refine Zc <| Zg (b := false) rfl (fun h => absurd h (by simp)) (fun _ => ZB _ rfl <| Zc <| Za <| JLr (Zi Z1 rfl (At.bx 0 rfl) rfl <| JLr (Zi Z1 rfl (At.bx 1 rfl) rfl <| JLq (.bool (!((((!decide (n = 0)) && a) == (!decide (n = 0))) && ((((!decide (r = zS)) && b) == (!decide (r = zS))) && (((decide (0 < m)) && c) == (decide (0 < m))))))) (neqB3 rfl rfl) <| JLA rfl <| Zb <| Zl <| ⟨.bool (!((((!decide (n = 0)) && a) == (!decide (n = 0))) && ((((!decide (r = zS)) && b) == (!decide (r = zS))) && (((decide (0 < m)) && c) == (decide (0 < m)))))), [], Ret.one rfl (RV.tmp rfl), Sub.nil, ?_⟩)))
 exact ⟨by unfold clashB; congr 1; cases a <;> cases b <;> cases c <;> simp, rfl⟩
theorem kidsT_ct (k n : Int) (H : Heap) : CT Tryz.prog 149 ⟨[iv k, iv n]⟩ [] H (fun v N => v = .bool (kidsB k n) ∧ N = []) := by
 refine Zk Tryz.func149 rfl rfl <| Zc <| Za <| JLA rfl <| Zb <| Zc <| Zc <| Za <| JLM rfl <| Zb <| Zo <| Zc <| Zc ?_
 refine Za <| JLn (Pu.eql rfl rfl) <| JLA rfl <| Zb <| Zg rfl (fun h1 => ?_) (fun h1 => ?_)
 ·replace h1 := dt h1
  refine Zm <| Zg rfl (fun _ => ?_) (fun h2 => absurd h1 (df h2))
  refine Zc <| Za <| JLM rfl <| JLn (Pu.eql rfl rfl) <| JLA rfl <| Zb <| Zl <| ⟨.bool (decide (n = 1)), [], Ret.one rfl (RV.tmp rfl), Sub.nil, ?_⟩
  exact ⟨by simp_all [kidsB], rfl⟩
 replace h1 := df h1
 refine Zc <| Za <| JLn (Pu.eql rfl rfl) <| JLA rfl <| Zb <| Zg rfl (fun h3 => ?_) (fun h3 => ?_)
 ·replace h3 := dt h3
  refine Zm <| Zg rfl (fun _ => ?_) (fun h4 => absurd h3 (df h4))
  refine Zc <| Za <| JLM rfl <| JLn (Pu.eql rfl rfl) <| JLA rfl <| Zb <| Zl <| ⟨.bool (decide (n = 1)), [], Ret.one rfl (RV.tmp rfl), Sub.nil, ?_⟩
  exact ⟨by simp_all [kidsB], rfl⟩
 replace h3 := df h3
 refine Za <| JLn (Pu.eql rfl rfl) <| JLA rfl <| Zb <| Zg rfl (fun h5 => ?_) (fun h5 => ?_)
 ·replace h5 := dt h5
  refine Zc <| Za <| JLM rfl <| JLn (Pu.eql rfl rfl) <| JLA rfl <| Zb <| Zl <| ⟨.bool (decide (n = 1)), [], Ret.one rfl (RV.tmp rfl), Sub.nil, ?_⟩
  exact ⟨by simp_all [kidsB], rfl⟩
 replace h5 := df h5
 refine Zc <| Zc <| Za <| JLn (Pu.eql rfl rfl) <| JLA rfl <| Zb <| Zg rfl (fun h6 => ?_) (fun h6 => ?_)
 ·replace h6 := dt h6
  refine Zm <| Zg rfl (fun _ => ?_) (fun h7 => absurd h6 (df h7))
  refine Zc <| Za <| JLM rfl <| JLn (Pu.eql rfl rfl) <| JLA rfl <| Zb <| Zl <| ⟨.bool (decide (n = 2)), [], Ret.one rfl (RV.tmp rfl), Sub.nil, ?_⟩
  exact ⟨by simp_all [kidsB], rfl⟩
 replace h6 := df h6
 refine Zc <| Za <| JLn (Pu.eql rfl rfl) <| JLA rfl <| Zb <| Zg rfl (fun h8 => ?_) (fun h8 => ?_)
 ·replace h8 := dt h8
  refine Zm <| Zg rfl (fun _ => ?_) (fun h9 => absurd h8 (df h9))
  refine Zc <| Za <| JLM rfl <| JLn (Pu.eql rfl rfl) <| JLA rfl <| Zb <| Zl <| ⟨.bool (decide (n = 2)), [], Ret.one rfl (RV.tmp rfl), Sub.nil, ?_⟩
  exact ⟨by simp_all [kidsB], rfl⟩
 replace h8 := df h8
 refine Za <| JLn (Pu.eql rfl rfl) <| JLA rfl <| Zb <| Zg rfl (fun h10 => ?_) (fun h10 => ?_)
 ·replace h10 := dt h10
  refine Zc <| Za <| JLM rfl <| JLn (Pu.eql rfl rfl) <| JLA rfl <| Zb <| Zl <| ⟨.bool (decide (n = 2)), [], Ret.one rfl (RV.tmp rfl), Sub.nil, ?_⟩
  exact ⟨by simp_all [kidsB], rfl⟩
 replace h10 := df h10
 refine Zc <| Za <| JLn (Pu.eql rfl rfl) <| JLA rfl <| Zb <| Zg rfl (fun h11 => ?_) (fun h11 => ?_)
 ·replace h11 := dt h11
  refine Zc <| Za <| JLM rfl <| JLn (Pu.leq rfl rfl) <| JLA rfl <| Zb <| Zl <| ⟨.bool (decide (n ≤ 4)), [], Ret.one rfl (RV.tmp rfl), Sub.nil, ?_⟩
  exact ⟨by simp_all [kidsB], rfl⟩
 replace h11 := df h11
 refine Zc <| Za <| JLn (Pu.eql rfl rfl) <| JLA rfl <| Zb <| Zg rfl (fun h12 => ?_) (fun h12 => ?_)
 ·replace h12 := dt h12
  refine Zc <| Za <| JLM rfl <| Jc Tryz.call79 rfl (fun hin => Yt _ _ _ _) rfl ?_
  rintro _ _ ⟨rfl, rfl⟩
  refine JLn (Pu.not rfl) <| JLA rfl <| Zb <| Zl <| ⟨.bool (!(decide (n < 2 ∨ 10 < n))), [], Ret.one rfl (RV.tmp rfl), Sub.nil, ?_⟩
  exact ⟨by simp_all [kidsB], rfl⟩
 replace h12 := df h12
 refine Zm <| Zc <| Za <| JLM rfl <| JLn (Pu.eql rfl rfl) <| JLA rfl <| Zb <| Zl <| ⟨.bool (decide (n = 0)), [], Ret.one rfl (RV.tmp rfl), Sub.nil, ?_⟩
 exact ⟨by simp_all [kidsB], rfl⟩
end Go.Proofs.YtfdeibbpfgolcaaGreat.Hs
/-! Walks, printed by a program of this session's own (gen.py). -/
namespace Go.Proofs.YtfdeibbpfgolcaaGreat.Hs
open Go Go.Proofs
set_option maxRecDepth 100000
set_option linter.unusedVariables false
set_option linter.unusedSimpArgs false
attribute [local irreducible] JL J CT wlo DT
theorem patternError_ct (kind num : Int) (ref : Sm) (ks : Value) (kids : List Pt) (H : Heap) (hks : rdS RP 35 H ks kids) : CT Tryz.prog 150 ⟨[.agg ⟨pkP kind num ref ks⟩]⟩ [] H (fun v N => v = iv (pErr kind num ref kids.length) ∧ N = []) := by
 refine Zk Tryz.func150 rfl rfl <| Zc <| Za <| JLr (Zp (l := pkP kind num ref ks) rfl rfl fun b1 => JLA rfl <| Zb <| Zc <| Za <| JLA rfl <| Zb <| Zc <| Zc <| Za ?_)
 refine JLq (pp b1 0) (YI rfl rfl) <| JLr (Ze ty3 rfl (At.bx 0 rfl) (pkP_0 ..) <| JLn (Pu.eql rfl rfl) <| Zb <| Zg rfl (fun h2 => ?_) (fun h2 => ?_))
 ·replace h2 := dt h2
  refine Za <| JLA rfl <| Zb <| Zc <| Zo <| Zc <| Za <| JLq (pp b1 0) (YI rfl rfl) <| JLr (Ze ty3 rfl (At.bx 0 rfl) (pkP_0 ..) <| Jc Tryz.call79 rfl (fun hin => Yt _ _ _ _) rfl ?_)
  rintro _ _ ⟨rfl, rfl⟩
  refine JLA rfl <| Zb <| Zg rfl (fun h3 => ?_) (fun h3 => ?_)
  ·replace h3 := dt h3
   refine Zc <| Za <| JLA rfl <| Zb <| Zl <| ⟨iv 3, [], Ret.one rfl (RV.tmp rfl), Sub.nil, ?_⟩
   exact ⟨by refine congrArg (Value.int .i64) ?_; simp only [pErr]; (repeat' split) <;> first | rfl | omega | (exfalso; simp_all; done) | (exfalso; simp_all; omega) | grind, rfl⟩
  replace h3 := df h3
  refine Zc <| ZL mixed #[0, 1, 3, 0, 8, 0, 32, 127, 255] 7 [some 12, some 13, some 14, some 15, some 16, some 17, some 18] [] [(2, fun _ _ vw qw => vw = .agg ⟨[.bool (pfN kind), .bool (pfR kind), .bool false]⟩ ∧ qw = [])] rfl (by kernel_rfl) rfl (by kernel_rfl) <| Dq (pp b1 0) (fun _ => YI rfl rfl) <| Dl1 ty3 (At.bx 0 rfl) (pkP_0 ..) <| Dc rfl Tryz.call169 (fun _ => rfl) (fun hin => patternFields_ct _ _) ?_
  rintro _ _ ⟨rfl, rfl⟩
  refine Dq (pp b1 1) (fun _ => fa54_1 rfl rfl) <| Dl1 ty3 (At.bx 0 rfl) (pkP_1 ..) <| Dq (pp b1 2) (fun _ => fa54_2 rfl rfl) <| Dl Z3 (At.bx 0 rfl) (pkP_2 ..) <| ZZ (M' := [(BX b1 (pkP kind num ref ks) 54)]) rfl ?_
  show JL _ _ _ [_, _] _ _ _
  refine Jc Tryz.call148 rfl (fun hin => clash_ct _ _ _ _ _ _ _) rfl ?_
  rintro _ _ ⟨rfl, rfl⟩
  refine JLA rfl <| Zb <| Zg rfl (fun h4 => ?_) (fun h4 => ?_)
  ·refine Zc <| Za <| JLA rfl <| Zb <| Zl <| ⟨iv 7, [], Ret.one rfl (RV.tmp rfl), Sub.nil, ?_⟩
   exact ⟨by refine congrArg (Value.int .i64) ?_; simp only [pErr]; (repeat' split) <;> first | rfl | omega | (exfalso; simp_all; done) | (exfalso; simp_all; omega) | grind, rfl⟩
  refine Zc <| Za <| JLq (pp b1 34) (Yv rfl rfl) <| JLr (Ze ty52 rfl (At.bx 0 rfl) (YG ..) ?_)
  obtain ⟨a5, cap5, hv5⟩ := hks.sl
  have hle5 := hks.le
  refine JLn (Pu.lenSl Tryz.runUnderlying52 hv5) <| JLM rfl <| JLn (Pu.gtr rfl rfl) <| JLA rfl <| Zb <| Zg rfl (fun h6 => ?_) (fun h6 => ?_)
  ·replace h6 := dt h6
   refine Zc <| Za <| JLA rfl <| Zb <| Zl <| ⟨iv 2, [], Ret.one rfl (RV.tmp rfl), Sub.nil, ?_⟩
   exact ⟨by refine congrArg (Value.int .i64) ?_; simp only [pErr]; (repeat' split) <;> first | rfl | omega | (exfalso; simp_all; done) | (exfalso; simp_all; omega) | grind, rfl⟩
  replace h6 := df h6
  refine Zc <| Zc <| Za <| JLq (pp b1 0) (YI rfl rfl) <| JLr (Ze ty3 rfl (At.bx 0 rfl) (pkP_0 ..) <| JLn (Pu.eql rfl rfl) <| JLM rfl <| ZC 3 [31, 32, 33] [(33, cond (decide (kind = 2)) (.bool (decide (num < 0 ∨ 1073741824 < num))) undef)] ?_ fun f8 => ?_)
  ·cases h7 : (decide (kind = 2)) with
   | true =>
    replace h7 := dt h7
    refine JLq (pp b1 1) (fa54_1 rfl rfl) <| JLr (Ze ty3 rfl (At.bx 0 rfl) (pkP_1 ..) <| Jc Tryz.call79 rfl (fun hin => Yt _ _ _ _) rfl ?_)
    rintro _ _ ⟨rfl, rfl⟩
    exact Zb ⟨⟨rfl, trivial⟩, rfl⟩
   | false =>
    exact ZP rfl ⟨rfl, trivial⟩
  refine JLn (Pu.pickAnd rfl rfl rfl) <| JLA rfl <| Zb <| Zg rfl (fun h9 => ?_) (fun h9 => ?_)
  ·obtain ⟨h9a, h9b⟩ := YW h9
   replace h9a := dt h9a
   replace h9b := dt h9b
   refine Zm <| Zg rfl (fun h10 => ?_) (fun h10 => ?_)
   ·obtain ⟨h10a, h10b⟩ := YW h10
    replace h10a := dt h10a
    replace h10b := dt h10b
    refine Zc <| Za <| JLA rfl <| Zb <| Zl <| ⟨iv 3, [], Ret.one rfl (RV.tmp rfl), Sub.nil, ?_⟩
    exact ⟨by refine congrArg (Value.int .i64) ?_; simp only [pErr]; (repeat' split) <;> first | rfl | omega | (exfalso; simp_all; done) | (exfalso; simp_all; omega) | grind, rfl⟩
   refine Zm <| Zc <| Za <| JLA rfl <| Zb <| Zl <| ⟨iv 0, [], Ret.one rfl (RV.tmp rfl), Sub.nil, ?_⟩
   exact ⟨by refine congrArg (Value.int .i64) ?_; simp only [pErr]; (repeat' split) <;> first | rfl | omega | (exfalso; simp_all; done) | (exfalso; simp_all; omega) | grind, rfl⟩
  refine Za <| JLq (pp b1 0) (YI rfl rfl) <| JLr (Ze ty3 rfl (At.bx 0 rfl) (pkP_0 ..) <| JLn (Pu.eql rfl rfl) <| JLM rfl <| ZC 3 [39, 40, 41] [(41, cond (decide (kind = 3)) (.bool (decide (num < 0 ∨ 7 < num))) undef)] ?_ fun f12 => ?_)
  ·cases h11 : (decide (kind = 3)) with
   | true =>
    replace h11 := dt h11
    refine JLq (pp b1 1) (fa54_1 rfl rfl) <| JLr (Ze ty3 rfl (At.bx 0 rfl) (pkP_1 ..) <| Jc Tryz.call79 rfl (fun hin => Yt _ _ _ _) rfl ?_)
    rintro _ _ ⟨rfl, rfl⟩
    exact Zb ⟨⟨rfl, trivial⟩, rfl⟩
   | false =>
    exact ZP rfl ⟨rfl, trivial⟩
  refine JLn (Pu.pickAnd rfl rfl rfl) <| JLA rfl <| Zb <| Zg rfl (fun h13 => ?_) (fun h13 => ?_)
  ·obtain ⟨h13a, h13b⟩ := YW h13
   replace h13a := dt h13a
   replace h13b := dt h13b
   refine Zc <| Za <| JLA rfl <| Zb <| Zl <| ⟨iv 3, [], Ret.one rfl (RV.tmp rfl), Sub.nil, ?_⟩
   exact ⟨by refine congrArg (Value.int .i64) ?_; simp only [pErr]; (repeat' split) <;> first | rfl | omega | (exfalso; simp_all; done) | (exfalso; simp_all; omega) | grind, rfl⟩
  refine Zm <| Zc <| Za <| JLA rfl <| Zb <| Zl <| ⟨iv 0, [], Ret.one rfl (RV.tmp rfl), Sub.nil, ?_⟩
  exact ⟨by refine congrArg (Value.int .i64) ?_; simp only [pErr]; (repeat' split) <;> first | rfl | omega | (exfalso; simp_all; done) | (exfalso; simp_all; omega) | grind, rfl⟩
 replace h2 := df h2
 refine Zm <| Zc <| Zo <| Zc <| Za <| JLq (pp b1 0) (YI rfl rfl) <| JLr (Ze ty3 rfl (At.bx 0 rfl) (pkP_0 ..) <| Jc Tryz.call79 rfl (fun hin => Yt _ _ _ _) rfl ?_)
 rintro _ _ ⟨rfl, rfl⟩
 refine JLA rfl <| Zb <| Zg rfl (fun h14 => ?_) (fun h14 => ?_)
 ·replace h14 := dt h14
  refine Zc <| Za <| JLA rfl <| Zb <| Zl <| ⟨iv 3, [], Ret.one rfl (RV.tmp rfl), Sub.nil, ?_⟩
  exact ⟨by refine congrArg (Value.int .i64) ?_; simp only [pErr]; (repeat' split) <;> first | rfl | omega | (exfalso; simp_all; done) | (exfalso; simp_all; omega) | grind, rfl⟩
 replace h14 := df h14
 refine Zc <| ZL mixed #[0, 1, 3, 0, 8, 0, 32, 127, 255] 7 [some 12, some 13, some 14, some 15, some 16, some 17, some 18] [] [(2, fun _ _ vw qw => vw = .agg ⟨[.bool (pfN kind), .bool (pfR kind), .bool false]⟩ ∧ qw = [])] rfl (by kernel_rfl) rfl (by kernel_rfl) <| Dq (pp b1 0) (fun _ => YI rfl rfl) <| Dl1 ty3 (At.bx 0 rfl) (pkP_0 ..) <| Dc rfl Tryz.call169 (fun _ => rfl) (fun hin => patternFields_ct _ _) ?_
 rintro _ _ ⟨rfl, rfl⟩
 refine Dq (pp b1 1) (fun _ => fa54_1 rfl rfl) <| Dl1 ty3 (At.bx 0 rfl) (pkP_1 ..) <| Dq (pp b1 2) (fun _ => fa54_2 rfl rfl) <| Dl Z3 (At.bx 0 rfl) (pkP_2 ..) <| ZZ (M' := [(BX b1 (pkP kind num ref ks) 54)]) rfl ?_
 show JL _ _ _ [_, _] _ _ _
 refine Jc Tryz.call148 rfl (fun hin => clash_ct _ _ _ _ _ _ _) rfl ?_
 rintro _ _ ⟨rfl, rfl⟩
 refine JLA rfl <| Zb <| Zg rfl (fun h15 => ?_) (fun h15 => ?_)
 ·refine Zc <| Za <| JLA rfl <| Zb <| Zl <| ⟨iv 7, [], Ret.one rfl (RV.tmp rfl), Sub.nil, ?_⟩
  exact ⟨by refine congrArg (Value.int .i64) ?_; simp only [pErr]; (repeat' split) <;> first | rfl | omega | (exfalso; simp_all; done) | (exfalso; simp_all; omega) | grind, rfl⟩
 refine Zc <| Za <| JLq (pp b1 34) (Yv rfl rfl) <| JLr (Ze ty52 rfl (At.bx 0 rfl) (YG ..) ?_)
 obtain ⟨a16, cap16, hv16⟩ := hks.sl
 have hle16 := hks.le
 refine JLn (Pu.lenSl Tryz.runUnderlying52 hv16) <| JLM rfl <| JLn (Pu.gtr rfl rfl) <| JLA rfl <| Zb <| Zg rfl (fun h17 => ?_) (fun h17 => ?_)
 ·replace h17 := dt h17
  refine Zc <| Za <| JLA rfl <| Zb <| Zl <| ⟨iv 2, [], Ret.one rfl (RV.tmp rfl), Sub.nil, ?_⟩
  exact ⟨by refine congrArg (Value.int .i64) ?_; simp only [pErr]; (repeat' split) <;> first | rfl | omega | (exfalso; simp_all; done) | (exfalso; simp_all; omega) | grind, rfl⟩
 replace h17 := df h17
 refine Zc <| Zc <| Za <| JLq (pp b1 0) (YI rfl rfl) <| JLr (Ze ty3 rfl (At.bx 0 rfl) (pkP_0 ..) <| JLn (Pu.eql rfl rfl) <| JLM rfl <| ZC 3 [31, 32, 33] [(33, cond (decide (kind = 2)) (.bool (decide (num < 0 ∨ 1073741824 < num))) undef)] ?_ fun f19 => ?_)
 ·cases h18 : (decide (kind = 2)) with
  | true =>
   replace h18 := dt h18
   refine JLq (pp b1 1) (fa54_1 rfl rfl) <| JLr (Ze ty3 rfl (At.bx 0 rfl) (pkP_1 ..) <| Jc Tryz.call79 rfl (fun hin => Yt _ _ _ _) rfl ?_)
   rintro _ _ ⟨rfl, rfl⟩
   exact Zb ⟨⟨rfl, trivial⟩, rfl⟩
  | false =>
   exact ZP rfl ⟨rfl, trivial⟩
 refine JLn (Pu.pickAnd rfl rfl rfl) <| JLA rfl <| Zb <| Zg rfl (fun h20 => ?_) (fun h20 => ?_)
 ·obtain ⟨h20a, h20b⟩ := YW h20
  replace h20a := dt h20a
  replace h20b := dt h20b
  refine Zm <| Zg rfl (fun h21 => ?_) (fun h21 => ?_)
  ·obtain ⟨h21a, h21b⟩ := YW h21
   replace h21a := dt h21a
   replace h21b := dt h21b
   refine Zc <| Za <| JLA rfl <| Zb <| Zl <| ⟨iv 3, [], Ret.one rfl (RV.tmp rfl), Sub.nil, ?_⟩
   exact ⟨by refine congrArg (Value.int .i64) ?_; simp only [pErr]; (repeat' split) <;> first | rfl | omega | (exfalso; simp_all; done) | (exfalso; simp_all; omega) | grind, rfl⟩
  refine Zm <| Zc <| Za <| JLA rfl <| Zb <| Zl <| ⟨iv 0, [], Ret.one rfl (RV.tmp rfl), Sub.nil, ?_⟩
  exact ⟨by refine congrArg (Value.int .i64) ?_; simp only [pErr]; (repeat' split) <;> first | rfl | omega | (exfalso; simp_all; done) | (exfalso; simp_all; omega) | grind, rfl⟩
 refine Za <| JLq (pp b1 0) (YI rfl rfl) <| JLr (Ze ty3 rfl (At.bx 0 rfl) (pkP_0 ..) <| JLn (Pu.eql rfl rfl) <| JLM rfl <| ZC 3 [39, 40, 41] [(41, cond (decide (kind = 3)) (.bool (decide (num < 0 ∨ 7 < num))) undef)] ?_ fun f23 => ?_)
 ·cases h22 : (decide (kind = 3)) with
  | true =>
   replace h22 := dt h22
   refine JLq (pp b1 1) (fa54_1 rfl rfl) <| JLr (Ze ty3 rfl (At.bx 0 rfl) (pkP_1 ..) <| Jc Tryz.call79 rfl (fun hin => Yt _ _ _ _) rfl ?_)
   rintro _ _ ⟨rfl, rfl⟩
   exact Zb ⟨⟨rfl, trivial⟩, rfl⟩
  | false =>
   exact ZP rfl ⟨rfl, trivial⟩
 refine JLn (Pu.pickAnd rfl rfl rfl) <| JLA rfl <| Zb <| Zg rfl (fun h24 => ?_) (fun h24 => ?_)
 ·obtain ⟨h24a, h24b⟩ := YW h24
  replace h24a := dt h24a
  replace h24b := dt h24b
  refine Zc <| Za <| JLA rfl <| Zb <| Zl <| ⟨iv 3, [], Ret.one rfl (RV.tmp rfl), Sub.nil, ?_⟩
  exact ⟨by refine congrArg (Value.int .i64) ?_; simp only [pErr]; (repeat' split) <;> first | rfl | omega | (exfalso; simp_all; done) | (exfalso; simp_all; omega) | grind, rfl⟩
 refine Zm <| Zc <| Za <| JLA rfl <| Zb <| Zl <| ⟨iv 0, [], Ret.one rfl (RV.tmp rfl), Sub.nil, ?_⟩
 exact ⟨by refine congrArg (Value.int .i64) ?_; simp only [pErr]; (repeat' split) <;> first | rfl | omega | (exfalso; simp_all; done) | (exfalso; simp_all; omega) | grind, rfl⟩
theorem patternsError_ct : ∀ (p : Pt) (cs : List Value) (H : Heap), RP H cs p → CT Tryz.prog 115 ⟨[.agg ⟨cs⟩]⟩ [] H (fun v N => v = iv (pErrs p) ∧ N = []) := by
 intro p
 induction p using Pt.ind with
 | h kind num ref kids ih =>
 intro cs H hp
 obtain ⟨ks, rfl, hk, hn, hks⟩ := RP_mk.1 hp
 refine Zk Tryz.func115 rfl rfl <| Zc <| Za <| JLr (Zp (l := pkP kind num ref ks) rfl rfl fun b1 => JLA rfl <| Zb <| Zc <| Za <| JLr (Zi ZQ rfl (At.bx 0 rfl) (pkP_a ..) <| Jc Tryz.call150 rfl (fun hin => patternError_ct _ _ _ _ _ _ (RPs.mono (Hle.hu _ _) hks)) rfl ?_))
 rintro _ _ ⟨rfl, rfl⟩
 refine JLA rfl <| Zb <| Zc <| Zc <| Za <| JLA rfl <| Zb <| Zo <| ZT (fun k ρ M => ∃ (j : Nat) (e : Int), ρ 1 = pp b1 0 ∧ ρ 2 = iv 0 ∧ ρ 3 = iv e ∧ ρ 4 = iv ((j : Int)) ∧ Sub [(BX b1 (pkP kind num ref ks) 54)] M ∧ j ≤ kids.length ∧ (if e = 0 then pErrsL (kids.drop j) else e) = pErrs (.mk kind num ref kids) ∧ k = kids.length - j) _ ⟨0, (pErr kind num ref kids.length), rfl, rfl, rfl, rfl, (Sk Sub.nil), Nat.zero_le _, (by rw [pErrs]; rfl), rfl⟩ ?_
 rintro _ ρ2 _ ⟨j, e, e3, e4, e5, e6, hm7, hj, hinv, rfl⟩
 obtain ⟨ρ8, rfl⟩ := Zn (uc e3 (uc e4 (uc e5 (uc e6 un))))
 clear e3 e4 e5 e6
 refine ZS hm7 ?_
 have hlen := hks.le
 refine Zc <| Zc <| Za <| JLM rfl <| JLq (pp b1 34) (Yv rfl rfl) <| JLr (Ze ty52 rfl (At.bx 0 rfl) (YG ..) ?_)
 obtain ⟨a9, cap9, hv9⟩ := hks.sl
 have hle9 := hks.le
 refine JLn (Pu.lenSl Tryz.runUnderlying52 hv9) <| JLn (Pu.lss rfl rfl) <| JLM rfl <| ZC 2 [13, 14] [(14, cond (decide ((j : Int) < (kids.length : Int))) (.bool (decide (e = 0))) undef)] ?_ fun f11 => ?_
 ·cases h10 : (decide ((j : Int) < (kids.length : Int))) with
  | true =>
   replace h10 := dt h10
   have h10n : j < kids.length := by omega
   refine JLM rfl <| JLn (Pu.eql rfl rfl) ?_
   exact Zb ⟨⟨rfl, trivial⟩, rfl⟩
  | false =>
   exact ZP rfl ⟨rfl, trivial⟩
 refine JLn (Pu.pickAnd rfl rfl rfl) <| Zb <| Zg rfl (fun h12 => ?_) (fun h12 => ?_)
 ·obtain ⟨h12a, h12b⟩ := YW h12
  replace h12a := dt h12a
  have h12an : j < kids.length := by omega
  replace h12b := dt h12b
  refine Zm <| Zc <| Zo <| Za <| JLq (pp b1 34) (Yv rfl rfl) <| JLr (Ze ty52 rfl (At.bx 0 rfl) (YG ..) <| JLM rfl ?_)
  obtain ⟨b13, o13, cap13, row13, T13, fr13, cs13, hv13, hb13, hs13, hE13⟩ := hks.get j (by first | assumption | omega | decide | simp)
  refine JLq (pp b13 (o13 + j * 35)) (Pu.idx j Tryz.runUnderlying52 ZQ hv13 rfl rfl (by first | assumption | omega | decide | simp)) <| JLr (Zi ZQ rfl (At.im hb13) hs13 <| Jc Tryz.call115 rfl (fun hin => ih _ (List.getElem_mem h12an) _ _ (RP.mono (Hle.hu _ _) hE13)) rfl ?_)
  rintro _ _ ⟨rfl, rfl⟩
  refine JLA rfl <| Zb <| Za <| JLM rfl <| JLn (Pu.inc rfl rfl (by omega)) <| JLA rfl <| Zb <| ⟨_, ?_, (j + 1), (pErrs (kids[j])), rfl, rfl, rfl, rfl, (Sk Sub.nil), ?_, ?_, rfl⟩
  ·omega
  ·omega
  rw [if_pos (by assumption), Yr h12an, pErrsL] at hinv; exact hinv
 refine ZB _ rfl <| Zc <| Za <| JLM rfl <| JLA rfl <| Zb <| Zl <| ⟨iv e, [], Ret.one rfl (RV.tmp rfl), Sub.nil, ?_⟩
 refine ⟨?_, rfl⟩
 rw [← hinv]; by_cases he : e = 0
 ·have hj2 : kids.length ≤ j := by
   apply Nat.le_of_not_lt; intro hlt; have : (j : Int) < (kids.length : Int) := by omega
   simp_all
  rw [if_pos he, dropn hj2, he]; rfl
 rw [if_neg he]
end Go.Proofs.YtfdeibbpfgolcaaGreat.Hs
/-! Walks, printed by a program of this session's own (gen.py). -/
namespace Go.Proofs.YtfdeibbpfgolcaaGreat.Hs
open Go Go.Proofs
set_option maxRecDepth 100000
set_option linter.unusedVariables false
set_option linter.unusedSimpArgs false
attribute [local irreducible] JL J CT wlo DT
theorem known_ct (n b d : Int) (H : Heap) (bD : Nat) (hD : H bD = some (.cells ⟨[iv d]⟩ 3 (0, 0))) (hb0 : 0 ≤ b) (hb1 : b ≤ 1000000) (hn1 : -9223372036854775808 ≤ n) (hn2 : n ≤ 9223372036854775807) : CT Tryz.prog 90 ⟨[iv n, iv b, pp bD 0]⟩ [] H (fun v N => v = .bool (knownB d n b) ∧ N = []) := by
 refine Zk Tryz.func90 rfl rfl <| Zc <| Za <| JLA rfl <| Zb <| Zc <| Za <| JLM rfl <| JLn (Pu.geq rfl rfl) <| JLM rfl <| ZC 10 [9, 10, 11, 12, 13, 14, 15, 16, 17, 18] [(18, cond (decide (0 ≤ n)) (.bool ((decide (n < b)) || (decide (n - b < d)))) undef)] ?_ fun f4 => ?_
 ·cases h1 : (decide (0 ≤ n)) with
  | true =>
   replace h1 := dt h1
   refine JLM rfl <| JLM rfl <| JLn (Pu.lss rfl rfl) <| JLM rfl <| ZC 5 [13, 14, 15, 16, 17] [(17, cond (decide (n < b)) undef (.bool (decide (n - b < d))))] ?_ fun f3 => ?_
   ·cases h2 : (decide (n < b)) with
    | false =>
     replace h2 := df h2
     refine JLM rfl <| JLM rfl <| JLn (Pu.sub64 rfl rfl (by first | omega | (constructor <;> omega))) <| JLr (Ze ty3 rfl (At.im hD) rfl <| JLn (Pu.lss rfl rfl) ?_)
     exact Zb ⟨⟨rfl, trivial⟩, rfl⟩
    | true =>
     exact ZP rfl ⟨rfl, trivial⟩
   refine JLn (Pu.pickOr rfl rfl rfl) ?_
   exact Zb ⟨⟨rfl, trivial⟩, rfl⟩
  | false =>
   exact ZP rfl ⟨rfl, trivial⟩
 refine JLn (Pu.pickAnd rfl rfl rfl) <| JLA rfl <| Zb <| Zl <| ⟨.bool ((decide (0 ≤ n)) && ((decide (n < b)) || (decide (n - b < d)))), [], Ret.one rfl (RV.tmp rfl), Sub.nil, ?_⟩
 exact ⟨rfl, rfl⟩
set_option maxHeartbeats 2000000 in
theorem chkTerm_ct (kind num : Int) (ref : Sm) (ks cv : Value) (kids : List Tm) (cases : List (Pt × Tm)) (d m b : Int) (H : Heap) (bD : Nat) (hks : rdS RT 36 H ks kids) (hcv : rdS RC 71 H cv cases) (hD : H bD = some (.cells ⟨[iv d]⟩ 3 (0, 0))) (hb0 : 0 ≤ b) (hb1 : b ≤ 1000000) (hn1 : -9223372036854775808 ≤ num) (hn2 : num ≤ 9223372036854775807) : CT Tryz.prog 114 ⟨[.agg ⟨[iv m, .func (.func 90) ⟨[]⟩ ⟨[pp bD 0]⟩]⟩, .agg ⟨pkT kind num ref ks cv⟩, iv b]⟩ [] H (fun v N => v = iv (Ym d m b kind num ref kids.length cases.length) ∧ N = []) := by
 refine Zk Tryz.func114 rfl rfl <| Zc <| Za <| JLr (Zp (l := [iv m, .func (.func 90) ⟨[]⟩ ⟨[pp bD 0]⟩]) rfl rfl fun b1 => JLr (Zp (l := pkT kind num ref ks cv) rfl rfl fun b2 => JLA rfl <| Zb <| Zc <| Zo <| Zc <| Za <| JLq (pp b2 0) (ZO rfl rfl) <| JLr (Ze ty3 rfl (At.bx 0 rfl) (Z5 ..) ?_)))
 refine Jc Tryz.call79 rfl (fun hin => Yt _ _ _ _) rfl ?_
 rintro _ _ ⟨rfl, rfl⟩
 refine JLA rfl <| Zb <| Zg rfl (fun h3 => ?_) (fun h3 => ?_)
 ·replace h3 := dt h3
  refine Zc <| Za <| JLA rfl <| Zb <| Zl <| ⟨iv 3, [], Ret.one rfl (RV.tmp rfl), Sub.nil, ?_⟩
  exact ⟨by refine congrArg (Value.int .i64) ?_; simp only [Ym]; (repeat' split) <;> first | rfl | omega | (exfalso; simp_all; done) | (exfalso; simp_all; omega) | grind, rfl⟩
 replace h3 := df h3
 refine Zc <| ZL mixed #[0, 1, 3, 0, 8, 0, 32, 0, 128, 384, 1023, 2047] 10 [some 13, some 14, some 15, some 16, some 17, some 18, some 19, some 20, some 21, some 22] [] [(2, fun _ _ vw qw => vw = .agg ⟨[.bool (fN kind), .bool (fR kind), .bool (fC kind)]⟩ ∧ qw = [])] rfl (by kernel_rfl) rfl (by kernel_rfl) <| Dq (pp b2 0) (fun _ => ZO rfl rfl) <| Dl1 ty3 (At.bx 0 rfl) (Z5 ..) <| Dc rfl Tryz.call60 (fun _ => rfl) (fun hin => fields_ct _ _) ?_
 rintro _ _ ⟨rfl, rfl⟩
 refine Dq (pp b2 1) (fun _ => Yq rfl rfl) <| Dl1 ty3 (At.bx 0 rfl) (YY ..) <| Dq (pp b2 2) (fun _ => fa27_2 rfl rfl) <| Dl Z3 (At.bx 0 rfl) (pkT_2 ..) <| Dq (pp b2 35) (fun _ => Yw rfl rfl) <| Dl1 ty25 (At.bx 0 rfl) (Yj ..) ?_
 obtain ⟨a5, cap5, hv5⟩ := hcv.sl
 have hle5 := hcv.le
 refine Dn (fun _ => Pu.lenSl Tryz.runUnderlying25 hv5) <| ZZ (M' := [(BX b2 (pkT kind num ref ks cv) 27), (BX b1 [iv m, .func (.func 90) ⟨[]⟩ ⟨[pp bD 0]⟩] 149)]) rfl ?_
 show JL _ _ _ [_, _] _ _ _
 refine Jc Tryz.call148 rfl (fun hin => clash_ct _ _ _ _ _ _ _) rfl ?_
 rintro _ _ ⟨rfl, rfl⟩
 refine JLA rfl <| Zb <| Zg rfl (fun h6 => ?_) (fun h6 => ?_)
 ·refine Zc <| Za <| JLA rfl <| Zb <| Zl <| ⟨iv 7, [], Ret.one rfl (RV.tmp rfl), Sub.nil, ?_⟩
  exact ⟨by refine congrArg (Value.int .i64) ?_; simp only [Ym]; (repeat' split) <;> first | rfl | omega | (exfalso; simp_all; done) | (exfalso; simp_all; omega) | grind, rfl⟩
 refine Zc <| Za <| JLq (pp b2 0) (ZO rfl rfl) <| JLr (Ze ty3 rfl (At.bx 0 rfl) (Z5 ..) <| JLq (pp b2 34) (Yb rfl rfl) <| JLr (Ze ty24 rfl (At.bx 0 rfl) (Z9 ..) ?_))
 obtain ⟨a7, cap7, hv7⟩ := hks.sl
 have hle7 := hks.le
 refine JLn (Pu.lenSl Tryz.runUnderlying24 hv7) <| Jc Tryz.call149 rfl (fun hin => kidsT_ct _ _ _) rfl ?_
 rintro _ _ ⟨rfl, rfl⟩
 refine JLn (Pu.not rfl) <| JLM rfl <| ZC 4 [33, 34, 35, 36] [(36, cond (!(kidsB kind ((kids.length : Int)))) undef (.bool (decide (8 < (cases.length : Int)))))] ?_ fun f10 => ?_
 ·cases h8 : (!(kidsB kind ((kids.length : Int)))) with
  | false =>
   replace h8 := nf h8
   refine JLq (pp b2 35) (Yw rfl rfl) <| JLr (Ze ty25 rfl (At.bx 0 rfl) (Yj ..) ?_)
   obtain ⟨a9, cap9, hv9⟩ := hcv.sl
   have hle9 := hcv.le
   refine JLn (Pu.lenSl Tryz.runUnderlying25 hv9) <| JLn (Pu.gtr rfl rfl) ?_
   exact Zb ⟨⟨rfl, trivial⟩, rfl⟩
  | true =>
   exact ZP rfl ⟨rfl, trivial⟩
 refine JLn (Pu.pickOr rfl rfl rfl) <| JLA rfl <| Zb <| Zg rfl (fun h11 => ?_) (fun h11 => ?_)
 ·refine Zc <| Za <| JLA rfl <| Zb <| Zl <| ⟨iv 2, [], Ret.one rfl (RV.tmp rfl), Sub.nil, ?_⟩
  exact ⟨by refine congrArg (Value.int .i64) ?_; simp only [Ym]; (repeat' split) <;> first | rfl | omega | (exfalso; simp_all; done) | (exfalso; simp_all; omega) | grind, rfl⟩
 obtain ⟨h11a, h11b⟩ := orF h11
 replace h11a := nf h11a
 replace h11b := df h11b
 refine Zm <| Zc <| Za <| JLA rfl <| Zb <| Zc <| Zc <| Za <| JLq (pp b2 0) (ZO rfl rfl) <| JLr (Ze ty3 rfl (At.bx 0 rfl) (Z5 ..) <| Zb <| Zo <| Zc ?_)
 refine Za <| JLn (Pu.eql rfl rfl) <| JLA rfl <| Zb <| Zg rfl (fun h12 => ?_) (fun h12 => ?_)
 ·replace h12 := dt h12
  refine Zc <| Za <| JLq (pp b2 1) (Yq rfl rfl) <| JLr (Ze ty3 rfl (At.bx 0 rfl) (YY ..) <| Jc Tryz.call79 rfl (fun hin => Yt _ _ _ _) rfl ?_)
  rintro _ _ ⟨rfl, rfl⟩
  refine Zb <| Zg rfl (fun h13 => ?_) (fun h13 => ?_)
  ·replace h13 := dt h13
   refine Zc <| Za <| JLA rfl <| Zb <| Zl <| ⟨iv 3, [], Ret.one rfl (RV.tmp rfl), Sub.nil, ?_⟩
   exact ⟨by refine congrArg (Value.int .i64) ?_; simp only [Ym]; (repeat' split) <;> first | rfl | omega | (exfalso; simp_all; done) | (exfalso; simp_all; omega) | grind, rfl⟩
  replace h13 := df h13
  refine Zm <| Zc <| Zc <| Za <| JLq (pp b2 0) (ZO rfl rfl) <| JLr (Ze ty3 rfl (At.bx 0 rfl) (Z5 ..) <| JLn (Pu.eql rfl rfl) <| JLM rfl <| ZC 3 [73, 74, 75] [(75, cond (decide (kind = 2)) undef (.bool (decide (kind = 8))))] ?_ fun f15 => ?_)
  ·cases h14 : (decide (kind = 2)) with
   | false =>
    replace h14 := df h14
    refine JLq (pp b2 0) (ZO rfl rfl) <| JLr (Ze ty3 rfl (At.bx 0 rfl) (Z5 ..) <| JLn (Pu.eql rfl rfl) ?_)
    exact Zb ⟨⟨rfl, trivial⟩, rfl⟩
   | true =>
    exact ZP rfl ⟨rfl, trivial⟩
  refine JLn (Pu.pickOr rfl rfl rfl) <| JLM rfl <| ZC 3 [78, 79, 80] [(80, cond ((decide (kind = 2)) || (decide (kind = 8))) undef (.bool (decide (kind = 11))))] ?_ fun f17 => ?_
  ·cases h16 : ((decide (kind = 2)) || (decide (kind = 8))) with
   | false =>
    obtain ⟨h16a, h16b⟩ := orF h16
    replace h16a := df h16a
    replace h16b := df h16b
    refine JLq (pp b2 0) (ZO rfl rfl) <| JLr (Ze ty3 rfl (At.bx 0 rfl) (Z5 ..) <| JLn (Pu.eql rfl rfl) ?_)
    exact Zb ⟨⟨rfl, trivial⟩, rfl⟩
   | true =>
    exact ZP rfl ⟨rfl, trivial⟩
  refine JLn (Pu.pickOr rfl rfl rfl) <| JLM rfl <| ZC 4 [83, 84, 85, 86] [(86, cond (((decide (kind = 2)) || (decide (kind = 8))) || (decide (kind = 11))) (.bool (decide (num < 0 ∨ 1073741824 < num))) undef)] ?_ fun f19 => ?_
  ·cases h18 : (((decide (kind = 2)) || (decide (kind = 8))) || (decide (kind = 11))) with
   | true =>
    refine JLq (pp b2 1) (Yq rfl rfl) <| JLr (Ze ty3 rfl (At.bx 0 rfl) (YY ..) <| JLM rfl <| Jc Tryz.call79 rfl (fun hin => Yt _ _ _ _) rfl ?_)
    rintro _ _ ⟨rfl, rfl⟩
    exact Zb ⟨⟨rfl, trivial⟩, rfl⟩
   | false =>
    exact ZP rfl ⟨rfl, trivial⟩
  refine JLn (Pu.pickAnd rfl rfl rfl) <| Zb <| Zg rfl (fun h20 => ?_) (fun h20 => ?_)
  ·obtain ⟨h20a, h20b⟩ := YW h20
   replace h20b := dt h20b
   refine Zc <| Za <| JLA rfl <| Zb <| Zl <| ⟨iv 3, [], Ret.one rfl (RV.tmp rfl), Sub.nil, ?_⟩
   exact ⟨by refine congrArg (Value.int .i64) ?_; simp only [Ym]; (repeat' split) <;> first | rfl | omega | (exfalso; simp_all; done) | (exfalso; simp_all; omega) | grind, rfl⟩
  refine Zm <| Zc <| Za <| JLA rfl <| Zb <| Zl <| ⟨iv 0, [], Ret.one rfl (RV.tmp rfl), Sub.nil, ?_⟩
  exact ⟨by refine congrArg (Value.int .i64) ?_; simp only [Ym]; (repeat' split) <;> first | rfl | omega | (exfalso; simp_all; done) | (exfalso; simp_all; omega) | grind, rfl⟩
 replace h12 := df h12
 refine Zc <| Zc <| Za <| JLn (Pu.eql rfl rfl) <| JLA rfl <| Zb <| Zg rfl (fun h21 => ?_) (fun h21 => ?_)
 ·replace h21 := dt h21
  refine Zm <| Zg rfl (fun _ => ?_) (fun h22 => absurd h21 (df h22))
  refine Za <| JLA rfl <| Zb <| Zc <| Zc <| Za <| JLq (pp b2 0) (ZO rfl rfl) <| JLr (Ze ty3 rfl (At.bx 0 rfl) (Z5 ..) <| JLn (Pu.eql rfl rfl) <| JLM rfl <| ZC 3 [73, 74, 75] [(75, cond (decide (kind = 2)) undef (.bool (decide (kind = 8))))] ?_ fun f24 => ?_)
  ·cases h23 : (decide (kind = 2)) with
   | false =>
    replace h23 := df h23
    refine JLq (pp b2 0) (ZO rfl rfl) <| JLr (Ze ty3 rfl (At.bx 0 rfl) (Z5 ..) <| JLn (Pu.eql rfl rfl) ?_)
    exact Zb ⟨⟨rfl, trivial⟩, rfl⟩
   | true =>
    exact ZP rfl ⟨rfl, trivial⟩
  refine JLn (Pu.pickOr rfl rfl rfl) <| JLM rfl <| ZC 3 [78, 79, 80] [(80, cond ((decide (kind = 2)) || (decide (kind = 8))) undef (.bool (decide (kind = 11))))] ?_ fun f26 => ?_
  ·cases h25 : ((decide (kind = 2)) || (decide (kind = 8))) with
   | false =>
    obtain ⟨h25a, h25b⟩ := orF h25
    replace h25a := df h25a
    replace h25b := df h25b
    refine JLq (pp b2 0) (ZO rfl rfl) <| JLr (Ze ty3 rfl (At.bx 0 rfl) (Z5 ..) <| JLn (Pu.eql rfl rfl) ?_)
    exact Zb ⟨⟨rfl, trivial⟩, rfl⟩
   | true =>
    exact ZP rfl ⟨rfl, trivial⟩
  refine JLn (Pu.pickOr rfl rfl rfl) <| JLM rfl <| ZC 4 [83, 84, 85, 86] [(86, cond (((decide (kind = 2)) || (decide (kind = 8))) || (decide (kind = 11))) (.bool (decide (num < 0 ∨ 7 < num))) undef)] ?_ fun f28 => ?_
  ·cases h27 : (((decide (kind = 2)) || (decide (kind = 8))) || (decide (kind = 11))) with
   | true =>
    refine JLq (pp b2 1) (Yq rfl rfl) <| JLr (Ze ty3 rfl (At.bx 0 rfl) (YY ..) <| JLM rfl <| Jc Tryz.call79 rfl (fun hin => Yt _ _ _ _) rfl ?_)
    rintro _ _ ⟨rfl, rfl⟩
    exact Zb ⟨⟨rfl, trivial⟩, rfl⟩
   | false =>
    exact ZP rfl ⟨rfl, trivial⟩
  refine JLn (Pu.pickAnd rfl rfl rfl) <| Zb <| Zg rfl (fun h29 => ?_) (fun h29 => ?_)
  ·obtain ⟨h29a, h29b⟩ := YW h29
   replace h29b := dt h29b
   refine Zc <| Za <| JLA rfl <| Zb <| Zl <| ⟨iv 3, [], Ret.one rfl (RV.tmp rfl), Sub.nil, ?_⟩
   exact ⟨by refine congrArg (Value.int .i64) ?_; simp only [Ym]; (repeat' split) <;> first | rfl | omega | (exfalso; simp_all; done) | (exfalso; simp_all; omega) | grind, rfl⟩
  refine Zm <| Zc <| Za <| JLA rfl <| Zb <| Zl <| ⟨iv 0, [], Ret.one rfl (RV.tmp rfl), Sub.nil, ?_⟩
  exact ⟨by refine congrArg (Value.int .i64) ?_; simp only [Ym]; (repeat' split) <;> first | rfl | omega | (exfalso; simp_all; done) | (exfalso; simp_all; omega) | grind, rfl⟩
 replace h21 := df h21
 refine Za <| JLn (Pu.eql rfl rfl) <| JLA rfl <| Zb <| Zg rfl (fun h30 => ?_) (fun h30 => ?_)
 ·replace h30 := dt h30
  refine Za <| JLA rfl <| Zb <| Zc <| Zc <| Za <| JLq (pp b2 0) (ZO rfl rfl) <| JLr (Ze ty3 rfl (At.bx 0 rfl) (Z5 ..) <| JLn (Pu.eql rfl rfl) <| JLM rfl <| ZC 3 [73, 74, 75] [(75, cond (decide (kind = 2)) undef (.bool (decide (kind = 8))))] ?_ fun f32 => ?_)
  ·cases h31 : (decide (kind = 2)) with
   | false =>
    replace h31 := df h31
    refine JLq (pp b2 0) (ZO rfl rfl) <| JLr (Ze ty3 rfl (At.bx 0 rfl) (Z5 ..) <| JLn (Pu.eql rfl rfl) ?_)
    exact Zb ⟨⟨rfl, trivial⟩, rfl⟩
   | true =>
    exact ZP rfl ⟨rfl, trivial⟩
  refine JLn (Pu.pickOr rfl rfl rfl) <| JLM rfl <| ZC 3 [78, 79, 80] [(80, cond ((decide (kind = 2)) || (decide (kind = 8))) undef (.bool (decide (kind = 11))))] ?_ fun f34 => ?_
  ·cases h33 : ((decide (kind = 2)) || (decide (kind = 8))) with
   | false =>
    obtain ⟨h33a, h33b⟩ := orF h33
    replace h33a := df h33a
    replace h33b := df h33b
    refine JLq (pp b2 0) (ZO rfl rfl) <| JLr (Ze ty3 rfl (At.bx 0 rfl) (Z5 ..) <| JLn (Pu.eql rfl rfl) ?_)
    exact Zb ⟨⟨rfl, trivial⟩, rfl⟩
   | true =>
    exact ZP rfl ⟨rfl, trivial⟩
  refine JLn (Pu.pickOr rfl rfl rfl) <| JLM rfl <| ZC 4 [83, 84, 85, 86] [(86, cond (((decide (kind = 2)) || (decide (kind = 8))) || (decide (kind = 11))) (.bool (decide (num < 0 ∨ 7 < num))) undef)] ?_ fun f36 => ?_
  ·cases h35 : (((decide (kind = 2)) || (decide (kind = 8))) || (decide (kind = 11))) with
   | true =>
    refine JLq (pp b2 1) (Yq rfl rfl) <| JLr (Ze ty3 rfl (At.bx 0 rfl) (YY ..) <| JLM rfl <| Jc Tryz.call79 rfl (fun hin => Yt _ _ _ _) rfl ?_)
    rintro _ _ ⟨rfl, rfl⟩
    exact Zb ⟨⟨rfl, trivial⟩, rfl⟩
   | false =>
    exact ZP rfl ⟨rfl, trivial⟩
  refine JLn (Pu.pickAnd rfl rfl rfl) <| Zb <| Zg rfl (fun h37 => ?_) (fun h37 => ?_)
  ·obtain ⟨h37a, h37b⟩ := YW h37
   replace h37b := dt h37b
   refine Zc <| Za <| JLA rfl <| Zb <| Zl <| ⟨iv 3, [], Ret.one rfl (RV.tmp rfl), Sub.nil, ?_⟩
   exact ⟨by refine congrArg (Value.int .i64) ?_; simp only [Ym]; (repeat' split) <;> first | rfl | omega | (exfalso; simp_all; done) | (exfalso; simp_all; omega) | grind, rfl⟩
  refine Zm <| Zc <| Za <| JLA rfl <| Zb <| Zl <| ⟨iv 0, [], Ret.one rfl (RV.tmp rfl), Sub.nil, ?_⟩
  exact ⟨by refine congrArg (Value.int .i64) ?_; simp only [Ym]; (repeat' split) <;> first | rfl | omega | (exfalso; simp_all; done) | (exfalso; simp_all; omega) | grind, rfl⟩
 replace h30 := df h30
 refine Zc <| Za <| JLn (Pu.eql rfl rfl) <| JLA rfl <| Zb <| Zg rfl (fun h38 => ?_) (fun h38 => ?_)
 ·replace h38 := dt h38
  refine Zc <| Za <| JLq (pp b1 1) (fa149_1 rfl rfl) <| JLr (Ze ty147 rfl (At.bx 1 rfl) rfl <| JLq (pp b2 1) (Yq rfl rfl) <| JLr (Ze ty3 rfl (At.bx 0 rfl) (YY ..) <| JLM rfl <| Jc Tryz.call90 rfl (fun hin => known_ct _ _ _ _ bD (Hle.hu _ _ _ _ hD) hb0 hb1 hn1 hn2) rfl ?_))
  rintro _ _ ⟨rfl, rfl⟩
  refine JLn (Pu.not rfl) <| Zb <| Zg rfl (fun h39 => ?_) (fun h39 => ?_)
  ·replace h39 := nt h39
   refine Zc <| Za <| JLA rfl <| Zb <| Zl <| ⟨iv 1, [], Ret.one rfl (RV.tmp rfl), Sub.nil, ?_⟩
   exact ⟨by refine congrArg (Value.int .i64) ?_; simp only [Ym]; (repeat' split) <;> first | rfl | omega | (exfalso; simp_all; done) | (exfalso; simp_all; omega) | grind, rfl⟩
  replace h39 := nf h39
  refine Zm <| Zc <| Zc <| Za <| JLq (pp b2 0) (ZO rfl rfl) <| JLr (Ze ty3 rfl (At.bx 0 rfl) (Z5 ..) <| JLn (Pu.eql rfl rfl) <| JLM rfl <| ZC 3 [73, 74, 75] [(75, cond (decide (kind = 2)) undef (.bool (decide (kind = 8))))] ?_ fun f41 => ?_)
  ·cases h40 : (decide (kind = 2)) with
   | false =>
    replace h40 := df h40
    refine JLq (pp b2 0) (ZO rfl rfl) <| JLr (Ze ty3 rfl (At.bx 0 rfl) (Z5 ..) <| JLn (Pu.eql rfl rfl) ?_)
    exact Zb ⟨⟨rfl, trivial⟩, rfl⟩
   | true =>
    exact ZP rfl ⟨rfl, trivial⟩
  refine JLn (Pu.pickOr rfl rfl rfl) <| JLM rfl <| ZC 3 [78, 79, 80] [(80, cond ((decide (kind = 2)) || (decide (kind = 8))) undef (.bool (decide (kind = 11))))] ?_ fun f43 => ?_
  ·cases h42 : ((decide (kind = 2)) || (decide (kind = 8))) with
   | false =>
    obtain ⟨h42a, h42b⟩ := orF h42
    replace h42a := df h42a
    replace h42b := df h42b
    refine JLq (pp b2 0) (ZO rfl rfl) <| JLr (Ze ty3 rfl (At.bx 0 rfl) (Z5 ..) <| JLn (Pu.eql rfl rfl) ?_)
    exact Zb ⟨⟨rfl, trivial⟩, rfl⟩
   | true =>
    exact ZP rfl ⟨rfl, trivial⟩
  refine JLn (Pu.pickOr rfl rfl rfl) <| JLM rfl <| ZC 4 [83, 84, 85, 86] [(86, cond (((decide (kind = 2)) || (decide (kind = 8))) || (decide (kind = 11))) (.bool (decide (num < 0 ∨ 1073741824 < num))) undef)] ?_ fun f45 => ?_
  ·cases h44 : (((decide (kind = 2)) || (decide (kind = 8))) || (decide (kind = 11))) with
   | true =>
    refine JLq (pp b2 1) (Yq rfl rfl) <| JLr (Ze ty3 rfl (At.bx 0 rfl) (YY ..) <| JLM rfl <| Jc Tryz.call79 rfl (fun hin => Yt _ _ _ _) rfl ?_)
    rintro _ _ ⟨rfl, rfl⟩
    exact Zb ⟨⟨rfl, trivial⟩, rfl⟩
   | false =>
    exact ZP rfl ⟨rfl, trivial⟩
  refine JLn (Pu.pickAnd rfl rfl rfl) <| Zb <| Zg rfl (fun h46 => ?_) (fun h46 => ?_)
  ·obtain ⟨h46a, h46b⟩ := YW h46
   replace h46b := dt h46b
   refine Zc <| Za <| JLA rfl <| Zb <| Zl <| ⟨iv 3, [], Ret.one rfl (RV.tmp rfl), Sub.nil, ?_⟩
   exact ⟨by refine congrArg (Value.int .i64) ?_; simp only [Ym]; (repeat' split) <;> first | rfl | omega | (exfalso; simp_all; done) | (exfalso; simp_all; omega) | grind, rfl⟩
  refine Zm <| Zc <| Za <| JLA rfl <| Zb <| Zl <| ⟨iv 0, [], Ret.one rfl (RV.tmp rfl), Sub.nil, ?_⟩
  exact ⟨by refine congrArg (Value.int .i64) ?_; simp only [Ym]; (repeat' split) <;> first | rfl | omega | (exfalso; simp_all; done) | (exfalso; simp_all; omega) | grind, rfl⟩
 replace h38 := df h38
 refine Zc <| Za <| JLn (Pu.eql rfl rfl) <| JLA rfl <| Zb <| Zg rfl (fun h47 => ?_) (fun h47 => ?_)
 ·replace h47 := dt h47
  refine Zc <| Za <| JLq (pp b2 1) (Yq rfl rfl) <| JLr (Ze ty3 rfl (At.bx 0 rfl) (YY ..) <| JLn (Pu.lss rfl rfl) <| JLM rfl <| ZC 5 [63, 64, 65, 66, 67] [(67, cond (decide (num < 0)) undef (.bool (decide (m ≤ num))))] ?_ fun f49 => ?_)
  ·cases h48 : (decide (num < 0)) with
   | false =>
    replace h48 := df h48
    refine JLq (pp b2 1) (Yq rfl rfl) <| JLr (Ze ty3 rfl (At.bx 0 rfl) (YY ..) <| JLq (pp b1 0) (fa149_0 rfl rfl) <| JLr (Ze ty3 rfl (At.bx 1 rfl) rfl <| JLn (Pu.geq rfl rfl) ?_))
    exact Zb ⟨⟨rfl, trivial⟩, rfl⟩
   | true =>
    exact ZP rfl ⟨rfl, trivial⟩
  refine JLn (Pu.pickOr rfl rfl rfl) <| Zb <| Zg rfl (fun h50 => ?_) (fun h50 => ?_)
  ·refine Zc <| Za <| JLA rfl <| Zb <| Zl <| ⟨iv 1, [], Ret.one rfl (RV.tmp rfl), Sub.nil, ?_⟩
   exact ⟨by refine congrArg (Value.int .i64) ?_; simp only [Ym]; (repeat' split) <;> first | rfl | omega | (exfalso; simp_all; done) | (exfalso; simp_all; omega) | grind, rfl⟩
  obtain ⟨h50a, h50b⟩ := orF h50
  replace h50a := df h50a
  replace h50b := df h50b
  refine Zm <| Zc <| Zc <| Za <| JLq (pp b2 0) (ZO rfl rfl) <| JLr (Ze ty3 rfl (At.bx 0 rfl) (Z5 ..) <| JLn (Pu.eql rfl rfl) <| JLM rfl <| ZC 3 [73, 74, 75] [(75, cond (decide (kind = 2)) undef (.bool (decide (kind = 8))))] ?_ fun f52 => ?_)
  ·cases h51 : (decide (kind = 2)) with
   | false =>
    replace h51 := df h51
    refine JLq (pp b2 0) (ZO rfl rfl) <| JLr (Ze ty3 rfl (At.bx 0 rfl) (Z5 ..) <| JLn (Pu.eql rfl rfl) ?_)
    exact Zb ⟨⟨rfl, trivial⟩, rfl⟩
   | true =>
    exact ZP rfl ⟨rfl, trivial⟩
  refine JLn (Pu.pickOr rfl rfl rfl) <| JLM rfl <| ZC 3 [78, 79, 80] [(80, cond ((decide (kind = 2)) || (decide (kind = 8))) undef (.bool (decide (kind = 11))))] ?_ fun f54 => ?_
  ·cases h53 : ((decide (kind = 2)) || (decide (kind = 8))) with
   | false =>
    obtain ⟨h53a, h53b⟩ := orF h53
    replace h53a := df h53a
    replace h53b := df h53b
    refine JLq (pp b2 0) (ZO rfl rfl) <| JLr (Ze ty3 rfl (At.bx 0 rfl) (Z5 ..) <| JLn (Pu.eql rfl rfl) ?_)
    exact Zb ⟨⟨rfl, trivial⟩, rfl⟩
   | true =>
    exact ZP rfl ⟨rfl, trivial⟩
  refine JLn (Pu.pickOr rfl rfl rfl) <| JLM rfl <| ZC 4 [83, 84, 85, 86] [(86, cond (((decide (kind = 2)) || (decide (kind = 8))) || (decide (kind = 11))) (.bool (decide (num < 0 ∨ 1073741824 < num))) undef)] ?_ fun f56 => ?_
  ·cases h55 : (((decide (kind = 2)) || (decide (kind = 8))) || (decide (kind = 11))) with
   | true =>
    refine JLq (pp b2 1) (Yq rfl rfl) <| JLr (Ze ty3 rfl (At.bx 0 rfl) (YY ..) <| JLM rfl <| Jc Tryz.call79 rfl (fun hin => Yt _ _ _ _) rfl ?_)
    rintro _ _ ⟨rfl, rfl⟩
    exact Zb ⟨⟨rfl, trivial⟩, rfl⟩
   | false =>
    exact ZP rfl ⟨rfl, trivial⟩
  refine JLn (Pu.pickAnd rfl rfl rfl) <| Zb <| Zg rfl (fun h57 => ?_) (fun h57 => ?_)
  ·obtain ⟨h57a, h57b⟩ := YW h57
   replace h57b := dt h57b
   refine Zc <| Za <| JLA rfl <| Zb <| Zl <| ⟨iv 3, [], Ret.one rfl (RV.tmp rfl), Sub.nil, ?_⟩
   exact ⟨by refine congrArg (Value.int .i64) ?_; simp only [Ym]; (repeat' split) <;> first | rfl | omega | (exfalso; simp_all; done) | (exfalso; simp_all; omega) | grind, rfl⟩
  refine Zm <| Zc <| Za <| JLA rfl <| Zb <| Zl <| ⟨iv 0, [], Ret.one rfl (RV.tmp rfl), Sub.nil, ?_⟩
  exact ⟨by refine congrArg (Value.int .i64) ?_; simp only [Ym]; (repeat' split) <;> first | rfl | omega | (exfalso; simp_all; done) | (exfalso; simp_all; omega) | grind, rfl⟩
 replace h47 := df h47
 refine Zm <| Zc <| Zc <| Za <| JLq (pp b2 0) (ZO rfl rfl) <| JLr (Ze ty3 rfl (At.bx 0 rfl) (Z5 ..) <| JLn (Pu.eql rfl rfl) <| JLM rfl <| ZC 3 [73, 74, 75] [(75, cond (decide (kind = 2)) undef (.bool (decide (kind = 8))))] ?_ fun f59 => ?_)
 ·cases h58 : (decide (kind = 2)) with
  | false =>
   replace h58 := df h58
   refine JLq (pp b2 0) (ZO rfl rfl) <| JLr (Ze ty3 rfl (At.bx 0 rfl) (Z5 ..) <| JLn (Pu.eql rfl rfl) ?_)
   exact Zb ⟨⟨rfl, trivial⟩, rfl⟩
  | true =>
   exact ZP rfl ⟨rfl, trivial⟩
 refine JLn (Pu.pickOr rfl rfl rfl) <| JLM rfl <| ZC 3 [78, 79, 80] [(80, cond ((decide (kind = 2)) || (decide (kind = 8))) undef (.bool (decide (kind = 11))))] ?_ fun f61 => ?_
 ·cases h60 : ((decide (kind = 2)) || (decide (kind = 8))) with
  | false =>
   obtain ⟨h60a, h60b⟩ := orF h60
   replace h60a := df h60a
   replace h60b := df h60b
   refine JLq (pp b2 0) (ZO rfl rfl) <| JLr (Ze ty3 rfl (At.bx 0 rfl) (Z5 ..) <| JLn (Pu.eql rfl rfl) ?_)
   exact Zb ⟨⟨rfl, trivial⟩, rfl⟩
  | true =>
   exact ZP rfl ⟨rfl, trivial⟩
 refine JLn (Pu.pickOr rfl rfl rfl) <| JLM rfl <| ZC 4 [83, 84, 85, 86] [(86, cond (((decide (kind = 2)) || (decide (kind = 8))) || (decide (kind = 11))) (.bool (decide (num < 0 ∨ 1073741824 < num))) undef)] ?_ fun f63 => ?_
 ·cases h62 : (((decide (kind = 2)) || (decide (kind = 8))) || (decide (kind = 11))) with
  | true =>
   refine JLq (pp b2 1) (Yq rfl rfl) <| JLr (Ze ty3 rfl (At.bx 0 rfl) (YY ..) <| JLM rfl <| Jc Tryz.call79 rfl (fun hin => Yt _ _ _ _) rfl ?_)
   rintro _ _ ⟨rfl, rfl⟩
   exact Zb ⟨⟨rfl, trivial⟩, rfl⟩
  | false =>
   exact ZP rfl ⟨rfl, trivial⟩
 refine JLn (Pu.pickAnd rfl rfl rfl) <| Zb <| Zg rfl (fun h64 => ?_) (fun h64 => ?_)
 ·obtain ⟨h64a, h64b⟩ := YW h64
  replace h64b := dt h64b
  refine Zc <| Za <| JLA rfl <| Zb <| Zl <| ⟨iv 3, [], Ret.one rfl (RV.tmp rfl), Sub.nil, ?_⟩
  exact ⟨by refine congrArg (Value.int .i64) ?_; simp only [Ym]; (repeat' split) <;> first | rfl | omega | (exfalso; simp_all; done) | (exfalso; simp_all; omega) | grind, rfl⟩
 refine Zm <| Zc <| Za <| JLA rfl <| Zb <| Zl <| ⟨iv 0, [], Ret.one rfl (RV.tmp rfl), Sub.nil, ?_⟩
 exact ⟨by refine congrArg (Value.int .i64) ?_; simp only [Ym]; (repeat' split) <;> first | rfl | omega | (exfalso; simp_all; done) | (exfalso; simp_all; omega) | grind, rfl⟩
end Go.Proofs.YtfdeibbpfgolcaaGreat.Hs
/-! Walks, printed by a program of this session's own (gen.py). -/
namespace Go.Proofs.YtfdeibbpfgolcaaGreat.Hs
open Go Go.Proofs
set_option maxRecDepth 100000
set_option linter.unusedVariables false
set_option linter.unusedSimpArgs false
attribute [local irreducible] JL J CT wlo DT
theorem all_ct : ∀ (t : Tm) (d m b : Int) (cs : List Value) (H : Heap) (bD : Nat), RT H cs t → H bD = some (.cells ⟨[iv d]⟩ 3 (0, 0)) → 0 ≤ b → b + 2 * sizeT t ≤ 1000000 → CT Tryz.prog 91 ⟨[.agg ⟨[iv m, .func (.func 90) ⟨[]⟩ ⟨[pp bD 0]⟩]⟩, .agg ⟨cs⟩, iv b]⟩ [] H (fun v N => v = iv (YS d m b t) ∧ N = []) := by
 intro t
 induction t using Tm.ind with
 | h kind num ref kids cases ih ih' =>
 intro d m b cs H bD ht hD hb0 hb
 obtain ⟨ks, cv, rfl, hk, hn, hks, hcv⟩ := RT_mk.1 ht
 rw [sizeT] at hb
 have hn1 : -9223372036854775808 ≤ num := hn.1
 have hn2 : num ≤ 9223372036854775807 := hn.2
 have ihx : ∀ x mo, (fun x mo => ((∃ (j : Nat) (hj : j < kids.length), x = kids[j]) ∨ ∃ (j : Nat) (hj : j < cases.length), x = cases[j].2) ∧ 0 ≤ mo ∧ mo + 2 * (sizeT x : Int) ≤ 2 * ((1 + sizeTs kids + sizeCs cases : Nat) : Int)) x mo → ∀ (d m b : Int) (cs : List Value) (H : Heap) (bD : Nat), RT H cs x → H bD = some (.cells ⟨[iv d]⟩ 3 (0, 0)) → 0 ≤ b → b + 2 * sizeT x ≤ 1000000 → CT Tryz.prog 91 ⟨[.agg ⟨[iv m, .func (.func 90) ⟨[]⟩ ⟨[pp bD 0]⟩]⟩, .agg ⟨cs⟩, iv b]⟩ [] H (fun v N => v = iv (YS d m b x) ∧ N = []) := by
  rintro x mo ⟨⟨j, hj, rfl⟩ | ⟨j, hj, rfl⟩, _, _⟩
  ·exact ih _ (List.getElem_mem hj)
  ·exact ih' _ (List.getElem_mem hj)
 refine Zk Tryz.func91 rfl rfl <| Zc <| Za <| JLr (Zp (l := [iv m, .func (.func 90) ⟨[]⟩ ⟨[pp bD 0]⟩]) rfl rfl fun b1 => JLr (Zp (l := pkT kind num ref ks cv) rfl rfl fun b2 => JLr (Zp (l := [iv b]) rfl rfl fun b3 => JLr (Zh (l := [iv 0]) Tryz.zeroValue31 rfl fun b4 => Zb <| Zc <| Zc <| Za <| JLr (Zi ty149 rfl (At.bx 3 rfl) rfl <| JLr (Zi Zs rfl (At.bx 2 rfl) (ZY ..) ?_))))))
 refine JLr (Ze ty3 rfl (At.bx 1 rfl) rfl <| Jc Tryz.call114 rfl (fun hin => chkTerm_ct _ _ _ _ _ _ _ _ _ _ _ bD (RTs.mono (Hle.hu _ _) hks) (RCs.mono (Hle.hu _ _) hcv) (Hle.hu _ _ _ _ hD) hb0 (by omega) hn1 hn2) rfl ?_)
 rintro _ _ ⟨rfl, rfl⟩
 refine JLA rfl <| Zb <| Zc <| Za <| JLM rfl <| JLn (Pu.neq rfl rfl) <| Zb <| Zg rfl (fun h5 => ?_) (fun h5 => ?_)
 ·replace h5 := nt h5
  replace h5 := df h5
  refine Zc <| Za <| JLM rfl <| JLr (Zd 0 (vs := [iv (Ym d m b kind num ref kids.length cases.length)]) (l := [iv (Ym d m b kind num ref kids.length cases.length)]) ty31 rfl rfl rfl rfl rfl (Zj rfl Zt) rfl <| Zb <| Zl <| ⟨iv (Ym d m b kind num ref kids.length cases.length), [], Ret.one rfl (RV.cell1 ty31 rfl (At.bx 0 rfl) rfl), Sub.nil, ?_⟩)
  exact ⟨by rw [YS, if_neg h5], rfl⟩
 replace h5 := nf h5
 replace h5 := dt h5
 refine Zm <| Zc <| Zc <| Za <| JLq (pp b2 35) (Yw rfl rfl) <| JLr (Ze ty25 rfl (At.bx 2 rfl) (Yj ..) ?_)
 obtain ⟨a6, cap6, hv6⟩ := hcv.sl
 have hle6 := hcv.le
 refine JLn (Pu.lenSl Tryz.runUnderlying25 hv6) <| JLM rfl <| Zb <| Zo ?_
 have hh0 : Ym d m b kind num ref kids.length cases.length = 0 := h5
 refine ZT (fun k ρ M => ∃ (j : Nat), ρ 3 = pp b1 0 ∧ ρ 4 = pp b2 0 ∧ ρ 5 = pp b3 0 ∧ ρ 6 = pp b4 0 ∧ ρ 22 = cv ∧ ρ 23 = iv ((cases.length : Int)) ∧ ρ 24 = iv ((j : Int)) ∧ Sub [(BX b4 [iv 0] 31), (BX b3 [iv b] 3), (BX b2 (pkT kind num ref ks cv) 27), (BX b1 [iv m, .func (.func 90) ⟨[]⟩ ⟨[pp bD 0]⟩] 149)] M ∧ j ≤ cases.length ∧ pErrsC (cases.drop j) = pErrsC cases ∧ k = cases.length - j) _ ⟨0, rfl, rfl, rfl, rfl, rfl, rfl, rfl, (Sk (Sk (Sk (Sk Sub.nil)))), Nat.zero_le _, rfl, rfl⟩ ?_
 rintro _ ρ7 _ ⟨j, e8, e9, e10, e11, e12, e13, e14, hm15, hj, hinv, rfl⟩
 obtain ⟨ρ16, rfl⟩ := Zn (uc e8 (uc e9 (uc e10 (uc e11 (uc e12 (uc e13 (uc e14 un)))))))
 clear e8 e9 e10 e11 e12 e13 e14
 refine ZS hm15 ?_
 have hlen := hcv.le
 refine Zc <| Za <| JLn (Pu.lss rfl rfl) <| Zb <| Zc <| Zg rfl (fun h17 => ?_) (fun h17 => ?_)
 ·replace h17 := dt h17
  have h17n : j < cases.length := by omega
  refine Zm <| Zc <| Zo <| Zc <| Za ?_
  obtain ⟨b18, o18, cap18, row18, T18, fr18, cs18, hv18, hb18, hs18, hE18⟩ := hcv.get j (by first | assumption | omega | decide | simp)
  obtain ⟨ca18, cb18, rfl, hA18, hB18⟩ := hE18
  refine JLq (pp b18 (o18 + j * 71)) (Pu.idx j Tryz.runUnderlying25 YR hv18 rfl rfl (by first | assumption | omega | decide | simp)) <| JLr (Zi YR rfl (At.im hb18) hs18 <| JLr (Zh (l := (pkP 0 0 zS nS) ++ (pkT 0 0 zS nS nS)) Tryz.zeroValue56 rfl fun b19 => JLr (Zd 0 (vs := ca18 ++ cb18) (l := ca18 ++ cb18) YR rfl rfl rfl rfl (ZR (ZA hA18) (Zv hB18)) (Z2 (RP_ok hA18) (Y5 hB18)) (Zy (n := 71) rfl (ZR (ZA hA18) (Zv hB18))) <| Zb <| Zc <| Za <| JLq (pp b19 0) (fa56_0 rfl rfl) <| JLr (Zi ZQ rfl (At.bx 0 rfl) (sub_l (ZA hA18)) <| Jc Tryz.call115 rfl (fun hin => patternsError_ct _ _ _ (RP.mono (Hle.hu _ _) hA18)) rfl ?_))))
  rintro _ _ ⟨rfl, rfl⟩
  refine JLA rfl <| Zb <| Zc <| Za <| JLM rfl <| JLn (Pu.neq rfl rfl) <| Zb <| Zg rfl (fun h20 => ?_) (fun h20 => ?_)
  ·replace h20 := nt h20
   replace h20 := df h20
   refine Zc <| Za <| JLM rfl <| JLr (Zd 1 (vs := [iv (pErrs (cases[j].1))]) (l := [iv (pErrs (cases[j].1))]) ty31 rfl rfl rfl rfl rfl (Zj rfl Zt) rfl <| Zb <| Zl <| ⟨iv (pErrs (cases[j].1)), [], Ret.one rfl (RV.cell1 ty31 rfl (At.bx 1 rfl) rfl), Sub.nil, ?_⟩)
   exact ⟨by rw [YS, if_pos hh0, ← hinv, Yr h17n, pErrsC, if_neg h20, if_neg h20], rfl⟩
  replace h20 := nf h20
  replace h20 := dt h20
  refine Zm <| Za <| JLn (Pu.inc rfl rfl (by omega)) <| JLM rfl <| Zb <| ⟨_, ?_, (j + 1), rfl, rfl, rfl, rfl, rfl, rfl, rfl, (Sd (Sk (Sk (Sk (Sk Sub.nil))))), ?_, ?_, rfl⟩
  ·omega
  ·omega
  rw [Yr h17n, pErrsC, if_pos h20] at hinv; exact hinv
 replace h17 := df h17
 have h17n : cases.length ≤ j := by omega
 refine ZB _ rfl <| Zc <| Zc <| Za <| JLr (Zi Zs rfl (At.bx 2 rfl) (ZY ..) <| Jc Tryz.call53 rfl (fun hin => parts_ct _ _ rfl) rfl ?_)
 rintro _ _ ⟨bT21, rfl, rfl⟩
 refine Zb <| Zo ?_
 have h1 : pErrsC cases = 0 := by rw [← hinv, dropn h17n]; rfl
 refine J_range (L := [(BX bT21 (pkT kind num ref ks cv) 27), (BX b3 [iv b] 3), (BX b2 (pkT kind num ref ks cv) 27), (BX b1 [iv m, .func (.func 90) ⟨[]⟩ ⟨[pp bD 0]⟩] 149)]) (fun e : Int => [(BX b4 [iv e] 31)]) (fun e => !decide (e = 0)) 0 (fun e => e = yP (fun x mo _ => (decide (YS d m (b + mo) x = 0), YS d m (b + mo) x)) kind kids cases 0) rfl rfl Tryz.call95 (flatten_pick (i := 1) rfl) ?_ ?_ ?_
 ·intro l yc hY hin
  refine CT.mono (parts1_ct kind num ref ks cv kids cases _ bT21 (RTs.mono (Hle.hu _ _) hks) (RCs.mono (Hle.hu _ _) hcv) (hin 0 _ rfl _ _ List.mem_cons_self) (fun c hc => by have := sizeCs_mem c hc; have := binds_le c.1; omega) (by have := len_sizeTs kids; omega) (by have := len_sizeCs cases; omega) l yc (fun e => e = 0) (fun x mo _ => (decide (YS d m (b + mo) x = 0), YS d m (b + mo) x)) 0 rfl (fun x mo => ((∃ (j : Nat) (hj : j < kids.length), x = kids[j]) ∨ ∃ (j : Nat) (hj : j < cases.length), x = cases[j].2) ∧ 0 ≤ mo ∧ mo + 2 * (sizeT x : Int) ≤ 2 * ((1 + sizeTs kids + sizeCs cases : Nat) : Int)) ?_ ?_ (fun x mo s _ h => of_decide_eq_true h) ?_) (fun v N hN => ⟨_, hN, rfl⟩)
  ·intro j hj; have hs1 := sizeTs_mem _ (List.getElem_mem hj); have hm1 := more_le kind j; exact ⟨.inl ⟨j, hj, rfl⟩, by omega, by omega⟩
  ·intro j hj; have hs1 := sizeCs_mem _ (List.getElem_mem hj); have hm1 := binds_le (cases[j]).1; have hp1 := sizeT_pos (cases[j]).2; exact ⟨.inr ⟨j, hj, rfl⟩, by omega, by omega⟩
  intro x mo hit e i a h he hh ra
  subst he
  have hb0x : 0 ≤ b + mo := by have := hit.2.1; omega
  have hb1x : b + mo + 2 * (sizeT x : Int) ≤ 1000000 := by have := hit.2.2; omega
  have hp1 := sizeT_pos x
  refine YT.mono (hY 0 [_, _] h (fun e' => e' = YS d m (b + mo) x) rfl rfl (RoundOk.mk ?_)) ?_
  ·show J _ _ _ _ [(BX b4 [iv 0] 31)] _
   refine Za <| JLr (Zh (l := (pkT 0 0 zS nS nS) ++ ([iv 0] : List Value)) Tryz.zeroValue107 rfl fun b22 => JLr (Zd 0 (vs := a ++ ([iv mo] : List Value)) (l := a ++ ([iv mo] : List Value)) ty107 rfl rfl rfl rfl (ZR (Zv ra) rfl) (Z2 (Y5 ra) (Zj rfl Zt)) (Zy (n := 37) rfl (ZR (Zv ra) rfl)) <| Zb <| Zo <| Zc <| Za <| JLr (Zi ty149 rfl (At.im (hh _ _ (hin 3 _ rfl _ _ List.mem_cons_self))) rfl <| JLq (pp b22 0) (fa107_0 rfl rfl) <| JLr (Zi Zs rfl (At.bx 0 rfl) (sub_l (Zv ra)) <| JLr (Ze ty3 rfl (At.im (hh _ _ (hin 1 _ rfl _ _ List.mem_cons_self))) rfl <| JLq (pp b22 36) (fa107_1 rfl rfl) <| JLr (Ze ty3 rfl (At.bx 0 rfl) (get_r (n := 36) (i := 0) (Zv ra) rfl) ?_))))))
   refine JLn (Pu.add64 rfl rfl (by first | omega | (constructor <;> omega))) <| Jc Tryz.call91 rfl (fun hin => ihx x mo hit d m _ _ _ bD (RT.mono (Hle.hu _ _) ra) (Hle.hu _ _ _ _ (hh _ _ (Hle.hu _ _ _ _ hD))) hb0x hb1x) rfl ?_
   rintro _ _ ⟨rfl, rfl⟩
   refine JLA rfl <| Zb <| Zc <| Za <| JLM rfl <| JLn (Pu.neq rfl rfl) <| Zb <| Zg rfl (fun h23 => ?_) (fun h23 => ?_)
   ·replace h23 := nt h23
    replace h23 := df h23
    refine Zc <| Za <| JLM rfl <| JLr (Zd 1 (vs := [iv (YS d m (b + mo) x)]) (l := [iv (YS d m (b + mo) x)]) ty31 rfl rfl rfl rfl rfl (Zj rfl Zt) rfl <| Zb <| Zl ?_)
    exact ⟨YS d m (b + mo) x, by simp [h23], (Sd (Sk Sub.nil)), rfl⟩
   replace h23 := nf h23
   replace h23 := dt h23
   refine Zm ?_
   exact ⟨0, rfl, (Sd (Sk Sub.nil)), h23.symm⟩
  rintro v N ⟨e', rfl, rfl, rfl⟩; exact ⟨by simp, rfl⟩
 ·rintro ef hef hp
  refine Zc <| Za <| JLr (Zd 0 (vs := [iv 0]) (l := [iv 0]) ty31 rfl rfl rfl rfl rfl (Zj rfl Zt) rfl <| Zb <| Zl <| ⟨iv 0, [], Ret.one rfl (RV.cell1 ty31 rfl (At.bx 0 rfl) rfl), Sub.nil, ?_⟩)
  rw [yP_err] at hef
  have hp0 : ef = 0 := by simpa using hp
  exact ⟨by rw [YS, if_pos hh0, if_pos h1, ← hef, hp0], rfl⟩
 rintro ef hef hp
 refine ⟨iv ef, [], Ret.one rfl (RV.cell1 ty31 rfl (At.bx 0 rfl) rfl), Sub.nil, ?_⟩
 rw [yP_err] at hef
 have hp0 : ¬ ef = 0 := by simpa using hp
 exact ⟨by rw [YS, if_pos hh0, if_pos h1, ← hef], rfl⟩
end Go.Proofs.YtfdeibbpfgolcaaGreat.Hs
/-! Walks, printed by a program of this session's own (gen.py). -/
namespace Go.Proofs.YtfdeibbpfgolcaaGreat.Hs
open Go Go.Proofs
set_option maxRecDepth 100000
set_option linter.unusedVariables false
set_option linter.unusedSimpArgs false
attribute [local irreducible] JL J CT wlo DT
theorem check_ct (t : Tm) (d m : Int) (cs : List Value) (H : Heap) (ht : RT H cs t) : CT Tryz.prog 42 ⟨[.agg ⟨cs⟩, iv d, iv m]⟩ [] H (fun v N => v = iv (Yc d m t) ∧ N = []) := by
 refine Zk Tryz.func42 rfl rfl <| Zc <| Za <| JLr (Zp (l := cs) rfl rfl fun b1 => JLr (Zp (l := [iv d]) rfl rfl fun b2 => JLA rfl <| Zb <| Zc <| Zc <| Za <| JLq (.agg ⟨[iv 0]⟩) (Pu.build (pv := []) (l := [iv 0]) rfl bld132_) <| JLr (Zp (l := [iv 0]) rfl rfl fun b3 => JLr (Zi Zs rfl (At.bx 2 rfl) (Zu (Zv ht)) ?_))))
 refine Zr 0 rfl Tryz.call74 rfl rfl (fun hin => longT_ct _ _ _ _ _ _ (RT.mono (Hle.hu _ _) ht) (by omega) (by omega) (by omega) (by omega)) rfl ?_
 rintro _ _ ⟨rfl, rfl⟩
 refine Zb <| Zg rfl (fun h5 => ?_) (fun h5 => ?_)
 ·refine Zc <| Za <| JLA rfl <| Zb <| Zl <| ⟨iv 11, [], Ret.one rfl (RV.tmp rfl), Sub.nil, ?_⟩
  exact ⟨by rw [Yc, if_pos (by simp [h5])], rfl⟩
 refine Zm <| Zc <| Za <| JLM rfl <| JLq (.func (.func 90) ⟨[]⟩ ⟨[pp b2 0]⟩) (Pu.makeFunc rfl rfl) <| JLq (.agg ⟨[iv m, .func (.func 90) ⟨[]⟩ ⟨[pp b2 0]⟩]⟩) (Pu.build (pv := [(0, iv m), (1, .func (.func 90) ⟨[]⟩ ⟨[pp b2 0]⟩)]) (l := [iv m, .func (.func 90) ⟨[]⟩ ⟨[pp b2 0]⟩]) rfl (bld149_0_1 _ _ _ _)) <| JLr (Zh (l := [iv 0, .nilFunc]) Tryz.zeroValue149 rfl fun b6 => JLr (Zd 0 (vs := [iv m, .func (.func 90) ⟨[]⟩ ⟨[pp b2 0]⟩]) (l := [iv m, .func (.func 90) ⟨[]⟩ ⟨[pp b2 0]⟩]) ty149 rfl rfl rfl rfl rfl (Zj rfl (Zj rfl Zt)) rfl <| Zb <| Zc <| Za <| JLr (Zi ty149 rfl (At.bx 0 rfl) rfl <| JLr (Zi Zs rfl (At.bx 3 rfl) (Zu (Zv ht)) ?_))))
 refine Jc Tryz.call91 rfl (fun hin => all_ct _ _ _ _ _ _ _ (RT.mono (Hle.hu _ _) ht) (hin 2 _ rfl _ _ List.mem_cons_self) (by decide) (by have e1 := cnT_size t 1 0 h5; have e2 := cnT_le stL_le t 1 0 h5; omega)) rfl ?_
 rintro _ _ ⟨rfl, rfl⟩
 refine JLA rfl <| Zb <| Zl <| ⟨iv (YS d m 0 t), [], Ret.one rfl (RV.tmp rfl), Sub.nil, ?_⟩
 exact ⟨by rw [Yc, if_neg (by simp [h5])], rfl⟩
theorem right_ct (l : List Tm) (v : Value) (H : Heap) (hl : rdS RT 36 H v l) : CT Tryz.prog 49 ⟨[v]⟩ [] H (fun v N => v = iv (ZI l) ∧ N = []) := by
 refine Zk Tryz.func49 rfl rfl <| Zc <| Za <| JLA rfl <| Zb <| Zc <| Zc <| Za <| JLm v ?_
 obtain ⟨a1, cap1, hv1⟩ := hl.sl
 have hle1 := hl.le
 refine JLn (Pu.lenSl Tryz.runUnderlying24 hv1) <| JLM rfl <| Zb <| Zo <| ZT (fun k ρ M => ∃ (j : Nat), ρ 2 = iv 0 ∧ ρ 6 = v ∧ ρ 7 = iv ((l.length : Int)) ∧ ρ 8 = iv ((j : Int)) ∧ Sub [] M ∧ j ≤ l.length ∧ ZI (l.drop j) = ZI l ∧ k = l.length - j) _ ⟨0, rfl, rfl, rfl, rfl, Sub.nil, Nat.zero_le _, rfl, rfl⟩ ?_
 rintro _ ρ2 _ ⟨j, e3, e4, e5, e6, hm7, hj, hinv, rfl⟩
 obtain ⟨ρ8, rfl⟩ := Zn (uc e3 (uc e4 (uc e5 (uc e6 un))))
 clear e3 e4 e5 e6
 refine ZS hm7 <| Zc <| Za <| JLn (Pu.lss rfl rfl) <| Zb <| Zc <| Zg rfl (fun h9 => ?_) (fun h9 => ?_)
 ·replace h9 := dt h9
  have h9n : j < l.length := by omega
  have hlenl := hl.le
  refine Zm <| Zc <| Zo <| Zc <| Za ?_
  obtain ⟨b10, o10, cap10, row10, T10, fr10, cs10, hv10, hb10, hs10, hE10⟩ := hl.get j (by first | assumption | omega | decide | simp)
  refine JLq (pp b10 (o10 + j * 36)) (Pu.idx j Tryz.runUnderlying24 Zs hv10 rfl rfl (by first | assumption | omega | decide | simp)) <| JLr (Zi Zs rfl (At.im hb10) hs10 <| JLr (Zh (l := pkT 0 0 zS nS nS) Tryz.zeroValue27 rfl fun b11 => JLr (Zd 0 (vs := cs10) (l := cs10) Zs rfl rfl rfl rfl (Zv hE10) (Y5 hE10) (Zy (n := 36) rfl (Zv hE10)) <| Zb <| Zc <| Za <| JLr (Zi Zs rfl (At.bx 0 rfl) (Zu (Zv hE10)) <| Jc Tryz.call42 rfl (fun hin => check_ct _ _ _ _ _ (RT.mono (Hle.hu _ _) hE10)) rfl ?_))))
  rintro _ _ ⟨rfl, rfl⟩
  refine JLA rfl <| Zb <| Zc <| Za <| JLM rfl <| JLn (Pu.neq rfl rfl) <| Zb <| Zg rfl (fun h12 => ?_) (fun h12 => ?_)
  ·replace h12 := nt h12
   replace h12 := df h12
   refine Zc <| Za <| JLM rfl <| JLA rfl <| Zb <| Zl <| ⟨iv (Yc 60 8 (l[j])), [], Ret.one rfl (RV.tmp rfl), Sub.nil, ?_⟩
   exact ⟨by rw [← hinv, Yr h9n, ZI, if_neg h12], rfl⟩
  replace h12 := nf h12
  replace h12 := dt h12
  refine Zm <| Za <| JLn (Pu.inc rfl rfl (by omega)) <| JLM rfl <| Zb <| ⟨_, ?_, (j + 1), rfl, rfl, rfl, rfl, Sub.nil, ?_, ?_, rfl⟩
  ·omega
  ·omega
  rw [Yr h9n, ZI, if_pos h12] at hinv; exact hinv
 replace h9 := df h9
 have h9n : l.length ≤ j := by omega
 refine ZB _ rfl <| Zc <| Za <| JLA rfl <| Zb <| Zl <| ⟨iv 0, [], Ret.one rfl (RV.tmp rfl), Sub.nil, ?_⟩
 exact ⟨by rw [← hinv, dropn h9n]; rfl, rfl⟩
end Go.Proofs.YtfdeibbpfgolcaaGreat.Hs
/-! Walks, printed by a program of this session's own (gen.py). -/
namespace Go.Proofs.YtfdeibbpfgolcaaGreat.Hs
open Go Go.Proofs
set_option maxRecDepth 100000
set_option linter.unusedVariables false
set_option linter.unusedSimpArgs false
attribute [local irreducible] JL J CT wlo DT
theorem stay_ct (n b : Int) (H : Heap) (hb : inI (n + b)) : CT Tryz.prog 82 ⟨[iv n, iv b]⟩ [] H (fun v N => ∃ cs k, v = .agg ⟨cs⟩ ∧ N = [k] ∧ OT (.mk 1 (n + b) zS [] []) cs k) := by
 have hb1 : -9223372036854775808 ≤ n + b := hb.1
 have hb2 : n + b ≤ 9223372036854775807 := hb.2
 refine Zk Tryz.func82 rfl rfl <| Zc <| Za <| JLr (Zh (l := pkT 0 0 zS nS nS) Tryz.zeroValue27 rfl fun b1 => Zb <| Zc <| Za <| JLM rfl <| JLM rfl <| JLn (Pu.add64 rfl rfl (by first | omega | (constructor <;> omega))) <| JLq (.agg ⟨pkT 1 (n + b) zS nS nS⟩) (Pu.build (pv := [(0, iv 1), (1, iv (n + b))]) (l := pkT 1 (n + b) zS nS nS) rfl (bld27_0_1 _ _)) <| JLr (Zd 0 (vs := pkT 1 (n + b) zS nS nS) (l := pkT 1 (n + b) zS nS nS) Zs rfl rfl rfl rfl rfl (Zz rfl rfl) (Z4 ..) <| Zb ?_))
 refine Zl <| ⟨.agg ⟨pkT 1 (n + b) zS nS nS⟩, [[]], Ret.one rfl (RV.cell Zs rfl (At.bx 0 rfl) (ZY ..)), (Sub.emp Sub.nil), ?_⟩
 exact ⟨_, _, rfl, rfl, OT_leaf (by unfold inI; omega) hb⟩
theorem same_ct (s : Sm) (H : Heap) : CT Tryz.prog 83 ⟨[.agg ⟨sC s⟩]⟩ [] H (fun v N => v = .agg ⟨sC s⟩ ∧ N = []) := by
 refine Zk Tryz.func83 rfl rfl <| Zc <| Za <| JLr (Zp (l := sC s) rfl rfl fun b1 => JLr (Zh (l := sC zS) Tryz.zeroValue23 rfl fun b2 => Zb <| Zc <| Za <| JLr (Zi Z3 rfl (At.bx 1 rfl) (Zu rfl) <| JLr (Zd 0 (vs := sC s) (l := sC s) Z3 rfl rfl rfl rfl rfl (sC_ok _) (Zy rfl rfl) <| Zb <| Zl <| ⟨.agg ⟨sC s⟩, [], Ret.one rfl (RV.cell Z3 rfl (At.bx 0 rfl) (Zu rfl)), Sub.nil, ?_⟩))))
 exact ⟨rfl, rfl⟩
theorem mapPattern_ct : ∀ (gr : Nat) (frs crs : List Value) (hcallr : ∀ args w, (callFunc gr args).run Tryz.prog w = .ok (.enter gr args) w) (rf : Sm → Sm) (fv : Value) (hfv : fv.oneCell' = true) (p : Pt) (cs : List Value) (H : Heap), RP H cs p → (∀ s h, Hle H h → CT Tryz.prog gr ⟨frs ++ [.agg ⟨sC s⟩] ++ crs⟩ [] h (fun v N => v = .agg ⟨sC (rf s)⟩ ∧ N = [])) → sizeP p ≤ 1000000 → CT Tryz.prog 109 ⟨[.agg ⟨[fv, .func (.func gr) ⟨frs⟩ ⟨crs⟩]⟩, .agg ⟨cs⟩]⟩ [] H (fun v N => ∃ cs k, v = .agg ⟨cs⟩ ∧ N = [k] ∧ OP (mapP rf p) cs k) := by
 intro gr frs crs hcallr rf fv hfv p
 induction p using Pt.ind with
 | h kind num ref kids ih =>
 intro cs H hp hgr hz
 rw [sizeP] at hz
 have hlk := len_sizePs kids
 obtain ⟨ks, rfl, hk, hn, hks⟩ := RP_mk.1 hp
 refine Zk Tryz.func109 rfl rfl <| Zc <| Za <| JLr (Zp (l := [fv, .func (.func gr) ⟨frs⟩ ⟨crs⟩]) rfl rfl fun b1 => JLr (Zp (l := pkP kind num ref ks) rfl rfl fun b2 => JLr (Zh (l := pkP 0 0 zS nS) Tryz.zeroValue54 rfl fun b3 => Zb <| Zc <| ZL mixed #[0, 1, 0, 4, 0, 16, 0, 64, 240, 511, 0, 2047] 11 [some 8, some 9, some 10, some 11, some 12, some 13, some 14, some 15, some 16, some 17, some 5] [] [(8, fun _ _ vw qw => vw = .agg ⟨sC (rf ref)⟩ ∧ qw = []), (10, newP 54 (pkP 0 0 zS nS))] rfl (by kernel_rfl) rfl (by kernel_rfl) <| Dq (pp b2 0) (fun _ => YI rfl rfl) <| Dl1 ty3 (At.bx 1 rfl) (pkP_0 ..) <| Dq (pp b2 1) (fun _ => fa54_1 rfl rfl) <| Dl1 ty3 (At.bx 1 rfl) (pkP_1 ..) ?_)))
 refine Dq (pp b1 1) (fun _ => fa141_1 rfl rfl) <| Dl1 ty112 (At.bx 2 rfl) rfl <| Dq (pp b2 2) (fun _ => fa54_2 rfl rfl) <| Dl Z3 (At.bx 1 rfl) (pkP_2 ..) <| Dc rfl hcallr (fun _ => rfl) (fun hin => hgr _ _ (Hle.hu _ _)) ?_
 rintro _ _ ⟨rfl, rfl⟩
 refine Dq (.agg ⟨pkP kind num (rf ref) nS⟩) (fun _ => Pu.build (pv := [(0, iv kind), (1, iv num), (2, .agg ⟨sC (rf ref)⟩)]) (l := pkP kind num (rf ref) nS) rfl (bld54_0_1_2 _ _ _)) <| Da Tryz.zeroValue54 rfl fun b5 => ZZ (M' := [(BX b5 (pkP 0 0 zS nS) 54), (BX b3 (pkP 0 0 zS nS) 54), (BX b2 (pkP kind num ref ks) 54), (BX b1 [fv, .func (.func gr) ⟨frs⟩ ⟨crs⟩] 141)]) rfl ?_
 show JL _ _ _ [_] _ _ _
 refine JLr (Zd 0 (vs := pkP kind num (rf ref) nS) (l := pkP kind num (rf ref) nS) ZQ rfl rfl rfl rfl rfl (pkP_ok rfl) (pkP_s ..) <| Zb <| Zc <| Zc <| Za <| JLq (pp b2 34) (Yv rfl rfl) <| JLr (Ze ty52 rfl (At.bx 2 rfl) (YG ..) ?_))
 obtain ⟨a6, cap6, hv6⟩ := hks.sl
 have hle6 := hks.le
 refine JLn (Pu.lenSl Tryz.runUnderlying52 hv6) <| JLM rfl <| Zb <| Zo <| ZT (fun k ρ M => ∃ (j : Nat) (v : Value) (es : List (List Value)) (k1 k2 : Zf), ρ 2 = pp b1 0 ∧ ρ 4 = pp b3 0 ∧ ρ 5 = pp b5 0 ∧ ρ 19 = ks ∧ ρ 20 = iv ((kids.length : Int)) ∧ ρ 21 = iv ((j : Int)) ∧ Sub [(BX b5 (pkP kind num (rf ref) v) 54), k1, k2, (BX b3 (pkP 0 0 zS nS) 54), (BX b1 [fv, .func (.func gr) ⟨frs⟩ ⟨crs⟩] 141)] M ∧ j ≤ kids.length ∧ Own 54 35 v es k1 ∧ OPs (mapPs rf (kids.take j)) es k2 ∧ k = kids.length - j) _ ⟨0, _, [], [], [], rfl, rfl, rfl, rfl, rfl, rfl, (Sk (Sub.emp (Sub.emp (Sk (Sd (Sk Sub.nil)))))), Nat.zero_le _, Own.nil, OPs.nil, rfl⟩ ?_
 rintro _ ρ7 _ ⟨j, v, es, k1, k2, e8, e9, e10, e11, e12, e13, hm14, hj, ho, hop, rfl⟩
 obtain ⟨ρ15, rfl⟩ := Zn (uc e8 (uc e9 (uc e10 (uc e11 (uc e12 (uc e13 un))))))
 clear e8 e9 e10 e11 e12 e13
 refine ZS hm14 ?_
 have hlen := hks.le
 refine Zc <| Za <| JLn (Pu.lss rfl rfl) <| Zb <| Zc <| Zg rfl (fun h16 => ?_) (fun h16 => ?_)
 ·replace h16 := dt h16
  have h16n : j < kids.length := by omega
  have hel := OPs_len hop
  rw [mapPs_len, List.length_take] at hel
  have hs1 := sizePs_mem _ (List.getElem_mem h16n)
  refine Zm <| Zc <| Zo <| Zc <| Za ?_
  obtain ⟨b17, o17, cap17, row17, T17, fr17, cs17, hv17, hb17, hs17, hE17⟩ := hks.get j (by first | assumption | omega | decide | simp)
  refine JLq (pp b17 (o17 + j * 35)) (Pu.idx j Tryz.runUnderlying52 ZQ hv17 rfl rfl (by first | assumption | omega | decide | simp)) <| JLr (Zi ZQ rfl (At.im hb17) hs17 <| JLr (Zh (l := pkP 0 0 zS nS) Tryz.zeroValue54 rfl fun b18 => JLr (Zd 0 (vs := cs17) (l := cs17) ZQ rfl rfl rfl rfl (ZA hE17) (RP_ok hE17) (Zy (n := 35) rfl (ZA hE17)) <| Zb <| ZL mixed #[0, 1, 0, 0, 12, 28, 63, 127, 255] 6 [some 25, some 26, some 27, some 28, some 29, some 30] [] [(4, fun _ _ vw qw => ∃ cs k, vw = .agg ⟨cs⟩ ∧ qw = [k] ∧ OP (mapP rf (kids[j])) cs k), (5, fun r _ vw qw => ∃ b k, vw = .slice (some ⟨b, 0, none⟩) 1 1 ∧ qw = [k] ∧ Own 54 35 (.slice (some ⟨b, 0, none⟩) 1 1) [(cel (r 4))] k ∧ k = (BX b (List.flatten [(cel (r 4))]) 54))] rfl (by kernel_rfl) rfl (by kernel_rfl) <| Dq (pp b5 34) (fun _ => Yv rfl rfl) <| Dl1 ty52 (At.bx 1 rfl) (YG ..) <| Dl ty141 (At.bx 5 rfl) rfl <| Dl ZQ (At.bx 0 rfl) (Zu (ZA hE17)) ?_)))
  refine Dc rfl Tryz.call109 (fun _ => rfl) (fun hin => ih _ (List.getElem_mem h16n) _ _ (RP.mono (Hle.hu _ _) hE17) (fun s h hh => hgr s h (Hle.trans (Hle.hu _ _) hh)) (by omega)) ?_
  rintro _ _ ⟨cs21, k21, rfl, rfl, hO21⟩
  refine Dr rfl (fun _ => Zq (vs := [.agg ⟨cs21⟩]) [cs21] Tryz.runUnderlying52 el54 rfl rfl (by intro e he; simp only [List.mem_cons, List.not_mem_nil, or_false] at he; subst he; exact hO21.len) rfl (by decide) fun b k h1 h2 => ⟨[k], by rw [Yi rfl]; exact Sub.refl, b, k, rfl, rfl, h1, h2⟩) (fun _ _ ⟨b22, k22, e1, e2, ho22, hk22⟩ => ?_); subst e1 e2
  refine ZZ (M' := [k22, k21, (BX b18 cs17 54), (BX b5 (pkP kind num (rf ref) v) 54), k1, k2, (BX b3 (pkP 0 0 zS nS) 54), (BX b1 [fv, .func (.func gr) ⟨frs⟩ ⟨crs⟩] 141)]) rfl ?_
  show JL _ _ _ [_, _, _] _ _ _
  have hlens23 : ∀ e ∈ ([cs21] : List (List Value)), List.length e = 35 := by
   intro e he; simp only [List.mem_cons, List.not_mem_nil, or_false] at he
   rcases he with rfl
   ·exact hO21.len
  have hoks23 : ∀ e ∈ ([cs21] : List (List Value)), okc e := by
   intro e he; simp only [List.mem_cons, List.not_mem_nil, or_false] at he
   rcases he with rfl
   ·exact hO21.ok
  refine JLr (ZJ (i := 4) (n := 1) (es' := [cs21]) Tryz.runUnderlying52 Tryz.runUnderlying52 (Or.inl rfl) el54 rfl rfl rfl ho (fun F w m => Src.row (((At.k 0 rfl (by rw [hk22]; exact List.mem_cons_self))).heap m) (Zu (Zx hlens23))) rfl hlens23 hoks23 (by decide) (by omega) fun v23 k23 ho23 => JLq (pp b5 34) (Yv rfl rfl) <| JLr (Zd 3 (vs := [v23]) (l := pkP kind num (rf ref) v23) ty52 rfl rfl rfl (ZE ho23.one) rfl (Zj ho23.one Zt) (pkP_s34 ..) <| Zb <| Za <| JLn (Pu.inc rfl rfl (by omega)) <| JLM rfl <| Zb <| ⟨_, ?_, (j + 1), v23, (es ++ [cs21]), k23, (k2 ++ k21), rfl, rfl, rfl, rfl, rfl, rfl, (Sd (Sub.cons 2 rfl (Sub.cons 2 rfl (Sub.join (Sub.cons 2 rfl (Sk (Sd (Sk (Sk Sub.nil))))))))), ?_, ?_, ?_, rfl⟩))
  ·omega
  ·omega
  ·assumption
  rw [mapPs_take rf kids j h16n]; exact OPs.snoc hO21 hop
 replace h16 := df h16
 have h16n : kids.length ≤ j := by omega
 refine ZB _ rfl <| Zc <| Za <| JLr (Zi ZQ rfl (At.bx 0 rfl) (pkP_a ..) <| JLr (Zd 3 (vs := pkP kind num (rf ref) v) (l := pkP kind num (rf ref) v) ZQ rfl rfl rfl rfl rfl (pkP_ok ho.one) (pkP_s ..) <| Zb <| Zl <| ⟨.agg ⟨pkP kind num (rf ref) v⟩, [k1 ++ k2], Ret.one rfl (RV.cell ZQ rfl (At.bx 3 rfl) (pkP_a ..)), (Sub.join (Sd (Sk (Sk Sub.nil)))), ?_⟩))
 rw [List.take_of_length_le h16n] at hop
 exact ⟨_, _, rfl, rfl, by rw [mapP]; exact OP_mk.2 ⟨v, es, k1, k2, rfl, hk, hn, ho, hop, rfl, by rw [mapPs_len]; exact hks.le⟩⟩
end Go.Proofs.YtfdeibbpfgolcaaGreat.Hs
/-! Walks, printed by a program of this session's own (gen.py). -/
namespace Go.Proofs.YtfdeibbpfgolcaaGreat.Hs
open Go Go.Proofs
set_option maxRecDepth 100000
set_option linter.unusedVariables false
set_option linter.unusedSimpArgs false
attribute [local irreducible] JL J CT wlo DT
set_option maxHeartbeats 1000000 in
theorem mapTerm_ct : ∀ (gr : Nat) (frs crs : List Value) (hcallr : ∀ args w, (callFunc gr args).run Tryz.prog w = .ok (.enter gr args) w) (rf : Sm → Sm) (gv : Nat) (fvs cvs : List Value) (hcallv : ∀ args w, (callFunc gv args).run Tryz.prog w = .ok (.enter gv args) w) (σ : Type) (Sc : σ → Zf) (Inv : σ → Prop) (vf : Int → Int → σ → Tm × σ) (hI : ∀ n b s, Inv s → Inv (vf n b s).2) (t : Tm) (b : Int) (s : σ) (cs : List Value) (H : Heap), RT H cs t → sizeT t ≤ 1000000 → vOK t → 0 ≤ b → b + 2 * sizeT t ≤ 2000000 → Inv s → (∀ s h, Hle H h → CT Tryz.prog gr ⟨frs ++ [.agg ⟨sC s⟩] ++ crs⟩ [] h (fun v N => v = .agg ⟨sC (rf s)⟩ ∧ N = [])) → (∀ (n b : Int) (s : σ) (h : Heap), Hle H h → Inv s → 0 ≤ n → n ≤ 2000000 → 0 ≤ b → b ≤ 2000000 → CT Tryz.prog gv ⟨fvs ++ [iv n, iv b] ++ cvs⟩ [Sc s] h (fun v N => ∃ cs k, v = .agg ⟨cs⟩ ∧ N = [k, Sc (vf n b s).2] ∧ OT (vf n b s).1 cs k)) → CT Tryz.prog 84 ⟨[.agg ⟨[.func (.func gv) ⟨fvs⟩ ⟨cvs⟩, .func (.func gr) ⟨frs⟩ ⟨crs⟩]⟩, .agg ⟨cs⟩, iv b]⟩ [Sc s] H (fun v N => ∃ cs k, v = .agg ⟨cs⟩ ∧ N = [k, Sc (Yz rf vf b t s).2] ∧ OT (Yz rf vf b t s).1 cs k) := by
 intro gr frs crs hcallr rf gv fvs cvs hcallv σ Sc Inv vf hI t
 induction t using Tm.ind with
 | h kind num ref kids cases ih ih' =>
 intro b s cs H ht hz hv hb0 hb hs hgr hgv
 rw [sizeT] at hz hb
 rw [vOK] at hv
 have hv1 : ¬ kind = 1 ∨ (0 ≤ num ∧ num ≤ 2000000) := by by_cases h : kind = 1; exact .inr (hv.1 h); exact .inl h
 have hlk := len_sizeTs kids
 have hlc := len_sizeCs cases
 obtain ⟨ks, cv, rfl, hk, hn, hks, hcv⟩ := RT_mk.1 ht
 have hn1 : -9223372036854775808 ≤ num := hn.1
 have hn2 : num ≤ 9223372036854775807 := hn.2
 refine Zk Tryz.func84 rfl rfl <| Zc <| Za <| JLr (Zp (l := [.func (.func gv) ⟨fvs⟩ ⟨cvs⟩, .func (.func gr) ⟨frs⟩ ⟨crs⟩]) rfl rfl fun b1 => JLr (Zp (l := pkT kind num ref ks cv) rfl rfl fun b2 => JLr (Zh (l := pkT 0 0 zS nS nS) Tryz.zeroValue27 rfl fun b3 => Zb <| Zc <| Zc <| Za <| JLq (pp b2 0) (ZO rfl rfl) <| JLr (Ze ty3 rfl (At.bx 1 rfl) (Z5 ..) <| JLn (Pu.eql rfl rfl) ?_))))
 refine JLM rfl <| ZC 4 [16, 17, 18, 19] [(19, cond (decide (kind = 1)) (.bool (decide (b ≤ num))) undef)] ?_ fun f5 => ?_
 ·cases h4 : (decide (kind = 1)) with
  | true =>
   replace h4 := dt h4
   refine JLq (pp b2 1) (Yq rfl rfl) <| JLr (Ze ty3 rfl (At.bx 1 rfl) (YY ..) <| JLM rfl <| JLn (Pu.geq rfl rfl) ?_)
   exact Zb ⟨⟨rfl, trivial⟩, rfl⟩
  | false =>
   exact ZP rfl ⟨rfl, trivial⟩
 refine JLn (Pu.pickAnd rfl rfl rfl) <| Zb <| Zg rfl (fun h6 => ?_) (fun h6 => ?_)
 ·obtain ⟨h6a, h6b⟩ := YW h6
  replace h6a := dt h6a
  replace h6b := dt h6b
  refine Zc <| Za <| JLq (pp b1 0) (fa141_0 rfl rfl) <| JLr (Ze ty139 rfl (At.bx 2 rfl) rfl <| JLq (pp b2 1) (Yq rfl rfl) <| JLr (Ze ty3 rfl (At.bx 1 rfl) (YY ..) <| JLM rfl <| JLn (Pu.sub64 rfl rfl (by first | omega | (constructor <;> omega))) <| JLM rfl <| Zr 3 rfl hcallv rfl rfl (fun hin => hgv _ _ _ _ (Hle.hu _ _) hs (by omega) (by omega) (by omega) (by omega)) rfl ?_))
  rintro _ _ ⟨cs7, k7, rfl, rfl, hO7⟩
  refine JLr (Zd 2 (vs := cs7) (l := cs7) Zs rfl rfl rfl rfl hO7.len hO7.ok (Zy (n := 36) rfl hO7.len) <| Zb <| Zl <| ⟨.agg ⟨cs7⟩, [k7, Sc ((vf (num - b) b s).2)], Ret.one rfl (RV.cell Zs rfl (At.bx 2 rfl) (Zu hO7.len)), (Sk (Sk Sub.nil)), ?_⟩)
  have hx : kind = 1 ∧ b ≤ num := ⟨h6a, h6b⟩
  exact ⟨_, _, rfl, by rw [Yz, if_pos hx], by rw [Yz, if_pos hx]; exact hO7⟩
 refine Zm <| Zc <| ZL mixed #[0, 1, 0, 4, 0, 16, 0, 64, 240, 511, 0, 2047] 11 [some 29, some 30, some 31, some 32, some 33, some 34, some 35, some 36, some 37, some 38, some 7] [] [(8, fun _ _ vw qw => vw = .agg ⟨sC (rf ref)⟩ ∧ qw = []), (10, newP 27 (pkT 0 0 zS nS nS))] rfl (by kernel_rfl) rfl (by kernel_rfl) <| Dq (pp b2 0) (fun _ => ZO rfl rfl) <| Dl1 ty3 (At.bx 1 rfl) (Z5 ..) <| Dq (pp b2 1) (fun _ => Yq rfl rfl) <| Dl1 ty3 (At.bx 1 rfl) (YY ..) <| Dq (pp b1 1) (fun _ => fa141_1 rfl rfl) <| Dl1 ty112 (At.bx 2 rfl) rfl <| Dq (pp b2 2) (fun _ => fa27_2 rfl rfl) <| Dl Z3 (At.bx 1 rfl) (pkT_2 ..) <| Dc rfl hcallr (fun _ => rfl) (fun hin => hgr _ _ (Hle.hu _ _)) ?_
 rintro _ _ ⟨rfl, rfl⟩
 refine Dq (.agg ⟨pkT kind num (rf ref) nS nS⟩) (fun _ => Pu.build (pv := [(0, iv kind), (1, iv num), (2, .agg ⟨sC (rf ref)⟩)]) (l := pkT kind num (rf ref) nS nS) rfl (bld27_0_1_2 _ _ _)) <| Da Tryz.zeroValue27 rfl fun b9 => ZZ (M' := [(BX b9 (pkT 0 0 zS nS nS) 27), (BX b3 (pkT 0 0 zS nS nS) 27), (BX b2 (pkT kind num ref ks cv) 27), (BX b1 [.func (.func gv) ⟨fvs⟩ ⟨cvs⟩, .func (.func gr) ⟨frs⟩ ⟨crs⟩] 141), Sc s]) rfl ?_
 show JL _ _ _ [_] _ _ _
 refine JLr (Zd 0 (vs := pkT kind num (rf ref) nS nS) (l := pkT kind num (rf ref) nS nS) Zs rfl rfl rfl rfl rfl (Zz rfl rfl) (Z4 ..) <| Zb <| Zc <| Za <| JLq (pp b2 34) (Yb rfl rfl) <| JLr (Ze ty24 rfl (At.bx 2 rfl) (Z9 ..) ?_))
 obtain ⟨a10, cap10, hv10⟩ := hks.sl
 have hle10 := hks.le
 refine JLn (Pu.lenSl Tryz.runUnderlying24 hv10) <| JLr (Runs_makeO (kids.length) Tryz.runUnderlying24 el27 rfl rfl rfl rfl (by omega) (by omega) fun v11 k11 ho11 => JLq (pp b9 34) (Yb rfl rfl) <| JLr (Zd 1 (vs := [v11]) (l := pkT kind num (rf ref) v11 nS) ty24 rfl rfl rfl (ZE ho11.one) rfl (Zj ho11.one Zt) (pkT_s34 ..) <| Zb <| Zc <| Za <| JLq (pp b9 34) (Yb rfl rfl) <| JLr (Ze ty24 rfl (At.bx 1 rfl) (Z9 ..) <| JLq (pp b2 34) (Yb rfl rfl) <| JLr (Ze ty24 rfl (At.bx 3 rfl) (Z9 ..) ?_))))
 obtain ⟨es12, he12, hH12, hl12, hok12, hsr12⟩ := kids_src (P := Tryz.prog) hks
 refine JLr (Runs_copy (i := 0) (n := kids.length) (m := kids.length) (es' := es12) Tryz.runUnderlying24 el27 rfl rfl rfl ho11 (fun F w m => hsr12 w _ m) he12 (by simp) hl12 hok12 rfl fun kc12 hc12 => Zb <| Zc <| Zc <| Za <| JLq (pp b9 34) (Yb rfl rfl) <| JLr (Ze ty24 rfl (At.bx 1 rfl) (Z9 ..) ?_))
 obtain ⟨a13, cap13, hv13⟩ := hc12.sl
 rw [he12] at hv13
 refine JLn (Pu.lenSl Tryz.runUnderlying24 hv13) <| JLM rfl <| Zb <| Zo ?_
 have hneg : ¬ (kind = 1 ∧ b ≤ num) := by intro hh; simp [hh.1, hh.2] at h6
 refine ZT (fun k ρ M => ∃ (j : Nat) (es : List (List Value)) (k1 k2 : Zf) (s1 : σ), ρ 2 = iv b ∧ ρ 3 = pp b1 0 ∧ ρ 4 = pp b2 0 ∧ ρ 6 = pp b3 0 ∧ ρ 7 = pp b9 0 ∧ ρ 50 = v11 ∧ ρ 51 = iv ((kids.length : Int)) ∧ ρ 52 = iv ((j : Int)) ∧ Sub [(BX b9 (pkT kind num (rf ref) v11 nS) 27), k1, k2, Sc s1, (BX b3 (pkT 0 0 zS nS nS) 27), (BX b2 (pkT kind num ref ks cv) 27), (BX b1 [.func (.func gv) ⟨fvs⟩ ⟨cvs⟩, .func (.func gr) ⟨frs⟩ ⟨crs⟩] 141)] M ∧ j ≤ kids.length ∧ Own 27 36 v11 es k1 ∧ Half H kids (Yp rf vf b kind 0 (kids.take j) s).1 j es k2 ∧ Inv s1 ∧ (Yp rf vf b kind 0 (kids.take j) s).2 = s1 ∧ k = kids.length - j) _ ⟨0, es12, kc12, [], s, rfl, rfl, rfl, rfl, rfl, rfl, rfl, rfl, (Sub.cons 1 rfl (Sk (Sub.emp (Sub.cons 3 rfl (Sk (Sk (Sk Sub.nil))))))), Nat.zero_le _, hc12, hH12, hs, rfl, rfl⟩ ?_
 rintro _ ρ14 _ ⟨j, es, k1, k2, s1, e15, e16, e17, e18, e19, e20, e21, e22, hm23, hj, ho, hH, hs1, hsq, rfl⟩
 obtain ⟨ρ24, rfl⟩ := Zn (uc e15 (uc e16 (uc e17 (uc e18 (uc e19 (uc e20 (uc e21 (uc e22 un))))))))
 clear e15 e16 e17 e18 e19 e20 e21 e22
 refine ZS hm23 <| Zc <| Za <| JLn (Pu.lss rfl rfl) <| Zb <| Zc <| Zg rfl (fun h25 => ?_) (fun h25 => ?_)
 ·replace h25 := dt h25
  have h25n : j < kids.length := by omega
  have hz1 := sizeTs_mem _ (List.getElem_mem h25n)
  have hm1 := more_le kind j
  refine Zm <| Zc <| Zo <| Zc <| Za <| JLM rfl ?_
  obtain ⟨b26, cap26, row26, e26, hv26, hm26, hs26, hE26⟩ := hH.at ho h25n
  refine JLq (pp b26 (0 + j * 36)) (Pu.idx j Tryz.runUnderlying24 Zs hv26 rfl rfl (by rw [hH.1]; exact h25n)) <| JLr (Zi Zs rfl (At.k 1 rfl hm26) hs26 <| JLr (Zh (l := pkT 0 0 zS nS nS) Tryz.zeroValue27 rfl fun b27 => JLA rfl <| JLr (Zd 0 (vs := e26) (l := e26) Zs rfl rfl rfl rfl (Zv hE26) (Y5 hE26) (Zy (n := 36) rfl (Zv hE26)) <| Zb <| ZL mixed #[0, 1, 0, 0, 0, 0, 0, 64, 0, 448, 992, 2040, 4095, 8191] 12 [some 57, some 58, some 59, some 60, some 61, some 62, some 63, some 64, some 65, some 66, some 67, some 68] [(11, 16)] [(9, fun _ _ vw qw => vw = iv (more kind ((j : Int))) ∧ qw = []), (11, fun _ _ vw qw => ∃ cs k, vw = .agg ⟨cs⟩ ∧ qw = [k, Sc ((Yz rf vf (b + (more kind ((j : Int)))) (kids[j]) s1).2)] ∧ OT ((Yz rf vf (b + (more kind ((j : Int)))) (kids[j]) s1).1) cs k)] rfl (by kernel_rfl) rfl (by kernel_rfl) <| Dq (pp b9 34) (fun _ => Yb rfl rfl) <| Dl1 ty24 (At.bx 1 rfl) (Z9 ..) <| DM (fun _ => rfl) <| Dl ty141 (At.bx 7 rfl) rfl <| Dl Zs (At.bx 0 rfl) (Zu (Zv hE26)) <| DM (fun _ => rfl) ?_)))
  refine Dq (pp b2 0) (fun _ => ZO rfl rfl) <| Dl1 ty3 (At.bx 6 rfl) (Z5 ..) <| DM (fun _ => rfl) <| Dc rfl Tryz.call96 (fun _ => rfl) (fun hin => more_ct _ _ _) ?_
  rintro _ _ ⟨rfl, rfl⟩
  refine Dn (fun _ => Pu.add64 rfl rfl (by first | omega | (constructor <;> omega))) ?_
  refine DJ_call1 4 rfl rfl (fun _ => rfl) Tryz.call84 (fun _ => rfl) rfl (fun hin => ih _ (List.getElem_mem h25n) _ _ _ _ (RT.mono (Hle.hu _ _) hE26) (by omega) (vOKs_mem hv.2.1 _ (List.getElem_mem h25n)) (by omega) (by omega) hs1 (fun s h hh => hgr s h (Hle.trans (Hle.hu _ _) hh)) (fun n b s h hh => hgv n b s h (Hle.trans (Hle.hu _ _) hh))) (fun _ => rfl) ?_
  rintro _ _ ⟨cs29, k29, rfl, rfl, hO29⟩
  refine ZZ (M' := [k29, Sc ((Yz rf vf (b + (more kind ((j : Int)))) (kids[j]) s1).2), (BX b27 e26 27), (BX b9 (pkT kind num (rf ref) v11 nS) 27), k1, k2, (BX b3 (pkT 0 0 zS nS nS) 27), (BX b2 (pkT kind num ref ks cv) 27), (BX b1 [.func (.func gv) ⟨fvs⟩ ⟨cvs⟩, .func (.func gr) ⟨frs⟩ ⟨crs⟩] 141)]) rfl ?_
  show JL _ _ _ [_, _] _ _ _
  obtain ⟨b30, cap30, row30, e30, hv30, hm30, hs30, hE30⟩ := hH.at ho h25n
  refine JLq (pp b30 (0 + j * 36)) (Pu.idx j Tryz.runUnderlying24 Zs hv30 rfl rfl (by rw [hH.1]; exact h25n)) <| JLr (Runs_storeOwn (i := 4) (j := j) (b := b30) Zs rfl ho ⟨_, _, hv30⟩ rfl (by rw [hH.1]; exact h25n) rfl rfl hO29.len hO29.ok fun k31 ho31 => Zb <| Za <| JLn (Pu.inc rfl rfl (by omega)) <| JLM rfl <| Zb <| ⟨_, ?_, (j + 1), (es.set j cs29), k31, (k2 ++ k29), ((Yz rf vf (b + (more kind ((j : Int)))) (kids[j]) s1).2), rfl, rfl, rfl, rfl, rfl, rfl, rfl, rfl, (Sub.cons 3 rfl (Sub.cons 3 rfl (Sub.join (Sub.cons 3 rfl (Sk (Sk (Sd (Sk (Sk (Sk Sub.nil)))))))))), ?_, ?_, ?_, ?_, ?_, rfl⟩)
  ·omega
  ·omega
  ·exact ho31
  ·rw [mapTs_take0 rf vf b kind kids j s h25n, hsq]; exact hH.step h25n hO29
  ·exact mapT_inv hI _ _ _ hs1
  rw [mapTs_take0 rf vf b kind kids j s h25n, hsq]
 replace h25 := df h25
 have h25n : kids.length ≤ j := by omega
 refine ZB _ rfl <| Zc <| Zc <| Za <| JLq (pp b2 35) (Yw rfl rfl) <| JLr (Ze ty25 rfl (At.bx 5 rfl) (Yj ..) ?_)
 obtain ⟨a32, cap32, hv32⟩ := hcv.sl
 have hle32 := hcv.le
 refine JLn (Pu.lenSl Tryz.runUnderlying25 hv32) <| JLM rfl <| Zb <| Zo ?_
 have hjk := h25n
 rw [List.take_of_length_le hjk] at hsq hH
 refine ZT (fun k ρ M => ∃ (j : Nat) (w : Value) (es2 : List (List Value)) (k3 k4 : Zf) (s2 : σ), ρ 2 = iv b ∧ ρ 3 = pp b1 0 ∧ ρ 6 = pp b3 0 ∧ ρ 7 = pp b9 0 ∧ ρ 72 = cv ∧ ρ 73 = iv ((cases.length : Int)) ∧ ρ 74 = iv ((j : Int)) ∧ Sub [(BX b9 (pkT kind num (rf ref) v11 w) 27), k3, k4, Sc s2, k1, k2, (BX b3 (pkT 0 0 zS nS nS) 27), (BX b2 (pkT kind num ref ks cv) 27), (BX b1 [.func (.func gv) ⟨fvs⟩ ⟨cvs⟩, .func (.func gr) ⟨frs⟩ ⟨crs⟩] 141)] M ∧ j ≤ cases.length ∧ Own 56 71 w es2 k3 ∧ OCs (YM rf vf b (cases.take j) s1).1 es2 k4 ∧ Inv s2 ∧ (YM rf vf b (cases.take j) s1).2 = s2 ∧ k = cases.length - j) _ ⟨0, nS, [], [], [], s1, rfl, rfl, rfl, rfl, rfl, rfl, rfl, (Sk (Sub.emp (Sub.emp (Sub.cons 2 rfl (Sk (Sk (Sk (Sk (Sk Sub.nil))))))))), Nat.zero_le _, Own.nil, OCs.nil, hs1, rfl, rfl⟩ ?_
 rintro _ ρ33 _ ⟨j, w, es2, k3, k4, s2, e34, e35, e36, e37, e38, e39, e40, hm41, hj, how, hopw, hs2, hsq2, rfl⟩
 obtain ⟨ρ42, rfl⟩ := Zn (uc e34 (uc e35 (uc e36 (uc e37 (uc e38 (uc e39 (uc e40 un)))))))
 clear e34 e35 e36 e37 e38 e39 e40
 refine ZS hm41 <| Zc <| Za <| JLn (Pu.lss rfl rfl) <| Zb <| Zc <| Zg rfl (fun h43 => ?_) (fun h43 => ?_)
 ·replace h43 := dt h43
  have h43n : j < cases.length := by omega
  have helw := OCs_len hopw
  rw [mapCs_len, List.length_take] at helw
  have hz1 := sizeCs_mem _ (List.getElem_mem h43n)
  have hm1 := binds_le (cases[j]).1
  refine Zm <| Zc <| Zo <| Zc <| Za ?_
  obtain ⟨b44, o44, cap44, row44, T44, fr44, cs44, hv44, hb44, hs44, hE44⟩ := hcv.get j (by first | assumption | omega | decide | simp)
  obtain ⟨ca44, cb44, rfl, hA44, hB44⟩ := hE44
  refine JLq (pp b44 (o44 + j * 71)) (Pu.idx j Tryz.runUnderlying25 YR hv44 rfl rfl (by first | assumption | omega | decide | simp)) <| JLr (Zi YR rfl (At.im hb44) hs44 <| JLr (Zh (l := (pkP 0 0 zS nS) ++ (pkT 0 0 zS nS nS)) Tryz.zeroValue56 rfl fun b45 => JLr (Zd 0 (vs := ca44 ++ cb44) (l := ca44 ++ cb44) YR rfl rfl rfl rfl (ZR (ZA hA44) (Zv hB44)) (Z2 (RP_ok hA44) (Y5 hB44)) (Zy (n := 71) rfl (ZR (ZA hA44) (Zv hB44))) <| Zb <| ZL mixed #[0, 1, 0, 0, 8, 28, 0, 0, 128, 0, 0, 1024, 3132, 7740, 16380, 32764, 65532, 131071, 262143, 524287] 17 [some 78, some 79, some 80, some 81, some 82, some 83, some 84, some 85, some 86, some 87, some 88, some 89, some 90, some 91, some 92, some 93, some 94] [(14, 21)] [(5, fun _ _ vw qw => ∃ cs k, vw = .agg ⟨cs⟩ ∧ qw = [k] ∧ OP (mapP rf (cases[j].1)) cs k), (12, fun _ _ vw qw => vw = iv ((binds (cases[j].1) : Int)) ∧ qw = []), (14, fun _ _ vw qw => ∃ cs k, vw = .agg ⟨cs⟩ ∧ qw = [k, Sc ((Yz rf vf (b + ((binds (cases[j].1) : Int))) (cases[j].2) s2).2)] ∧ OT ((Yz rf vf (b + ((binds (cases[j].1) : Int))) (cases[j].2) s2).1) cs k), (16, fun r _ vw qw => ∃ b k, vw = .slice (some ⟨b, 0, none⟩) 1 1 ∧ qw = [k] ∧ Own 56 71 (.slice (some ⟨b, 0, none⟩) 1 1) [((cel (r 5))) ++ ((cel (r 14)))] k ∧ k = (BX b (List.flatten [((cel (r 5))) ++ ((cel (r 14)))]) 56))] rfl (by kernel_rfl) rfl (by kernel_rfl) <| Dq (pp b9 35) (fun _ => Yw rfl rfl) <| Dl1 ty25 (At.bx 1 rfl) (Yj ..) <| Dl ty141 (At.bx 9 rfl) rfl <| Dq (pp b45 0) (fun _ => fa56_0 rfl rfl) <| Dl ZQ (At.bx 0 rfl) (sub_l (ZA hA44)) ?_)))
  refine Dc rfl Tryz.call109 (fun _ => rfl) (fun hin => mapPattern_ct gr frs crs hcallr rf _ rfl _ _ _ (RP.mono (Hle.hu _ _) hA44) (fun s h hh => hgr s h (Hle.trans (Hle.hu _ _) hh)) (by omega)) ?_
  rintro _ _ ⟨cs49, k49, rfl, rfl, hO49⟩
  refine Dl ty141 (At.bx 9 rfl) rfl <| Dq (pp b45 35) (fun _ => fa56_1 rfl rfl) <| Dl Zs (At.bx 0 rfl) (sub_r (ZA hA44) (Zv hB44)) <| DM (fun _ => rfl) <| Dq (pp b45 0) (fun _ => fa56_0 rfl rfl) <| Dl ZQ (At.bx 0 rfl) (sub_l (ZA hA44)) ?_
  refine Dc rfl Tryz.call97 (fun _ => rfl) (fun hin => binds_ct _ _ _ (RP.mono (Hle.hu _ _) hA44) (by omega)) ?_
  rintro _ _ ⟨rfl, rfl⟩
  refine Dn (fun _ => Pu.add64 rfl rfl (by first | omega | (constructor <;> omega))) ?_
  refine DJ_call1 5 rfl rfl (fun _ => rfl) Tryz.call84 (fun _ => rfl) rfl (fun hin => ih' _ (List.getElem_mem h43n) _ _ _ _ (RT.mono (Hle.hu _ _) hB44) (by omega) (vOKc_mem hv.2.2 _ (List.getElem_mem h43n)) (by omega) (by omega) hs2 (fun s h hh => hgr s h (Hle.trans (Hle.hu _ _) hh)) (fun n b s h hh => hgv n b s h (Hle.trans (Hle.hu _ _) hh))) (fun _ => rfl) ?_
  rintro _ _ ⟨cs50, k50, rfl, rfl, hO50⟩
  refine Dq (.agg ⟨cs49 ++ cs50⟩) (fun _ => Pu.build (pv := [(0, .agg ⟨cs49⟩), (1, .agg ⟨cs50⟩)]) (l := cs49 ++ cs50) rfl (bld56_0_1 hO49.len hO50.len)) <| Dr rfl (fun _ => Zq (vs := [.agg ⟨cs49 ++ cs50⟩]) [cs49 ++ cs50] Tryz.runUnderlying25 el56 rfl rfl (by intro e he; simp only [List.mem_cons, List.not_mem_nil, or_false] at he; subst he; exact (ZR hO49.len hO50.len)) rfl (by decide) fun b k h1 h2 => ⟨[k], by rw [Yi rfl]; exact Sub.refl, b, k, rfl, rfl, h1, h2⟩) (fun _ _ ⟨b51, k51, e1, e2, ho51, hk51⟩ => ?_); subst e1 e2
  refine ZZ (M' := [k51, k50, Sc ((Yz rf vf (b + ((binds (cases[j].1) : Int))) (cases[j].2) s2).2), k49, (BX b45 (ca44 ++ cb44) 56), (BX b9 (pkT kind num (rf ref) v11 w) 27), k3, k4, k1, k2, (BX b3 (pkT 0 0 zS nS nS) 27), (BX b2 (pkT kind num ref ks cv) 27), (BX b1 [.func (.func gv) ⟨fvs⟩ ⟨cvs⟩, .func (.func gr) ⟨frs⟩ ⟨crs⟩] 141)]) rfl ?_
  show JL _ _ _ [_, _, _] _ _ _
  have hlens52 : ∀ e ∈ ([cs49 ++ cs50] : List (List Value)), List.length e = 71 := by
   intro e he; simp only [List.mem_cons, List.not_mem_nil, or_false] at he
   rcases he with rfl
   ·exact (ZR hO49.len hO50.len)
  have hoks52 : ∀ e ∈ ([cs49 ++ cs50] : List (List Value)), okc e := by
   intro e he; simp only [List.mem_cons, List.not_mem_nil, or_false] at he
   rcases he with rfl
   ·exact (Z2 hO49.ok hO50.ok)
  refine JLr (ZJ (i := 6) (n := 1) (es' := [cs49 ++ cs50]) Tryz.runUnderlying25 Tryz.runUnderlying25 (Or.inl rfl) el56 rfl rfl rfl how (fun F w m => Src.row (((At.k 0 rfl (by rw [hk51]; exact List.mem_cons_self))).heap m) (Zu (Zx hlens52))) rfl hlens52 hoks52 (by decide) (by omega) fun v52 k52 ho52 => JLq (pp b9 35) (Yw rfl rfl) <| JLr (Zd 5 (vs := [v52]) (l := pkT kind num (rf ref) v11 v52) ty25 rfl rfl rfl (ZE ho52.one) rfl (Zj ho52.one Zt) (pkT_s35 ..) <| Zb <| Za <| JLn (Pu.inc rfl rfl (by omega)) <| JLM rfl <| Zb <| ⟨_, ?_, (j + 1), v52, (es2 ++ [cs49 ++ cs50]), k52, (k4 ++ (k49 ++ k50)), ((Yz rf vf (b + ((binds (cases[j].1) : Int))) (cases[j].2) s2).2), rfl, rfl, rfl, rfl, rfl, rfl, rfl, (Sd (Sub.cons 4 rfl (Sub.cons 4 rfl (Sub.join3 (Sub.cons 4 rfl (Sub.cons 2 rfl (Sk (Sk (Sd (Sk (Sk (Sk (Sk (Sk Sub.nil)))))))))))))), ?_, ?_, ?_, ?_, ?_, rfl⟩))
  ·omega
  ·omega
  ·exact ho52
  ·rw [mapCs_take rf vf b cases j s1 h43n, hsq2]; exact OCs.snoc hO49 hO50 hopw
  ·exact mapT_inv hI _ _ _ hs2
  rw [mapCs_take rf vf b cases j s1 h43n, hsq2]
 replace h43 := df h43
 have h43n : cases.length ≤ j := by omega
 refine ZB _ rfl <| Zc <| Za <| JLr (Zi Zs rfl (At.bx 0 rfl) (ZY ..) <| JLr (Zd 6 (vs := pkT kind num (rf ref) v11 w) (l := pkT kind num (rf ref) v11 w) Zs rfl rfl rfl rfl rfl (Zz ho.one how.one) (Z4 ..) <| Zb <| Zl <| ⟨.agg ⟨pkT kind num (rf ref) v11 w⟩, [k1 ++ (k2 ++ (k3 ++ k4)), Sc s2], Ret.one rfl (RV.cell Zs rfl (At.bx 6 rfl) (ZY ..)), (Sub.join4 (Sd (Sub.cons 3 rfl (Sub.cons 3 rfl (Sk (Sk (Sk Sub.nil))))))), ?_⟩))
 rw [List.take_of_length_le h43n] at hopw hsq2
 exact ⟨_, _, rfl, by rw [Yz, if_neg hneg, hsq, hsq2], by rw [Yz, if_neg hneg, hsq]; exact OT_mk.2 ⟨_, w, es, es2, k1, k2, k3, k4, rfl, hk, hn, ho, hH.done hjk, how, hopw, rfl, by rw [mapTs_len]; exact hks.le, by rw [mapCs_len]; exact hcv.le⟩⟩
end Go.Proofs.YtfdeibbpfgolcaaGreat.Hs
/-! The mapper without a state. -/
namespace Go.Proofs.YtfdeibbpfgolcaaGreat.Hs
open Go Go.Proofs
set_option maxRecDepth 100000

theorem CT.nils {P : Program} {f : FuncId} {a : Array Value} {H : Heap} {t : Tm} (h : CT P f a [] H (fun v N => ∃ cs k, v = .agg ⟨cs⟩ ∧ N = [k] ∧ OT t cs k)) :
    CT P f a [[]] H (fun v N => ∃ cs k, v = .agg ⟨cs⟩ ∧ N = [k, []] ∧ OT t cs k) := fun F w m => by
  refine (h F w (by simpa using m)).mono ?_
  rintro e w' ⟨v, N, h1, h2, cs, k, h3, h4, h5⟩
  subst h4
  exact ⟨v, [k, []], h1, by simpa using h2, cs, k, h3, rfl, h5⟩
theorem CT.unnils {P : Program} {f : FuncId} {a : Array Value} {H : Heap} {t : Tm} (h : CT P f a [[]] H (fun v N => ∃ cs k, v = .agg ⟨cs⟩ ∧ N = [k, []] ∧ OT t cs k)) :
    CT P f a [] H (fun v N => ∃ cs k, v = .agg ⟨cs⟩ ∧ N = [k] ∧ OT t cs k) := fun F w m => by
  refine (h F w (by simpa using m)).mono ?_
  rintro e w' ⟨v, N, h1, h2, cs, k, h3, h4, h5⟩
  subst h4
  exact ⟨v, [k], h1, by simpa using h2, cs, k, h3, rfl, h5⟩

theorem mapTermP_ct (gr : Nat) (frs crs : List Value) (hcallr : ∀ args w, (callFunc gr args).run Tryz.prog w = .ok (.enter gr args) w) (rf : Sm → Sm) (gv : Nat) (fvs cvs : List Value) (hcallv : ∀ args w, (callFunc gv args).run Tryz.prog w = .ok (.enter gv args) w)
    (vf : Int → Int → Tm) (t : Tm) (b : Int) (cs : List Value) (H : Heap) (ht : RT H cs t) (hz : sizeT t ≤ 1000000) (hv : vOK t) (hb0 : 0 ≤ b) (hb : b + 2 * sizeT t ≤ 2000000)
    (hgr : ∀ s h, Hle H h → CT Tryz.prog gr ⟨frs ++ [.agg ⟨sC s⟩] ++ crs⟩ [] h (fun v N => v = .agg ⟨sC (rf s)⟩ ∧ N = []))
    (hgv : ∀ (n b : Int) (h : Heap), Hle H h → 0 ≤ n → n ≤ 2000000 → 0 ≤ b → b ≤ 2000000 → CT Tryz.prog gv ⟨fvs ++ [.int .i64 n, .int .i64 b] ++ cvs⟩ [] h (fun v N => ∃ cs k, v = .agg ⟨cs⟩ ∧ N = [k] ∧ OT (vf n b) cs k)) :
    CT Tryz.prog 84 ⟨[.agg ⟨[.func (.func gv) ⟨fvs⟩ ⟨cvs⟩, .func (.func gr) ⟨frs⟩ ⟨crs⟩]⟩, .agg ⟨cs⟩, .int .i64 b]⟩ [] H (fun v N => ∃ cs k, v = .agg ⟨cs⟩ ∧ N = [k] ∧ OT (mapQ rf vf b t) cs k) :=
  CT.unnils (mapTerm_ct gr frs crs hcallr rf gv fvs cvs hcallv Unit (fun _ => []) (fun _ => True) (fun n b s => (vf n b, s)) (fun _ _ _ _ => trivial) t b () cs H ht hz hv hb0 hb trivial hgr
    (fun n b _ h hh _ h1 h2 h3 h4 => CT.nils (hgv n b h hh h1 h2 h3 h4)))
end Go.Proofs.YtfdeibbpfgolcaaGreat.Hs
/-! Walks, printed by a program of this session's own (gen.py). -/
namespace Go.Proofs.YtfdeibbpfgolcaaGreat.Hs
open Go Go.Proofs
set_option maxRecDepth 100000
set_option linter.unusedVariables false
set_option linter.unusedSimpArgs false
attribute [local irreducible] JL J CT wlo DT
theorem shiftedV_ct (n b dy fr : Int) (H : Heap) (bF bD : Nat) (hF : H bF = some (.cells ⟨[iv fr]⟩ 3 (0, 0))) (hD : H bD = some (.cells ⟨[iv dy]⟩ 3 (0, 0))) (hn0 : 0 ≤ n) (hn1 : n ≤ 2000000) (hb0 : 0 ≤ b) (hb1 : b ≤ 2000000) (hd0 : -2000000 ≤ dy) (hd1 : dy ≤ 2000000) : CT Tryz.prog 108 ⟨[iv n, iv b, pp bF 0, pp bD 0]⟩ [] H (fun v N => ∃ cs k, v = .agg ⟨cs⟩ ∧ N = [k] ∧ OT (shv dy fr n b) cs k) := by
 refine Zk Tryz.func108 rfl rfl <| Zc <| Za <| JLr (Zh (l := pkT 0 0 zS nS nS) Tryz.zeroValue27 rfl fun b1 => Zb <| Zc <| Zc <| Za <| JLM rfl <| JLr (Ze ty3 rfl (At.im hF) rfl <| JLn (Pu.geq rfl rfl) <| Zb <| Zg rfl (fun h2 => ?_) (fun h2 => ?_)))
 ·replace h2 := dt h2
  refine Za <| JLM rfl <| JLr (Ze ty3 rfl (At.im hD) rfl <| JLn (Pu.add64 rfl rfl (by first | omega | (constructor <;> omega))) <| JLA rfl <| Zb <| Zc <| Za <| JLM rfl <| JLM rfl <| Jc Tryz.call82 rfl (fun hin => stay_ct _ _ _ (by unfold inI; omega)) rfl ?_)
  rintro _ _ ⟨cs3, k3, rfl, rfl, hO3⟩
  refine JLr (Zd 1 (vs := cs3) (l := cs3) Zs rfl rfl rfl rfl hO3.len hO3.ok (Zy (n := 36) rfl hO3.len) <| Zb <| Zl <| ⟨.agg ⟨cs3⟩, [k3], Ret.one rfl (RV.cell Zs rfl (At.bx 1 rfl) (Zu hO3.len)), (Sk Sub.nil), ?_⟩)
  have hx : shv dy fr n b = .mk 1 (n + dy + b) zS [] [] := by first | rfl | (simp only [shv]; (repeat' split) <;> first | rfl | (exfalso; omega))
  exact ⟨_, _, rfl, rfl, by rw [hx]; exact hO3⟩
 replace h2 := df h2
 refine Zm <| Zc <| Za <| JLM rfl <| JLM rfl <| Jc Tryz.call82 rfl (fun hin => stay_ct _ _ _ (by unfold inI; omega)) rfl ?_
 rintro _ _ ⟨cs4, k4, rfl, rfl, hO4⟩
 refine JLr (Zd 1 (vs := cs4) (l := cs4) Zs rfl rfl rfl rfl hO4.len hO4.ok (Zy (n := 36) rfl hO4.len) <| Zb <| Zl <| ⟨.agg ⟨cs4⟩, [k4], Ret.one rfl (RV.cell Zs rfl (At.bx 1 rfl) (Zu hO4.len)), (Sk Sub.nil), ?_⟩)
 have hx : shv dy fr n b = .mk 1 (n + b) zS [] [] := by first | rfl | (simp only [shv]; (repeat' split) <;> first | rfl | (exfalso; omega))
 exact ⟨_, _, rfl, rfl, by rw [hx]; exact hO4⟩
theorem shifted_ct (t : Tm) (dy fr : Int) (cs : List Value) (H : Heap) (ht : RT H cs t) (hz : sizeT t ≤ 900000) (hv : vOK t) (hd0 : -2000000 ≤ dy) (hd1 : dy ≤ 2000000) : CT Tryz.prog 81 ⟨[.agg ⟨cs⟩, iv dy, iv fr]⟩ [] H (fun v N => ∃ cs k, v = .agg ⟨cs⟩ ∧ N = [k] ∧ OT (shT dy fr t) cs k) := by
 refine Zk Tryz.func81 rfl rfl <| Zc <| Za <| JLr (Zp (l := cs) rfl rfl fun b1 => JLr (Zp (l := [iv dy]) rfl rfl fun b2 => JLr (Zp (l := [iv fr]) rfl rfl fun b3 => JLr (Zh (l := pkT 0 0 zS nS nS) Tryz.zeroValue27 rfl fun b4 => Zb <| Zc <| Za <| JLq (.func (.func 108) ⟨[]⟩ ⟨[pp b3 0, pp b2 0]⟩) (Pu.makeFunc rfl rfl) <| JLq (.agg ⟨[.func (.func 108) ⟨[]⟩ ⟨[pp b3 0, pp b2 0]⟩, .func (.func 83) ⟨[]⟩ ⟨[]⟩]⟩) (Pu.build (pv := [(0, .func (.func 108) ⟨[]⟩ ⟨[pp b3 0, pp b2 0]⟩), (1, .func (.func 83) ⟨[]⟩ ⟨[]⟩)]) (l := [.func (.func 108) ⟨[]⟩ ⟨[pp b3 0, pp b2 0]⟩, .func (.func 83) ⟨[]⟩ ⟨[]⟩]) rfl (bld141_0_1 _ _ _ _ _ _)) <| JLr (Zi Zs rfl (At.bx 3 rfl) (Zu (Zv ht)) ?_)))))
 refine Jc Tryz.call84 rfl (fun hin => mapTermP_ct 83 [] [] Tryz.call83 (fun s => s) 108 [] [pp b3 0, pp b2 0] Tryz.call108 (shv dy fr) _ _ _ _ (RT.mono (Hle.hu _ _) ht) (by omega) hv (by decide) (by omega) (fun s h hh => same_ct s h) (fun n b h hh h1 h2 h3 h4 => shiftedV_ct n b dy fr h b3 b2 (hh _ _ (hin 1 _ rfl _ _ List.mem_cons_self)) (hh _ _ (hin 2 _ rfl _ _ List.mem_cons_self)) h1 h2 h3 h4 hd0 hd1)) rfl ?_
 rintro _ _ ⟨cs5, k5, rfl, rfl, hO5⟩
 refine JLr (Zd 1 (vs := cs5) (l := cs5) Zs rfl rfl rfl rfl hO5.len hO5.ok (Zy (n := 36) rfl hO5.len) <| Zb <| Zl <| ⟨.agg ⟨cs5⟩, [k5], Ret.one rfl (RV.cell Zs rfl (At.bx 1 rfl) (Zu hO5.len)), (Sk Sub.nil), ?_⟩)
 have hx : shT dy fr t = mapQ (fun s => s) (shv dy fr) 0 t := by first | rfl | (simp only [shT]; (repeat' split) <;> first | rfl | (exfalso; omega))
 exact ⟨_, _, rfl, rfl, by rw [hx]; exact hO5⟩
theorem substV_ct (n b m : Int) (u : Tm) (us : List Value) (H : Heap) (bN bU : Nat) (hN : H bN = some (.cells ⟨[iv m]⟩ 3 (0, 0))) (hU : H bU = some (.cells ⟨us⟩ 27 (0, 0))) (hu1 : RT H us u) (hzu : sizeT u ≤ 900000) (hvu : vOK u) (hn0 : 0 ≤ n) (hn1 : n ≤ 2000000) (hb0 : 0 ≤ b) (hb1 : b ≤ 2000000) : CT Tryz.prog 80 ⟨[iv n, iv b, pp bN 0, pp bU 0]⟩ [] H (fun v N => ∃ cs k, v = .agg ⟨cs⟩ ∧ N = [k] ∧ OT (sbv m u n b) cs k) := by
 refine Zk Tryz.func80 rfl rfl <| Zc <| Za <| JLr (Zh (l := pkT 0 0 zS nS nS) Tryz.zeroValue27 rfl fun b1 => Zb <| Zc <| Zo <| Zc <| Za <| JLM rfl <| JLr (Ze ty3 rfl (At.im hN) rfl <| JLn (Pu.eql rfl rfl) <| JLA rfl ?_))
 refine Zb <| Zg rfl (fun h2 => ?_) (fun h2 => ?_)
 ·replace h2 := dt h2
  refine Zc <| Za <| JLr (Zi Zs rfl (At.im hU) (Zu (Zv hu1)) <| JLM rfl <| Jc Tryz.call81 rfl (fun hin => shifted_ct _ _ _ _ _ (RT.mono (Hle.hu _ _) hu1) hzu hvu (by omega) (by omega)) rfl ?_)
  rintro _ _ ⟨cs3, k3, rfl, rfl, hO3⟩
  refine JLr (Zd 1 (vs := cs3) (l := cs3) Zs rfl rfl rfl rfl hO3.len hO3.ok (Zy (n := 36) rfl hO3.len) <| Zb <| Zl <| ⟨.agg ⟨cs3⟩, [k3], Ret.one rfl (RV.cell Zs rfl (At.bx 1 rfl) (Zu hO3.len)), (Sk Sub.nil), ?_⟩)
  have hx : sbv m u n b = shT b 0 u := by first | rfl | (simp only [sbv]; (repeat' split) <;> first | rfl | (exfalso; omega))
  exact ⟨_, _, rfl, rfl, by rw [hx]; exact hO3⟩
 replace h2 := df h2
 refine Zc <| Za <| JLM rfl <| JLr (Ze ty3 rfl (At.im hN) rfl <| JLn (Pu.gtr rfl rfl) <| JLA rfl <| Zb <| Zg rfl (fun h4 => ?_) (fun h4 => ?_))
 ·replace h4 := dt h4
  refine Za <| JLM rfl <| JLn (Pu.sub64 rfl rfl (by first | omega | (constructor <;> omega))) <| JLA rfl <| Zb <| Zc <| Za <| JLM rfl <| JLM rfl <| Jc Tryz.call82 rfl (fun hin => stay_ct _ _ _ (by unfold inI; omega)) rfl ?_
  rintro _ _ ⟨cs5, k5, rfl, rfl, hO5⟩
  refine JLr (Zd 1 (vs := cs5) (l := cs5) Zs rfl rfl rfl rfl hO5.len hO5.ok (Zy (n := 36) rfl hO5.len) <| Zb <| Zl <| ⟨.agg ⟨cs5⟩, [k5], Ret.one rfl (RV.cell Zs rfl (At.bx 1 rfl) (Zu hO5.len)), (Sk Sub.nil), ?_⟩)
  have hx : sbv m u n b = .mk 1 (n - 1 + b) zS [] [] := by first | rfl | (simp only [sbv]; (repeat' split) <;> first | rfl | (exfalso; omega))
  exact ⟨_, _, rfl, rfl, by rw [hx]; exact hO5⟩
 replace h4 := df h4
 refine Zm <| Zc <| Za <| JLM rfl <| JLM rfl <| Jc Tryz.call82 rfl (fun hin => stay_ct _ _ _ (by unfold inI; omega)) rfl ?_
 rintro _ _ ⟨cs6, k6, rfl, rfl, hO6⟩
 refine JLr (Zd 1 (vs := cs6) (l := cs6) Zs rfl rfl rfl rfl hO6.len hO6.ok (Zy (n := 36) rfl hO6.len) <| Zb <| Zl <| ⟨.agg ⟨cs6⟩, [k6], Ret.one rfl (RV.cell Zs rfl (At.bx 1 rfl) (Zu hO6.len)), (Sk Sub.nil), ?_⟩)
 have hx : sbv m u n b = .mk 1 (n + b) zS [] [] := by first | rfl | (simp only [sbv]; (repeat' split) <;> first | rfl | (exfalso; omega))
 exact ⟨_, _, rfl, rfl, by rw [hx]; exact hO6⟩
theorem short_ct (t : Tm) (cs : List Value) (H : Heap) (ht : RT H cs t) : CT Tryz.prog 70 ⟨[.agg ⟨cs⟩]⟩ [] H (fun v N => v = .tuple ⟨[.agg ⟨if YU t = true then pkT 0 0 zS nS nS else cs⟩, iv (if YU t = true then 11 else 0)]⟩ ∧ N = []) := by
 refine Zk Tryz.func70 rfl rfl <| Zc <| Za <| JLr (Zp (l := cs) rfl rfl fun b1 => JLr (Zh (l := pkT 0 0 zS nS nS) Tryz.zeroValue27 rfl fun b2 => JLA rfl <| Zb <| Zc <| Zc <| Za <| JLq (.agg ⟨[iv 0]⟩) (Pu.build (pv := []) (l := [iv 0]) rfl bld132_) <| JLr (Zp (l := [iv 0]) rfl rfl fun b3 => JLr (Zi Zs rfl (At.bx 2 rfl) (Zu (Zv ht)) ?_))))
 refine Zr 0 rfl Tryz.call74 rfl rfl (fun hin => longT_ct _ _ _ _ _ _ (RT.mono (Hle.hu _ _) ht) (by omega) (by omega) (by omega) (by omega)) rfl ?_
 rintro _ _ ⟨rfl, rfl⟩
 refine Zb <| Zg rfl (fun h5 => ?_) (fun h5 => ?_)
 ·refine Zc <| Za <| JLq (.agg ⟨pkT 0 0 zS nS nS⟩) (Pu.build (pv := []) (l := pkT 0 0 zS nS nS) rfl (bld27_ )) <| JLr (Zd 1 (vs := pkT 0 0 zS nS nS) (l := pkT 0 0 zS nS nS) Zs rfl rfl rfl rfl rfl (Zz rfl rfl) (Z4 ..) <| JLA rfl <| Zb <| Zl <| ⟨.tuple ⟨[.agg ⟨pkT 0 0 zS nS nS⟩, iv 11]⟩, [], Ret.two rfl (RV.cell Zs rfl (At.bx 1 rfl) (ZY ..)) (RV.tmp rfl), Sub.nil, ?_⟩)
  rw [long_eq] at h5
  exact ⟨by simp [h5], rfl⟩
 refine Zm <| Zc <| Za <| JLr (Zi Zs rfl (At.bx 2 rfl) (Zu (Zv ht)) <| JLr (Zd 1 (vs := cs) (l := cs) Zs rfl rfl rfl rfl (Zv ht) (Y5 ht) (Zy (n := 36) rfl (Zv ht)) <| JLA rfl <| Zb <| Zl <| ⟨.tuple ⟨[.agg ⟨cs⟩, iv 0]⟩, [], Ret.two rfl (RV.cell Zs rfl (At.bx 1 rfl) (Zu (Zv ht))) (RV.tmp rfl), Sub.nil, ?_⟩))
 rw [long_eq] at h5
 exact ⟨by simp [h5], rfl⟩
end Go.Proofs.YtfdeibbpfgolcaaGreat.Hs
/-! Copies of slices of numbers. -/
namespace Go.Proofs.YtfdeibbpfgolcaaGreat.Hs
open Go Go.Proofs
set_option maxRecDepth 100000
/-- A slice of bytes, as cells read. -/
def RB (_ : Heap) (cs : List Value) (n : Int) : Prop := cs = [.int .u8 n]
theorem RBs.mono {h h' : Heap} (hh : Hle h h') {v : Value} {l : List Int} (q : Hs.rdS RB 1 h v l) : Hs.rdS RB 1 h' v l := rdS.mono q hh fun _ _ _ e => e
def byts (l : List Int) : List (List Value) := l.map fun n => [.int .u8 n]
theorem byts_len (l : List Int) : (byts l).length = l.length := by simp [byts]
theorem byts_len1 (l : List Int) : ∀ e ∈ byts l, e.length = 1 := by
  intro e he; obtain ⟨x, _, rfl⟩ := List.mem_map.1 he; rfl
theorem byts_ok (l : List Int) : ∀ e ∈ byts l, okc e := by
  intro e he v hv; obtain ⟨x, _, rfl⟩ := List.mem_map.1 he; simp only [List.mem_singleton] at hv; subst hv; rfl
theorem num_src {P : Program} {H : Heap} {v : Value} {l : List Int} {E : Heap → List Value → Int → Prop} {f : Int → Value} (hE : ∀ h cs x, E h cs x → cs = [f x]) (h : Hs.rdS E 1 H v l) : ∀ w L, Mem w L H → Src P 1 w v l.length (l.map fun n => [f n]).flatten := by
  obtain ⟨es, e1, e2, e3, e4⟩ := rdS.src (P := P) h
  have : es = l.map fun n => [f n] := by
    apply List.ext_getElem
    · rw [e1, List.length_map]
    · intro i h1 h2
      have := hE _ _ _ (e2 i h1 (by omega))
      rw [this, List.getElem_map]
  subst this
  intro w L m
  exact e4 w L H (Hle.refl _) m
theorem byts_src {P : Program} {H : Heap} {v : Value} {l : List Int} (h : Hs.rdS RB 1 H v l) : ∀ w L, Mem w L H → Src P 1 w v l.length (byts l).flatten := num_src (fun _ _ _ e => e) h
theorem own_byts {T : TypeId} {v : Value} {l : List Int} {k : Zf} {h : Heap} (o : Own T 1 v (byts l) k) (hn : l.length ≤ 9223372036854775807) (hk : Has k h) : Hs.rdS RB 1 h v l :=
  o.rdS (byts_len l).symm hn hk fun i h1 h2 => by simp [byts, RB]
/-- What is none is empty. -/
theorem rd_none {E : Heap → List Value → Int → Prop} {sz : Nat} {h : Heap} {v : Value} {l : List Int} {a : Option Addr} {n cap : Nat} (r : Hs.rdS E sz h v l) (hv : v = .slice a n cap) (ha : a.isNone = true) : l = [] := by
  obtain ⟨a', c', e, _, h0 | ⟨b, o, row, T, fr, e1, _⟩⟩ := r
  · exact List.eq_nil_of_length_eq_zero h0
  · rw [hv] at e; cases e; subst e1; cases ha
section
variable {P : Program} {e : Operand → Value} {d : Option Nat} {ot : TypeId} {pos : String} {af : Array Edge} {g : Option (Nat × Bool)} {T T' : TypeId} {x y z : Operand}
theorem run_equalIn_nil {el : TypeId} {a : Option Addr} {n c n' c' : Nat} (m : Nat) (w : World) (hT : ∀ w, (underlying T).run P w = .ok (.slice el) w) : (Op.equalIn (m + 1) T (.slice a n c) (.slice none n' c')).run P w = .ok a.isNone w := by
  cases a <;> simp [Op.equalIn, hT]
theorem Pu.eqlNil {el : TypeId} {a : Option Addr} {n c n' c' : Nat} (hT : ∀ w, (underlying T).run P w = .ok (.slice el) w) (hx : e x = .slice a n c) (hy : e y = .slice none n' c') : Pu P e ⟨d, .binOp .eql T x y T', ot, pos, af, g⟩ (.bool a.isNone) := fun w => by
  have := run_equalIn_nil (P := P) (a := a) (n := n) (c := c) (n' := n') (c' := c') 9999 w hT
  simp only [execOp, hx, hy, eqGuard, binOp, Op.equal, Op.maxDepth]
  simp [this]
end
end Go.Proofs.YtfdeibbpfgolcaaGreat.Hs
/-! Walks, printed by a program of this session's own (gen.py). -/
namespace Go.Proofs.YtfdeibbpfgolcaaGreat.Hs
open Go Go.Proofs
set_option maxRecDepth 100000
set_option linter.unusedVariables false
set_option linter.unusedSimpArgs false
attribute [local irreducible] JL J CT wlo DT
theorem idxI_ct (g : Nat) (fs cv : List Value) (hcall : ∀ args w, (callFunc g args).run Tryz.prog w = .ok (.enter g args) w) (pr : Int → Bool) (l : List Int) (v : Value) (H : Heap) (hl : rdS RI 1 H v l) (hg : ∀ x ∈ l, ∀ h, Hle H h → CT Tryz.prog g ⟨fs ++ [iv x] ++ cv⟩ [] h (fun v N => v = .bool (pr x) ∧ N = [])) : CT Tryz.prog 143 ⟨[v, .func (.func g) ⟨fs⟩ ⟨cv⟩]⟩ [] H (fun v N => v = iv (fstI pr l 0) ∧ N = []) := by
 refine Zk Tryz.func143 rfl rfl <| Zc <| Za <| JLA rfl <| Zb <| Zc <| Zc <| Za <| JLm v ?_
 obtain ⟨a1, cap1, hv1⟩ := hl.sl
 have hle1 := hl.le
 refine JLn (Pu.lenSl Tryz.runUnderlying51 hv1) <| JLM rfl <| Zb <| Zo <| ZT (fun k ρ M => ∃ (j : Nat), ρ 0 = v ∧ ρ 1 = .func (.func g) ⟨fs⟩ ⟨cv⟩ ∧ ρ 4 = iv 0 ∧ ρ 7 = iv ((l.length : Int)) ∧ ρ 8 = iv ((j : Int)) ∧ Sub [] M ∧ j ≤ l.length ∧ fstI pr (l.drop j) j = fstI pr l 0 ∧ k = l.length - j) _ ⟨0, rfl, rfl, rfl, rfl, rfl, Sub.nil, Nat.zero_le _, rfl, rfl⟩ ?_
 rintro _ ρ2 _ ⟨j, e3, e4, e5, e6, e7, hm8, hj, hinv, rfl⟩
 obtain ⟨ρ9, rfl⟩ := Zn (uc e3 (uc e4 (uc e5 (uc e6 (uc e7 un)))))
 clear e3 e4 e5 e6 e7
 refine ZS hm8 <| Zc <| Za <| JLn (Pu.lss rfl rfl) <| Zb <| Zc <| Zg rfl (fun h10 => ?_) (fun h10 => ?_)
 ·replace h10 := dt h10
  have h10n : j < l.length := by omega
  have hlenl := hl.le
  refine Zm <| Zc <| Zo <| Zc <| Za <| JLM rfl <| JLA rfl <| Zb <| Zc <| Za <| JLM rfl <| JLm v <| JLM rfl ?_
  obtain ⟨b11, o11, cap11, row11, T11, fr11, cs11, hv11, hb11, hs11, hE11⟩ := hl.get j (by first | assumption | omega | decide | simp)
  refine JLq (pp b11 (o11 + j * 1)) (Pu.idx j Tryz.runUnderlying51 ty3 hv11 rfl rfl (by first | assumption | omega | decide | simp)) <| JLr (Ze ty3 rfl (At.im hb11) (YK ((show cs11 = [Value.int .i64 (l[j])] from hE11) ▸ hs11)) <| Jc hcall rfl (fun hin => hg _ (List.getElem_mem h10n) _ (Hle.hu _ _)) rfl ?_)
  rintro _ _ ⟨rfl, rfl⟩
  refine Zb <| Zg rfl (fun h12 => ?_) (fun h12 => ?_)
  ·refine Zc <| Za <| JLM rfl <| JLA rfl <| Zb <| Zl <| ⟨iv ((j : Int)), [], Ret.one rfl (RV.tmp rfl), Sub.nil, ?_⟩
   exact ⟨by rw [← hinv, Yr h10n, fstI, if_pos h12], rfl⟩
  refine Zm <| Za <| JLn (Pu.inc rfl rfl (by omega)) <| JLM rfl <| Zb <| ⟨_, ?_, (j + 1), rfl, rfl, rfl, rfl, rfl, Sub.nil, ?_, ?_, rfl⟩
  ·omega
  ·omega
  rw [Yr h10n, fstI, if_neg (by simp [h12])] at hinv; exact hinv
 replace h10 := df h10
 have h10n : l.length ≤ j := by omega
 refine ZB _ rfl <| Zc <| Za <| JLA rfl <| Zb <| Zl <| ⟨iv (-1), [], Ret.one rfl (RV.tmp rfl), Sub.nil, ?_⟩
 exact ⟨by rw [← hinv, dropn h10n]; rfl, rfl⟩
theorem containsI_ct (g : Nat) (fs cv : List Value) (hcall : ∀ args w, (callFunc g args).run Tryz.prog w = .ok (.enter g args) w) (pr : Int → Bool) (l : List Int) (v : Value) (H : Heap) (hl : rdS RI 1 H v l) (hg : ∀ x ∈ l, ∀ h, Hle H h → CT Tryz.prog g ⟨fs ++ [iv x] ++ cv⟩ [] h (fun v N => v = .bool (pr x) ∧ N = [])) : CT Tryz.prog 110 ⟨[v, .func (.func g) ⟨fs⟩ ⟨cv⟩]⟩ [] H (fun v N => v = .bool (l.any pr) ∧ N = []) := by
 refine Zk Tryz.func110 rfl rfl <| Zc <| Za <| JLA rfl <| Zb <| Zc <| Za <| JLm v <| JLM rfl <| Jc Tryz.call143 rfl (fun hin => idxI_ct g fs cv hcall pr _ _ _ (RIs.mono (Hle.hu _ _) hl) (fun x hx h hh => hg x hx h (Hle.trans (Hle.hu _ _) hh))) rfl ?_
 rintro _ _ ⟨rfl, rfl⟩
 refine JLn (Pu.geq rfl rfl) <| JLA rfl <| Zb <| Zl <| ⟨.bool (decide (0 ≤ fstI pr l 0)), [], Ret.one rfl (RV.tmp rfl), Sub.nil, ?_⟩
 exact ⟨by rw [← fstI_any pr l 0], rfl⟩
theorem every1_ct (g : Nat) (fs cv : List Value) (hcall : ∀ args w, (callFunc g args).run Tryz.prog w = .ok (.enter g args) w) (pr : Int → Bool) (x : Int) (H : Heap) (bP : Nat) (hP : H bP = some (.cells ⟨[.func (.func g) ⟨fs⟩ ⟨cv⟩]⟩ 93 (0, 0))) (hg : ∀ h, Hle H h → CT Tryz.prog g ⟨fs ++ [iv x] ++ cv⟩ [] h (fun v N => v = .bool (pr x) ∧ N = [])) : CT Tryz.prog 111 ⟨[iv x, pp bP 0]⟩ [] H (fun v N => v = .bool (!pr x) ∧ N = []) := by
 refine Zk Tryz.func111 rfl rfl <| Zc <| Za <| JLA rfl <| Zb <| Zc <| Za <| JLr (Ze ty93 rfl (At.im hP) rfl <| JLM rfl <| Jc hcall rfl (fun hin => hg _ (Hle.hu _ _)) rfl ?_)
 rintro _ _ ⟨rfl, rfl⟩
 refine JLn (Pu.not rfl) <| JLA rfl <| Zb <| Zl <| ⟨.bool (!(pr x)), [], Ret.one rfl (RV.tmp rfl), Sub.nil, ?_⟩
 exact ⟨rfl, rfl⟩
theorem every_ct (g : Nat) (fs cv : List Value) (hcall : ∀ args w, (callFunc g args).run Tryz.prog w = .ok (.enter g args) w) (pr : Int → Bool) (l : List Int) (v : Value) (H : Heap) (hl : rdS RI 1 H v l) (hg : ∀ x ∈ l, ∀ h, Hle H h → CT Tryz.prog g ⟨fs ++ [iv x] ++ cv⟩ [] h (fun v N => v = .bool (pr x) ∧ N = [])) : CT Tryz.prog 85 ⟨[v, .func (.func g) ⟨fs⟩ ⟨cv⟩]⟩ [] H (fun v N => v = .bool (l.all pr) ∧ N = []) := by
 refine Zk Tryz.func85 rfl rfl <| Zc <| Za <| JLr (Zp (l := [.func (.func g) ⟨fs⟩ ⟨cv⟩]) rfl rfl fun b1 => JLA rfl <| Zb <| Zc <| Za <| JLm v <| JLq (.func (.func 111) ⟨[]⟩ ⟨[pp b1 0]⟩) (Pu.makeFunc rfl rfl) <| Jc Tryz.call110 rfl (fun hin => containsI_ct 111 [] [pp b1 0] Tryz.call111 (fun x => !pr x) _ _ _ (RIs.mono (Hle.hu _ _) hl) (fun x hx h hh => every1_ct g fs cv hcall pr x h b1 (hh _ _ (hin 0 _ rfl _ _ List.mem_cons_self)) (fun h2 hh2 => hg x hx h2 (Hle.trans (Hle.trans (Hle.hu _ _) hh) hh2)))) rfl ?_)
 rintro _ _ ⟨rfl, rfl⟩
 refine JLn (Pu.not rfl) <| JLA rfl <| Zb <| Zl <| ⟨.bool (!(l.any (fun x => !pr x))), [], Ret.one rfl (RV.tmp rfl), Sub.nil, ?_⟩
 exact ⟨by simp [List.not_any_eq_all_not], rfl⟩
theorem shiftO_ct (n dy fr : Int) (H : Heap) (bF bD : Nat) (hF : H bF = some (.cells ⟨[iv fr]⟩ 3 (0, 0))) (hD : H bD = some (.cells ⟨[iv dy]⟩ 3 (0, 0))) (hn0 : 0 ≤ n) (hn1 : n ≤ 60) (hd0 : -60 ≤ dy) (hd1 : dy ≤ 60) : CT Tryz.prog 86 ⟨[iv n, pp bF 0, pp bD 0]⟩ [] H (fun v N => v = .bool (mvOk dy fr n) ∧ N = []) := by
 refine Zk Tryz.func86 rfl rfl <| Zc <| Za <| JLA rfl <| Zb <| Zc <| Za <| JLM rfl <| JLr (Ze ty3 rfl (At.im hF) rfl <| JLn (Pu.lss rfl rfl) <| JLM rfl ?_)
 cases h1 : (decide (n < fr)) with
 | true =>
  replace h1 := dt h1
  iterate 6 refine JL_skip rfl ?_
  refine JLq (.bool true) (Pu.pickT rfl rfl) <| JLA rfl <| Zb <| Zl <| ⟨.bool true, [], Ret.one rfl (RV.tmp rfl), Sub.nil, ?_⟩
  exact ⟨by simp only [mvOk]; simp_all <;> omega, rfl⟩
 | false =>
  replace h1 := df h1
  refine JLM rfl <| JLr (Ze ty3 rfl (At.im hD) rfl <| JLn (Pu.add64 rfl rfl (by first | omega | (constructor <;> omega))) <| JLr (Ze ty3 rfl (At.im hF) rfl <| Jc Tryz.call79 rfl (fun hin => Yt _ _ _ _) rfl ?_))
  rintro _ _ ⟨rfl, rfl⟩
  refine JLn (Pu.not rfl) <| JLq (.bool (!(decide (n + dy < fr ∨ 59 < n + dy)))) (Pu.pickF rfl rfl) <| JLA rfl <| Zb <| Zl <| ⟨.bool (!(decide (n + dy < fr ∨ 59 < n + dy))), [], Ret.one rfl (RV.tmp rfl), Sub.nil, ?_⟩
  exact ⟨by simp only [mvOk]; simp_all <;> omega, rfl⟩
theorem freeV_ct (n b : Int) (s : List Int) (r : Nat) (H : Heap) (bM : Nat) (hM : H bM = some (.cells ⟨[.map (some r)]⟩ 165 (0, 0))) (hn0 : 0 ≤ n) (hn1 : n ≤ 2000000) (hb0 : 0 ≤ b) (hb1 : b ≤ 2000000) : CT Tryz.prog 107 ⟨[iv n, iv b, pp bM 0]⟩ [metC r s] H (fun v N => ∃ cs k, v = .agg ⟨cs⟩ ∧ N = [k, metC r (metV n b s).2] ∧ OT (metV n b s).1 cs k) := by
 refine Zk Tryz.func107 rfl rfl <| Zc <| Za <| JLr (Zh (l := pkT 0 0 zS nS nS) Tryz.zeroValue27 rfl fun b1 => Zb <| Zc <| Za <| JLr (Ze ty165 rfl (At.im hM) rfl <| JLM rfl <| JLr (Runs_mapUpdate (i := 1) Tryz.underlying165 Tryz.underlying3 rfl rfl rfl rfl <| Zb <| Zc <| Za ?_)))
 refine JLM rfl <| JLM rfl <| Jc Tryz.call82 rfl (fun hin => stay_ct _ _ _ (by unfold inI; omega)) rfl ?_
 rintro _ _ ⟨cs2, k2, rfl, rfl, hO2⟩
 refine JLr (Zd 1 (vs := cs2) (l := cs2) Zs rfl rfl rfl rfl hO2.len hO2.ok (Zy (n := 36) rfl hO2.len) <| Zb <| Zl <| ⟨.agg ⟨cs2⟩, [k2, metC r (addK s n)], Ret.one rfl (RV.cell Zs rfl (At.bx 1 rfl) (Zu hO2.len)), (Sk (Sd (Sk Sub.nil))), ?_⟩)
 exact ⟨_, _, rfl, rfl, hO2⟩
theorem freeP_ct (t : Tm) (cs : List Value) (H : Heap) (ht : RT H cs t) (hz : sizeT t ≤ 900000) (hv : vOK t) : CT Tryz.prog 78 ⟨[.agg ⟨cs⟩]⟩ [] H (fun v N => ∃ u k, v = u ∧ N = [k] ∧ Own 3 1 u (ints (freeP t)) k) := by
 refine Zk Tryz.func78 rfl rfl <| Zc <| Za <| JLr (Zp (l := cs) rfl rfl fun b1 => JLA rfl <| Zb <| Zc <| Za <| JLr (Runs_makeMap fun r2 => JLr (Zh (l := [.map none]) Tryz.zeroValue165 rfl fun b3 => JLr (Zd 0 (vs := [.map (some r2)]) (l := [.map (some r2)]) ty165 rfl rfl rfl rfl rfl (Zj rfl Zt) rfl <| Zb <| Zc ?_))))
 refine Za <| JLq (.func (.func 107) ⟨[]⟩ ⟨[pp b3 0]⟩) (Pu.makeFunc rfl rfl) <| JLq (.agg ⟨[.func (.func 107) ⟨[]⟩ ⟨[pp b3 0]⟩, .func (.func 83) ⟨[]⟩ ⟨[]⟩]⟩) (Pu.build (pv := [(0, .func (.func 107) ⟨[]⟩ ⟨[pp b3 0]⟩), (1, .func (.func 83) ⟨[]⟩ ⟨[]⟩)]) (l := [.func (.func 107) ⟨[]⟩ ⟨[pp b3 0]⟩, .func (.func 83) ⟨[]⟩ ⟨[]⟩]) rfl (bld141_0_1 _ _ _ _ _ _)) <| JLr (Zi Zs rfl (At.bx 2 rfl) (Zu (Zv ht)) <| Zr 1 rfl Tryz.call84 rfl rfl (fun hin => mapTerm_ct 83 [] [] Tryz.call83 (fun s => s) 107 [] [pp b3 0] Tryz.call107 (List Int) (metC r2) (fun _ => True) metV (fun _ _ _ _ => trivial) _ _ _ _ _ (RT.mono (Hle.hu _ _) ht) (by omega) hv (by decide) (by omega) trivial (fun s h hh => same_ct s h) (fun n b s h hh _ h1 h2 h3 h4 => freeV_ct n b s r2 h b3 (hh _ _ (hin 0 _ rfl _ _ List.mem_cons_self)) h1 h2 h3 h4)) rfl ?_)
 rintro _ _ ⟨cs4, k4, rfl, rfl, hO4⟩
 refine Zb <| Zc <| Za <| JLA rfl <| Zb <| Zc <| Zc <| Za <| JLM rfl <| Zb <| Zo <| ZT (fun k ρ M => ∃ (j : Nat) (v : Value) (k1 : Zf), ρ 2 = nS ∧ ρ 3 = pp b3 0 ∧ ρ 4 = v ∧ ρ 11 = iv ((j : Int)) ∧ Sub [k1, metC r2 (metT t), (BX b3 [.map (some r2)] 165)] M ∧ j ≤ 60 ∧ Own 3 1 v (ints (upTo (metF (metT t)) j)) k1 ∧ k = 60 - j) _ ⟨0, nS, [], rfl, rfl, rfl, rfl, (Sub.emp (Sd (Sk (Sk Sub.nil)))), Nat.zero_le _, Own.nil, rfl⟩ ?_
 rintro _ ρ5 _ ⟨j, v, k1, e6, e7, e8, e9, hm10, hj, ho, rfl⟩
 obtain ⟨ρ11, rfl⟩ := Zn (uc e6 (uc e7 (uc e8 (uc e9 un))))
 clear e6 e7 e8 e9
 refine ZS hm10 <| Zc <| Za <| JLn (Pu.lss rfl rfl) <| Zb <| Zc <| Zg rfl (fun h12 => ?_) (fun h12 => ?_)
 ·replace h12 := dt h12
  have h12n : j < 60 := by omega
  have hul := upTo_len (metF (metT t)) j
  have hil := ints_len (upTo (metF (metT t)) j)
  have hge := metF_get (metT t) j h12n
  refine Zm <| Zc <| Zo <| Zc <| Za <| JLM rfl <| JLA rfl <| Zb <| Zc <| Za <| JLr (Ze ty165 rfl (At.bx 2 rfl) rfl <| JLM rfl <| JLr (Runs_lookup (i := 1) Tryz.underlying165 Tryz.underlying3 Tryz.zeroValue4 rfl rfl rfl ?_))
  refine Zb <| Zg rfl (fun h13 => ?_) (fun h13 => ?_)
  ·replace h13 := dt h13
   refine Za <| JLm v <| JLM rfl <| JLr (Zq (vs := [iv ((j : Int))]) [[iv ((j : Int))]] Tryz.runUnderlying51 el3 rfl rfl (by intro e he; simp only [List.mem_cons, List.not_mem_nil, or_false] at he; subst he; exact rfl) rfl (by decide) fun b14 k14 ho14 hk14 => ?_)
   have hlens15 : ∀ e ∈ ([[iv ((j : Int))]] : List (List Value)), List.length e = 1 := by
    intro e he; simp only [List.mem_cons, List.not_mem_nil, or_false] at he
    rcases he with rfl
    ·exact rfl
   have hoks15 : ∀ e ∈ ([[iv ((j : Int))]] : List (List Value)), okc e := by
    intro e he; simp only [List.mem_cons, List.not_mem_nil, or_false] at he
    rcases he with rfl
    ·exact (Zj rfl Zt)
   refine JLr (ZJ (i := 1) (n := 1) (es' := [[iv ((j : Int))]]) Tryz.runUnderlying51 Tryz.runUnderlying51 (Or.inl rfl) el3 rfl rfl rfl ho (fun F w m => Src.row (((At.k 0 rfl (by rw [hk14]; exact List.mem_cons_self))).heap m) (Zu (Zx hlens15))) rfl hlens15 hoks15 (by decide) (by omega) fun v15 k15 ho15 => JLa v15 <| Zb <| Za <| JLn (Pu.inc rfl rfl (by omega)) <| JLM rfl <| Zb <| ⟨_, ?_, (j + 1), v15, k15, rfl, rfl, rfl, rfl, (Sd (Sk (Sk (Sk Sub.nil)))), ?_, ?_, rfl⟩)
   ·omega
   ·omega
   rw [upTo_succ, hge, if_pos (by simp [h13]), ints_snoc]; exact ho15
  replace h13 := df h13
  refine Zm <| Za <| JLn (Pu.inc rfl rfl (by omega)) <| JLM rfl <| Zb <| ⟨_, ?_, (j + 1), v, k1, rfl, rfl, rfl, rfl, (Sk (Sk (Sk Sub.nil))), ?_, ?_, rfl⟩
  ·omega
  ·omega
  rw [upTo_succ, hge, if_neg (by simp [h13])]; exact ho
 replace h12 := df h12
 have h12n : 60 ≤ j := by omega
 refine ZB _ rfl <| Zc <| Za <| JLm v <| JLa v <| Zb <| Zl <| ⟨v, [k1], Ret.one rfl (RV.tmp rfl), (Sk Sub.nil), ?_⟩
 obtain rfl : j = 60 := by omega
 exact ⟨v, k1, rfl, rfl, ho⟩
end Go.Proofs.YtfdeibbpfgolcaaGreat.Hs
/-! Walks, printed by a program of this session's own (gen.py). -/
namespace Go.Proofs.YtfdeibbpfgolcaaGreat.Hs
open Go Go.Proofs
set_option maxRecDepth 100000
set_option linter.unusedVariables false
set_option linter.unusedSimpArgs false
attribute [local irreducible] JL J CT wlo DT
theorem shiftP_ct (t : Tm) (dy fr : Int) (cs : List Value) (H : Heap) (ht : RT H cs t) : CT Tryz.prog 38 ⟨[.agg ⟨cs⟩, iv dy, iv fr]⟩ [] H (fun v N => ∃ cs k, v = .tuple ⟨[.agg ⟨cs⟩, iv (shiftP t dy fr).2]⟩ ∧ N = [k] ∧ OT (shiftP t dy fr).1 cs k) := by
 refine Zk Tryz.func38 rfl rfl <| Zc <| Za <| JLr (Zp (l := cs) rfl rfl fun b1 => JLr (Zp (l := [iv dy]) rfl rfl fun b2 => JLr (Zp (l := [iv fr]) rfl rfl fun b3 => JLr (Zh (l := pkT 0 0 zS nS nS) Tryz.zeroValue27 rfl fun b4 => JLA rfl <| Zb <| Zc <| Zc <| Za <| JLr (Zi Zs rfl (At.bx 3 rfl) (Zu (Zv ht)) ?_)))))
 refine JLr (Zq (vs := [.agg ⟨cs⟩]) [cs] Tryz.runUnderlying24 el27 rfl rfl (by intro e he; simp only [List.mem_cons, List.not_mem_nil, or_false] at he; subst he; exact (Zv ht)) rfl (by decide) fun b5 k5 ho5 hk5 => Jc Tryz.call49 rfl (fun hin => right_ct _ _ _ (Own.rd1 ho5 (hin 0 _ rfl) (RT.mono (Hle.hu _ _) ht))) rfl ?_)
 rintro _ _ ⟨rfl, rfl⟩
 refine JLA rfl <| Zb <| Zc <| Za <| JLM rfl <| JLn (Pu.neq rfl rfl) <| Zb <| Zg rfl (fun h6 => ?_) (fun h6 => ?_)
 ·replace h6 := nt h6
  replace h6 := df h6
  refine Zc <| Za <| JLq (.agg ⟨pkT 0 0 zS nS nS⟩) (Pu.build (pv := []) (l := pkT 0 0 zS nS nS) rfl (bld27_ )) <| JLM rfl <| JLr (Zd 1 (vs := pkT 0 0 zS nS nS) (l := pkT 0 0 zS nS nS) Zs rfl rfl rfl rfl rfl (Zz rfl rfl) (Z4 ..) <| JLA rfl <| Zb <| Zl <| ⟨.tuple ⟨[.agg ⟨pkT 0 0 zS nS nS⟩, iv (ZI [t])]⟩, [[]], Ret.two rfl (RV.cell Zs rfl (At.bx 1 rfl) (ZY ..)) (RV.tmp rfl), (Sub.emp Sub.nil), ?_⟩)
  have hx : shiftP t dy fr = (zT, ZI [t]) := by simp only [shiftP]; (repeat' split) <;> first | rfl | (exfalso; simp_all; done) | (exfalso; simp_all; omega)
  exact ⟨_, _, by rw [hx], rfl, by rw [hx]; exact OT_zero⟩
 replace h6 := nf h6
 replace h6 := dt h6
 refine Zm <| Zc <| Zc <| Za <| JLr (Ze ty3 rfl (At.bx 3 rfl) rfl <| Jc Tryz.call79 rfl (fun hin => Yt _ _ _ _) rfl ?_)
 rintro _ _ ⟨rfl, rfl⟩
 refine JLM rfl <| ZC 2 [19, 20] [(20, cond (decide (dy < -60 ∨ 60 < dy)) undef (.bool (decide (fr < 0 ∨ 60 < fr))))] ?_ fun f8 => ?_
 ·cases h7 : (decide (dy < -60 ∨ 60 < dy)) with
  | false =>
   replace h7 := df h7
   refine JLr (Ze ty3 rfl (At.bx 2 rfl) rfl <| Jc Tryz.call79 rfl (fun hin => Yt _ _ _ _) rfl ?_)
   rintro _ _ ⟨rfl, rfl⟩
   exact Zb ⟨⟨rfl, trivial⟩, rfl⟩
  | true =>
   exact ZP rfl ⟨rfl, trivial⟩
 refine JLn (Pu.pickOr rfl rfl rfl) <| Zb <| Zg rfl (fun h9 => ?_) (fun h9 => ?_)
 ·refine Zc <| Za <| JLq (.agg ⟨pkT 0 0 zS nS nS⟩) (Pu.build (pv := []) (l := pkT 0 0 zS nS nS) rfl (bld27_ )) <| JLr (Zd 1 (vs := pkT 0 0 zS nS nS) (l := pkT 0 0 zS nS nS) Zs rfl rfl rfl rfl rfl (Zz rfl rfl) (Z4 ..) <| JLA rfl <| Zb <| Zl <| ⟨.tuple ⟨[.agg ⟨pkT 0 0 zS nS nS⟩, iv 3]⟩, [[]], Ret.two rfl (RV.cell Zs rfl (At.bx 1 rfl) (ZY ..)) (RV.tmp rfl), (Sub.emp Sub.nil), ?_⟩)
  have hx : shiftP t dy fr = (zT, 3) := by simp only [shiftP]; (repeat' split) <;> first | rfl | (exfalso; simp_all; done) | (exfalso; simp_all; omega)
  exact ⟨_, _, by rw [hx], rfl, by rw [hx]; exact OT_zero⟩
 obtain ⟨h9a, h9b⟩ := orF h9
 replace h9a := df h9a
 replace h9b := df h9b
 refine Zm <| Zc <| Zc <| Za <| JLr (Zi Zs rfl (At.bx 4 rfl) (Zu (Zv ht)) <| Jc Tryz.call78 rfl (fun hin => freeP_ct _ _ _ (RT.mono (Hle.hu _ _) ht) (by have := (ZX (YV ‹ZI [t] = 0›)).1; omega) (ZX (YV ‹ZI [t] = 0›)).2.1) rfl ?_)
 rintro u10 _ ⟨_, k10, hu10, rfl, ho10⟩; subst hu10
 refine JLq (.func (.func 86) ⟨[]⟩ ⟨[pp b3 0, pp b2 0]⟩) (Pu.makeFunc rfl rfl) <| Jc Tryz.call85 rfl (fun hin => every_ct 86 [] [pp b3 0, pp b2 0] Tryz.call86 (mvOk dy fr) _ _ _ (own_ints ho10 (by have := freeP_len t; omega) (hin 0 _ rfl)) (fun x hx h hh => shiftO_ct x dy fr h b3 b2 (hh _ _ (hin 3 _ rfl _ _ List.mem_cons_self)) (hh _ _ (hin 4 _ rfl _ _ List.mem_cons_self)) (freeP_bound t x hx).1 (by have := (freeP_bound t x hx).2; omega) (by omega) (by omega))) rfl ?_
 rintro _ _ ⟨rfl, rfl⟩
 refine JLn (Pu.not rfl) <| Zb <| Zg rfl (fun h11 => ?_) (fun h11 => ?_)
 ·replace h11 := nt h11
  refine Zc <| Za <| JLq (.agg ⟨pkT 0 0 zS nS nS⟩) (Pu.build (pv := []) (l := pkT 0 0 zS nS nS) rfl (bld27_ )) <| JLr (Zd 2 (vs := pkT 0 0 zS nS nS) (l := pkT 0 0 zS nS nS) Zs rfl rfl rfl rfl rfl (Zz rfl rfl) (Z4 ..) <| JLA rfl <| Zb <| Zl <| ⟨.tuple ⟨[.agg ⟨pkT 0 0 zS nS nS⟩, iv 1]⟩, [[]], Ret.two rfl (RV.cell Zs rfl (At.bx 2 rfl) (ZY ..)) (RV.tmp rfl), (Sub.emp Sub.nil), ?_⟩)
  have hx : shiftP t dy fr = (zT, 1) := by simp only [shiftP]; (repeat' split) <;> first | rfl | (exfalso; simp_all; done) | (exfalso; simp_all; omega)
  exact ⟨_, _, by rw [hx], rfl, by rw [hx]; exact OT_zero⟩
 replace h11 := nf h11
 refine Zm <| Zc <| Za <| JLr (Zi Zs rfl (At.bx 5 rfl) (Zu (Zv ht)) <| JLr (Ze ty3 rfl (At.bx 4 rfl) rfl <| JLr (Ze ty3 rfl (At.bx 3 rfl) rfl <| Jc Tryz.call81 rfl (fun hin => shifted_ct _ _ _ _ _ (RT.mono (Hle.hu _ _) ht) (by have := (ZX (YV ‹ZI [t] = 0›)).1; omega) (ZX (YV ‹ZI [t] = 0›)).2.1 (by omega) (by omega)) rfl ?_)))
 rintro _ _ ⟨cs12, k12, rfl, rfl, hO12⟩
 refine JLr (Zd 3 (vs := cs12) (l := cs12) Zs rfl rfl rfl rfl hO12.len hO12.ok (Zy (n := 36) rfl hO12.len) <| JLA rfl <| Zb <| Zl <| ⟨.tuple ⟨[.agg ⟨cs12⟩, iv 0]⟩, [k12], Ret.two rfl (RV.cell Zs rfl (At.bx 3 rfl) (Zu hO12.len)) (RV.tmp rfl), (Sk Sub.nil), ?_⟩)
 have hx : shiftP t dy fr = (shT dy fr t, 0) := by simp only [shiftP]; (repeat' split) <;> first | rfl | (exfalso; simp_all; done) | (exfalso; simp_all; omega)
 exact ⟨_, _, by rw [hx], rfl, by rw [hx]; exact hO12⟩
theorem freeE_ct (t : Tm) (cs : List Value) (H : Heap) (ht : RT H cs t) : CT Tryz.prog 35 ⟨[.agg ⟨cs⟩]⟩ [] H (fun v N => ∃ u e k, v = .tuple ⟨[u, iv e]⟩ ∧ N = [k] ∧ Own 3 1 u (ints (freeE t).1) k ∧ e = (freeE t).2) := by
 refine Zk Tryz.func35 rfl rfl <| Zc <| Za <| JLr (Zp (l := cs) rfl rfl fun b1 => JLA rfl <| JLA rfl <| Zb <| Zc <| Zc <| Za <| JLr (Zi Zs rfl (At.bx 0 rfl) (Zu (Zv ht)) <| JLr (Zq (vs := [.agg ⟨cs⟩]) [cs] Tryz.runUnderlying24 el27 rfl rfl (by intro e he; simp only [List.mem_cons, List.not_mem_nil, or_false] at he; subst he; exact (Zv ht)) rfl (by decide) fun b2 k2 ho2 hk2 => Jc Tryz.call49 rfl (fun hin => right_ct _ _ _ (Own.rd1 ho2 (hin 0 _ rfl) (RT.mono (Hle.hu _ _) ht))) rfl ?_)))
 rintro _ _ ⟨rfl, rfl⟩
 refine JLA rfl <| Zb <| Zc <| Za <| JLM rfl <| JLn (Pu.neq rfl rfl) <| Zb <| Zg rfl (fun h3 => ?_) (fun h3 => ?_)
 ·replace h3 := nt h3
  replace h3 := df h3
  refine Zc <| Za <| JLM rfl <| JLA rfl <| JLA rfl <| Zb <| Zl <| ⟨.tuple ⟨[nS, iv (ZI [t])]⟩, [[]], Ret.two rfl (RV.tmp rfl) (RV.tmp rfl), (Sub.emp Sub.nil), ?_⟩
  have hx : freeE t = ([], ZI [t]) := by rw [freeE, if_neg (by assumption)]
  exact ⟨_, _, _, rfl, rfl, by rw [hx]; exact Own.nil, by rw [hx]⟩
 replace h3 := nf h3
 replace h3 := dt h3
 refine Zm <| Zc <| Za <| JLr (Zi Zs rfl (At.bx 1 rfl) (Zu (Zv ht)) <| Jc Tryz.call78 rfl (fun hin => freeP_ct _ _ _ (RT.mono (Hle.hu _ _) ht) (by have := (ZX (YV ‹ZI [t] = 0›)).1; omega) (ZX (YV ‹ZI [t] = 0›)).2.1) rfl ?_)
 rintro u4 _ ⟨_, k4, hu4, rfl, ho4⟩; subst hu4
 refine JLa u4 <| JLA rfl <| Zb <| Zl <| ⟨.tuple ⟨[u4, iv 0]⟩, [k4], Ret.two rfl (RV.tmp rfl) (RV.tmp rfl), (Sk Sub.nil), ?_⟩
 have hx : freeE t = (freeP t, 0) := by rw [freeE, if_pos (by assumption)]
 exact ⟨_, _, _, rfl, rfl, by rw [hx]; exact ho4, by rw [hx]⟩
theorem substP_ct (t : Tm) (m : Int) (u : Tm) (cs us : List Value) (H : Heap) (ht : RT H cs t) (hu1 : RT H us u) : CT Tryz.prog 36 ⟨[.agg ⟨cs⟩, iv m, .agg ⟨us⟩]⟩ [] H (fun v N => ∃ cs k, v = .tuple ⟨[.agg ⟨cs⟩, iv (substP t m u).2]⟩ ∧ N = [k] ∧ OT (substP t m u).1 cs k) := by
 refine Zk Tryz.func36 rfl rfl <| Zc <| Za <| JLr (Zp (l := cs) rfl rfl fun b1 => JLr (Zp (l := [iv m]) rfl rfl fun b2 => JLr (Zp (l := us) rfl rfl fun b3 => JLr (Zh (l := pkT 0 0 zS nS nS) Tryz.zeroValue27 rfl fun b4 => JLA rfl <| Zb <| Zc <| Zc <| Za <| JLr (Zi Zs rfl (At.bx 3 rfl) (Zu (Zv ht)) ?_)))))
 refine JLr (Zi Zs rfl (At.bx 1 rfl) (Zu (Zv hu1)) <| JLr (Zq (vs := [.agg ⟨cs⟩, .agg ⟨us⟩]) [cs, us] Tryz.runUnderlying24 el27 rfl rfl (by intro e he; simp only [List.mem_cons, List.not_mem_nil, or_false] at he; rcases he with rfl | rfl <;> first | exact (Zv ht) | exact (Zv hu1)) rfl (by decide) fun b5 k5 ho5 hk5 => Jc Tryz.call49 rfl (fun hin => right_ct _ _ _ (Own.rd2 ho5 (hin 0 _ rfl) (RT.mono (Hle.hu _ _) ht) (RT.mono (Hle.hu _ _) hu1))) rfl ?_))
 rintro _ _ ⟨rfl, rfl⟩
 refine JLA rfl <| Zb <| Zc <| Za <| JLM rfl <| JLn (Pu.neq rfl rfl) <| Zb <| Zg rfl (fun h6 => ?_) (fun h6 => ?_)
 ·replace h6 := nt h6
  replace h6 := df h6
  refine Zc <| Za <| JLq (.agg ⟨pkT 0 0 zS nS nS⟩) (Pu.build (pv := []) (l := pkT 0 0 zS nS nS) rfl (bld27_ )) <| JLM rfl <| JLr (Zd 1 (vs := pkT 0 0 zS nS nS) (l := pkT 0 0 zS nS nS) Zs rfl rfl rfl rfl rfl (Zz rfl rfl) (Z4 ..) <| JLA rfl <| Zb <| Zl <| ⟨.tuple ⟨[.agg ⟨pkT 0 0 zS nS nS⟩, iv (ZI [t, u])]⟩, [[]], Ret.two rfl (RV.cell Zs rfl (At.bx 1 rfl) (ZY ..)) (RV.tmp rfl), (Sub.emp Sub.nil), ?_⟩)
  have hx : substP t m u = (zT, ZI [t, u]) := by simp only [substP]; (repeat' split) <;> first | rfl | (exfalso; simp_all; done) | (exfalso; simp_all; omega)
  exact ⟨_, _, by rw [hx], rfl, by rw [hx]; exact OT_zero⟩
 replace h6 := nf h6
 replace h6 := dt h6
 refine Zm <| Zc <| Zc <| Za <| JLr (Ze ty3 rfl (At.bx 3 rfl) rfl <| Jc Tryz.call79 rfl (fun hin => Yt _ _ _ _) rfl ?_)
 rintro _ _ ⟨rfl, rfl⟩
 refine Zb <| Zg rfl (fun h7 => ?_) (fun h7 => ?_)
 ·replace h7 := dt h7
  refine Zc <| Za <| JLq (.agg ⟨pkT 0 0 zS nS nS⟩) (Pu.build (pv := []) (l := pkT 0 0 zS nS nS) rfl (bld27_ )) <| JLr (Zd 1 (vs := pkT 0 0 zS nS nS) (l := pkT 0 0 zS nS nS) Zs rfl rfl rfl rfl rfl (Zz rfl rfl) (Z4 ..) <| JLA rfl <| Zb <| Zl <| ⟨.tuple ⟨[.agg ⟨pkT 0 0 zS nS nS⟩, iv 3]⟩, [[]], Ret.two rfl (RV.cell Zs rfl (At.bx 1 rfl) (ZY ..)) (RV.tmp rfl), (Sub.emp Sub.nil), ?_⟩)
  have hx : substP t m u = (zT, 3) := by simp only [substP]; (repeat' split) <;> first | rfl | (exfalso; simp_all; done) | (exfalso; simp_all; omega)
  exact ⟨_, _, by rw [hx], rfl, by rw [hx]; exact OT_zero⟩
 replace h7 := df h7
 refine Zm <| Zc <| Za <| JLq (.func (.func 80) ⟨[]⟩ ⟨[pp b2 0, pp b3 0]⟩) (Pu.makeFunc rfl rfl) <| JLq (.agg ⟨[.func (.func 80) ⟨[]⟩ ⟨[pp b2 0, pp b3 0]⟩, .func (.func 83) ⟨[]⟩ ⟨[]⟩]⟩) (Pu.build (pv := [(0, .func (.func 80) ⟨[]⟩ ⟨[pp b2 0, pp b3 0]⟩), (1, .func (.func 83) ⟨[]⟩ ⟨[]⟩)]) (l := [.func (.func 80) ⟨[]⟩ ⟨[pp b2 0, pp b3 0]⟩, .func (.func 83) ⟨[]⟩ ⟨[]⟩]) rfl (bld141_0_1 _ _ _ _ _ _)) <| JLr (Zi Zs rfl (At.bx 4 rfl) (Zu (Zv ht)) <| Jc Tryz.call84 rfl (fun hin => mapTermP_ct 83 [] [] Tryz.call83 (fun s => s) 80 [] [pp b2 0, pp b3 0] Tryz.call80 (sbv m u) _ _ _ _ (RT.mono (Hle.hu _ _) ht) (by have := (ZX (rightT2 ‹ZI [t, u] = 0›).1).1; omega) (ZX (rightT2 ‹ZI [t, u] = 0›).1).2.1 (by decide) (by have := (ZX (rightT2 ‹ZI [t, u] = 0›).1).1; omega) (fun s h hh => same_ct s h) (fun n b h hh h1 h2 h3 h4 => substV_ct n b m u _ h b2 b3 (hh _ _ (hin 3 _ rfl _ _ List.mem_cons_self)) (hh _ _ (hin 2 _ rfl _ _ List.mem_cons_self)) (RT.mono (Hle.trans (Hle.hu _ _) hh) hu1) (by have := (ZX (rightT2 ‹ZI [t, u] = 0›).2).1; omega) (ZX (rightT2 ‹ZI [t, u] = 0›).2).2.1 h1 h2 h3 h4)) rfl ?_)
 rintro _ _ ⟨cs8, k8, rfl, rfl, hO8⟩
 refine Jc Tryz.call70 rfl (fun hin => short_ct _ _ _ (hO8.rd (hin 0 _ rfl))) rfl ?_
 rintro _ _ ⟨rfl, rfl⟩
 refine JLn (Pu.extract rfl rfl) <| JLn (Pu.extract rfl rfl) <| JLr (Zd 2 (vs := (if YU (mapQ (fun s => s) (sbv m u) 0 t) = true then pkT 0 0 zS nS nS else cs8)) (l := (if YU (mapQ (fun s => s) (sbv m u) 0 t) = true then pkT 0 0 zS nS nS else cs8)) Zs rfl rfl rfl rfl (len_ite (n := 36) rfl hO8.len) (okc_ite (Zz rfl rfl) hO8.ok) (Zy (n := 36) rfl (len_ite (n := 36) rfl hO8.len)) <| JLA rfl <| Zb <| Zl ?_)
 by_cases hL : YU (mapQ (fun s => s) (sbv m u) 0 t) = true
 ·refine ⟨.tuple ⟨[.agg ⟨(if YU (mapQ (fun s => s) (sbv m u) 0 t) = true then pkT 0 0 zS nS nS else cs8)⟩, iv ((if YU (mapQ (fun s => s) (sbv m u) 0 t) = true then 11 else 0))]⟩, [[]], Ret.two rfl (RV.cell Zs rfl (At.bx 2 rfl) (Zu (len_ite (n := 36) rfl hO8.len))) (RV.tmp rfl), (Sub.emp Sub.nil), ?_⟩
  have hx : substP t m u = (zT, 11) := by rw [substP, if_pos (by assumption), if_neg (by omega), if_pos (show YU (sbT m u t) = true from hL)]
  exact ⟨_, _, by rw [if_pos hL, if_pos hL, hx], rfl, by rw [hx]; exact OT_zero⟩
 refine ⟨.tuple ⟨[.agg ⟨(if YU (mapQ (fun s => s) (sbv m u) 0 t) = true then pkT 0 0 zS nS nS else cs8)⟩, iv ((if YU (mapQ (fun s => s) (sbv m u) 0 t) = true then 11 else 0))]⟩, [k8], Ret.two rfl (RV.cell Zs rfl (At.bx 2 rfl) (Zu (len_ite (n := 36) rfl hO8.len))) (RV.tmp rfl), (Sk Sub.nil), ?_⟩
 have hx : substP t m u = (mapQ (fun s => s) (sbv m u) 0 t, 0) := by rw [substP, if_pos (by assumption), if_neg (by omega), if_neg (show ¬ YU (sbT m u t) = true from hL)]; rfl
 exact ⟨_, _, by rw [if_neg hL, if_neg hL, hx], rfl, by rw [hx]; exact hO8⟩
end Go.Proofs.YtfdeibbpfgolcaaGreat.Hs
/-! Walks, printed by a program of this session's own (gen.py). -/
namespace Go.Proofs.YtfdeibbpfgolcaaGreat.Hs
open Go Go.Proofs
set_option maxRecDepth 100000
set_option linter.unusedVariables false
set_option linter.unusedSimpArgs false
attribute [local irreducible] JL J CT wlo DT
theorem eqFuncP_ct (g : Nat) (fs cv : List Value) (hcall : ∀ args w, (callFunc g args).run Tryz.prog w = .ok (.enter g args) w) (l m : List Pt) (v u : Value) (H : Heap) (hl : rdS RP 35 H v l) (hm : rdS RP 35 H u m) (hg : ∀ x ∈ l, ∀ y ∈ m, ∀ a b h, Hle H h → RP h a x → RP h b y → CT Tryz.prog g ⟨fs ++ [.agg ⟨a⟩, .agg ⟨b⟩] ++ cv⟩ [] h (fun v N => v = .bool (decide (x = y)) ∧ N = [])) : CT Tryz.prog 102 ⟨[v, u, .func (.func g) ⟨fs⟩ ⟨cv⟩]⟩ [] H (fun v N => v = .bool (decide (l = m)) ∧ N = []) := by
 refine Zk Tryz.func102 rfl rfl <| Zc <| Za <| JLA rfl <| Zb <| Zc <| Zc <| Za <| JLm v ?_
 obtain ⟨a1, cap1, hv1⟩ := hl.sl
 have hle1 := hl.le
 refine JLn (Pu.lenSl Tryz.runUnderlying52 hv1) <| JLm u ?_
 obtain ⟨a2, cap2, hv2⟩ := hm.sl
 have hle2 := hm.le
 refine JLn (Pu.lenSl Tryz.runUnderlying52 hv2) <| JLn (Pu.neq rfl rfl) <| Zb <| Zg rfl (fun h3 => ?_) (fun h3 => ?_)
 ·replace h3 := nt h3
  replace h3 := df h3
  refine Zc <| Za <| JLA rfl <| Zb <| Zl <| ⟨.bool false, [], Ret.one rfl (RV.tmp rfl), Sub.nil, ?_⟩
  exact ⟨by rw [decide_eq_false]; intro e; subst e; exact h3 rfl, rfl⟩
 replace h3 := nf h3
 replace h3 := dt h3
 refine Zm <| Zc <| Zc <| Za <| JLm v ?_
 obtain ⟨a4, cap4, hv4⟩ := hl.sl
 have hle4 := hl.le
 refine JLn (Pu.lenSl Tryz.runUnderlying52 hv4) <| JLM rfl <| Zb <| Zo <| ZT (fun k ρ M => ∃ (j : Nat), ρ 1 = u ∧ ρ 2 = .func (.func g) ⟨fs⟩ ⟨cv⟩ ∧ ρ 6 = .bool false ∧ ρ 15 = v ∧ ρ 16 = iv ((l.length : Int)) ∧ ρ 17 = iv ((j : Int)) ∧ Sub [] M ∧ j ≤ l.length ∧ l.length = m.length ∧ l.take j = m.take j ∧ k = l.length - j) _ ⟨0, rfl, rfl, rfl, rfl, rfl, rfl, Sub.nil, Nat.zero_le _, (by omega), rfl, rfl⟩ ?_
 rintro _ ρ5 _ ⟨j, e6, e7, e8, e9, e10, e11, hm12, hj, hlen, htake, rfl⟩
 obtain ⟨ρ13, rfl⟩ := Zn (uc e6 (uc e7 (uc e8 (uc e9 (uc e10 (uc e11 un))))))
 clear e6 e7 e8 e9 e10 e11
 refine ZS hm12 <| Zc <| Za <| JLn (Pu.lss rfl rfl) <| Zb <| Zc <| Zg rfl (fun h14 => ?_) (fun h14 => ?_)
 ·replace h14 := dt h14
  have h14n : j < l.length := by omega
  have hlenl := hl.le
  have hltm : j < m.length := by omega
  refine Zm <| Zc <| Zo <| Zc <| Za <| JLM rfl ?_
  obtain ⟨b15, o15, cap15, row15, T15, fr15, cs15, hv15, hb15, hs15, hE15⟩ := hl.get j (by first | assumption | omega | decide | simp)
  refine JLq (pp b15 (o15 + j * 35)) (Pu.idx j Tryz.runUnderlying52 ZQ hv15 rfl rfl (by first | assumption | omega | decide | simp)) <| JLr (Zi ZQ rfl (At.im hb15) hs15 <| JLr (Zh (l := pkP 0 0 zS nS) Tryz.zeroValue54 rfl fun b16 => JLA rfl <| JLr (Zd 0 (vs := cs15) (l := cs15) ZQ rfl rfl rfl rfl (ZA hE15) (RP_ok hE15) (Zy (n := 35) rfl (ZA hE15)) <| Zb <| Zc <| Za <| JLm u <| JLM rfl ?_)))
  obtain ⟨b17, o17, cap17, row17, T17, fr17, cs17, hv17, hb17, hs17, hE17⟩ := hm.get j (by first | assumption | omega | decide | simp)
  refine JLq (pp b17 (o17 + j * 35)) (Pu.idx j Tryz.runUnderlying52 ZQ hv17 rfl rfl (by first | assumption | omega | decide | simp)) <| JLr (Zi ZQ rfl (At.im hb17) hs17 <| JLr (Zh (l := pkP 0 0 zS nS) Tryz.zeroValue54 rfl fun b18 => JLr (Zd 0 (vs := cs17) (l := cs17) ZQ rfl rfl rfl rfl (ZA hE17) (RP_ok hE17) (Zy (n := 35) rfl (ZA hE17)) <| Zb <| Zc <| Za <| JLM rfl <| JLr (Zi ZQ rfl (At.bx 1 rfl) (Zu (ZA hE15)) <| JLr (Zi ZQ rfl (At.bx 0 rfl) (Zu (ZA hE17)) <| Jc hcall rfl (fun hin => hg _ (List.getElem_mem h14n) _ (List.getElem_mem (by omega)) _ _ _ (Hle.hu _ _) (RP.mono (Hle.hu _ _) hE15) (RP.mono (Hle.hu _ _) hE17)) rfl ?_)))))
  rintro _ _ ⟨rfl, rfl⟩
  refine JLn (Pu.not rfl) <| Zb <| Zg rfl (fun h19 => ?_) (fun h19 => ?_)
  ·replace h19 := nt h19
   replace h19 := df h19
   refine Zc <| Za <| JLA rfl <| Zb <| Zl <| ⟨.bool false, [], Ret.one rfl (RV.tmp rfl), Sub.nil, ?_⟩
   exact ⟨by rw [decide_eq_false]; intro e; subst e; exact h19 rfl, rfl⟩
  replace h19 := nf h19
  replace h19 := dt h19
  refine Zm <| Za <| JLn (Pu.inc rfl rfl (by omega)) <| JLM rfl <| Zb <| ⟨_, ?_, (j + 1), rfl, rfl, rfl, rfl, rfl, rfl, Sub.nil, ?_, ?_, ?_, rfl⟩
  ·omega
  ·omega
  ·assumption
  rw [List.take_succ_eq_append_getElem h14n, List.take_succ_eq_append_getElem (by omega), htake, h19]
 replace h14 := df h14
 have h14n : l.length ≤ j := by omega
 refine ZB _ rfl <| Zc <| Za <| JLA rfl <| Zb <| Zl <| ⟨.bool true, [], Ret.one rfl (RV.tmp rfl), Sub.nil, ?_⟩
 exact ⟨by rw [decide_eq_true]; have e := htake; rw [List.take_of_length_le h14n, List.take_of_length_le (by omega)] at e; exact e, rfl⟩
theorem eqFuncT_ct (g : Nat) (fs cv : List Value) (hcall : ∀ args w, (callFunc g args).run Tryz.prog w = .ok (.enter g args) w) (l m : List Tm) (v u : Value) (H : Heap) (hl : rdS RT 36 H v l) (hm : rdS RT 36 H u m) (hg : ∀ x ∈ l, ∀ y ∈ m, ∀ a b h, Hle H h → RT h a x → RT h b y → CT Tryz.prog g ⟨fs ++ [.agg ⟨a⟩, .agg ⟨b⟩] ++ cv⟩ [] h (fun v N => v = .bool (decide (x = y)) ∧ N = [])) : CT Tryz.prog 101 ⟨[v, u, .func (.func g) ⟨fs⟩ ⟨cv⟩]⟩ [] H (fun v N => v = .bool (decide (l = m)) ∧ N = []) := by
 refine Zk Tryz.func101 rfl rfl <| Zc <| Za <| JLA rfl <| Zb <| Zc <| Zc <| Za <| JLm v ?_
 obtain ⟨a1, cap1, hv1⟩ := hl.sl
 have hle1 := hl.le
 refine JLn (Pu.lenSl Tryz.runUnderlying24 hv1) <| JLm u ?_
 obtain ⟨a2, cap2, hv2⟩ := hm.sl
 have hle2 := hm.le
 refine JLn (Pu.lenSl Tryz.runUnderlying24 hv2) <| JLn (Pu.neq rfl rfl) <| Zb <| Zg rfl (fun h3 => ?_) (fun h3 => ?_)
 ·replace h3 := nt h3
  replace h3 := df h3
  refine Zc <| Za <| JLA rfl <| Zb <| Zl <| ⟨.bool false, [], Ret.one rfl (RV.tmp rfl), Sub.nil, ?_⟩
  exact ⟨by rw [decide_eq_false]; intro e; subst e; exact h3 rfl, rfl⟩
 replace h3 := nf h3
 replace h3 := dt h3
 refine Zm <| Zc <| Zc <| Za <| JLm v ?_
 obtain ⟨a4, cap4, hv4⟩ := hl.sl
 have hle4 := hl.le
 refine JLn (Pu.lenSl Tryz.runUnderlying24 hv4) <| JLM rfl <| Zb <| Zo <| ZT (fun k ρ M => ∃ (j : Nat), ρ 1 = u ∧ ρ 2 = .func (.func g) ⟨fs⟩ ⟨cv⟩ ∧ ρ 6 = .bool false ∧ ρ 15 = v ∧ ρ 16 = iv ((l.length : Int)) ∧ ρ 17 = iv ((j : Int)) ∧ Sub [] M ∧ j ≤ l.length ∧ l.length = m.length ∧ l.take j = m.take j ∧ k = l.length - j) _ ⟨0, rfl, rfl, rfl, rfl, rfl, rfl, Sub.nil, Nat.zero_le _, (by omega), rfl, rfl⟩ ?_
 rintro _ ρ5 _ ⟨j, e6, e7, e8, e9, e10, e11, hm12, hj, hlen, htake, rfl⟩
 obtain ⟨ρ13, rfl⟩ := Zn (uc e6 (uc e7 (uc e8 (uc e9 (uc e10 (uc e11 un))))))
 clear e6 e7 e8 e9 e10 e11
 refine ZS hm12 <| Zc <| Za <| JLn (Pu.lss rfl rfl) <| Zb <| Zc <| Zg rfl (fun h14 => ?_) (fun h14 => ?_)
 ·replace h14 := dt h14
  have h14n : j < l.length := by omega
  have hlenl := hl.le
  have hltm : j < m.length := by omega
  refine Zm <| Zc <| Zo <| Zc <| Za <| JLM rfl ?_
  obtain ⟨b15, o15, cap15, row15, T15, fr15, cs15, hv15, hb15, hs15, hE15⟩ := hl.get j (by first | assumption | omega | decide | simp)
  refine JLq (pp b15 (o15 + j * 36)) (Pu.idx j Tryz.runUnderlying24 Zs hv15 rfl rfl (by first | assumption | omega | decide | simp)) <| JLr (Zi Zs rfl (At.im hb15) hs15 <| JLr (Zh (l := pkT 0 0 zS nS nS) Tryz.zeroValue27 rfl fun b16 => JLA rfl <| JLr (Zd 0 (vs := cs15) (l := cs15) Zs rfl rfl rfl rfl (Zv hE15) (Y5 hE15) (Zy (n := 36) rfl (Zv hE15)) <| Zb <| Zc <| Za <| JLm u <| JLM rfl ?_)))
  obtain ⟨b17, o17, cap17, row17, T17, fr17, cs17, hv17, hb17, hs17, hE17⟩ := hm.get j (by first | assumption | omega | decide | simp)
  refine JLq (pp b17 (o17 + j * 36)) (Pu.idx j Tryz.runUnderlying24 Zs hv17 rfl rfl (by first | assumption | omega | decide | simp)) <| JLr (Zi Zs rfl (At.im hb17) hs17 <| JLr (Zh (l := pkT 0 0 zS nS nS) Tryz.zeroValue27 rfl fun b18 => JLr (Zd 0 (vs := cs17) (l := cs17) Zs rfl rfl rfl rfl (Zv hE17) (Y5 hE17) (Zy (n := 36) rfl (Zv hE17)) <| Zb <| Zc <| Za <| JLM rfl <| JLr (Zi Zs rfl (At.bx 1 rfl) (Zu (Zv hE15)) <| JLr (Zi Zs rfl (At.bx 0 rfl) (Zu (Zv hE17)) <| Jc hcall rfl (fun hin => hg _ (List.getElem_mem h14n) _ (List.getElem_mem (by omega)) _ _ _ (Hle.hu _ _) (RT.mono (Hle.hu _ _) hE15) (RT.mono (Hle.hu _ _) hE17)) rfl ?_)))))
  rintro _ _ ⟨rfl, rfl⟩
  refine JLn (Pu.not rfl) <| Zb <| Zg rfl (fun h19 => ?_) (fun h19 => ?_)
  ·replace h19 := nt h19
   replace h19 := df h19
   refine Zc <| Za <| JLA rfl <| Zb <| Zl <| ⟨.bool false, [], Ret.one rfl (RV.tmp rfl), Sub.nil, ?_⟩
   exact ⟨by rw [decide_eq_false]; intro e; subst e; exact h19 rfl, rfl⟩
  replace h19 := nf h19
  replace h19 := dt h19
  refine Zm <| Za <| JLn (Pu.inc rfl rfl (by omega)) <| JLM rfl <| Zb <| ⟨_, ?_, (j + 1), rfl, rfl, rfl, rfl, rfl, rfl, Sub.nil, ?_, ?_, ?_, rfl⟩
  ·omega
  ·omega
  ·assumption
  rw [List.take_succ_eq_append_getElem h14n, List.take_succ_eq_append_getElem (by omega), htake, h19]
 replace h14 := df h14
 have h14n : l.length ≤ j := by omega
 refine ZB _ rfl <| Zc <| Za <| JLA rfl <| Zb <| Zl <| ⟨.bool true, [], Ret.one rfl (RV.tmp rfl), Sub.nil, ?_⟩
 exact ⟨by rw [decide_eq_true]; have e := htake; rw [List.take_of_length_le h14n, List.take_of_length_le (by omega)] at e; exact e, rfl⟩
theorem eqFuncC_ct (g : Nat) (fs cv : List Value) (hcall : ∀ args w, (callFunc g args).run Tryz.prog w = .ok (.enter g args) w) (l m : List (Pt × Tm)) (v u : Value) (H : Heap) (hl : rdS RC 71 H v l) (hm : rdS RC 71 H u m) (hg : ∀ x ∈ l, ∀ y ∈ m, ∀ a b h, Hle H h → RC h a x → RC h b y → CT Tryz.prog g ⟨fs ++ [.agg ⟨a⟩, .agg ⟨b⟩] ++ cv⟩ [] h (fun v N => v = .bool (decide (x = y)) ∧ N = [])) : CT Tryz.prog 64 ⟨[v, u, .func (.func g) ⟨fs⟩ ⟨cv⟩]⟩ [] H (fun v N => v = .bool (decide (l = m)) ∧ N = []) := by
 refine Zk Tryz.func64 rfl rfl <| Zc <| Za <| JLA rfl <| Zb <| Zc <| Zc <| Za <| JLm v ?_
 obtain ⟨a1, cap1, hv1⟩ := hl.sl
 have hle1 := hl.le
 refine JLn (Pu.lenSl Tryz.runUnderlying25 hv1) <| JLm u ?_
 obtain ⟨a2, cap2, hv2⟩ := hm.sl
 have hle2 := hm.le
 refine JLn (Pu.lenSl Tryz.runUnderlying25 hv2) <| JLn (Pu.neq rfl rfl) <| Zb <| Zg rfl (fun h3 => ?_) (fun h3 => ?_)
 ·replace h3 := nt h3
  replace h3 := df h3
  refine Zc <| Za <| JLA rfl <| Zb <| Zl <| ⟨.bool false, [], Ret.one rfl (RV.tmp rfl), Sub.nil, ?_⟩
  exact ⟨by rw [decide_eq_false]; intro e; subst e; exact h3 rfl, rfl⟩
 replace h3 := nf h3
 replace h3 := dt h3
 refine Zm <| Zc <| Zc <| Za <| JLm v ?_
 obtain ⟨a4, cap4, hv4⟩ := hl.sl
 have hle4 := hl.le
 refine JLn (Pu.lenSl Tryz.runUnderlying25 hv4) <| JLM rfl <| Zb <| Zo <| ZT (fun k ρ M => ∃ (j : Nat), ρ 1 = u ∧ ρ 2 = .func (.func g) ⟨fs⟩ ⟨cv⟩ ∧ ρ 6 = .bool false ∧ ρ 15 = v ∧ ρ 16 = iv ((l.length : Int)) ∧ ρ 17 = iv ((j : Int)) ∧ Sub [] M ∧ j ≤ l.length ∧ l.length = m.length ∧ l.take j = m.take j ∧ k = l.length - j) _ ⟨0, rfl, rfl, rfl, rfl, rfl, rfl, Sub.nil, Nat.zero_le _, (by omega), rfl, rfl⟩ ?_
 rintro _ ρ5 _ ⟨j, e6, e7, e8, e9, e10, e11, hm12, hj, hlen, htake, rfl⟩
 obtain ⟨ρ13, rfl⟩ := Zn (uc e6 (uc e7 (uc e8 (uc e9 (uc e10 (uc e11 un))))))
 clear e6 e7 e8 e9 e10 e11
 refine ZS hm12 <| Zc <| Za <| JLn (Pu.lss rfl rfl) <| Zb <| Zc <| Zg rfl (fun h14 => ?_) (fun h14 => ?_)
 ·replace h14 := dt h14
  have h14n : j < l.length := by omega
  have hlenl := hl.le
  have hltm : j < m.length := by omega
  refine Zm <| Zc <| Zo <| Zc <| Za <| JLM rfl ?_
  obtain ⟨b15, o15, cap15, row15, T15, fr15, cs15, hv15, hb15, hs15, hE15⟩ := hl.get j (by first | assumption | omega | decide | simp)
  obtain ⟨ca15, cb15, rfl, hA15, hB15⟩ := hE15
  refine JLq (pp b15 (o15 + j * 71)) (Pu.idx j Tryz.runUnderlying25 YR hv15 rfl rfl (by first | assumption | omega | decide | simp)) <| JLr (Zi YR rfl (At.im hb15) hs15 <| JLr (Zh (l := (pkP 0 0 zS nS) ++ (pkT 0 0 zS nS nS)) Tryz.zeroValue56 rfl fun b16 => JLA rfl <| JLr (Zd 0 (vs := ca15 ++ cb15) (l := ca15 ++ cb15) YR rfl rfl rfl rfl (ZR (ZA hA15) (Zv hB15)) (Z2 (RP_ok hA15) (Y5 hB15)) (Zy (n := 71) rfl (ZR (ZA hA15) (Zv hB15))) <| Zb <| Zc <| Za <| JLm u <| JLM rfl ?_)))
  obtain ⟨b17, o17, cap17, row17, T17, fr17, cs17, hv17, hb17, hs17, hE17⟩ := hm.get j (by first | assumption | omega | decide | simp)
  obtain ⟨ca17, cb17, rfl, hA17, hB17⟩ := hE17
  refine JLq (pp b17 (o17 + j * 71)) (Pu.idx j Tryz.runUnderlying25 YR hv17 rfl rfl (by first | assumption | omega | decide | simp)) <| JLr (Zi YR rfl (At.im hb17) hs17 <| JLr (Zh (l := (pkP 0 0 zS nS) ++ (pkT 0 0 zS nS nS)) Tryz.zeroValue56 rfl fun b18 => JLr (Zd 0 (vs := ca17 ++ cb17) (l := ca17 ++ cb17) YR rfl rfl rfl rfl (ZR (ZA hA17) (Zv hB17)) (Z2 (RP_ok hA17) (Y5 hB17)) (Zy (n := 71) rfl (ZR (ZA hA17) (Zv hB17))) <| Zb <| Zc <| Za <| JLM rfl <| JLr (Zi YR rfl (At.bx 1 rfl) (Zu (ZR (ZA hA15) (Zv hB15))) <| JLr (Zi YR rfl (At.bx 0 rfl) (Zu (ZR (ZA hA17) (Zv hB17))) <| Jc hcall rfl (fun hin => hg _ (List.getElem_mem h14n) _ (List.getElem_mem (by omega)) _ _ _ (Hle.hu _ _) (RC.mono (Hle.hu _ _) (RC_mk hA15 hB15)) (RC.mono (Hle.hu _ _) (RC_mk hA17 hB17))) rfl ?_)))))
  rintro _ _ ⟨rfl, rfl⟩
  refine JLn (Pu.not rfl) <| Zb <| Zg rfl (fun h19 => ?_) (fun h19 => ?_)
  ·replace h19 := nt h19
   replace h19 := df h19
   refine Zc <| Za <| JLA rfl <| Zb <| Zl <| ⟨.bool false, [], Ret.one rfl (RV.tmp rfl), Sub.nil, ?_⟩
   exact ⟨by rw [decide_eq_false]; intro e; subst e; exact h19 rfl, rfl⟩
  replace h19 := nf h19
  replace h19 := dt h19
  refine Zm <| Za <| JLn (Pu.inc rfl rfl (by omega)) <| JLM rfl <| Zb <| ⟨_, ?_, (j + 1), rfl, rfl, rfl, rfl, rfl, rfl, Sub.nil, ?_, ?_, ?_, rfl⟩
  ·omega
  ·omega
  ·assumption
  rw [List.take_succ_eq_append_getElem h14n, List.take_succ_eq_append_getElem (by omega), htake, h19]
 replace h14 := df h14
 have h14n : l.length ≤ j := by omega
 refine ZB _ rfl <| Zc <| Za <| JLA rfl <| Zb <| Zl <| ⟨.bool true, [], Ret.one rfl (RV.tmp rfl), Sub.nil, ?_⟩
 exact ⟨by rw [decide_eq_true]; have e := htake; rw [List.take_of_length_le h14n, List.take_of_length_le (by omega)] at e; exact e, rfl⟩
theorem samePattern_ct : ∀ (p q : Pt) (cs ds : List Value) (H : Heap), RP H cs p → RP H ds q → CT Tryz.prog 66 ⟨[.agg ⟨cs⟩, .agg ⟨ds⟩]⟩ [] H (fun v N => v = .bool (decide (p = q)) ∧ N = []) := by
 intro p
 induction p using Pt.ind with
 | h kind num ref kids ih =>
 intro q cs ds H hp hq
 obtain ⟨ks, rfl, hk, hn, hks⟩ := RP_mk.1 hp
 obtain ⟨ksq, rfl, hkq, hnq, hksq⟩ := RP_open hq
 refine Zk Tryz.func66 rfl rfl <| Zc <| Za <| JLr (Zp (l := pkP kind num ref ks) rfl rfl fun b1 => JLr (Zp (l := pkP (q.kind) (q.num) (q.ref) ksq) rfl rfl fun b2 => JLA rfl <| Zb <| Zc <| Za <| JLq (pp b1 0) (YI rfl rfl) <| JLr (Ze ty3 rfl (At.bx 1 rfl) (pkP_0 ..) <| JLq (pp b2 0) (YI rfl rfl) <| JLr (Ze ty3 rfl (At.bx 0 rfl) (pkP_0 ..) ?_))))
 refine JLn (Pu.eql rfl rfl) <| JLM rfl <| ZC 5 [11, 12, 13, 14, 15] [(15, cond (decide (kind = q.kind)) (.bool (decide (num = q.num))) undef)] ?_ fun f4 => ?_
 ·cases h3 : (decide (kind = q.kind)) with
  | true =>
   replace h3 := dt h3
   refine JLq (pp b1 1) (fa54_1 rfl rfl) <| JLr (Ze ty3 rfl (At.bx 1 rfl) (pkP_1 ..) <| JLq (pp b2 1) (fa54_1 rfl rfl) <| JLr (Ze ty3 rfl (At.bx 0 rfl) (pkP_1 ..) <| JLn (Pu.eql rfl rfl) ?_))
   exact Zb ⟨⟨rfl, trivial⟩, rfl⟩
  | false =>
   exact ZP rfl ⟨rfl, trivial⟩
 refine JLn (Pu.pickAnd rfl rfl rfl) <| JLM rfl <| ZC 5 [18, 19, 20, 21, 22] [(22, cond ((decide (kind = q.kind)) && (decide (num = q.num))) (.bool (decide (ref = q.ref))) undef)] ?_ fun f6 => ?_
 ·cases h5 : ((decide (kind = q.kind)) && (decide (num = q.num))) with
  | true =>
   obtain ⟨h5a, h5b⟩ := YW h5
   replace h5a := dt h5a
   replace h5b := dt h5b
   refine JLq (pp b1 2) (fa54_2 rfl rfl) <| JLr (Zi Z3 rfl (At.bx 1 rfl) (pkP_2 ..) <| JLq (pp b2 2) (fa54_2 rfl rfl) <| JLr (Zi Z3 rfl (At.bx 0 rfl) (pkP_2 ..) <| JLn (eqS rfl rfl) ?_))
   exact Zb ⟨⟨rfl, trivial⟩, rfl⟩
  | false =>
   exact ZP rfl ⟨rfl, trivial⟩
 refine JLn (Pu.pickAnd rfl rfl rfl) <| JLM rfl <| ZC 5 [25, 26, 27, 28, 29] [(29, cond (((decide (kind = q.kind)) && (decide (num = q.num))) && (decide (ref = q.ref))) (.bool (decide (kids = (q.kids)))) undef)] ?_ fun f8 => ?_
 ·cases h7 : (((decide (kind = q.kind)) && (decide (num = q.num))) && (decide (ref = q.ref))) with
  | true =>
   obtain ⟨h7a, h7b⟩ := YW h7
   obtain ⟨h7aa, h7ab⟩ := YW h7a
   replace h7aa := dt h7aa
   replace h7ab := dt h7ab
   replace h7b := dt h7b
   refine JLq (pp b1 34) (Yv rfl rfl) <| JLr (Ze ty52 rfl (At.bx 1 rfl) (YG ..) <| JLq (pp b2 34) (Yv rfl rfl) <| JLr (Ze ty52 rfl (At.bx 0 rfl) (YG ..) <| Jc Tryz.call102 rfl (fun hin => eqFuncP_ct 66 [] [] (fun _ _ => rfl) _ _ _ _ _ (RPs.mono (Hle.hu _ _) hks) (RPs.mono (Hle.hu _ _) hksq) (fun x hx y hy a b h hh ra rb => ih x hx y a b h ra rb)) rfl ?_))
   rintro _ _ ⟨rfl, rfl⟩
   exact Zb ⟨⟨rfl, trivial⟩, rfl⟩
  | false =>
   exact ZP rfl ⟨rfl, trivial⟩
 refine JLn (Pu.pickAnd rfl rfl rfl) <| JLA rfl <| Zb <| Zl <| ⟨.bool ((((decide (kind = q.kind)) && (decide (num = q.num))) && (decide (ref = q.ref))) && (decide (kids = (q.kids)))), [], Ret.one rfl (RV.tmp rfl), Sub.nil, ?_⟩
 exact ⟨congrArg Value.bool (eqPd ..), rfl⟩
theorem sameCase_ct : ∀ (c d : Pt × Tm) (a b : List Value) (H : Heap), RC H a c → RC H b d → (∀ h a b, Hle H h → RT h a c.2 → RT h b d.2 → CT Tryz.prog 16 ⟨[.agg ⟨a⟩, .agg ⟨b⟩]⟩ [] h (fun v N => v = .bool (decide (c.2 = d.2)) ∧ N = [])) → CT Tryz.prog 65 ⟨[.agg ⟨a⟩, .agg ⟨b⟩]⟩ [] H (fun v N => v = .bool (decide (c = d)) ∧ N = []) := by
 intro c d a b H ⟨ca, cb, e1, ra1, ra2⟩ ⟨da, db, e2, rb1, rb2⟩ hg
 subst e1 e2
 refine Zk Tryz.func65 rfl rfl <| Zc <| Za <| JLr (Zp (l := ca ++ cb) rfl rfl fun b1 => JLr (Zp (l := da ++ db) rfl rfl fun b2 => JLA rfl <| Zb <| Zc <| Za <| JLq (pp b1 0) (fa56_0 rfl rfl) <| JLr (Zi ZQ rfl (At.bx 1 rfl) (sub_l (ZA ra1)) <| JLq (pp b2 0) (fa56_0 rfl rfl) <| JLr (Zi ZQ rfl (At.bx 0 rfl) (sub_l (ZA rb1)) ?_))))
 refine Jc Tryz.call66 rfl (fun hin => samePattern_ct _ _ _ _ _ (RP.mono (Hle.hu _ _) ra1) (RP.mono (Hle.hu _ _) rb1)) rfl ?_
 rintro _ _ ⟨rfl, rfl⟩
 refine JLM rfl <| ZC 5 [11, 12, 13, 14, 15] [(15, cond (decide ((c.1) = (d.1))) (.bool (decide ((c.2) = (d.2)))) undef)] ?_ fun f4 => ?_
 ·cases h3 : (decide ((c.1) = (d.1))) with
  | true =>
   replace h3 := dt h3
   refine JLq (pp b1 35) (fa56_1 rfl rfl) <| JLr (Zi Zs rfl (At.bx 1 rfl) (sub_r (ZA ra1) (Zv ra2)) <| JLq (pp b2 35) (fa56_1 rfl rfl) <| JLr (Zi Zs rfl (At.bx 0 rfl) (sub_r (ZA rb1) (Zv rb2)) <| Jc Tryz.call16 rfl (fun hin => hg _ _ _ (Hle.hu _ _) (RT.mono (Hle.hu _ _) ra2) (RT.mono (Hle.hu _ _) rb2)) rfl ?_))
   rintro _ _ ⟨rfl, rfl⟩
   exact Zb ⟨⟨rfl, trivial⟩, rfl⟩
  | false =>
   exact ZP rfl ⟨rfl, trivial⟩
 refine JLn (Pu.pickAnd rfl rfl rfl) <| JLA rfl <| Zb <| Zl <| ⟨.bool ((decide ((c.1) = (d.1))) && (decide ((c.2) = (d.2)))), [], Ret.one rfl (RV.tmp rfl), Sub.nil, ?_⟩
 exact ⟨by obtain ⟨c1, c2⟩ := c; obtain ⟨d1, d2⟩ := d; refine congrArg Value.bool ?_; rw [Bool.eq_iff_iff]; simp, rfl⟩
theorem sameTerms_ct : ∀ (l m : List Tm) (v u : Value) (H : Heap) (_ : rdS RT 36 H v l) (_ : rdS RT 36 H u m) (_ : ∀ x ∈ l, ∀ y a b h, Hle H h → RT h a x → RT h b y → CT Tryz.prog 16 ⟨[.agg ⟨a⟩, .agg ⟨b⟩]⟩ [] h (fun v N => v = .bool (decide (x = y)) ∧ N = [])), CT Tryz.prog 63 ⟨[v, u]⟩ [] H (fun v N => v = .bool (decide (l = m)) ∧ N = []) := by
 intro l m v u H hl hm hg
 refine Zk Tryz.func63 rfl rfl <| Zc <| Za <| JLA rfl <| Zb <| Zc <| Za <| JLm v <| JLm u <| Jc Tryz.call101 rfl (fun hin => eqFuncT_ct 16 [] [] (fun _ _ => rfl) _ _ _ _ _ (RTs.mono (Hle.hu _ _) hl) (RTs.mono (Hle.hu _ _) hm) (fun x hx y hy a b h hh ra rb => hg x hx y a b h (Hle.trans (Hle.hu _ _) hh) ra rb)) rfl ?_
 rintro _ _ ⟨rfl, rfl⟩
 refine JLA rfl <| Zb <| Zl <| ⟨.bool (decide (l = m)), [], Ret.one rfl (RV.tmp rfl), Sub.nil, ?_⟩
 exact ⟨rfl, rfl⟩
theorem sameTerm_ct : ∀ (t u : Tm) (cs ds : List Value) (H : Heap), RT H cs t → RT H ds u → CT Tryz.prog 16 ⟨[.agg ⟨cs⟩, .agg ⟨ds⟩]⟩ [] H (fun v N => v = .bool (decide (t = u)) ∧ N = []) := by
 intro t
 induction t using Tm.ind with
 | h kind num ref kids cases ih ih' =>
 intro u cs ds H ht hu
 obtain ⟨ks, cv, rfl, hk, hn, hks, hcv⟩ := RT_mk.1 ht
 obtain ⟨ksu, cvu, rfl, hku, hnu, hksu, hcvu⟩ := RT_open hu
 refine Zk Tryz.func16 rfl rfl <| Zc <| Za <| JLr (Zp (l := pkT kind num ref ks cv) rfl rfl fun b1 => JLr (Zp (l := pkT (u.kind) (u.num) (u.ref) ksu cvu) rfl rfl fun b2 => JLA rfl <| Zb <| Zc <| Za <| JLq (pp b1 0) (ZO rfl rfl) <| JLr (Ze ty3 rfl (At.bx 1 rfl) (Z5 ..) <| JLq (pp b2 0) (ZO rfl rfl) <| JLr (Ze ty3 rfl (At.bx 0 rfl) (Z5 ..) ?_))))
 refine JLn (Pu.eql rfl rfl) <| JLM rfl <| ZC 5 [11, 12, 13, 14, 15] [(15, cond (decide (kind = u.kind)) (.bool (decide (num = u.num))) undef)] ?_ fun f4 => ?_
 ·cases h3 : (decide (kind = u.kind)) with
  | true =>
   replace h3 := dt h3
   refine JLq (pp b1 1) (Yq rfl rfl) <| JLr (Ze ty3 rfl (At.bx 1 rfl) (YY ..) <| JLq (pp b2 1) (Yq rfl rfl) <| JLr (Ze ty3 rfl (At.bx 0 rfl) (YY ..) <| JLn (Pu.eql rfl rfl) ?_))
   exact Zb ⟨⟨rfl, trivial⟩, rfl⟩
  | false =>
   exact ZP rfl ⟨rfl, trivial⟩
 refine JLn (Pu.pickAnd rfl rfl rfl) <| JLM rfl <| ZC 5 [18, 19, 20, 21, 22] [(22, cond ((decide (kind = u.kind)) && (decide (num = u.num))) (.bool (decide (ref = u.ref))) undef)] ?_ fun f6 => ?_
 ·cases h5 : ((decide (kind = u.kind)) && (decide (num = u.num))) with
  | true =>
   obtain ⟨h5a, h5b⟩ := YW h5
   replace h5a := dt h5a
   replace h5b := dt h5b
   refine JLq (pp b1 2) (fa27_2 rfl rfl) <| JLr (Zi Z3 rfl (At.bx 1 rfl) (pkT_2 ..) <| JLq (pp b2 2) (fa27_2 rfl rfl) <| JLr (Zi Z3 rfl (At.bx 0 rfl) (pkT_2 ..) <| JLn (eqS rfl rfl) ?_))
   exact Zb ⟨⟨rfl, trivial⟩, rfl⟩
  | false =>
   exact ZP rfl ⟨rfl, trivial⟩
 refine JLn (Pu.pickAnd rfl rfl rfl) <| JLM rfl <| ZC 5 [25, 26, 27, 28, 29] [(29, cond (((decide (kind = u.kind)) && (decide (num = u.num))) && (decide (ref = u.ref))) (.bool (decide (kids = (u.kids)))) undef)] ?_ fun f8 => ?_
 ·cases h7 : (((decide (kind = u.kind)) && (decide (num = u.num))) && (decide (ref = u.ref))) with
  | true =>
   obtain ⟨h7a, h7b⟩ := YW h7
   obtain ⟨h7aa, h7ab⟩ := YW h7a
   replace h7aa := dt h7aa
   replace h7ab := dt h7ab
   replace h7b := dt h7b
   refine JLq (pp b1 34) (Yb rfl rfl) <| JLr (Ze ty24 rfl (At.bx 1 rfl) (Z9 ..) <| JLq (pp b2 34) (Yb rfl rfl) <| JLr (Ze ty24 rfl (At.bx 0 rfl) (Z9 ..) <| Jc Tryz.call63 rfl (fun hin => sameTerms_ct _ _ _ _ _ (RTs.mono (Hle.hu _ _) hks) (RTs.mono (Hle.hu _ _) hksu) (fun x hx y a b h _ ra rb => ih x hx y a b h ra rb)) rfl ?_))
   rintro _ _ ⟨rfl, rfl⟩
   exact Zb ⟨⟨rfl, trivial⟩, rfl⟩
  | false =>
   exact ZP rfl ⟨rfl, trivial⟩
 refine JLn (Pu.pickAnd rfl rfl rfl) <| JLM rfl <| ZC 5 [32, 33, 34, 35, 36] [(36, cond ((((decide (kind = u.kind)) && (decide (num = u.num))) && (decide (ref = u.ref))) && (decide (kids = (u.kids)))) (.bool (decide (cases = (u.cases)))) undef)] ?_ fun f10 => ?_
 ·cases h9 : ((((decide (kind = u.kind)) && (decide (num = u.num))) && (decide (ref = u.ref))) && (decide (kids = (u.kids)))) with
  | true =>
   obtain ⟨h9a, h9b⟩ := YW h9
   obtain ⟨h9aa, h9ab⟩ := YW h9a
   obtain ⟨h9aaa, h9aab⟩ := YW h9aa
   replace h9aaa := dt h9aaa
   replace h9aab := dt h9aab
   replace h9ab := dt h9ab
   replace h9b := dt h9b
   refine JLq (pp b1 35) (Yw rfl rfl) <| JLr (Ze ty25 rfl (At.bx 1 rfl) (Yj ..) <| JLq (pp b2 35) (Yw rfl rfl) <| JLr (Ze ty25 rfl (At.bx 0 rfl) (Yj ..) <| Jc Tryz.call64 rfl (fun hin => eqFuncC_ct 65 [] [] (fun _ _ => rfl) _ _ _ _ _ (RCs.mono (Hle.hu _ _) hcv) (RCs.mono (Hle.hu _ _) hcvu) (fun x hx y hy a b h hh ra rb => sameCase_ct x y a b h ra rb (fun h' a' b' _ r1 r2 => ih' x hx y.2 a' b' h' r1 r2))) rfl ?_))
   rintro _ _ ⟨rfl, rfl⟩
   exact Zb ⟨⟨rfl, trivial⟩, rfl⟩
  | false =>
   exact ZP rfl ⟨rfl, trivial⟩
 refine JLn (Pu.pickAnd rfl rfl rfl) <| JLA rfl <| Zb <| Zl <| ⟨.bool (((((decide (kind = u.kind)) && (decide (num = u.num))) && (decide (ref = u.ref))) && (decide (kids = (u.kids)))) && (decide (cases = (u.cases)))), [], Ret.one rfl (RV.tmp rfl), Sub.nil, ?_⟩
 exact ⟨congrArg Value.bool (eqTd ..), rfl⟩
end Go.Proofs.YtfdeibbpfgolcaaGreat.Hs
/-! Walks, printed by a program of this session's own (gen.py). -/
namespace Go.Proofs.YtfdeibbpfgolcaaGreat.Hs
open Go Go.Proofs
set_option maxRecDepth 100000
set_option linter.unusedVariables false
set_option linter.unusedSimpArgs false
attribute [local irreducible] JL J CT wlo DT
theorem ownQ_ct (t : Tm) (cs : List Value) (H : Heap) (ht : RT H cs t) (hz : sizeT t ≤ 900000) (hv : vOK t) : CT Tryz.prog 61 ⟨[.agg ⟨cs⟩]⟩ [] H (fun v N => ∃ cs k, v = .agg ⟨cs⟩ ∧ N = [k] ∧ OT (ownQ t) cs k) := by
 refine Zk Tryz.func61 rfl rfl <| Zc <| Za <| JLr (Zp (l := cs) rfl rfl fun b1 => JLr (Zh (l := pkT 0 0 zS nS nS) Tryz.zeroValue27 rfl fun b2 => Zb <| Zc <| Za <| JLq (.agg ⟨[.func (.func 82) ⟨[]⟩ ⟨[]⟩, .func (.func 83) ⟨[]⟩ ⟨[]⟩]⟩) (Pu.build (pv := [(0, .func (.func 82) ⟨[]⟩ ⟨[]⟩), (1, .func (.func 83) ⟨[]⟩ ⟨[]⟩)]) (l := [.func (.func 82) ⟨[]⟩ ⟨[]⟩, .func (.func 83) ⟨[]⟩ ⟨[]⟩]) rfl (bld141_0_1 _ _ _ _ _ _)) <| JLr (Zi Zs rfl (At.bx 1 rfl) (Zu (Zv ht)) <| Jc Tryz.call84 rfl (fun hin => mapTermP_ct 83 [] [] Tryz.call83 (fun s => s) 82 [] [] Tryz.call82 stayV _ _ _ _ (RT.mono (Hle.hu _ _) ht) (by omega) hv (by decide) (by omega) (fun s h hh => same_ct s h) (fun n b h hh h1 h2 h3 h4 => stay_ct n b h (by unfold inI; omega))) rfl ?_)))
 rintro _ _ ⟨cs3, k3, rfl, rfl, hO3⟩
 refine JLr (Zd 1 (vs := cs3) (l := cs3) Zs rfl rfl rfl rfl hO3.len hO3.ok (Zy (n := 36) rfl hO3.len) <| Zb <| Zl <| ⟨.agg ⟨cs3⟩, [k3], Ret.one rfl (RV.cell Zs rfl (At.bx 1 rfl) (Zu hO3.len)), (Sk Sub.nil), ?_⟩)
 have hx : ownQ t = mapQ (fun s => s) stayV 0 t := by first | rfl | (simp only [ownQ]; (repeat' split) <;> first | rfl | (exfalso; omega))
 exact ⟨_, _, rfl, rfl, by rw [hx]; exact hO3⟩
end Go.Proofs.YtfdeibbpfgolcaaGreat.Hs
/-! A store of drawn numbers: words on its operations. -/
namespace Go.Proofs.YtfdeibbpfgolcaaGreat.Hs
open Go Go.Proofs
set_option maxRecDepth 100000
/-- What a xor of two words is. -/
def xr (a b : Int) : Int := IntKind.u64.wrap ((BitVec.ofInt IntKind.u64.bits a ^^^ BitVec.ofInt IntKind.u64.bits b).toNat : Int)
/-- The next seed. -/
def nx (a : Int) : Int := IntKind.u64.wrap (IntKind.u64.wrap (a * 6364136223846793005) + 1442695040888963407)
theorem wrap_u64 (x : Int) : 0 ≤ IntKind.u64.wrap x ∧ IntKind.u64.wrap x < 18446744073709551616 := by
  have e : IntKind.u64.wrap x = x % 18446744073709551616 := rfl
  rw [e]; omega
theorem nx_range (a : Int) : 0 ≤ (nx a).fdiv 1099511627776 ∧ (nx a).fdiv 1099511627776 < 16777216 := by
  have h := wrap_u64 (IntKind.u64.wrap (a * 6364136223846793005) + 1442695040888963407)
  rw [Int.fdiv_eq_ediv_of_nonneg _ (by decide)]
  unfold nx
  omega
section
variable {P : Program} {e : Operand → Value} {d : Option Nat} {ot : TypeId} {pos : String} {af : Array Edge} {g : Option (Nat × Bool)} {T T' : TypeId} {x y z : Operand} {k : IntKind} {a b : Int} {ats : Array TypeId}
theorem Pu.xor (hx : e x = .int .u64 a) (hy : e y = .int .u64 b) : Pu P e ⟨d, .binOp .xor T x y T', ot, pos, af, g⟩ (.int .u64 (xr a b)) := fun w => by
  simp only [execOp, hx, hy, eqGuard, binOp, Op.intBits]; simp [xr]
theorem Pu.shr {k' : IntKind} (hx : e x = .int k a) (hy : e y = .int k' 40) (hk : min 40 k.bits = 40) : Pu P e ⟨d, .binOp .shr T x y T', ot, pos, af, g⟩ (.int k (a.fdiv 1099511627776)) := fun w => by
  have h40 : (40 : Int).toNat = 40 := rfl
  have hp : (2 : Int) ^ 40 = 1099511627776 := by decide
  simp only [execOp, hx, hy, eqGuard, binOp, Op.shift, h40, hk, hp]; simp
theorem Pu.min2 {v : Int} (hx : e x = .int k a) (hy : e y = .int k b) (hv : (if b < a then b else a) = v) : Pu P e ⟨d, .call { callee := .builtin .min, args := #[x, y], argTypes := ats }, ot, pos, af, g⟩ (.int k v) := fun w => by
  subst hv
  simp [execOp, resolve, invoke, builtin, Builtin.min_, Builtin.min2, hx, hy]
end
/-- what a value holds -/
def ivl : Value → Int
  | .int _ n => n
  | _ => 0
def cll : Value → List Value
  | .agg ⟨l⟩ => l
  | _ => []
def sth (c : Zf) (i : Nat) : Int := match c with
  | (_, .cells ⟨l⟩ _ _) :: _ => ivl (l.getD i undef)
  | _ => 0
/-- A digest with one byte. -/
def smOne (n : UInt8) : Sm := zS.set 0 n
theorem smOne_cells (n : UInt8) : sC (smOne n) = .int .u8 (n.toNat : Int) :: (sC zS).drop 1 := rfl
theorem w8 {n : Int} (h : 0 ≤ n ∧ n < 256) : IntKind.u8.wrap n = n := by
  have e : IntKind.u8.wrap n = n % 256 := rfl
  rw [e]; omega
theorem bldS1 (n : Int) (h0 : 0 ≤ n) (h1 : n < 256) : ∀ w, (Instr.build 23 ⟨[(0, .int .u8 n)]⟩).run Tryz.prog w = .ok (.agg ⟨sC (smOne (UInt8.ofNat n.toNat))⟩) w := by
  have e0 : ((UInt8.ofNat n.toNat).toNat : Int) = n := by
    rw [UInt8.toNat_ofNat']; omega
  rw [smOne_cells, e0]
  exact run_buildA Tryz.zeroValue23 Tryz.runUnderlying23 Tryz.sizeOf5 rfl
/-- The digest that cells are. -/
noncomputable def sml (v : Value) : Sm := by
  classical exact if h : ∃ r, v = .agg ⟨sC r⟩ then h.choose else zS
theorem sml_eq (r : Sm) : Value.agg ⟨sC r⟩ = .agg ⟨sC (sml (.agg ⟨sC r⟩))⟩ := by
  have h : ∃ q, Value.agg ⟨sC r⟩ = .agg ⟨sC q⟩ := ⟨r, rfl⟩
  unfold sml
  rw [dif_pos h]
  exact h.choose_spec
theorem lowS_one {n : UInt8} (h : n.toNat ≤ 100) : lowS (smOne n) := ⟨n, h, rfl⟩
theorem sml_low {r : Sm} (h : lowS r) : lowS (sml (.agg ⟨sC r⟩)) := by
  have e := sml_eq r
  injection e with e
  injection e with e
  rw [← sC_inj e]; exact h
theorem bldMk (b : Nat) (n : Int) : ∀ w, (Instr.build 162 ⟨[(0, .pointer (some ⟨b, 0, none⟩)), (1, .int .i64 n)]⟩).run Tryz.prog w = .ok (.agg ⟨[.pointer (some ⟨b, 0, none⟩), .int .i64 n]⟩) w :=
  ZN Tryz.zeroValue162 Tryz.runUnderlying162 pl162 (by kernel_rfl)
theorem bldSt {v : Value} {a : Option Addr} {n c : Nat} (s : Int) (hv : v = .slice a n c) : ∀ w, (Instr.build 123 ⟨[(0, v), (2, .int .u64 s)]⟩).run Tryz.prog w = .ok (.agg ⟨[v, .int .i64 0, .int .u64 s]⟩) w := by
  subst hv
  exact ZN Tryz.zeroValue123 Tryz.runUnderlying123 pl123 (by kernel_rfl)
/-- A slice of bytes with its room. -/
def bytesR (H : Heap) (v : Value) (l : List Int) : Prop := ∃ a cap, v = .slice a l.length cap ∧ l.length ≤ cap ∧ Hs.rdS RB 1 H v l
theorem bytesR.mono {h h' : Heap} (hh : Hle h h') {v : Value} {l : List Int} (q : bytesR h v l) : bytesR h' v l := by
  obtain ⟨a, cap, e, h1, h2⟩ := q
  exact ⟨a, cap, e, h1, RBs.mono hh h2⟩
theorem rd_take {E : Heap → List Value → Int → Prop} {sz : Nat} {h : Heap} {l : List Int} {a : Option Addr} {N cap cap' : Nat} (r : Hs.rdS E sz h (.slice a N cap) l) (n : Nat) (hn : n ≤ l.length) : Hs.rdS E sz h (.slice (if cap = 0 then a else a.map (·.add (0 * sz))) n cap') (l.take n) := by
  have ea : (if cap = 0 then a else a.map (·.add (0 * sz))) = a := by
    cases a with
    | none => simp
    | some a => simp [Addr.add]
  rw [ea]
  have hln : (l.take n).length = n := by rw [List.length_take]; omega
  obtain ⟨a', c', e, h1, h0⟩ := r
  cases e
  refine ⟨a, cap', by rw [hln], by rw [hln]; omega, ?_⟩
  rcases h0 with h0 | ⟨b, o, row, T, fr, e1, e2, e3⟩
  · left; omega
  · right
    refine ⟨b, o, row, T, fr, e1, e2, rows.mk fun i hi => ?_⟩
    rw [List.length_take] at hi
    obtain ⟨cs, h2, h3⟩ := e3.get i (by omega)
    exact ⟨cs, h2, by rw [List.getElem_take]; exact h3⟩
section
variable {c : Cx} {H : Heap} {ρ : Nat → Value} {M : List Zf} {K : Value → List Zf → Prop} {d : Option Nat} {ot : TypeId} {pos : String} {af : Array Edge} {g : Option (Nat × Bool)} {x y : Operand}
/-- the first ones of a slice of bytes -/
theorem Runs_sliceTo {T el : TypeId} {k : IntKind} {v : Value} {l : List Int} {H0 : Heap} {n : Nat} (hp : bytesR H0 v l) (hn : n ≤ l.length) (hT : ∀ w, (underlying T).run c.P w = .ok (.slice el) w) (hsz : ∀ w, (sizeOf el).run c.P w = .ok 1 w) (hx : ev c.n ρ x = v) (hy : ev c.n ρ y = .int k ((n : Nat) : Int))
    (h : ∀ u, (∀ h, Hs.rdS RB 1 h v l → Hs.rdS RB 1 h u (l.take n)) → K u M) : Runs c H ⟨d, .slice T x none (some y) none, ot, pos, af, g⟩ ρ M K := fun F w m => by
  obtain ⟨a, cap, rfl, h1, h2⟩ := hp
  refine ⟨_, w, M, .inl ?_, m, h (.slice (if cap = 0 then a else a.map (·.add (0 * 1))) n cap) (fun h' q => rd_take q n hn)⟩
  have : ((n : Int) ≤ (cap : Int)) := by omega
  have h3 : n ≤ cap := by omega
  simp [execOp, Instr.sliceAt, Instr.slice, Instr.sliceBounds, Instr.sliceBound, asIntOf, hx, hy, hT, hsz, Result.andThen, h3]
end
end Go.Proofs.YtfdeibbpfgolcaaGreat.Hs
/-! Walks, printed by a program of this session's own (gen.py). -/
namespace Go.Proofs.YtfdeibbpfgolcaaGreat.Hs
open Go Go.Proofs
set_option maxRecDepth 100000
set_option linter.unusedVariables false
set_option linter.unusedSimpArgs false
attribute [local irreducible] JL J CT wlo DT
theorem draw_ct (bS : Nat) (v : Value) (l : List Int) (a s : Int) (H : Heap) (hv : Hs.rdS RB 1 H v l) (ha0 : 0 ≤ a) (ha1 : a ≤ 2000000000) : CT Tryz.prog 163 ⟨[pp bS 0]⟩ [(BX bS [v, iv a, .int .u64 s] 123)] H (fun r N => ∃ n a' s', r = iv n ∧ N = [(BX bS [v, iv (a'), .int .u64 (s')] 123)] ∧ (0 ≤ n ∧ n < 16777216) ∧ (a ≤ a' ∧ a' ≤ a + 1)) := by
 refine Zk Tryz.func163 rfl rfl <| Zc <| Za <| JLA rfl <| Zb <| Zc <| Zc <| Za <| JLM rfl <| JLq (pp bS 0) (Pu.nilCheck rfl) <| JLq (pp bS 0) (fa123_0 rfl rfl) <| JLr (Ze ty46 rfl (At.bx 0 rfl) rfl ?_)
 obtain ⟨a1, cap1, hv1⟩ := hv.sl
 have hle1 := hv.le
 refine JLn (Pu.lenSl Tryz.runUnderlying46 hv1) <| JLn (Pu.gtr rfl rfl) <| Zb <| Zg rfl (fun h2 => ?_) (fun h2 => ?_)
 ·replace h2 := dt h2
  refine Zc <| ZL mixed #[0, 1, 3, 7, 0, 16, 48, 112, 0, 256, 768, 1792, 0, 4096, 12288, 28672, 61440, 130816, 262128, 524272, 1048560, 2097151, 4194303, 8388607, 16777215] 21 [some 9, some 10, some 11, some 12, some 13, some 14, some 15, some 16, some 17, some 18, some 19, some 20, some 21, some 22, some 23, some 24, some 25, some 26, some 27, some 28, some 29] [] [] rfl (by kernel_rfl) rfl (by kernel_rfl) <| DM (fun _ => rfl) <| Dq (pp bS 0) (fun _ => Pu.nilCheck rfl) <| Dq (pp bS 2) (fun _ => fa123_2 rfl rfl) <| Dl1 ty121 (At.bx 0 rfl) rfl <| DM (fun _ => rfl) <| Dq (pp bS 0) (fun _ => Pu.nilCheck rfl) <| Dq (pp bS 0) (fun _ => fa123_0 rfl rfl) <| Dl1 ty46 (At.bx 0 rfl) rfl <| DM (fun _ => rfl) <| Dq (pp bS 0) (fun _ => Pu.nilCheck rfl) <| Dq (pp bS 1) (fun _ => fa123_1 rfl rfl) ?_
  refine Dl1 ty3 (At.bx 0 rfl) rfl <| DM (fun _ => rfl) <| Dq (pp bS 0) (fun _ => Pu.nilCheck rfl) <| Dq (pp bS 0) (fun _ => fa123_0 rfl rfl) <| Dl1 ty46 (At.bx 0 rfl) rfl ?_
  obtain ⟨a6, cap6, hv6⟩ := hv.sl
  have hle6 := hv.le
  refine Dn (fun _ => Pu.lenSl Tryz.runUnderlying46 hv6) ?_
  have hrm7 : 0 ≤ a % ((l.length : Int)) ∧ a % ((l.length : Int)) < (l.length : Int) := ⟨Int.emod_nonneg _ (by omega), Int.emod_lt_of_pos _ (by omega)⟩
  refine Dq (iv (a % ((l.length : Int)))) (fun _ => Pu.rem rfl rfl (by omega) (Int.tmod_eq_emod_of_nonneg (by omega))) ?_
  obtain ⟨b8, o8, cap8, row8, T8, fr8, cs8, hv8, hb8, hs8, hE8⟩ := hv.get (a % ((l.length : Int))).toNat (by first | assumption | omega | decide | simp)
  refine Dq (pp b8 (o8 + (a % ((l.length : Int))).toNat * 1)) (fun _ => Pu.idx (a % ((l.length : Int))).toNat Tryz.runUnderlying46 ty5 hv8 rfl (by first | rfl | omega) (by first | assumption | omega | decide | simp)) <| Dl1 ty5 (At.im hb8) (YK ((show cs8 = [Value.int .u8 (l[(a % ((l.length : Int))).toNat])] from hE8) ▸ hs8)) <| Dq (.int .u64 (IntKind.u64.wrap (l[(a % ((l.length : Int))).toNat]))) (fun _ => Pu.conv Tryz.runUnderlying5 Tryz.runUnderlying121 rfl rfl) <| ZZ (M' := [(BX bS [v, iv a, .int .u64 s] 123)]) rfl ?_
  show JL _ _ _ [_, _, _, _] _ _ _
  refine JLq (.int .u64 (xr s (IntKind.u64.wrap (l[(a % ((l.length : Int))).toNat])))) (Pu.xor rfl rfl) <| JLq (pp bS 0) (Pu.nilCheck rfl) <| JLq (pp bS 2) (fa123_2 rfl rfl) <| JLr (Zd 0 (vs := [.int .u64 (xr s (IntKind.u64.wrap (l[(a % ((l.length : Int))).toNat])))]) (l := [v, iv a, .int .u64 (xr s (IntKind.u64.wrap (l[(a % ((l.length : Int))).toNat])))]) ty121 rfl rfl rfl rfl rfl (Zj rfl Zt) rfl <| Zb <| Za <| JLM rfl <| JLq (pp bS 0) (Pu.nilCheck rfl) <| JLq (pp bS 1) (fa123_1 rfl rfl) <| JLr (Ze ty3 rfl (At.bx 0 rfl) rfl <| JLn (Pu.add64 rfl rfl (by first | omega | (constructor <;> omega))) <| JLq (pp bS 0) (Pu.nilCheck rfl) <| JLq (pp bS 1) (fa123_1 rfl rfl) ?_))
  refine JLr (Zd 0 (vs := [iv (a + 1)]) (l := [v, iv (a + 1), .int .u64 (xr s (IntKind.u64.wrap (l[(a % ((l.length : Int))).toNat])))]) ty3 rfl rfl rfl rfl rfl (Zj rfl Zt) rfl <| Zb <| Zc <| Za <| JLM rfl <| JLM rfl <| JLq (pp bS 0) (Pu.nilCheck rfl) <| JLq (pp bS 2) (fa123_2 rfl rfl) <| JLr (Ze ty121 rfl (At.bx 0 rfl) rfl <| JLq (.int .u64 (IntKind.u64.wrap (xr s (IntKind.u64.wrap (l[(a % ((l.length : Int))).toNat])) * 6364136223846793005))) (Pu.arithM rfl rfl rfl) <| JLq (.int .u64 (nx (xr s (IntKind.u64.wrap (l[(a % ((l.length : Int))).toNat]))))) (Pu.arith rfl rfl rfl) <| JLq (pp bS 0) (Pu.nilCheck rfl) <| JLq (pp bS 2) (fa123_2 rfl rfl) ?_))
  refine JLr (Zd 0 (vs := [.int .u64 (nx (xr s (IntKind.u64.wrap (l[(a % ((l.length : Int))).toNat]))))]) (l := [v, iv (a + 1), .int .u64 (nx (xr s (IntKind.u64.wrap (l[(a % ((l.length : Int))).toNat]))))]) ty121 rfl rfl rfl rfl rfl (Zj rfl Zt) rfl <| Zb <| Zc <| Za <| JLM rfl <| JLq (pp bS 0) (Pu.nilCheck rfl) <| JLq (pp bS 2) (fa123_2 rfl rfl) <| JLr (Ze ty121 rfl (At.bx 0 rfl) rfl ?_))
  have hnx9 := nx_range (xr s (IntKind.u64.wrap (l[(a % ((l.length : Int))).toNat])))
  refine JLq (.int .u64 ((nx (xr s (IntKind.u64.wrap (l[(a % ((l.length : Int))).toNat])))).fdiv 1099511627776)) (Pu.shr rfl rfl rfl) <| JLq (iv ((nx (xr s (IntKind.u64.wrap (l[(a % ((l.length : Int))).toNat])))).fdiv 1099511627776)) (Pu.conv Tryz.runUnderlying121 Tryz.runUnderlying3 rfl (w64 (by omega))) <| JLA rfl <| Zb <| Zl <| ⟨iv ((nx (xr s (IntKind.u64.wrap (l[(a % ((l.length : Int))).toNat])))).fdiv 1099511627776), [(BX bS [v, iv (a + 1), .int .u64 (nx (xr s (IntKind.u64.wrap (l[(a % ((l.length : Int))).toNat]))))] 123)], Ret.one rfl (RV.tmp rfl), (Sk Sub.nil), ?_⟩
  exact ⟨_, _, _, rfl, rfl, by omega, by omega⟩
 replace h2 := df h2
 refine Zm <| Zc <| Za <| JLM rfl <| JLM rfl <| JLq (pp bS 0) (Pu.nilCheck rfl) <| JLq (pp bS 2) (fa123_2 rfl rfl) <| JLr (Ze ty121 rfl (At.bx 0 rfl) rfl <| JLq (.int .u64 (IntKind.u64.wrap (s * 6364136223846793005))) (Pu.arithM rfl rfl rfl) <| JLq (.int .u64 (nx s)) (Pu.arith rfl rfl rfl) <| JLq (pp bS 0) (Pu.nilCheck rfl) <| JLq (pp bS 2) (fa123_2 rfl rfl) <| JLr (Zd 0 (vs := [.int .u64 (nx s)]) (l := [v, iv a, .int .u64 (nx s)]) ty121 rfl rfl rfl rfl rfl (Zj rfl Zt) rfl ?_))
 refine Zb <| Zc <| Za <| JLM rfl <| JLq (pp bS 0) (Pu.nilCheck rfl) <| JLq (pp bS 2) (fa123_2 rfl rfl) <| JLr (Ze ty121 rfl (At.bx 0 rfl) rfl ?_)
 have hnx10 := nx_range s
 refine JLq (.int .u64 ((nx s).fdiv 1099511627776)) (Pu.shr rfl rfl rfl) <| JLq (iv ((nx s).fdiv 1099511627776)) (Pu.conv Tryz.runUnderlying121 Tryz.runUnderlying3 rfl (w64 (by omega))) <| JLA rfl <| Zb <| Zl <| ⟨iv ((nx s).fdiv 1099511627776), [(BX bS [v, iv a, .int .u64 (nx s)] 123)], Ret.one rfl (RV.tmp rfl), (Sk Sub.nil), ?_⟩
 exact ⟨_, _, _, rfl, rfl, by omega, by omega⟩
theorem Yu (bS : Nat) (v : Value) (l : List Int) (a s : Int) (H : Heap) (hv : Hs.rdS RB 1 H v l) (ha0 : 0 ≤ a) (ha1 : a ≤ 2000000000) (m : Int) : CT Tryz.prog 130 ⟨[pp bS 0, iv m]⟩ [(BX bS [v, iv a, .int .u64 s] 123)] H (fun r N => ∃ n a' s', r = iv n ∧ N = [(BX bS [v, iv (a'), .int .u64 (s')] 123)] ∧ (0 ≤ n ∧ (0 < m → n < m) ∧ (m ≤ 0 → n = 0)) ∧ (a ≤ a' ∧ a' ≤ a + 1)) := by
 refine Zk Tryz.func130 rfl rfl <| Zc <| Za <| JLA rfl <| Zb <| Zc <| Zc <| Za <| JLM rfl <| JLn (Pu.leq rfl rfl) <| Zb <| Zg rfl (fun h1 => ?_) (fun h1 => ?_)
 ·replace h1 := dt h1
  refine Zc <| Za <| JLA rfl <| Zb <| Zl <| ⟨iv 0, [(BX bS [v, iv a, .int .u64 s] 123)], Ret.one rfl (RV.tmp rfl), (Sk Sub.nil), ?_⟩
  exact ⟨_, _, _, rfl, rfl, by omega, by omega⟩
 replace h1 := df h1
 refine Zm <| Zc <| Za <| JLM rfl <| Zr 0 rfl Tryz.call163 rfl rfl (fun hin => draw_ct _ _ _ _ _ _ (RBs.mono (Hle.hu _ _) hv) (by omega) (by omega)) rfl ?_
 rintro _ _ ⟨n2, a2, s2, rfl, rfl, hn2, ha2⟩
 refine JLM rfl ?_
 have hrm3 : 0 ≤ n2 % m ∧ n2 % m < m := ⟨Int.emod_nonneg _ (by omega), Int.emod_lt_of_pos _ (by omega)⟩
 refine JLq (iv (n2 % m)) (Pu.rem rfl rfl (by omega) (Int.tmod_eq_emod_of_nonneg (by omega))) <| JLA rfl <| Zb <| Zl <| ⟨iv (n2 % m), [(BX bS [v, iv a2, .int .u64 s2] 123)], Ret.one rfl (RV.tmp rfl), (Sk Sub.nil), ?_⟩
 exact ⟨_, _, _, rfl, rfl, by omega, by omega⟩
theorem from_ct (bS : Nat) (v : Value) (l : List Int) (a s : Int) (H : Heap) (hv : Hs.rdS RB 1 H v l) (ha0 : 0 ≤ a) (ha1 : a ≤ 2000000000) (lo hi : Int) (h0 : -1000 ≤ lo) (h1 : lo ≤ hi) (h2 : hi ≤ 1000) : CT Tryz.prog 136 ⟨[pp bS 0, iv lo, iv hi]⟩ [(BX bS [v, iv a, .int .u64 s] 123)] H (fun r N => ∃ n a' s', r = iv n ∧ N = [(BX bS [v, iv (a'), .int .u64 (s')] 123)] ∧ (lo ≤ n ∧ n ≤ hi) ∧ (a ≤ a' ∧ a' ≤ a + 1)) := by
 refine Zk Tryz.func136 rfl rfl <| Zc <| Za <| JLA rfl <| Zb <| Zc <| Za <| JLM rfl <| JLM rfl <| JLM rfl <| JLM rfl <| JLn (Pu.sub64 rfl rfl (by first | omega | (constructor <;> omega))) <| JLn (Pu.add64 rfl rfl (by first | omega | (constructor <;> omega))) ?_
 refine Zr 0 rfl Tryz.call130 rfl rfl (fun hin => Yu _ _ _ _ _ _ (RBs.mono (Hle.hu _ _) hv) (by omega) (by omega) _) rfl ?_
 rintro _ _ ⟨n1, a1, s1, rfl, rfl, hn1, ha1⟩
 refine JLn (Pu.add64 rfl rfl (by first | omega | (constructor <;> omega))) <| JLA rfl <| Zb <| Zl <| ⟨iv (lo + n1), [(BX bS [v, iv a1, .int .u64 s1] 123)], Ret.one rfl (RV.tmp rfl), (Sk Sub.nil), ?_⟩
 exact ⟨_, _, _, rfl, rfl, by omega, by omega⟩
theorem sum_ct (bS : Nat) (v : Value) (l : List Int) (a s : Int) (H : Heap) (hv : Hs.rdS RB 1 H v l) (ha0 : 0 ≤ a) (ha1 : a ≤ 2000000000) (f m : Int) (h0 : 0 ≤ f) (h1 : 1 ≤ m) (h2 : f + m ≤ 100) : CT Tryz.prog 133 ⟨[pp bS 0, iv f, iv m]⟩ [(BX bS [v, iv a, .int .u64 s] 123)] H (fun r N => ∃ n a' s', r = .agg ⟨sC n⟩ ∧ N = [(BX bS [v, iv (a'), .int .u64 (s')] 123)] ∧ lowS n ∧ (a ≤ a' ∧ a' ≤ a + 1)) := by
 refine Zk Tryz.func133 rfl rfl <| Zc <| Za <| JLr (Zh (l := sC zS) Tryz.zeroValue23 rfl fun b1 => Zb <| Zc <| Za <| JLM rfl <| JLM rfl <| JLM rfl <| JLM rfl <| JLn (Pu.add64 rfl rfl (by first | omega | (constructor <;> omega))) <| JLn (Pu.sub64 rfl rfl (by first | omega | (constructor <;> omega))) ?_)
 refine Zr 1 rfl Tryz.call136 rfl rfl (fun hin => from_ct _ _ _ _ _ _ (RBs.mono (Hle.hu _ _) hv) (by omega) (by omega) _ _ (by omega) (by omega) (by omega)) rfl ?_
 rintro _ _ ⟨n2, a2, s2, rfl, rfl, hn2, ha2⟩
 refine JLq (.int .u8 n2) (Pu.conv Tryz.runUnderlying3 Tryz.runUnderlying5 rfl (w8 (by omega))) <| JLq (.agg ⟨sC (smOne (UInt8.ofNat n2.toNat))⟩) (Pu.build (pv := [(0, .int .u8 n2)]) (l := sC (smOne (UInt8.ofNat n2.toNat))) rfl (bldS1 _ (by omega) (by omega))) <| JLr (Zd 1 (vs := sC (smOne (UInt8.ofNat n2.toNat))) (l := sC (smOne (UInt8.ofNat n2.toNat))) Z3 rfl rfl rfl rfl rfl (sC_ok _) (Zy rfl rfl) <| Zb <| Zl <| ⟨.agg ⟨sC (smOne (UInt8.ofNat n2.toNat))⟩, [(BX bS [v, iv a2, .int .u64 s2] 123)], Ret.one rfl (RV.cell Z3 rfl (At.bx 1 rfl) (Zu rfl)), (Sk Sub.nil), ?_⟩)
 exact ⟨_, _, _, rfl, rfl, lowS_one (by rw [UInt8.toNat_ofNat']; omega), by omega⟩
theorem pc_ct (f : Sm) (n : Int) (sa : Option Addr) (sn sc : Nat) (H : Heap) : CT Tryz.prog 164 ⟨[.agg ⟨sC f⟩, iv n, .slice sa sn sc]⟩ [] H (fun r N => r = .agg ⟨pkP 3 n f (.slice sa sn sc)⟩ ∧ N = []) := by
 refine Zk Tryz.func164 rfl rfl <| Zc <| Za <| JLr (Zp (l := sC f) rfl rfl fun b1 => JLr (Zh (l := pkP 0 0 zS nS) Tryz.zeroValue54 rfl fun b2 => Zb <| Zc <| Za <| JLr (Zi Z3 rfl (At.bx 1 rfl) (Zu rfl) <| JLM rfl <| JLM rfl <| JLq (.agg ⟨pkP 3 n f (.slice sa sn sc)⟩) (Pu.build (pv := [(0, iv 3), (2, .agg ⟨sC f⟩), (1, iv n), (3, .slice sa sn sc)]) (l := pkP 3 n f (.slice sa sn sc)) rfl (bld54_0_2_1_3 _ _ _ _ _ _)) <| JLr (Zd 0 (vs := pkP 3 n f (.slice sa sn sc)) (l := pkP 3 n f (.slice sa sn sc)) ZQ rfl rfl rfl rfl rfl (pkP_ok rfl) (pkP_s ..) ?_))))
 refine Zb <| Zl <| ⟨.agg ⟨pkP 3 n f (.slice sa sn sc)⟩, [], Ret.one rfl (RV.cell ZQ rfl (At.bx 0 rfl) (pkP_a ..)), Sub.nil, ?_⟩
 exact ⟨rfl, rfl⟩
theorem pn_ct (n : Int) (H : Heap) : CT Tryz.prog 165 ⟨[iv n]⟩ [] H (fun r N => r = .agg ⟨pkP 2 n zS nS⟩ ∧ N = []) := by
 refine Zk Tryz.func165 rfl rfl <| Zc <| Za <| JLr (Zh (l := pkP 0 0 zS nS) Tryz.zeroValue54 rfl fun b1 => Zb <| Zc <| Za <| JLM rfl <| JLq (.agg ⟨pkP 2 n zS nS⟩) (Pu.build (pv := [(0, iv 2), (1, iv n)]) (l := pkP 2 n zS nS) rfl (bld54_0_1 _ _)) <| JLr (Zd 0 (vs := pkP 2 n zS nS) (l := pkP 2 n zS nS) ZQ rfl rfl rfl rfl rfl (pkP_ok rfl) (pkP_s ..) <| Zb <| Zl <| ⟨.agg ⟨pkP 2 n zS nS⟩, [], Ret.one rfl (RV.cell ZQ rfl (At.bx 0 rfl) (pkP_a ..)), Sub.nil, ?_⟩))
 exact ⟨rfl, rfl⟩
theorem any_ct  (H : Heap) : CT Tryz.prog 166 ⟨[]⟩ [] H (fun r N => r = .agg ⟨pkP 1 0 zS nS⟩ ∧ N = []) := by
 refine Zk Tryz.func166 rfl rfl <| Zc <| Za <| JLr (Zh (l := pkP 0 0 zS nS) Tryz.zeroValue54 rfl fun b1 => Zb <| Zc <| Za <| JLq (.agg ⟨pkP 1 0 zS nS⟩) (Pu.build (pv := [(0, iv 1)]) (l := pkP 1 0 zS nS) rfl (bld54_0 _)) <| JLr (Zd 0 (vs := pkP 1 0 zS nS) (l := pkP 1 0 zS nS) ZQ rfl rfl rfl rfl rfl (pkP_ok rfl) (pkP_s ..) <| Zb <| Zl <| ⟨.agg ⟨pkP 1 0 zS nS⟩, [], Ret.one rfl (RV.cell ZQ rfl (At.bx 0 rfl) (pkP_a ..)), Sub.nil, ?_⟩))
 exact ⟨rfl, rfl⟩
theorem co_ct (f : Sm) (n : Int) (sa : Option Addr) (sn sc : Nat) (H : Heap) : CT Tryz.prog 141 ⟨[.agg ⟨sC f⟩, iv n, .slice sa sn sc]⟩ [] H (fun r N => r = .agg ⟨pkT 8 n f (.slice sa sn sc) nS⟩ ∧ N = []) := by
 refine Zk Tryz.func141 rfl rfl <| Zc <| Za <| JLr (Zp (l := sC f) rfl rfl fun b1 => JLr (Zh (l := pkT 0 0 zS nS nS) Tryz.zeroValue27 rfl fun b2 => Zb <| Zc <| Za <| JLr (Zi Z3 rfl (At.bx 1 rfl) (Zu rfl) <| JLM rfl <| JLM rfl <| JLq (.agg ⟨pkT 8 n f (.slice sa sn sc) nS⟩) (Pu.build (pv := [(0, iv 8), (2, .agg ⟨sC f⟩), (1, iv n), (3, .slice sa sn sc)]) (l := pkT 8 n f (.slice sa sn sc) nS) rfl (bld27_0_2_1_3 _ _ _ _ _ _)) <| JLr (Zd 0 (vs := pkT 8 n f (.slice sa sn sc) nS) (l := pkT 8 n f (.slice sa sn sc) nS) Zs rfl rfl rfl rfl rfl (Zz rfl rfl) (Z4 ..) ?_))))
 refine Zb <| Zl <| ⟨.agg ⟨pkT 8 n f (.slice sa sn sc) nS⟩, [], Ret.one rfl (RV.cell Zs rfl (At.bx 0 rfl) (ZY ..)), Sub.nil, ?_⟩
 exact ⟨rfl, rfl⟩
theorem se_ct (n : Int) (H : Heap) : CT Tryz.prog 131 ⟨[iv n]⟩ [] H (fun r N => r = .agg ⟨pkT 7 n zS nS nS⟩ ∧ N = []) := by
 refine Zk Tryz.func131 rfl rfl <| Zc <| Za <| JLr (Zh (l := pkT 0 0 zS nS nS) Tryz.zeroValue27 rfl fun b1 => Zb <| Zc <| Za <| JLM rfl <| JLq (.agg ⟨pkT 7 n zS nS nS⟩) (Pu.build (pv := [(0, iv 7), (1, iv n)]) (l := pkT 7 n zS nS nS) rfl (bld27_0_1 _ _)) <| JLr (Zd 0 (vs := pkT 7 n zS nS nS) (l := pkT 7 n zS nS nS) Zs rfl rfl rfl rfl rfl (Zz rfl rfl) (Z4 ..) <| Zb <| Zl <| ⟨.agg ⟨pkT 7 n zS nS nS⟩, [], Ret.one rfl (RV.cell Zs rfl (At.bx 0 rfl) (ZY ..)), Sub.nil, ?_⟩))
 exact ⟨rfl, rfl⟩
theorem de_ct (f : Sm) (H : Heap) : CT Tryz.prog 132 ⟨[.agg ⟨sC f⟩]⟩ [] H (fun r N => r = .agg ⟨pkT 6 0 f nS nS⟩ ∧ N = []) := by
 refine Zk Tryz.func132 rfl rfl <| Zc <| Za <| JLr (Zp (l := sC f) rfl rfl fun b1 => JLr (Zh (l := pkT 0 0 zS nS nS) Tryz.zeroValue27 rfl fun b2 => Zb <| Zc <| Za <| JLr (Zi Z3 rfl (At.bx 1 rfl) (Zu rfl) <| JLq (.agg ⟨pkT 6 0 f nS nS⟩) (Pu.build (pv := [(0, iv 6), (2, .agg ⟨sC f⟩)]) (l := pkT 6 0 f nS nS) rfl (bld27_0_2 _ _)) <| JLr (Zd 0 (vs := pkT 6 0 f nS nS) (l := pkT 6 0 f nS nS) Zs rfl rfl rfl rfl rfl (Zz rfl rfl) (Z4 ..) <| Zb <| Zl ?_))))
 refine ⟨.agg ⟨pkT 6 0 f nS nS⟩, [], Ret.one rfl (RV.cell Zs rfl (At.bx 0 rfl) (ZY ..)), Sub.nil, ?_⟩
 exact ⟨rfl, rfl⟩
end Go.Proofs.YtfdeibbpfgolcaaGreat.Hs
/-! Walks, printed by a program of this session's own (gen.py). -/
namespace Go.Proofs.YtfdeibbpfgolcaaGreat.Hs
open Go Go.Proofs
set_option maxRecDepth 100000
set_option linter.unusedVariables false
set_option linter.unusedSimpArgs false
attribute [local irreducible] JL J CT wlo DT
theorem pattern_ct : ∀ (dp : Nat) (bS : Nat) (v : Value) (l : List Int) (a s d : Int) (H : Heap), d = (dp : Int) → dp ≤ 2 → Hs.rdS RB 1 H v l → 0 ≤ a → a + ((dz dp : Nat) : Int) ≤ 1900000000 → CT Tryz.prog 139 ⟨[pp bS 0, iv d]⟩ [(BX bS [v, iv a, .int .u64 s] 123)] H (fun r N => ∃ p cs k a' s', r = .agg ⟨cs⟩ ∧ N = [(BX bS [v, iv (a'), .int .u64 (s')] 123), k] ∧ OP p cs k ∧ (Yy p = 0 ∧ sizeP p ≤ pz dp ∧ lowP p) ∧ (a ≤ a' ∧ a' ≤ a + ((dz dp : Nat) : Int))) := by
 intro dp
 induction dp using Nat.strongRecOn with
 | _ dp ih =>
 intro bS v l a s d H hd hdp hv ha0 ha1
 have hdz := dz_le (show dp - 1 ≤ 2 by omega)
 have hdz2 := dz_ge dp
 refine Zk Tryz.func139 rfl rfl <| Zc <| Za <| JLr (Zh (l := pkP 0 0 zS nS) Tryz.zeroValue54 rfl fun b1 => Zb <| Zc <| Zc <| Za <| JLM rfl <| Zr 1 rfl Tryz.call130 rfl rfl (fun hin => Yu _ _ _ _ _ _ (RBs.mono (Hle.hu _ _) hv) (by omega) (by omega) _) rfl ?_)
 rintro _ _ ⟨n2, a2, s2, rfl, rfl, hn2, ha2⟩
 refine JLA rfl <| Zb <| Zo <| Zc <| Za <| JLM rfl <| JLn (Pu.gtr rfl rfl) <| JLM rfl <| ZC 2 [13, 14] [(14, cond (decide (0 < d)) (.bool (decide (n2 < 3))) undef)] ?_ fun f4 => ?_
 ·cases h3 : (decide (0 < d)) with
  | true =>
   replace h3 := dt h3
   refine JLM rfl <| JLn (Pu.lss rfl rfl) ?_
   exact Zb ⟨⟨rfl, trivial⟩, rfl⟩
  | false =>
   exact ZP rfl ⟨rfl, trivial⟩
 refine JLn (Pu.pickAnd rfl rfl rfl) <| JLA rfl <| Zb <| Zg rfl (fun h5 => ?_) (fun h5 => ?_)
 ·obtain ⟨h5a, h5b⟩ := YW h5
  replace h5a := dt h5a
  replace h5b := dt h5b
  refine Zc <| Za <| JLM rfl <| Zr 0 rfl Tryz.call133 rfl rfl (fun hin => sum_ct _ _ _ _ _ _ (RBs.mono (Hle.hu _ _) hv) (by omega) (by omega) _ _ (by omega) (by omega) (by omega)) rfl ?_
  rintro _ _ ⟨n6, a6, s6, rfl, rfl, hw6, ha6⟩
  refine JLM rfl <| Zr 0 rfl Tryz.call130 rfl rfl (fun hin => Yu _ _ _ _ _ _ (RBs.mono (Hle.hu _ _) hv) (by omega) (by omega) _) rfl ?_
  rintro _ _ ⟨n7, a7, s7, rfl, rfl, hn7, ha7⟩
  refine Jc Tryz.call164 rfl (fun hin => pc_ct _ _ none 0 0 _) rfl ?_
  rintro _ _ ⟨rfl, rfl⟩
  refine JLr (Zh (l := pkP 0 0 zS nS) Tryz.zeroValue54 rfl fun b8 => JLr (Zd 0 (vs := pkP 3 n7 n6 nS) (l := pkP 3 n7 n6 nS) ZQ rfl rfl rfl rfl rfl (pkP_ok rfl) (pkP_s ..) <| Zb <| Zc <| Zc <| Za <| JLM rfl <| Zr 1 rfl Tryz.call130 rfl rfl (fun hin => Yu _ _ _ _ _ _ (RBs.mono (Hle.hu _ _) hv) (by omega) (by omega) _) rfl ?_))
  rintro _ _ ⟨n9, a9, s9, rfl, rfl, hn9, ha9⟩
  refine JLM rfl <| Zb <| Zo <| ZT (fun k ρ M => ∃ (j : Nat) (ps : List Pt) (w : Value) (es : List (List Value)) (k1 k2 : Zf) (aw sw : Int), ρ 0 = pp bS 0 ∧ ρ 1 = iv d ∧ ρ 4 = pp b1 0 ∧ ρ 6 = pp b8 0 ∧ ρ 22 = iv n9 ∧ ρ 23 = iv ((j : Int)) ∧ Sub [(BX b8 (pkP 3 n7 n6 w) 54), k1, k2, (BX bS [v, iv aw, .int .u64 sw] 123), (BX b1 (pkP 0 0 zS nS) 54)] M ∧ (j : Int) ≤ n9 ∧ Own 54 35 w es k1 ∧ OPs ps es k2 ∧ ps.length = j ∧ YA ps = 0 ∧ ZH ps ≤ j * pz (dp - 1) ∧ lowPs ps ∧ (a9 ≤ aw ∧ aw ≤ a9 + ((j * dz (dp - 1) : Nat) : Int)) ∧ k = n9.toNat - j) _ ⟨0, [], nS, [], [], [], a9, s9, rfl, rfl, rfl, rfl, rfl, rfl, (Sub.cons 1 rfl (Sub.emp (Sub.emp (Sk (Sk Sub.nil))))), (by omega), Own.nil, OPs.nil, rfl, rfl, by simp [ZH], trivial, by omega, rfl⟩ ?_
  rintro _ ρ10 _ ⟨j, ps, w, es, k1, k2, aw, sw, e11, e12, e13, e14, e15, e16, hm17, hj, how, hopw, hpl, hpe, hps, hpw, hpa, rfl⟩
  obtain ⟨ρ18, rfl⟩ := Zn (uc e11 (uc e12 (uc e13 (uc e14 (uc e15 (uc e16 un))))))
  clear e11 e12 e13 e14 e15 e16
  refine ZS hm17 <| Zc <| Za <| JLn (Pu.lss rfl rfl) <| Zb <| Zc <| Zg rfl (fun h19 => ?_) (fun h19 => ?_)
  ·replace h19 := dt h19
   have helw := OPs_len hopw
   have hmd := Nat.mul_le_mul_right (dz (dp - 1)) (show j + 1 ≤ 2 by omega)
   rw [Nat.succ_mul] at hmd
   have hmd2 := dz_pos (show 0 < dp by omega)
   refine Zm <| Zc <| Zo <| J_drawM mixed #[0, 1, 0, 0, 8, 28, 60, 127, 255, 511] 7 3 [5] rfl (by kernel_rfl) (by decide) rfl (by kernel_rfl) (fun i r20 N20 => match i with | 0 => (r20 0) = pp b8 34 | 1 => (r20 1) = w | 2 => (r20 2) = pp bS 0 | 3 => (r20 3) = iv d | 4 => (r20 4) = iv (d - 1) | 5 => (r20 5) = .agg ⟨(cll (r20 5))⟩ ∧ (cll (r20 5)).length = 35 ∧ okc (cll (r20 5)) ∧ ∃ pM kM aM sM, (N20 5) = (BX bS [v, iv aM, .int .u64 sM] 123) ++ kM ∧ OP pM (cll (r20 5)) kM ∧ (Yy pM = 0 ∧ sizeP pM ≤ pz (dp - 1) ∧ lowP pM) ∧ (aw ≤ aM ∧ aM ≤ aw + ((dz (dp - 1) : Nat) : Int)) | 6 => (r20 6) = .slice (some ⟨(Y0 (r20 6)), 0, none⟩) 1 1 ∧ (N20 6) = [(Y0 (r20 6), .cells ⟨List.flatten [(cll (r20 5))]⟩ 54 (0, 0))] ∧ Own 54 35 (.slice (some ⟨(Y0 (r20 6)), 0, none⟩) 1 1) [(cll (r20 5))] (N20 6) | _ => True) ⟨?_, ?_, ?_, ?_, ?_, ?_, ?_, trivial⟩ ?_
   ·intro ρ r20 N20 B hB hBa hBb hp hr hr0
    obtain ⟨ρ21, rfl⟩ := Zn (uc (show ρ 6 = pp b8 0 from hr0 6 (by kernel_rfl)) un)
    refine JLq (pp b8 34) (Yv rfl rfl) <| Zb ?_
    exact ⟨pp b8 34, [], rfl, (Sub.emp Sub.refl), rfl⟩
   ·intro ρ r20 N20 B hB hBa hBb hp hr hr0
    have p0 : (r20 0) = pp b8 34 := hp 0 (by decide) rfl
    obtain ⟨ρ22, rfl⟩ := Zn (uc (show ρ 25 = pp b8 34 from (hr 0 _ _ (by decide) rfl rfl rfl).trans p0) un)
    refine JLr (Ze ty52 rfl (At.bx 7 (Ye ((hB 0 (by decide)).trans rfl))) (YG ..) <| Zb ?_)
    exact ⟨w, [], rfl, (Sub.emp Sub.refl), rfl⟩
   ·intro ρ r20 N20 B hB hBa hBb hp hr hr0
    obtain ⟨ρ23, rfl⟩ := Zn (uc (show ρ 0 = pp bS 0 from hr0 0 (by kernel_rfl)) un)
    refine JLM rfl <| Zb ?_
    exact ⟨pp bS 0, [], rfl, (Sub.emp Sub.refl), rfl⟩
   ·intro ρ r20 N20 B hB hBa hBb hp hr hr0
    obtain ⟨ρ24, rfl⟩ := Zn (uc (show ρ 1 = iv d from hr0 1 (by kernel_rfl)) un)
    refine JLM rfl <| Zb ?_
    exact ⟨iv d, [], rfl, (Sub.emp Sub.refl), rfl⟩
   ·intro ρ r20 N20 B hB hBa hBb hp hr hr0
    have p3 : (r20 3) = iv d := hp 3 (by decide) rfl
    obtain ⟨ρ25, rfl⟩ := Zn (uc (show ρ 28 = iv d from (hr 3 _ _ (by decide) rfl rfl rfl).trans p3) un)
    refine JLn (Pu.sub64 rfl rfl (by first | omega | (constructor <;> omega))) <| Zb ?_
    exact ⟨iv (d - 1), [], rfl, (Sub.emp Sub.refl), rfl⟩
   ·intro ρ r20 N20 B hB hBa hBb hp hr hr0
    have p2 : (r20 2) = pp bS 0 := hp 2 (by decide) rfl
    have p4 : (r20 4) = iv (d - 1) := hp 4 (by decide) rfl
    obtain ⟨ρ26, rfl⟩ := Zn (uc (show ρ 27 = pp bS 0 from (hr 2 _ _ (by decide) rfl rfl rfl).trans p2) (uc (show ρ 29 = iv (d - 1) from (hr 4 _ _ (by decide) rfl rfl rfl).trans p4) un))
    have hB2 := hBa rfl
    change B = [(BX b8 (pkP 3 n7 n6 w) 54), k1, k2, (BX bS [v, iv aw, .int .u64 sw] 123), (BX b1 (pkP 0 0 zS nS) 54)] at hB2
    subst hB2
    refine Zw (M' := [(N20 0), (N20 1), (N20 2), (N20 3), (N20 4), [], (N20 6), (BX b8 (pkP 3 n7 n6 w) 54), k1, k2, (BX bS [v, iv aw, .int .u64 sw] 123), (BX b1 (pkP 0 0 zS nS) 54)]) Sub.refl <| Zr 10 rfl Tryz.call139 rfl rfl (fun hin => ih (dp - 1) (by omega) _ _ _ _ _ _ _ (by omega) (by omega) (RBs.mono (Hle.hu _ _) hv) (by omega) (by omega)) rfl ?_
    rintro _ _ ⟨p27_, cs27, k27, a27, s27, rfl, rfl, hO27, hg27, ha27⟩
    have hbl27 := binds_le p27_
    refine Zb ?_
    exact ⟨.agg ⟨cs27⟩, ((BX bS [v, iv a27, .int .u64 s27] 123)) ++ k27, rfl, (Sub.flat (M' := [(N20 0), (N20 1), (N20 2), (N20 3), (N20 4), [], (N20 6), (BX b8 (pkP 3 n7 n6 w) 54), k1, k2, ((BX bS [v, iv a27, .int .u64 s27] 123)) ++ k27, (BX b1 (pkP 0 0 zS nS) 54)]) (Sub.cons 2 rfl (Sub.cons 2 rfl (Sub.cons 2 rfl (Sub.cons 2 rfl (Sub.cons 2 rfl (Sub.emp (Sub.cons 3 rfl (Sub.cons 3 rfl (Sub.cons 3 rfl (Sub.cons 3 rfl (Sub.join (Sk (Sk (Sd (Sk Sub.nil))))))))))))))) rfl), ⟨rfl, hO27.len, hO27.ok, p27_, k27, a27, s27, rfl, hO27, hg27, ha27⟩⟩
   ·intro ρ r20 N20 B hB hBa hBb hp hr hr0
    have p5 : (r20 5) = .agg ⟨(cll (r20 5))⟩ ∧ (cll (r20 5)).length = 35 ∧ okc (cll (r20 5)) ∧ ∃ pM kM aM sM, (N20 5) = (BX bS [v, iv aM, .int .u64 sM] 123) ++ kM ∧ OP pM (cll (r20 5)) kM ∧ (Yy pM = 0 ∧ sizeP pM ≤ pz (dp - 1) ∧ lowP pM) ∧ (aw ≤ aM ∧ aM ≤ aw + ((dz (dp - 1) : Nat) : Int)) := hp 5 (by decide) rfl
    obtain ⟨ρ28, rfl⟩ := Zn (uc (show ρ 30 = .agg ⟨(cll (r20 5))⟩ from (hr 5 _ _ (by decide) rfl rfl rfl).trans p5.1) un)
    refine JLr (Zq (vs := [.agg ⟨(cll (r20 5))⟩]) [(cll (r20 5))] Tryz.runUnderlying52 el54 rfl rfl (by intro e he; simp only [List.mem_cons, List.not_mem_nil, or_false] at he; subst he; exact p5.2.1) rfl (by decide) fun b29 k29 ho29 hk29 => Zb ?_)
    exact ⟨.slice (some ⟨b29, 0, none⟩) 1 1, k29, rfl, Sub.refl, ⟨rfl, hk29, ho29⟩⟩
   intro ρ r20 N20 hp hr hr0
   have p5 : (r20 5) = .agg ⟨(cll (r20 5))⟩ ∧ (cll (r20 5)).length = 35 ∧ okc (cll (r20 5)) ∧ ∃ pM kM aM sM, (N20 5) = (BX bS [v, iv aM, .int .u64 sM] 123) ++ kM ∧ OP pM (cll (r20 5)) kM ∧ (Yy pM = 0 ∧ sizeP pM ≤ pz (dp - 1) ∧ lowP pM) ∧ (aw ≤ aM ∧ aM ≤ aw + ((dz (dp - 1) : Nat) : Int)) := hp 5 (by decide)
   have p6 : (r20 6) = .slice (some ⟨(Y0 (r20 6)), 0, none⟩) 1 1 ∧ (N20 6) = [(Y0 (r20 6), .cells ⟨List.flatten [(cll (r20 5))]⟩ 54 (0, 0))] ∧ Own 54 35 (.slice (some ⟨(Y0 (r20 6)), 0, none⟩) 1 1) [(cll (r20 5))] (N20 6) := hp 6 (by decide)
   obtain ⟨ρ30, rfl⟩ := Zn (uc (show ρ 0 = pp bS 0 from hr0 0 (by kernel_rfl)) (uc (show ρ 1 = iv d from hr0 1 (by kernel_rfl)) (uc (show ρ 4 = pp b1 0 from hr0 4 (by kernel_rfl)) (uc (show ρ 6 = pp b8 0 from hr0 6 (by kernel_rfl)) (uc (show ρ 22 = iv n9 from hr0 22 (by kernel_rfl)) (uc (show ρ 23 = iv ((j : Int)) from hr0 23 (by kernel_rfl)) (uc (show ρ 26 = w from (hr 1 _ _ (by decide) rfl rfl).trans (hp 1 (by decide))) (uc (show ρ 31 = .slice (some ⟨(Y0 (r20 6)), 0, none⟩) 1 1 from (hr 6 _ _ (by decide) rfl rfl).trans p6.1) un))))))))
   have p20_5 := p5; have p20_6 := p6
   clear hp hr hr0 p5 p6
   refine Zw (M' := [(N20 0), (N20 1), (N20 2), (N20 3), (N20 4), [], (N20 6), (BX b8 (pkP 3 n7 n6 w) 54), k1, k2, (N20 5), (BX b1 (pkP 0 0 zS nS) 54)]) Sub.refl ?_
   obtain ⟨pM20_5, kM20_5, aM20_5, sM20_5, hNM20_5, hOM20_5, hgM20_5, haM20_5⟩ := p20_5.2.2.2
   refine Zw (M' := [(N20 6), (BX b8 (pkP 3 n7 n6 w) 54), k1, k2, (BX bS [v, iv aM20_5, .int .u64 sM20_5] 123) ++ kM20_5, (BX b1 (pkP 0 0 zS nS) 54)]) (Sd (Sd (Sd (Sd (Sd (Sd (Sk (Sk (Sk (Sk (Se hNM20_5 (Sk Sub.nil)))))))))))) <| Zw (M' := [(N20 6), (BX b8 (pkP 3 n7 n6 w) 54), k1, k2, (BX bS [v, iv aM20_5, .int .u64 sM20_5] 123), kM20_5, (BX b1 (pkP 0 0 zS nS) 54)]) (Sub.flat Sub.refl (by simp)) ?_
   show JL _ _ _ [_, _, _] _ _ _
   have hlens31 : ∀ e ∈ ([(cll (r20 5))] : List (List Value)), List.length e = 35 := by
    intro e he; simp only [List.mem_cons, List.not_mem_nil, or_false] at he
    rcases he with rfl
    ·exact p20_5.2.1
   have hoks31 : ∀ e ∈ ([(cll (r20 5))] : List (List Value)), okc e := by
    intro e he; simp only [List.mem_cons, List.not_mem_nil, or_false] at he
    rcases he with rfl
    ·exact p20_5.2.2.1
   refine JLr (ZJ (i := 2) (n := 1) (es' := [(cll (r20 5))]) Tryz.runUnderlying52 Tryz.runUnderlying52 (Or.inl rfl) el54 rfl rfl rfl how (fun F w m => Src.row (((At.k 0 rfl (by rw [p20_6.2.1]; exact List.mem_cons_self))).heap m) (Zu (Zx hlens31))) rfl hlens31 hoks31 (by decide) (by omega) fun v31 k31 ho31 => JLq (pp b8 34) (Yv rfl rfl) <| JLr (Zd 1 (vs := [v31]) (l := pkP 3 n7 n6 v31) ty52 rfl rfl rfl (ZE ho31.one) rfl (Zj ho31.one Zt) (pkP_s34 ..) <| Zb <| Za <| JLn (Pu.inc rfl rfl (by omega)) <| JLM rfl <| Zb <| ⟨_, ?_, (j + 1), (ps ++ [pM20_5]), v31, (es ++ [(cll (r20 5))]), k31, (k2 ++ kM20_5), aM20_5, sM20_5, rfl, rfl, rfl, rfl, rfl, rfl, (Sd (Sk (Sk (Sub.join (Sk (Sub.cons 1 rfl (Sk (Sk Sub.nil)))))))), ?_, ?_, ?_, ?_, ?_, ?_, ?_, ?_, rfl⟩))
   ·omega
   ·omega
   ·exact ho31
   ·exact OPs.snoc hOM20_5 hopw
   ·simp; omega
   ·exact pErrRL_snoc hpe hgM20_5.1
   ·have := hgM20_5.2.1; rw [sizePs_snoc, Nat.succ_mul]; omega
   ·rw [lowPs_app]; exact ⟨hpw, hgM20_5.2.2, trivial⟩
   have := haM20_5; rw [Nat.succ_mul]; omega
  replace h19 := df h19
  refine ZB _ rfl <| Zc <| Za <| JLr (Zi ZQ rfl (At.bx 0 rfl) (pkP_a ..) <| JLr (Zd 4 (vs := pkP 3 n7 n6 w) (l := pkP 3 n7 n6 w) ZQ rfl rfl rfl rfl rfl (pkP_ok how.one) (pkP_s ..) <| Zb <| Zl <| ⟨.agg ⟨pkP 3 n7 n6 w⟩, [(BX bS [v, iv aw, .int .u64 sw] 123), k1 ++ k2], Ret.one rfl (RV.cell ZQ rfl (At.bx 4 rfl) (pkP_a ..)), (Sd (Sub.cons 2 rfl (Sub.join (Sk (Sk Sub.nil))))), ?_⟩))
  have hmz := Nat.mul_le_mul_right (pz (dp - 1)) (show j ≤ 2 by omega)
  have hmd := Nat.mul_le_mul_right (dz (dp - 1)) (show j ≤ 2 by omega)
  have e1 := pz_pos (show 0 < dp by omega)
  have e2 := dz_pos (show 0 < dp by omega)
  exact ⟨.mk 3 n7 n6 ps, _, _, _, _, rfl, rfl, OP_mk.2 ⟨w, es, k1, k2, rfl, by unfold inI; omega, by unfold inI; omega, how, hopw, rfl, by omega⟩, ⟨pErrR_con (by omega) (by omega) (by omega) hpe, by rw [sizeP]; omega, by rw [lowP]; exact ⟨hw6, hpw⟩⟩, by omega⟩
 refine Zc <| Za <| JLM rfl <| JLn (Pu.eql rfl rfl) <| JLA rfl <| Zb <| Zg rfl (fun h32 => ?_) (fun h32 => ?_)
 ·replace h32 := dt h32
  refine Zc <| Za <| JLM rfl <| Zr 0 rfl Tryz.call130 rfl rfl (fun hin => Yu _ _ _ _ _ _ (RBs.mono (Hle.hu _ _) hv) (by omega) (by omega) _) rfl ?_
  rintro _ _ ⟨n33, a33, s33, rfl, rfl, hn33, ha33⟩
  refine Jc Tryz.call165 rfl (fun hin => pn_ct _ _) rfl ?_
  rintro _ _ ⟨rfl, rfl⟩
  refine JLr (Zd 1 (vs := pkP 2 n33 zS nS) (l := pkP 2 n33 zS nS) ZQ rfl rfl rfl rfl rfl (pkP_ok rfl) (pkP_s ..) <| Zb <| Zl <| ⟨.agg ⟨pkP 2 n33 zS nS⟩, [(BX bS [v, iv a33, .int .u64 s33] 123), []], Ret.one rfl (RV.cell ZQ rfl (At.bx 1 rfl) (pkP_a ..)), (Sk (Sub.emp Sub.nil)), ?_⟩)
  have e1 := pz_ge dp
  have e2 := dz_ge dp
  exact ⟨.mk 2 n33 zS [], _, _, _, _, rfl, rfl, OP_leaf (by unfold inI; omega) (by unfold inI; omega), ⟨pErrR_num (by omega) (by omega), by simp [sizeP, ZH]; omega, by rw [lowP]; exact ⟨lowS_z, trivial⟩⟩, by omega⟩
 replace h32 := df h32
 refine Zm <| Zc <| Za <| Jc Tryz.call166 rfl (fun hin => any_ct _) rfl ?_
 rintro _ _ ⟨rfl, rfl⟩
 refine JLr (Zd 1 (vs := pkP 1 0 zS nS) (l := pkP 1 0 zS nS) ZQ rfl rfl rfl rfl rfl (pkP_ok rfl) (pkP_s ..) <| Zb <| Zl <| ⟨.agg ⟨pkP 1 0 zS nS⟩, [(BX bS [v, iv a2, .int .u64 s2] 123), []], Ret.one rfl (RV.cell ZQ rfl (At.bx 1 rfl) (pkP_a ..)), (Sk (Sub.emp Sub.nil)), ?_⟩)
 have e1 := pz_ge dp
 have e2 := dz_ge dp
 exact ⟨.mk 1 0 zS [], _, _, _, _, rfl, rfl, OP_leaf (by unfold inI; omega) (by unfold inI; omega), ⟨pErrR_any, by simp [sizeP, ZH]; omega, by rw [lowP]; exact ⟨lowS_z, trivial⟩⟩, by omega⟩
theorem bindsK_ct : ∀ (p : Pt) (cs : List Value) (H : Heap), RP H cs p → Yy p = 0 → binds p ≤ 1000000 → CT Tryz.prog 71 ⟨[.agg ⟨cs⟩]⟩ [] H (fun v N => v = iv (binds p : Int) ∧ N = []) := by
 intro p
 induction p using Pt.ind with
 | h kind num ref kids ih =>
 intro cs H hp hpe hb
 obtain ⟨ks, rfl, hk, hn, hks⟩ := RP_mk.1 hp
 obtain ⟨hpl, hpk⟩ := pErrR_open hpe
 have hpm := pErrRL_mem hpl
 rw [binds] at hb ⊢
 refine Zk Tryz.func71 rfl rfl <| Zc <| Za <| JLr (Zp (l := pkP kind num ref ks) rfl rfl fun b1 => JLA rfl <| Zb <| Zc <| Zc <| Za <| JLq (pp b1 0) (YI rfl rfl) <| JLr (Ze ty3 rfl (At.bx 0 rfl) (pkP_0 ..) <| JLn (Pu.eql rfl rfl) <| Zb ?_))
 refine Zg rfl (fun h2 => ?_) (fun h2 => ?_)
 ·replace h2 := dt h2
  refine Zc <| Za <| JLA rfl <| Zb <| Zl <| ⟨iv 1, [], Ret.one rfl (RV.tmp rfl), Sub.nil, ?_⟩
  exact ⟨by rw [if_pos (by assumption)]; rfl, rfl⟩
 replace h2 := df h2
 refine Zm <| Zc <| Za <| JLA rfl <| Zb <| Zc <| Zc <| Za <| JLq (pp b1 0) (YI rfl rfl) <| JLr (Ze ty3 rfl (At.bx 0 rfl) (pkP_0 ..) <| JLn (Pu.eql rfl rfl) <| Zb <| Zg rfl (fun h3 => ?_) (fun h3 => ?_))
 ·replace h3 := dt h3
  refine Zc <| Za <| JLq (pp b1 34) (Yv rfl rfl) <| JLr (Ze ty52 rfl (At.bx 0 rfl) (YG ..) ?_)
  obtain ⟨a4, cap4, hv4⟩ := hks.sl
  have hle4 := hks.le
  refine JLn (Pu.lenSl Tryz.runUnderlying52 hv4) <| JLM rfl <| Zb <| Zo <| ZT (fun k ρ M => ∃ (j : Nat), ρ 2 = iv 0 ∧ ρ 3 = iv ((Yd (kids.take j) : Int)) ∧ ρ 13 = ks ∧ ρ 14 = iv ((kids.length : Int)) ∧ ρ 15 = iv ((j : Int)) ∧ Sub [(BX b1 (pkP kind num ref ks) 54)] M ∧ j ≤ kids.length ∧ k = kids.length - j) _ ⟨0, rfl, rfl, rfl, rfl, rfl, (Sk Sub.nil), Nat.zero_le _, rfl⟩ ?_
  rintro _ ρ5 _ ⟨j, e6, e7, e8, e9, e10, hm11, hj, rfl⟩
  obtain ⟨ρ12, rfl⟩ := Zn (uc e6 (uc e7 (uc e8 (uc e9 (uc e10 un)))))
  clear e6 e7 e8 e9 e10
  refine ZS hm11 ?_
  have hlen := hks.le
  refine Zc <| Za <| JLn (Pu.lss rfl rfl) <| Zb <| Zc <| Zg rfl (fun h13 => ?_) (fun h13 => ?_)
  ·replace h13 := dt h13
   have h13n : j < kids.length := by omega
   have hm1 := binds_mem kids _ (List.getElem_mem h13n)
   have hm2 := bindsL_take kids _ h13n
   have hm3 := bindsL_take_le kids (j + 1)
   rw [if_neg (by assumption)] at hb
   refine Zm <| Zc <| Zo <| Zc <| Za ?_
   obtain ⟨b14, o14, cap14, row14, T14, fr14, cs14, hv14, hb14, hs14, hE14⟩ := hks.get j (by first | assumption | omega | decide | simp)
   refine JLq (pp b14 (o14 + j * 35)) (Pu.idx j Tryz.runUnderlying52 ZQ hv14 rfl rfl (by first | assumption | omega | decide | simp)) <| JLr (Zi ZQ rfl (At.im hb14) hs14 <| JLr (Zh (l := pkP 0 0 zS nS) Tryz.zeroValue54 rfl fun b15 => JLr (Zd 0 (vs := cs14) (l := cs14) ZQ rfl rfl rfl rfl (ZA hE14) (RP_ok hE14) (Zy (n := 35) rfl (ZA hE14)) <| Zb <| Za <| JLM rfl <| JLr (Zi ZQ rfl (At.bx 0 rfl) (Zu (ZA hE14)) <| Jc Tryz.call71 rfl (fun hin => ih _ (List.getElem_mem h13n) _ _ (RP.mono (Hle.hu _ _) hE14) (hpm _ (List.getElem_mem h13n)) (by omega)) rfl ?_))))
   rintro _ _ ⟨rfl, rfl⟩
   refine JLn (Pu.add64 rfl rfl (by first | omega | (constructor <;> omega))) <| JLA rfl <| Zb <| Za <| JLn (Pu.inc rfl rfl (by omega)) <| JLM rfl <| Zb <| ⟨_, ?_, (j + 1), rfl, (ieq rfl (by omega)), rfl, rfl, rfl, (Sd (Sk Sub.nil)), ?_, rfl⟩
   ·omega
   omega
  replace h13 := df h13
  have h13n : kids.length ≤ j := by omega
  refine ZB _ rfl <| Zc <| Za <| JLM rfl <| JLA rfl <| Zb <| Zl <| ⟨iv ((Yd (kids.take j) : Int)), [], Ret.one rfl (RV.tmp rfl), Sub.nil, ?_⟩
  exact ⟨by rw [if_neg (by assumption), List.take_of_length_le h13n], rfl⟩
 replace h3 := df h3
 refine Zm <| Zc <| Za <| JLM rfl <| JLA rfl <| Zb <| Zl <| ⟨iv 0, [], Ret.one rfl (RV.tmp rfl), Sub.nil, ?_⟩
 obtain rfl : kids = [] := by rcases hpk with e | e | e; exact absurd e (by assumption); exact absurd e (by assumption); exact e.2
 exact ⟨by rw [if_neg (by assumption)]; rfl, rfl⟩
end Go.Proofs.YtfdeibbpfgolcaaGreat.Hs
