import Derived.Test.YtfdeibbpfgolcaaGreatRefsi
import Derived.Lib.SlicesCompact
/-! What is free in a term with another one put into it; lists of numbers in order. -/
namespace Go.Proofs.YtfdeibbpfgolcaaGreat.Hs
open Go Go.Proofs
end Go.Proofs.YtfdeibbpfgolcaaGreat.Hs
/-! Digests in order; lists of digests in order, each once. Plain. -/
namespace Go.Proofs.YtfdeibbpfgolcaaGreat.Hs
open Go Go.Proofs
/-- a digest ahead of another one: the first byte that differs is less -/
def befL : List UInt8 → List UInt8 → Bool
  | [], _ => false
  | _, [] => false
  | a :: l, b :: m => if a = b then befL l m else decide (a < b)
theorem befL_irr (l : List UInt8) : befL l l = false := by
  induction l with
  | nil => rw [befL]
  | cons a l ih => rw [befL, if_pos rfl, ih]
theorem befL_trans : ∀ {a b c : List UInt8}, befL a b = true → befL b c = true → befL a c = true := by
  intro a
  induction a with
  | nil => intro b c h; rw [befL] at h; cases h
  | cons x a ih =>
    intro b c h1 h2
    cases b with
    | nil => rw [befL] at h1; cases h1; intro h; cases h
    | cons y b =>
      cases c with
      | nil => rw [befL] at h2; cases h2; intro h; cases h
      | cons z c =>
        rw [befL] at h1 h2 ⊢
        by_cases e1 : x = y
        · subst e1
          rw [if_pos rfl] at h1
          by_cases e2 : x = z
          · subst e2; rw [if_pos rfl] at h2 ⊢; exact ih h1 h2
          · rw [if_neg e2] at h2 ⊢; exact h2
        · rw [if_neg e1] at h1
          have h1' := of_decide_eq_true h1
          by_cases e2 : y = z
          · subst e2; rw [if_neg e1]; exact h1
          · rw [if_neg e2] at h2
            have h2' := of_decide_eq_true h2
            have h3 : x < z := UInt8.lt_trans h1' h2'
            rw [if_neg (fun e => by subst e; exact absurd (UInt8.lt_trans h1' h2') (UInt8.lt_irrefl _))]
            exact decide_eq_true h3
theorem befL_tri : ∀ {a b : List UInt8}, a.length = b.length → befL a b = false → befL b a = false → a = b := by
  intro a
  induction a with
  | nil => intro b h _ _; exact (List.eq_nil_of_length_eq_zero h.symm).symm
  | cons x a ih =>
    intro b hl h1 h2
    cases b with
    | nil => cases hl
    | cons y b =>
      rw [befL] at h1 h2
      by_cases e : x = y
      · subst e
        rw [if_pos rfl] at h1 h2
        rw [ih (by simpa using hl) h1 h2]
      · rw [if_neg e] at h1
        rw [if_neg (fun q => e q.symm)] at h2
        have h1' := of_decide_eq_false h1
        have h2' := of_decide_eq_false h2
        exact absurd (UInt8.le_antisymm (UInt8.not_lt.1 h2') (UInt8.not_lt.1 h1')) e
def bef (a b : Sm) : Bool := befL a.toList b.toList
theorem bef_irr (a : Sm) : bef a a = false := befL_irr _
theorem bef_trans {a b c : Sm} (h : bef a b = true) (h' : bef b c = true) : bef a c = true := befL_trans h h'
theorem bef_tri {a b : Sm} (h : bef a b = false) (h' : bef b a = false) : a = b := Vector.toList_inj.1 (befL_tri (by simp) h h')
/-- in order, each once -/
def risS (l : List Sm) : Prop := l.Pairwise (fun a b => bef a b = true)
theorem ris_unique : ∀ {a b : List Sm}, risS a → risS b → (∀ x, x ∈ a ↔ x ∈ b) → a = b := by
  intro a
  induction a with
  | nil =>
    intro b _ _ h
    cases b with
    | nil => rfl
    | cons y b => exact absurd ((h y).2 (by simp)) (by simp)
  | cons x a ih =>
    intro b ha hb h
    cases b with
    | nil => exact absurd ((h x).1 (by simp)) (by simp)
    | cons y b =>
      unfold risS at ha hb
      rw [List.pairwise_cons] at ha hb
      have no : ∀ z : Sm, ¬ bef z z = true := fun z e => by rw [bef_irr] at e; cases e
      have e : x = y := by
        have h1 := (h x).1 (by simp)
        have h2 := (h y).2 (by simp)
        rcases List.mem_cons.1 h1 with h1 | h1
        · exact h1
        · rcases List.mem_cons.1 h2 with h2 | h2
          · exact h2.symm
          · exact absurd (bef_trans (hb.1 x h1) (ha.1 y h2)) (no y)
      subst e
      congr 1
      refine ih ha.2 hb.2 fun z => ⟨fun hz => ?_, fun hz => ?_⟩
      · rcases List.mem_cons.1 ((h z).1 (by simp [hz])) with h1 | h1
        · subst h1; exact absurd (ha.1 z hz) (no z)
        · exact h1
      · rcases List.mem_cons.1 ((h z).2 (by simp [hz])) with h1 | h1
        · subst h1; exact absurd (hb.1 z hz) (no z)
        · exact h1
/-- a digest put into a rising list, as the reference does -/
def Yb : List Sm → Sm → List Sm
  | [], s => [s]
  | x :: l, s => if bef x s = true then x :: Yb l s else if x = s then x :: l else s :: x :: l
theorem among_mem {s x : Sm} : ∀ {l : List Sm}, x ∈ Yb l s ↔ x = s ∨ x ∈ l := by
  intro l
  induction l with
  | nil => rw [Yb]; simp
  | cons y l ih =>
    rw [Yb]
    split
    · rw [List.mem_cons, ih, List.mem_cons]
      constructor
      · rintro (h | h | h)
        · exact .inr (.inl h)
        · exact .inl h
        · exact .inr (.inr h)
      · rintro (h | h | h)
        · exact .inr (.inl h)
        · exact .inl h
        · exact .inr (.inr h)
    · split
      · rename_i e
        constructor
        · intro h; exact .inr h
        · rintro (h | h)
          · rw [h, ← e]; simp
          · exact h
      · rw [List.mem_cons]
theorem among_ris {s : Sm} : ∀ {l : List Sm}, risS l → risS (Yb l s) := by
  intro l
  induction l with
  | nil => intro _; rw [Yb]; exact List.pairwise_singleton ..
  | cons y l ih =>
    intro h
    unfold risS at h
    rw [List.pairwise_cons] at h
    rw [Yb]
    split
    · rename_i e
      unfold risS
      rw [List.pairwise_cons]
      refine ⟨fun z hz => ?_, ih h.2⟩
      rcases among_mem.1 hz with rfl | hz
      · exact e
      · exact h.1 z hz
    · rename_i e1
      split
      · unfold risS; rw [List.pairwise_cons]; exact h
      · rename_i e2
        have hs : bef s y = true := by
          cases e3 : bef s y with
          | true => rfl
          | false => exact absurd (bef_tri (Bool.eq_false_iff.2 e1) e3) e2
        unfold risS
        rw [List.pairwise_cons, List.pairwise_cons]
        refine ⟨fun z hz => ?_, h⟩
        rcases List.mem_cons.1 hz with rfl | hz
        · exact hs
        · exact bef_trans hs (h.1 z hz)
end Go.Proofs.YtfdeibbpfgolcaaGreat.Hs
/-! Rows of digests. Generic but for the digest's cells. -/
namespace Go.Proofs.YtfdeibbpfgolcaaGreat.Hs
open Go Go.Proofs
/-- a digest, as cells read -/
def RSm (_ : Heap) (cs : List Value) (r : Sm) : Prop := cs = sC r
theorem RSms.mono {h h' : Heap} (hh : Hle h h') {v : Value} {l : List Sm} (q : Hs.rdS RSm 32 h v l) : Hs.rdS RSm 32 h' v l := rdS.mono q hh fun _ _ _ e => e
def sms (l : List Sm) : List (List Value) := l.map sC
theorem Z1 (l : List Sm) : (sms l).length = l.length := by simp [sms]
theorem sms_snoc (l : List Sm) (r : Sm) : sms (l ++ [r]) = sms l ++ [sC r] := by simp [sms]
theorem sms_app (a b : List Sm) : sms (a ++ b) = sms a ++ sms b := by simp [sms]
theorem sms_get (l : List Sm) (j : Nat) (h : j < l.length) : (sms l)[j]'(by rw [Z1]; exact h) = sC l[j] := by simp [sms]
theorem Yv (l : List Sm) : ∀ e ∈ sms l, e.length = 32 := by
  intro e he; obtain ⟨x, _, rfl⟩ := List.mem_map.1 he; exact sC_len x
theorem sms_ok (l : List Sm) : ∀ e ∈ sms l, okc e := by
  intro e he; obtain ⟨x, _, rfl⟩ := List.mem_map.1 he; exact sC_ok x
theorem own_sms {T : TypeId} {v : Value} {l : List Sm} {k : Zh} {h : Heap} (o : Own T 32 v (sms l) k) (hn : l.length ≤ 9223372036854775807) (hk : Has k h) : Hs.rdS RSm 32 h v l :=
  o.rdS (Z1 l).symm hn hk fun i h1 h2 => by simp [sms, RSm]
end Go.Proofs.YtfdeibbpfgolcaaGreat.Hs
/-! The digests of a term: as they are met, as the program gathers them, as the reference does. Plain. -/
namespace Go.Proofs.YtfdeibbpfgolcaaGreat.Hs
open Go Go.Proofs
set_option maxRecDepth 100000
abbrev Hd := Int × Sm
/-- the sort of digest that a node of a kind has -/
def srt (k : Int) : Int := if k = 6 then 6 else if k = 8 then 8 else if k = 11 ∨ k = 12 then 11 else 0
mutual
def hdsP : Pt → List Hd
  | .mk k _ r kids => (if k = 3 then [(8, r)] else []) ++ hdsPs kids
def hdsPs : List Pt → List Hd
  | [] => []
  | p :: l => hdsP p ++ hdsPs l
end
mutual
def hdsT : Tm → List Hd
  | .mk k _ r kids cases => (if srt k = 0 then [] else [(srt k, r)]) ++ (hdsTs kids ++ hdsCs cases)
def hdsTs : List Tm → List Hd
  | [] => []
  | t :: l => hdsT t ++ hdsTs l
def hdsCs : List (Pt × Tm) → List Hd
  | [] => []
  | (p, t) :: l => hdsP p ++ (hdsT t ++ hdsCs l)
end
/-! the program: each once, as they are met -/
def Yy (l : List Hd) (h : Hd) : List Hd := if h ∈ l then l else l ++ [h]
theorem addH_mem {l : List Hd} {h x : Hd} : x ∈ Yy l h ↔ x ∈ l ∨ x = h := by
  unfold Yy
  split
  · rename_i e; constructor
    · exact .inl
    · rintro (q | rfl)
      · exact q
      · exact e
  · simp
theorem addH_nodup {l : List Hd} {h : Hd} (q : l.Nodup) : (Yy l h).Nodup := by
  unfold Yy
  split
  · exact q
  · rename_i e
    rw [List.nodup_append]
    exact ⟨q, by simp, fun a ha b hb e2 => by simp at hb; subst hb e2; exact e ha⟩
mutual
def gP : Pt → List Hd → List Hd
  | .mk k _ r kids, l => gPs kids (if k = 3 then Yy l (8, r) else l)
def gPs : List Pt → List Hd → List Hd
  | [], l => l
  | p :: ps, l => gPs ps (gP p l)
end
def gCp : List (Pt × Tm) → List Hd → List Hd
  | [], l => l
  | c :: cs, l => gCp cs (gP c.1 l)
def hd0 (k : Int) (r : Sm) (l : List Hd) : List Hd := if srt k = 0 then l else Yy l (srt k, r)
mutual
def gT : Tm → List Hd → List Hd
  | .mk k _ r kids cases, l => gBs cases (gTs kids (gCp cases (hd0 k r l)))
def gTs : List Tm → List Hd → List Hd
  | [], l => l
  | t :: ts, l => gTs ts (gT t l)
def gBs : List (Pt × Tm) → List Hd → List Hd
  | [], l => l
  | (_, t) :: cs, l => gBs cs (gT t l)
end
theorem gP_mem (p : Pt) : ∀ (l : List Hd) (x : Hd), x ∈ gP p l ↔ x ∈ l ∨ x ∈ hdsP p := by
  induction p using Pt.ind with
  | h k n r kids ih =>
    intro l x
    have : ∀ (ps : List Pt), (∀ p ∈ ps, ∀ (l : List Hd) (x : Hd), x ∈ gP p l ↔ x ∈ l ∨ x ∈ hdsP p) → ∀ l, x ∈ gPs ps l ↔ x ∈ l ∨ x ∈ hdsPs ps := by
      intro ps
      induction ps with
      | nil => intro _ l; simp [gPs, hdsPs]
      | cons p ps ihp => intro h l; rw [gPs, hdsPs, ihp (fun q hq => h q (by simp [hq])), h p (by simp)]; simp [or_assoc]
    rw [gP, hdsP, this kids ih]
    split
    · rw [addH_mem]; simp [or_assoc]
    · simp
theorem gP_nodup (p : Pt) : ∀ (l : List Hd), l.Nodup → (gP p l).Nodup := by
  induction p using Pt.ind with
  | h k n r kids ih =>
    intro l hl
    have : ∀ (ps : List Pt), (∀ p ∈ ps, ∀ (l : List Hd), l.Nodup → (gP p l).Nodup) → ∀ l, l.Nodup → (gPs ps l).Nodup := by
      intro ps
      induction ps with
      | nil => intro _ l h; rw [gPs]; exact h
      | cons p ps ihp => intro h l q; rw [gPs]; exact ihp (fun q hq => h q (by simp [hq])) _ (h p (by simp) _ q)
    rw [gP]
    refine this kids ih _ ?_
    split
    · exact addH_nodup hl
    · exact hl
theorem gCp_mem {x : Hd} : ∀ (cs : List (Pt × Tm)) (l : List Hd), x ∈ gCp cs l ↔ x ∈ l ∨ ∃ c ∈ cs, x ∈ hdsP c.1 := by
  intro cs
  induction cs with
  | nil => intro l; simp [gCp]
  | cons c cs ih => intro l; rw [gCp, ih, gP_mem]; simp [or_assoc]
theorem gCp_nodup : ∀ (cs : List (Pt × Tm)) (l : List Hd), l.Nodup → (gCp cs l).Nodup := by
  intro cs
  induction cs with
  | nil => intro l h; rw [gCp]; exact h
  | cons c cs ih => intro l h; rw [gCp]; exact ih _ (gP_nodup _ _ h)
theorem hdsCs_mem {x : Hd} : ∀ (cs : List (Pt × Tm)), x ∈ hdsCs cs ↔ (∃ c ∈ cs, x ∈ hdsP c.1) ∨ ∃ c ∈ cs, x ∈ hdsT c.2 := by
  intro cs
  induction cs with
  | nil => simp [hdsCs]
  | cons c cs ih =>
    obtain ⟨p, t⟩ := c
    rw [hdsCs, List.mem_append, List.mem_append, ih]
    simp only [List.mem_cons, exists_eq_or_imp]
    constructor
    · rintro (h | h | h | h)
      · exact .inl (.inl h)
      · exact .inr (.inl h)
      · exact .inl (.inr h)
      · exact .inr (.inr h)
    · rintro ((h | h) | h | h)
      · exact .inl h
      · exact .inr (.inr (.inl h))
      · exact .inr (.inl h)
      · exact .inr (.inr (.inr h))
theorem hdsTs_mem {x : Hd} : ∀ (ts : List Tm), x ∈ hdsTs ts ↔ ∃ t ∈ ts, x ∈ hdsT t := by
  intro ts
  induction ts with
  | nil => simp [hdsTs]
  | cons t ts ih => rw [hdsTs, List.mem_append, ih]; simp
theorem gT_mem (t : Tm) : ∀ (l : List Hd) (x : Hd), x ∈ gT t l ↔ x ∈ l ∨ x ∈ hdsT t := by
  induction t using Tm.ind with
  | h k n r kids cases ih ih' =>
    intro l x
    have h1 : ∀ (ts : List Tm), (∀ t ∈ ts, ∀ (l : List Hd) (x : Hd), x ∈ gT t l ↔ x ∈ l ∨ x ∈ hdsT t) → ∀ l, x ∈ gTs ts l ↔ x ∈ l ∨ ∃ t ∈ ts, x ∈ hdsT t := by
      intro ts
      induction ts with
      | nil => intro _ l; simp [gTs]
      | cons p ps ihp => intro h l; rw [gTs, ihp (fun q hq => h q (by simp [hq])), h p (by simp)]; simp [or_assoc]
    have h2 : ∀ (ts : List (Pt × Tm)), (∀ c ∈ ts, ∀ (l : List Hd) (x : Hd), x ∈ gT c.2 l ↔ x ∈ l ∨ x ∈ hdsT c.2) → ∀ l, x ∈ gBs ts l ↔ x ∈ l ∨ ∃ c ∈ ts, x ∈ hdsT c.2 := by
      intro ts
      induction ts with
      | nil => intro _ l; simp [gBs]
      | cons c ps ihp => obtain ⟨p, t⟩ := c; intro h l; rw [gBs, ihp (fun q hq => h q (by simp [hq])), h (p, t) (by simp)]; simp [or_assoc]
    rw [gT, h2 cases ih', h1 kids ih, gCp_mem, hdsT, List.mem_append, List.mem_append, hdsTs_mem, hdsCs_mem]
    unfold hd0
    split
    · simp only [List.not_mem_nil, false_or]
      constructor
      · rintro (((h | h) | h) | h)
        · exact .inl h
        · exact .inr (.inr (.inl h))
        · exact .inr (.inl h)
        · exact .inr (.inr (.inr h))
      · rintro (h | h | h | h)
        · exact .inl (.inl (.inl h))
        · exact .inl (.inr h)
        · exact .inl (.inl (.inr h))
        · exact .inr h
    · rw [addH_mem, List.mem_singleton]
      constructor
      · rintro ((((h | h) | h) | h) | h)
        · exact .inl h
        · exact .inr (.inl h)
        · exact .inr (.inr (.inr (.inl h)))
        · exact .inr (.inr (.inl h))
        · exact .inr (.inr (.inr (.inr h)))
      · rintro (h | h | h | h | h)
        · exact .inl (.inl (.inl (.inl h)))
        · exact .inl (.inl (.inl (.inr h)))
        · exact .inl (.inr h)
        · exact .inl (.inl (.inr h))
        · exact .inr h
theorem gT_nodup (t : Tm) : ∀ (l : List Hd), l.Nodup → (gT t l).Nodup := by
  induction t using Tm.ind with
  | h k n r kids cases ih ih' =>
    intro l hl
    have h1 : ∀ (ts : List Tm), (∀ t ∈ ts, ∀ (l : List Hd), l.Nodup → (gT t l).Nodup) → ∀ l, l.Nodup → (gTs ts l).Nodup := by
      intro ts
      induction ts with
      | nil => intro _ l h; rw [gTs]; exact h
      | cons p ps ihp => intro h l q; rw [gTs]; exact ihp (fun q hq => h q (by simp [hq])) _ (h p (by simp) _ q)
    have h2 : ∀ (ts : List (Pt × Tm)), (∀ c ∈ ts, ∀ (l : List Hd), l.Nodup → (gT c.2 l).Nodup) → ∀ l, l.Nodup → (gBs ts l).Nodup := by
      intro ts
      induction ts with
      | nil => intro _ l h; rw [gBs]; exact h
      | cons c ps ihp => obtain ⟨p, t⟩ := c; intro h l q; rw [gBs]; exact ihp (fun q hq => h q (by simp [hq])) _ (h (p, t) (by simp) _ q)
    rw [gT]
    refine h2 cases ih' _ (h1 kids ih _ (gCp_nodup _ _ ?_))
    unfold hd0
    split
    · exact hl
    · exact addH_nodup hl
/-- the digests of one sort -/
def sel (k : Int) (l : List Hd) : List Sm := l.filterMap fun h => if h.1 = k then some h.2 else none
theorem sel_mem {k : Int} {l : List Hd} {r : Sm} : r ∈ sel k l ↔ (k, r) ∈ l := by
  unfold sel
  rw [List.mem_filterMap]
  constructor
  · rintro ⟨⟨a, b⟩, h1, h2⟩
    split at h2
    · rename_i e; cases e; cases h2; exact h1
    · cases h2
  · intro h; exact ⟨_, h, by simp⟩
theorem sel_app (k : Int) (a b : List Hd) : sel k (a ++ b) = sel k a ++ sel k b := by unfold sel; rw [List.filterMap_append]
theorem sel_one (k : Int) (r : Sm) : sel k [(k, r)] = [r] := by simp [sel]
theorem sel_other {k j : Int} (r : Sm) (h : j ≠ k) : sel k [(j, r)] = [] := by simp [sel, h]
theorem sel_nodup {k : Int} : ∀ {l : List Hd}, l.Nodup → (sel k l).Nodup := by
  intro l
  induction l with
  | nil => intro _; simp [sel]
  | cons a l ih =>
    intro h
    rw [List.nodup_cons] at h
    obtain ⟨i, r⟩ := a
    rw [show (i, r) :: l = [(i, r)] ++ l from rfl, sel_app]
    by_cases e : i = k
    · subst e
      rw [sel_one, List.singleton_append, List.nodup_cons]
      exact ⟨fun q => h.1 (sel_mem.1 q), ih h.2⟩
    · rw [sel_other r e]; exact ih h.2
theorem sel_len (k : Int) (l : List Hd) : (sel k l).length ≤ l.length := List.length_filterMap_le ..
/-! how many there are at most -/
theorem addH_len (l : List Hd) (h : Hd) : (Yy l h).length ≤ l.length + 1 := by unfold Yy; split <;> simp
theorem gP_len (p : Pt) : ∀ l, (gP p l).length ≤ l.length + sizeP p := by
  induction p using Pt.ind with
  | h k n r kids ih =>
    intro l
    have : ∀ (ps : List Pt), (∀ p ∈ ps, ∀ l, (gP p l).length ≤ l.length + sizeP p) → ∀ l, (gPs ps l).length ≤ l.length + ZE ps := by
      intro ps
      induction ps with
      | nil => intro _ l; simp [gPs]
      | cons p ps ihp => intro h l; rw [gPs, ZE]; have := ihp (fun q hq => h q (by simp [hq])) (gP p l); have := h p (by simp) l; omega
    rw [gP, sizeP]
    have h1 := this kids ih (if k = 3 then Yy l (8, r) else l)
    have h2 := addH_len l (8, r)
    split at h1 <;> split <;> first | omega | contradiction
theorem gCp_len (cs : List (Pt × Tm)) : ∀ l, (gCp cs l).length + 0 ≤ l.length + (cs.map fun c => sizeP c.1).sum := by
  induction cs with
  | nil => intro l; simp [gCp]
  | cons c cs ih => intro l; rw [gCp]; have := ih (gP c.1 l); have := gP_len c.1 l; simp only [List.map_cons, List.sum_cons]; omega
theorem gT_len (t : Tm) : ∀ l, (gT t l).length ≤ l.length + sizeT t := by
  induction t using Tm.ind with
  | h k n r kids cases ih ih' =>
    intro l
    have h1 : ∀ (ts : List Tm), (∀ t ∈ ts, ∀ l, (gT t l).length ≤ l.length + sizeT t) → ∀ l, (gTs ts l).length ≤ l.length + ZD ts := by
      intro ts
      induction ts with
      | nil => intro _ l; simp [gTs]
      | cons p ps ihp => intro h l; rw [gTs, ZD]; have := ihp (fun q hq => h q (by simp [hq])) (gT p l); have := h p (by simp) l; omega
    have h2 : ∀ (ts : List (Pt × Tm)), (∀ c ∈ ts, ∀ l, (gT c.2 l).length ≤ l.length + sizeT c.2) → ∀ l, (gBs ts l).length + (ts.map fun c => sizeP c.1).sum ≤ l.length + ZM ts := by
      intro ts
      induction ts with
      | nil => intro _ l; simp [gBs]
      | cons c ps ihp => obtain ⟨p, t⟩ := c; intro h l; rw [gBs, ZM]; have := ihp (fun q hq => h q (by simp [hq])) (gT t l); have := h (p, t) (by simp) l; simp only [List.map_cons, List.sum_cons] at *; omega
    have h3 : (hd0 k r l).length ≤ l.length + 1 := by
      unfold hd0; split
      · omega
      · exact addH_len _ _
    rw [gT, sizeT]
    have e1 := h2 cases ih' (gTs kids (gCp cases (hd0 k r l)))
    have e2 := h1 kids ih (gCp cases (hd0 k r l))
    have e3 := gCp_len cases (hd0 k r l)
    omega
/-! the reference: three rising lists -/
structure L3 where
  a : List Sm
  b : List Sm
  c : List Sm
mutual
def rP : Pt → List Sm → List Sm
  | .mk k _ r kids, l => rPs kids (if k = 3 then Yb l r else l)
def rPs : List Pt → List Sm → List Sm
  | [], l => l
  | p :: ps, l => rPs ps (rP p l)
end
def rH (k : Int) (r : Sm) (l : L3) : L3 := ⟨if k = 6 then Yb l.a r else l.a, if k = 8 then Yb l.b r else l.b, if k = 11 ∨ k = 12 then Yb l.c r else l.c⟩
mutual
def rT : Tm → L3 → L3
  | .mk k _ r kids cases, l => rCs cases (rTs kids (rH k r l))
def rTs : List Tm → L3 → L3
  | [], l => l
  | t :: ts, l => rTs ts (rT t l)
def rCs : List (Pt × Tm) → L3 → L3
  | [], l => l
  | (p, t) :: cs, l => rCs cs (rT t ⟨l.a, rP p l.b, l.c⟩)
end
theorem rP_ok (p : Pt) : ∀ l, risS l → risS (rP p l) ∧ ∀ x, x ∈ rP p l ↔ x ∈ l ∨ (8, x) ∈ hdsP p := by
  induction p using Pt.ind with
  | h k n r kids ih =>
    intro l hl
    have : ∀ (ps : List Pt), (∀ p ∈ ps, ∀ l, risS l → risS (rP p l) ∧ ∀ x, x ∈ rP p l ↔ x ∈ l ∨ (8, x) ∈ hdsP p) → ∀ l, risS l → risS (rPs ps l) ∧ ∀ x, x ∈ rPs ps l ↔ x ∈ l ∨ (8, x) ∈ hdsPs ps := by
      intro ps
      induction ps with
      | nil => intro _ l h; rw [rPs]; exact ⟨h, by simp [hdsPs]⟩
      | cons p ps ihp =>
        intro h l q
        obtain ⟨e1, e2⟩ := h p (by simp) l q
        obtain ⟨e3, e4⟩ := ihp (fun q hq => h q (by simp [hq])) _ e1
        rw [rPs]; exact ⟨e3, fun x => by rw [e4, e2, hdsPs, List.mem_append, or_assoc]⟩
    rw [rP]
    split
    · rename_i hk
      obtain ⟨e1, e2⟩ := this kids ih _ (among_ris (s := r) hl)
      refine ⟨e1, fun x => ?_⟩
      rw [e2, among_mem, hdsP, if_pos hk, List.mem_append, List.mem_singleton, Prod.mk.injEq]
      constructor
      · rintro ((h | h) | h)
        · exact .inr (.inl ⟨rfl, h⟩)
        · exact .inl h
        · exact .inr (.inr h)
      · rintro (h | ⟨_, h⟩ | h)
        · exact .inl (.inr h)
        · exact .inl (.inl h)
        · exact .inr h
    · rename_i hk
      obtain ⟨e1, e2⟩ := this kids ih _ hl
      exact ⟨e1, fun x => by rw [e2, hdsP, if_neg hk, List.nil_append]⟩
/-- what a triple of lists holds of a list of digests -/
def H3 (l : L3) (m : Hd → Prop) : Prop := risS l.a ∧ risS l.b ∧ risS l.c ∧ (∀ x, x ∈ l.a ↔ m (6, x)) ∧ (∀ x, x ∈ l.b ↔ m (8, x)) ∧ (∀ x, x ∈ l.c ↔ m (11, x))
theorem H3.cong {l : L3} {m m' : Hd → Prop} (h : H3 l m) (e : ∀ x, m x ↔ m' x) : H3 l m' :=
  ⟨h.1, h.2.1, h.2.2.1, fun x => (h.2.2.2.1 x).trans (e _), fun x => (h.2.2.2.2.1 x).trans (e _), fun x => (h.2.2.2.2.2 x).trans (e _)⟩
theorem rH_ok {k : Int} {r : Sm} {l : L3} {m : Hd → Prop} (h : H3 l m) : H3 (rH k r l) (fun x => m x ∨ (srt k ≠ 0 ∧ x = (srt k, r))) := by
  obtain ⟨h1, h2, h3, h4, h5, h6⟩ := h
  by_cases e6 : k = 6
  · subst e6
    refine ⟨?_, ?_, ?_, ?_, ?_, ?_⟩ <;> simp [rH, srt, among_ris, h1, h2, h3, h4, h5, h6, among_mem, or_comm]
  by_cases e8 : k = 8
  · subst e8
    refine ⟨?_, ?_, ?_, ?_, ?_, ?_⟩ <;> simp [rH, srt, among_ris, h1, h2, h3, h4, h5, h6, among_mem, or_comm]
  by_cases e11 : k = 11 ∨ k = 12
  · refine ⟨?_, ?_, ?_, ?_, ?_, ?_⟩ <;> simp [rH, srt, among_ris, h1, h2, h3, h4, h5, h6, among_mem, or_comm, e6, e8, e11]
  · refine ⟨?_, ?_, ?_, ?_, ?_, ?_⟩ <;> simp [rH, srt, h1, h2, h3, h4, h5, h6, e6, e8, e11]
theorem rT_ok (t : Tm) : ∀ l m, H3 l m → H3 (rT t l) (fun x => m x ∨ x ∈ hdsT t) := by
  induction t using Tm.ind with
  | h k n r kids cases ih ih' =>
    intro l m hl
    have h1 : ∀ (ts : List Tm), (∀ t ∈ ts, ∀ l m, H3 l m → H3 (rT t l) (fun x => m x ∨ x ∈ hdsT t)) → ∀ l m, H3 l m → H3 (rTs ts l) (fun x => m x ∨ x ∈ hdsTs ts) := by
      intro ts
      induction ts with
      | nil => intro _ l m h; rw [rTs]; exact h.cong fun x => by simp [hdsTs]
      | cons t ts ihp =>
        intro h l m q
        rw [rTs]
        exact (ihp (fun q hq => h q (by simp [hq])) _ _ (h t (by simp) l m q)).cong fun x => by rw [hdsTs, List.mem_append, or_assoc]
    have h2 : ∀ (ts : List (Pt × Tm)), (∀ c ∈ ts, ∀ l m, H3 l m → H3 (rT c.2 l) (fun x => m x ∨ x ∈ hdsT c.2)) → ∀ l m, H3 l m → H3 (rCs ts l) (fun x => m x ∨ x ∈ hdsCs ts) := by
      intro ts
      induction ts with
      | nil => intro _ l m h; rw [rCs]; exact h.cong fun x => by simp [hdsCs]
      | cons c ts ihp =>
        obtain ⟨p, t⟩ := c
        intro h l m q
        rw [rCs]
        have q1 : H3 ⟨l.a, rP p l.b, l.c⟩ (fun x => m x ∨ x ∈ hdsP p) := by
          obtain ⟨q1, q2, q3, q4, q5, q6⟩ := q
          have hno : ∀ x : Hd, x ∈ hdsP p → x.1 = 8 := by
            clear h ihp q1 q2 q3 q4 q5 q6
            induction p using Pt.ind with
            | h k n r kids ih =>
              intro x hx
              rw [hdsP, List.mem_append] at hx
              rcases hx with hx | hx
              · split at hx
                · rw [List.mem_singleton] at hx; subst hx; rfl
                · cases hx
              · induction kids with
                | nil => rw [hdsPs] at hx; cases hx
                | cons q ps ihq =>
                  rw [hdsPs, List.mem_append] at hx
                  rcases hx with hx | hx
                  · exact ih q (by simp) x hx
                  · exact ihq (fun z hz => ih z (by simp [hz])) hx
          have hb := rP_ok p l.b q2
          refine ⟨q1, hb.1, q3, fun x => ?_, fun x => ?_, fun x => ?_⟩
          · show x ∈ l.a ↔ _
            rw [q4]
            exact ⟨.inl, fun h => h.elim id fun h => absurd (hno _ h) (by simp)⟩
          · show x ∈ rP p l.b ↔ _
            rw [hb.2, q5]
          · show x ∈ l.c ↔ _
            rw [q6]
            exact ⟨.inl, fun h => h.elim id fun h => absurd (hno _ h) (by simp)⟩
        exact (ihp (fun q hq => h q (by simp [hq])) _ _ (h (p, t) (by simp) _ _ q1)).cong fun x => by
          rw [hdsCs, List.mem_append, List.mem_append]; simp only [or_assoc]
    rw [rT]
    refine (h2 cases ih' _ _ (h1 kids ih _ _ (rH_ok (k := k) (r := r) hl))).cong fun x => ?_
    rw [hdsT, List.mem_append, List.mem_append]
    split
    · rename_i e; simp [e, or_assoc]
    · rename_i e; simp [e, or_assoc]
/-- each sort of the reference's lists -/
theorem rT_lists (t : Tm) : H3 (rT t ⟨[], [], []⟩) (fun x => x ∈ hdsT t) :=
  (rT_ok t ⟨[], [], []⟩ (fun _ => False) ⟨List.Pairwise.nil, List.Pairwise.nil, List.Pairwise.nil, by simp, by simp, by simp⟩).cong fun x => by simp
/-- a list of digests in order: what is sorted and has no two alike -/
theorem sorted_ris {l : List Sm} (hn : l.Nodup) (hs : l.Pairwise fun x y => bef y x = false) : risS l := by
  unfold risS
  rw [List.Nodup] at hn
  refine (hn.and hs).imp fun {a b} h => ?_
  cases e : bef a b with
  | true => rfl
  | false => exact absurd (bef_tri e h.2) h.1
end Go.Proofs.YtfdeibbpfgolcaaGreat.Hs
/-! Walks, printed by a program of this session's own (gen.py). -/
namespace Go.Proofs.YtfdeibbpfgolcaaGreat.Hs
open Go Go.Proofs
set_option maxRecDepth 100000
set_option linter.unusedVariables false
set_option linter.unusedSimpArgs false
attribute [local irreducible] JL J CT wlo DT
theorem more_ct (k j : Int) (H : Heap) : CT Tryz.prog 96 ⟨[iv k, iv j]⟩ [] H (fun v N => v = iv (Z4 k j) ∧ N = []) := by
 refine Zn Tryz.func96 rfl rfl <| Zc <| Za <| JLA rfl <| Zb <| Zc <| Zk <| Zc <| Zc <| Za <| JLM rfl <| JLn (Pu.eql rfl rfl) <| JLA rfl ?_
 refine Zb <| Zf rfl (fun h1 => ?_) (fun h1 => ?_)
 ·replace h1 := dt h1
  refine Zj <| Zf rfl (fun _ => ?_) (fun h2 => absurd h1 (df h2))
  refine Zc <| Za <| JLA rfl <| Zb <| Zm <| ⟨iv 1, [], Ret.one rfl (RV.tmp rfl), Sub.nil, ?_⟩
  exact ⟨by first | (simp_all [Z4]; done) | (congr 1; unfold Z4; simp_all; try omega), rfl⟩
 replace h1 := df h1
 refine Zc <| Za <| JLM rfl <| JLn (Pu.eql rfl rfl) <| JLM rfl <| Zv 2 [11, 12] [(12, cond (decide (k = 5)) (.bool (decide (j = 1))) undef)] ?_ fun f4 => ?_
 ·cases h3 : (decide (k = 5)) with
  | true =>
   replace h3 := dt h3
   refine JLM rfl <| JLn (Pu.eql rfl rfl) ?_
   exact Zb ⟨⟨rfl, trivial⟩, rfl⟩
  | false =>
   exact Zx rfl ⟨rfl, trivial⟩
 refine JLn (Pu.pickAnd rfl rfl rfl) <| JLA rfl <| Zb <| Zf rfl (fun h5 => ?_) (fun h5 => ?_)
 ·obtain ⟨h5a, h5b⟩ := YM h5
  replace h5a := dt h5a
  replace h5b := dt h5b
  refine Zj <| Zf rfl (fun h6 => ?_) (fun h6 => ?_)
  ·obtain ⟨h6a, h6b⟩ := YM h6
   replace h6a := dt h6a
   replace h6b := dt h6b
   refine Zc <| Za <| JLA rfl <| Zb <| Zm <| ⟨iv 1, [], Ret.one rfl (RV.tmp rfl), Sub.nil, ?_⟩
   exact ⟨by first | (simp_all [Z4]; done) | (congr 1; unfold Z4; simp_all; try omega), rfl⟩
  refine Zc <| Za <| JLM rfl <| JLn (Pu.eql rfl rfl) <| JLM rfl <| Zv 2 [24, 25] [(25, cond (decide (k = 12)) (.bool (decide (1 < j))) undef)] ?_ fun f8 => ?_
  ·cases h7 : (decide (k = 12)) with
   | true =>
    replace h7 := dt h7
    refine JLM rfl <| JLn (Pu.gtr rfl rfl) ?_
    exact Zb ⟨⟨rfl, trivial⟩, rfl⟩
   | false =>
    exact Zx rfl ⟨rfl, trivial⟩
  refine JLn (Pu.pickAnd rfl rfl rfl) <| JLA rfl <| Zb <| Zf rfl (fun h9 => ?_) (fun h9 => ?_)
  ·obtain ⟨h9a, h9b⟩ := YM h9
   replace h9a := dt h9a
   replace h9b := dt h9b
   refine Zc <| Za <| JLA rfl <| Zb <| Zm <| ⟨iv 2, [], Ret.one rfl (RV.tmp rfl), Sub.nil, ?_⟩
   exact ⟨by first | (simp_all [Z4]; done) | (congr 1; unfold Z4; simp_all; try omega), rfl⟩
  refine Zj <| Zc <| Za <| JLA rfl <| Zb <| Zm <| ⟨iv 0, [], Ret.one rfl (RV.tmp rfl), Sub.nil, ?_⟩
  exact ⟨by first | (simp_all [Z4]; done) | (congr 1; unfold Z4; simp_all; try omega), rfl⟩
 refine Za <| JLM rfl <| JLn (Pu.eql rfl rfl) <| JLM rfl <| Zv 2 [17, 18] [(18, cond (decide (k = 12)) (.bool (decide (j = 1))) undef)] ?_ fun f11 => ?_
 ·cases h10 : (decide (k = 12)) with
  | true =>
   replace h10 := dt h10
   refine JLM rfl <| JLn (Pu.eql rfl rfl) ?_
   exact Zb ⟨⟨rfl, trivial⟩, rfl⟩
  | false =>
   exact Zx rfl ⟨rfl, trivial⟩
 refine JLn (Pu.pickAnd rfl rfl rfl) <| JLA rfl <| Zb <| Zf rfl (fun h12 => ?_) (fun h12 => ?_)
 ·obtain ⟨h12a, h12b⟩ := YM h12
  replace h12a := dt h12a
  replace h12b := dt h12b
  refine Zc <| Za <| JLA rfl <| Zb <| Zm <| ⟨iv 1, [], Ret.one rfl (RV.tmp rfl), Sub.nil, ?_⟩
  exact ⟨by first | (simp_all [Z4]; done) | (congr 1; unfold Z4; simp_all; try omega), rfl⟩
 refine Zc <| Za <| JLM rfl <| JLn (Pu.eql rfl rfl) <| JLM rfl <| Zv 2 [24, 25] [(25, cond (decide (k = 12)) (.bool (decide (1 < j))) undef)] ?_ fun f14 => ?_
 ·cases h13 : (decide (k = 12)) with
  | true =>
   replace h13 := dt h13
   refine JLM rfl <| JLn (Pu.gtr rfl rfl) ?_
   exact Zb ⟨⟨rfl, trivial⟩, rfl⟩
  | false =>
   exact Zx rfl ⟨rfl, trivial⟩
 refine JLn (Pu.pickAnd rfl rfl rfl) <| JLA rfl <| Zb <| Zf rfl (fun h15 => ?_) (fun h15 => ?_)
 ·obtain ⟨h15a, h15b⟩ := YM h15
  replace h15a := dt h15a
  replace h15b := dt h15b
  refine Zc <| Za <| JLA rfl <| Zb <| Zm <| ⟨iv 2, [], Ret.one rfl (RV.tmp rfl), Sub.nil, ?_⟩
  exact ⟨by first | (simp_all [Z4]; done) | (congr 1; unfold Z4; simp_all; try omega), rfl⟩
 refine Zj <| Zc <| Za <| JLA rfl <| Zb <| Zm <| ⟨iv 0, [], Ret.one rfl (RV.tmp rfl), Sub.nil, ?_⟩
 exact ⟨by first | (simp_all [Z4]; done) | (congr 1; unfold Z4; simp_all; try omega), rfl⟩
theorem YD (n lo hi : Int) (H : Heap) : CT Tryz.prog 79 ⟨[iv n, iv lo, iv hi]⟩ [] H (fun v N => v = .bool (decide (n < lo ∨ hi < n)) ∧ N = []) := by
 refine Zn Tryz.func79 rfl rfl <| Zc <| Za <| JLA rfl <| Zb <| Zc <| Za <| JLM rfl <| JLM rfl <| JLn (Pu.lss rfl rfl) <| JLM rfl <| Zv 3 [11, 12, 13] [(13, cond (decide (n < lo)) undef (.bool (decide (hi < n))))] ?_ fun f2 => ?_
 ·cases h1 : (decide (n < lo)) with
  | false =>
   replace h1 := df h1
   refine JLM rfl <| JLM rfl <| JLn (Pu.gtr rfl rfl) ?_
   exact Zb ⟨⟨rfl, trivial⟩, rfl⟩
  | true =>
   exact Zx rfl ⟨rfl, trivial⟩
 refine JLn (Pu.pickOr rfl rfl rfl) <| JLA rfl <| Zb <| Zm <| ⟨.bool ((decide (n < lo)) || (decide (hi < n))), [], Ret.one rfl (RV.tmp rfl), Sub.nil, ?_⟩
 exact ⟨by simp, rfl⟩
theorem binds_ct : ∀ (p : Pt) (cs : List Value) (H : Heap), RP H cs p → binds p ≤ 1000000 → CT Tryz.prog 97 ⟨[.agg ⟨cs⟩]⟩ [] H (fun v N => v = iv (binds p : Int) ∧ N = []) := by
 intro p
 induction p using Pt.ind with
 | h kind num ref kids ih =>
 intro cs H hp hb
 obtain ⟨ks, rfl, hk, hn, hks⟩ := RP_mk.1 hp
 rw [binds] at hb ⊢
 refine Zn Tryz.func97 rfl rfl <| Zc <| Za <| JLr (Zo (l := pkP kind num ref ks) rfl rfl fun b1 => JLA rfl <| Zb <| Zc <| Zc <| Za <| JLq (pp b1 0) (Yj rfl rfl) <| JLr (Zd ty3 rfl (At.bx 0 rfl) (YJ ..) <| JLn (Pu.eql rfl rfl) <| Zb ?_))
 refine Zf rfl (fun h2 => ?_) (fun h2 => ?_)
 ·replace h2 := dt h2
  refine Zc <| Za <| JLA rfl <| Zb <| Zm <| ⟨iv 1, [], Ret.one rfl (RV.tmp rfl), Sub.nil, ?_⟩
  exact ⟨by rw [if_pos (by assumption)]; rfl, rfl⟩
 replace h2 := df h2
 refine Zj <| Zc <| Za <| JLA rfl <| Zb <| Zc <| Zc <| Za <| JLq (pp b1 34) (ZX rfl rfl) <| JLr (Zd Yz rfl (At.bx 0 rfl) (Z3 ..) ?_)
 obtain ⟨a3, cap3, hv3⟩ := hks.sl
 have hle3 := hks.le
 refine JLn (Pu.lenSl Tryz.runUnderlying52 hv3) <| JLM rfl <| Zb <| Zk <| ZF (fun k ρ M => ∃ (j : Nat), ρ 2 = iv 0 ∧ ρ 3 = iv ((Yx (kids.take j) : Int)) ∧ ρ 10 = ks ∧ ρ 11 = iv ((kids.length : Int)) ∧ ρ 12 = iv ((j : Int)) ∧ Sub [(BX b1 (pkP kind num ref ks) 54)] M ∧ j ≤ kids.length ∧ k = kids.length - j) _ ⟨0, rfl, rfl, rfl, rfl, rfl, (Sk Sub.nil), Nat.zero_le _, rfl⟩ ?_
 rintro _ ρ4 _ ⟨j, e5, e6, e7, e8, e9, hm10, hj, rfl⟩
 obtain ⟨ρ11, rfl⟩ := Zu (uc e5 (uc e6 (uc e7 (uc e8 (uc e9 un)))))
 clear e5 e6 e7 e8 e9
 refine ZI hm10 ?_
 have hlen := hks.le
 refine Zc <| Za <| JLn (Pu.lss rfl rfl) <| Zb <| Zc <| Zf rfl (fun h12 => ?_) (fun h12 => ?_)
 ·replace h12 := dt h12
  have h12n : j < kids.length := by omega
  have hm1 := binds_mem kids _ (List.getElem_mem h12n)
  have hm2 := bindsL_take kids _ h12n
  have hm3 := bindsL_take_le kids (j + 1)
  rw [if_neg (by assumption)] at hb
  refine Zj <| Zc <| Zk <| Zc <| Za ?_
  obtain ⟨b13, o13, cap13, row13, T13, fr13, cs13, hv13, hb13, hs13, hE13⟩ := hks.get j (by first | assumption | omega | decide | simp)
  refine JLq (pp b13 (o13 + j * 35)) (Pu.idx j Tryz.runUnderlying52 ZQ hv13 rfl rfl (by first | assumption | omega | decide | simp)) <| JLr (Zg ZQ rfl (At.im hb13) hs13 <| JLr (Zl (l := pkP 0 0 zS nS) Tryz.zeroValue54 rfl fun b14 => JLr (Ze 0 (vs := cs13) (l := cs13) ZQ rfl rfl rfl rfl (Zz hE13) (RP_ok hE13) (ZL (n := 35) rfl (Zz hE13)) <| Zb <| Za <| JLM rfl <| JLr (Zg ZQ rfl (At.bx 0 rfl) (Zr (Zz hE13)) <| Jc Tryz.call97 rfl (fun hin => ih _ (List.getElem_mem h12n) _ _ (RP.mono (Hle.hu _ _) hE13) (by omega)) rfl ?_))))
  rintro _ _ ⟨rfl, rfl⟩
  refine JLn (Pu.add64 rfl rfl (by first | omega | (constructor <;> omega))) <| JLA rfl <| Zb <| Za <| JLn (Pu.inc rfl rfl (by omega)) <| JLM rfl <| Zb <| ⟨_, ?_, (j + 1), rfl, (ieq rfl (by omega)), rfl, rfl, rfl, (Sd (Sk Sub.nil)), ?_, rfl⟩
  ·omega
  omega
 replace h12 := df h12
 have h12n : kids.length ≤ j := by omega
 refine Zy _ rfl <| Zc <| Za <| JLM rfl <| JLA rfl <| Zb <| Zm <| ⟨iv ((Yx (kids.take j) : Int)), [], Ret.one rfl (RV.tmp rfl), Sub.nil, ?_⟩
 exact ⟨by rw [if_neg (by assumption), List.take_of_length_le h12n], rfl⟩
end Go.Proofs.YtfdeibbpfgolcaaGreat.Hs
/-! Walks, printed by a program of this session's own (gen.py). -/
namespace Go.Proofs.YtfdeibbpfgolcaaGreat.Hs
open Go Go.Proofs
set_option maxRecDepth 100000
set_option linter.unusedVariables false
set_option linter.unusedSimpArgs false
attribute [local irreducible] JL J CT wlo DT
theorem parts_ct (cs : List Value) (H : Heap) (hl : cs.length = 36) : CT Tryz.prog 53 ⟨[.agg ⟨cs⟩]⟩ [] H (fun v N => ∃ b, v = .func (.func 95) ⟨[]⟩ ⟨[pp b 0]⟩ ∧ N = [(BX b cs 27)]) := by
 refine Zn Tryz.func53 rfl rfl <| Zc <| Za <| JLr (Zo (l := cs) rfl rfl fun b1 => JLa .nilFunc <| Zb <| Zc <| Za <| JLq (.func (.func 95) ⟨[]⟩ ⟨[pp b1 0]⟩) (Pu.makeFunc rfl rfl) <| JLA rfl <| Zb <| Zm <| ⟨.func (.func 95) ⟨[]⟩ ⟨[pp b1 0]⟩, [(BX b1 cs 27)], Ret.one rfl (RV.tmp rfl), (Sk Sub.nil), ?_⟩)
 exact ⟨_, rfl, rfl⟩
theorem parts1_ct (kind num : Int) (ref : Sm) (ks cv : Value) (kids : List Tm) (cases : List (Pt × Tm)) (H : Heap) (bT : Nat) (hks : rdS RT 36 H ks kids) (hcv : rdS RC 71 H cv cases) (hT : H bT = some (.cells ⟨pkT kind num ref ks cv⟩ 27 (0, 0))) (hsz : ∀ c ∈ cases, binds c.1 ≤ 1000000) (hkl : kids.length ≤ 1000000) (hcl : cases.length ≤ 1000000) (l : Nat) {σ : Type} (yc : σ → Zh) (Inv : σ → Prop) (step : Tm → Int → σ → Bool × σ) (s0 : σ) (h0 : Inv s0) (It : Tm → Int → Prop) (hIK : ∀ (j : Nat) (hj : j < kids.length), It kids[j] (Z4 kind j)) (hIC : ∀ (j : Nat) (hj : j < cases.length), It cases[j].2 (binds cases[j].1 : Int)) (hI : ∀ x mo s, Inv s → (step x mo s).1 = true → Inv (step x mo s).2) (hy : ∀ x mo, It x mo → ∀ s (i : Int) a h, Inv s → Hle H h → RT h a x → YT Tryz.prog l ⟨[iv i, .agg ⟨a ++ [iv mo]⟩]⟩ [yc s] h (fun v N => v = .bool (step x mo s).1 ∧ N = [yc (step x mo s).2])) : CT Tryz.prog 95 ⟨[.func (.yield l) ⟨[]⟩ ⟨[]⟩, pp bT 0]⟩ [yc s0] H (fun _ N => N = [yc (yP step kind kids cases s0)]) := by
 refine Zn Tryz.func95 rfl rfl <| Zc <| Zc <| Za <| JLq (pp bT 34) (ZY rfl rfl) <| JLr (Zd YA rfl (At.im hT) (ZV ..) ?_)
 obtain ⟨a1, cap1, hv1⟩ := hks.sl
 have hle1 := hks.le
 refine JLn (Pu.lenSl Tryz.runUnderlying24 hv1) <| JLM rfl <| Zb <| Zk <| ZF (fun k ρ M => ∃ (j : Nat) (s : σ), ρ 0 = .func (.yield l) ⟨[]⟩ ⟨[]⟩ ∧ ρ 1 = pp bT 0 ∧ ρ 8 = ks ∧ ρ 9 = iv ((kids.length : Int)) ∧ ρ 10 = iv ((j : Int)) ∧ Sub [yc s] M ∧ j ≤ kids.length ∧ Inv s ∧ yK step kind j (kids.drop j) s = yK step kind 0 kids s0 ∧ k = kids.length - j) _ ⟨0, s0, rfl, rfl, rfl, rfl, rfl, (Sk Sub.nil), Nat.zero_le _, h0, rfl, rfl⟩ ?_
 rintro _ ρ2 _ ⟨j, s, e3, e4, e5, e6, e7, hm8, hj, hs, hinv, rfl⟩
 obtain ⟨ρ9, rfl⟩ := Zu (uc e3 (uc e4 (uc e5 (uc e6 (uc e7 un)))))
 clear e3 e4 e5 e6 e7
 refine ZI hm8 ?_
 have hlen := hks.le
 refine Zc <| Za <| JLn (Pu.lss rfl rfl) <| Zb <| Zc <| Zf rfl (fun h10 => ?_) (fun h10 => ?_)
 ·replace h10 := dt h10
  have h10n : j < kids.length := by omega
  refine Zj <| Zc <| Zk <| Zc <| Za <| JLM rfl ?_
  obtain ⟨b11, o11, cap11, row11, T11, fr11, cs11, hv11, hb11, hs11, hE11⟩ := hks.get j (by first | assumption | omega | decide | simp)
  refine JLq (pp b11 (o11 + j * 36)) (Pu.idx j Tryz.runUnderlying24 Zt hv11 rfl rfl (by first | assumption | omega | decide | simp)) <| JLr (Zg Zt rfl (At.im hb11) hs11 <| JLr (Zl (l := pkT 0 0 zS nS nS) Tryz.zeroValue27 rfl fun b12 => JLA rfl <| JLr (Ze 0 (vs := cs11) (l := cs11) Zt rfl rfl rfl rfl (Zq hE11) (YV hE11) (ZL (n := 36) rfl (Zq hE11)) <| Zb <| Zc <| ZC mixed #[0, 0, 0, 0, 8, 0, 56, 124, 255, 511] 8 [some 15, some 16, some 17, some 18, some 19, some 20, some 21, some 22] [] [(6, fun _ _ vw qw => vw = iv (Z4 kind ((j : Int))) ∧ qw = [])] rfl (by kernel_rfl) rfl (by kernel_rfl) <| DM (fun _ => rfl) <| DM (fun _ => rfl) <| Dl Zt (At.bx 0 rfl) (Zr (Zq hE11)) <| Dq (pp bT 0) (fun _ => ZG rfl rfl) <| Dl1 ty3 (At.im hT) (ZU ..) ?_)))
  refine DM (fun _ => rfl) <| Dc rfl Tryz.call96 (fun _ => rfl) (fun hin => more_ct _ _ _) ?_
  rintro _ _ ⟨rfl, rfl⟩
  refine Dq (.agg ⟨cs11 ++ ([iv (Z4 kind ((j : Int)))] : List Value)⟩) (fun _ => Pu.build (pv := [(0, .agg ⟨cs11⟩), (1, iv (Z4 kind ((j : Int))))]) (l := cs11 ++ ([iv (Z4 kind ((j : Int)))] : List Value)) rfl (bld107_0_1 (Zq hE11))) <| ZK (M' := [(BX b12 cs11 27), yc s]) rfl ?_
  show JL _ _ _ [_, _] _ _ _
  refine JL_yield1 1 rfl rfl rfl (fun hin => hy _ _ (hIK j h10n) _ _ _ _ hs (Hle.hu _ _) (RT.mono (Hle.hu _ _) hE11)) rfl ?_
  rintro _ _ ⟨rfl, rfl⟩
  refine JLn (Pu.not rfl) <| Zb <| Zf rfl (fun h13 => ?_) (fun h13 => ?_)
  ·replace h13 := nt h13
   refine Zm <| ⟨.tuple ⟨[]⟩, [yc (step (kids[j]) (Z4 kind ((j : Int))) s).2], Ret.none rfl, (Sk Sub.nil), ?_⟩
   rw [ZT h10n, yK, if_neg (by simp [h13])] at hinv
   show _ = _; rw [yP, ← hinv]; rfl
  replace h13 := nf h13
  refine Zj <| Za <| JLn (Pu.inc rfl rfl (by omega)) <| JLM rfl <| Zb <| ⟨_, ?_, (j + 1), ((step (kids[j]) (Z4 kind ((j : Int))) s).2), rfl, rfl, rfl, rfl, rfl, (Sk Sub.nil), ?_, ?_, ?_, rfl⟩
  ·omega
  ·omega
  ·exact hI _ _ s hs h13
  rw [ZT h10n, yK, if_pos h13] at hinv; exact hinv
 replace h10 := df h10
 have h10n : kids.length ≤ j := by omega
 refine Zy _ rfl <| Zc <| Za <| JLq (pp bT 35) (ZP rfl rfl) <| JLr (Zd Ym rfl (At.im hT) (ZO ..) ?_)
 obtain ⟨a14, cap14, hv14⟩ := hcv.sl
 have hle14 := hcv.le
 refine JLn (Pu.lenSl Tryz.runUnderlying25 hv14) <| JLM rfl <| Zb <| Zk ?_
 have hk1 : yK step kind 0 kids s0 = (true, s) := by rw [← hinv, YL h10n]; rfl
 refine ZF (fun k ρ M => ∃ (j : Nat) (s2 : σ), ρ 0 = .func (.yield l) ⟨[]⟩ ⟨[]⟩ ∧ ρ 1 = pp bT 0 ∧ ρ 27 = cv ∧ ρ 28 = iv ((cases.length : Int)) ∧ ρ 29 = iv ((j : Int)) ∧ Sub [yc s2] M ∧ j ≤ cases.length ∧ Inv s2 ∧ yC step (cases.drop j) s2 = yC step cases s ∧ k = cases.length - j) _ ⟨0, s, rfl, rfl, rfl, rfl, rfl, (Sk Sub.nil), Nat.zero_le _, hs, rfl, rfl⟩ ?_
 rintro _ ρ15 _ ⟨j, s2, e16, e17, e18, e19, e20, hm21, hj, hs, hinv, rfl⟩
 obtain ⟨ρ22, rfl⟩ := Zu (uc e16 (uc e17 (uc e18 (uc e19 (uc e20 un)))))
 clear e16 e17 e18 e19 e20
 refine ZI hm21 ?_
 have hlen := hcv.le
 refine Zc <| Za <| JLn (Pu.lss rfl rfl) <| Zb <| Zc <| Zf rfl (fun h23 => ?_) (fun h23 => ?_)
 ·replace h23 := dt h23
  have h23n : j < cases.length := by omega
  have hbm := hsz _ (List.getElem_mem h23n)
  have hlenk := hks.le
  refine Zj <| Zc <| Zk <| Zc <| Za <| JLM rfl ?_
  obtain ⟨b24, o24, cap24, row24, T24, fr24, cs24, hv24, hb24, hs24, hE24⟩ := hcv.get j (by first | assumption | omega | decide | simp)
  obtain ⟨ca24, cb24, rfl, hA24, hB24⟩ := hE24
  refine JLq (pp b24 (o24 + j * 71)) (Pu.idx j Tryz.runUnderlying25 Yl hv24 rfl rfl (by first | assumption | omega | decide | simp)) <| JLr (Zg Yl rfl (At.im hb24) hs24 <| JLr (Zl (l := (pkP 0 0 zS nS) ++ (pkT 0 0 zS nS nS)) Tryz.zeroValue56 rfl fun b25 => JLA rfl <| JLr (Ze 0 (vs := ca24 ++ cb24) (l := ca24 ++ cb24) Yl rfl rfl rfl rfl (ZW (Zz hA24) (Zq hB24)) (Z6 (RP_ok hA24) (YV hB24)) (ZL (n := 71) rfl (ZW (Zz hA24) (Zq hB24))) <| Zb <| Zc <| ZC mixed #[0, 0, 2, 6, 0, 30, 0, 64, 0, 256, 768, 1984, 4095, 8191] 12 [some 34, some 35, some 36, some 37, some 38, some 39, some 40, some 41, some 42, some 43, some 44, some 45] [] [(10, fun _ _ vw qw => vw = iv ((binds (cases[j].1) : Int)) ∧ qw = [])] rfl (by kernel_rfl) rfl (by kernel_rfl) <| DM (fun _ => rfl) <| Dq (pp bT 34) (fun _ => ZY rfl rfl) <| Dl1 YA (At.im hT) (ZV ..) ?_)))
  obtain ⟨a27, cap27, hv27⟩ := hks.sl
  have hle27 := hks.le
  refine Dn (fun _ => Pu.lenSl Tryz.runUnderlying24 hv27) <| DM (fun _ => rfl) ?_
  refine Dn (fun _ => Pu.add64 rfl rfl (by first | omega | (constructor <;> omega))) <| Dq (pp b25 35) (fun _ => Y9 rfl rfl) <| Dl Zt (At.bx 0 rfl) (sub_r (Zz hA24) (Zq hB24)) <| Dq (pp b25 0) (fun _ => YE rfl rfl) <| Dl ZQ (At.bx 0 rfl) (Y3 (Zz hA24)) ?_
  refine Dc rfl Tryz.call97 (fun _ => rfl) (fun hin => binds_ct _ _ _ (RP.mono (Hle.hu _ _) hA24) (by omega)) ?_
  rintro _ _ ⟨rfl, rfl⟩
  refine Dq (.agg ⟨cb24 ++ ([iv ((binds (cases[j].1) : Int))] : List Value)⟩) (fun _ => Pu.build (pv := [(0, .agg ⟨cb24⟩), (1, iv ((binds (cases[j].1) : Int)))]) (l := cb24 ++ ([iv ((binds (cases[j].1) : Int))] : List Value)) rfl (bld107_0_1 (Zq hB24))) <| ZK (M' := [(BX b25 (ca24 ++ cb24) 56), yc s2]) rfl ?_
  show JL _ _ _ [_, _] _ _ _
  refine JL_yield1 1 rfl rfl rfl (fun hin => hy _ _ (hIC j h23n) _ _ _ _ hs (Hle.hu _ _) (RT.mono (Hle.hu _ _) hB24)) rfl ?_
  rintro _ _ ⟨rfl, rfl⟩
  refine JLn (Pu.not rfl) <| Zb <| Zf rfl (fun h28 => ?_) (fun h28 => ?_)
  ·replace h28 := nt h28
   refine Zm <| ⟨.tuple ⟨[]⟩, [yc (step (cases[j].2) ((binds (cases[j].1) : Int)) s2).2], Ret.none rfl, (Sk Sub.nil), ?_⟩
   rw [ZT h23n, yC, if_neg (by simp [h28])] at hinv
   show _ = _; rw [yP, hk1, if_pos rfl, ← hinv]
  replace h28 := nf h28
  refine Zj <| Za <| JLn (Pu.inc rfl rfl (by omega)) <| JLM rfl <| Zb <| ⟨_, ?_, (j + 1), ((step (cases[j].2) ((binds (cases[j].1) : Int)) s2).2), rfl, rfl, rfl, rfl, rfl, (Sk Sub.nil), ?_, ?_, ?_, rfl⟩
  ·omega
  ·omega
  ·exact hI _ _ s2 hs h28
  rw [ZT h23n, yC, if_pos h28] at hinv; exact hinv
 replace h23 := df h23
 have h23n : cases.length ≤ j := by omega
 refine Zy _ rfl <| ⟨.tuple ⟨[]⟩, [yc s2], Ret.none rfl, (Sk Sub.nil), ?_⟩
 show _ = _; rw [yP, hk1, if_pos rfl, ← hinv, YL h23n]; rfl
end Go.Proofs.YtfdeibbpfgolcaaGreat.Hs
/-! A term with a digest in the place of another one; owned trees changed in their place. -/
namespace Go.Proofs.YtfdeibbpfgolcaaGreat.Hs
open Go Go.Proofs
set_option maxRecDepth 100000
mutual
def rpP (f g : Sm) : Pt → Pt
  | .mk k n r kids => .mk k n (if k = 3 ∧ r = f then g else r) (rpPs f g kids)
def rpPs (f g : Sm) : List Pt → List Pt
  | [] => []
  | p :: l => rpP f g p :: rpPs f g l
end
mutual
def rpT (f g : Sm) : Tm → Tm
  | .mk k n r kids cases => .mk k n (if ZH k = true ∧ r = f then g else r) (rpTs f g kids) (rpCs f g cases)
def rpTs (f g : Sm) : List Tm → List Tm
  | [] => []
  | t :: l => rpT f g t :: rpTs f g l
def rpCs (f g : Sm) : List (Pt × Tm) → List (Pt × Tm)
  | [] => []
  | (p, t) :: l => (rpP f g p, rpT f g t) :: rpCs f g l
end
theorem rpPs_map (f g : Sm) (l : List Pt) : rpPs f g l = l.map (rpP f g) := by induction l with
  | nil => rfl
  | cons p l ih => rw [rpPs, ih]; rfl
theorem rpTs_map (f g : Sm) (l : List Tm) : rpTs f g l = l.map (rpT f g) := by induction l with
  | nil => rfl
  | cons p l ih => rw [rpTs, ih]; rfl
theorem rpCs_map (f g : Sm) (l : List (Pt × Tm)) : rpCs f g l = l.map fun c => (rpP f g c.1, rpT f g c.2) := by induction l with
  | nil => rfl
  | cons c l ih => obtain ⟨p, t⟩ := c; rw [rpCs, ih]; rfl
theorem rpPs_len (f g : Sm) (l : List Pt) : (rpPs f g l).length = l.length := by rw [rpPs_map, List.length_map]
theorem rpTs_len (f g : Sm) (l : List Tm) : (rpTs f g l).length = l.length := by rw [rpTs_map, List.length_map]
theorem rpCs_len (f g : Sm) (l : List (Pt × Tm)) : (rpCs f g l).length = l.length := by rw [rpCs_map, List.length_map]
theorem rpPs_take (f g : Sm) (l : List Pt) (j : Nat) (h : j < l.length) : rpPs f g (l.take (j + 1)) = rpPs f g (l.take j) ++ [rpP f g l[j]] := by
  rw [rpPs_map, rpPs_map, List.take_succ_eq_append_getElem h, List.map_append]; rfl
theorem rpTs_take (f g : Sm) (l : List Tm) (j : Nat) (h : j < l.length) : rpTs f g (l.take (j + 1)) = rpTs f g (l.take j) ++ [rpT f g l[j]] := by
  rw [rpTs_map, rpTs_map, List.take_succ_eq_append_getElem h, List.map_append]; rfl
theorem rpCs_take (f g : Sm) (l : List (Pt × Tm)) (j : Nat) (h : j < l.length) : rpCs f g (l.take (j + 1)) = rpCs f g (l.take j) ++ [(rpP f g (l[j]).1, rpT f g (l[j]).2)] := by
  rw [rpCs_map, rpCs_map, List.take_succ_eq_append_getElem h, List.map_append]; rfl
theorem fR_eq (k : Int) : fR k = ZH k := by
  unfold fR ZH
  rw [Bool.eq_iff_iff]
  simp only [decide_eq_true_eq, Bool.or_eq_true]
  omega
theorem put_ref {k : Int} {r f g : Sm} : (if fR k = true then (if r = f then g else r) else r) = if ZH k = true ∧ r = f then g else r := by
  rw [fR_eq]
  by_cases h1 : ZH k = true <;> by_cases h2 : r = f <;> simp [h1, h2]
theorem put_refP {k : Int} {r f g : Sm} : (if k = 3 then (if r = f then g else r) else r) = if k = 3 ∧ r = f then g else r := by
  by_cases h1 : k = 3 <;> by_cases h2 : r = f <;> simp [h1, h2]
/-- what the program's Replace hands back -/
def rpE (f g : Sm) (t : Tm) : Tm × Int := if ZN [t] = 0 then (rpT f g t, 0) else (zT, ZN [t])
/-! owned rows, one element after the other -/
theorem OPs.take {l : List Pt} {es : List (List Value)} {c : Zh} {j : Nat} (h : OPs (l.drop j) (es.drop j) c) (hj : j < l.length) :
    ∃ e k c', es[j]? = some e ∧ OP l[j] e k ∧ c = k ++ c' ∧ ∀ x, OPs (l.drop (j + 1)) ((es.set j x).drop (j + 1)) c' := by
  rw [List.drop_eq_getElem_cons hj, OPs] at h
  obtain ⟨e, es', k, c', h1, h2, h3, h4⟩ := h
  have hj' : es[j]? = some e := by
    have := congrArg (fun l => l[0]?) h1
    simpa [List.getElem?_drop] using this
  refine ⟨e, k, c', hj', h2, h4, fun x => ?_⟩
  rw [List.drop_set_of_lt (by omega)]
  have : es.drop (j + 1) = es' := by rw [← List.drop_drop, h1]; rfl
  rw [this]; exact h3
theorem OCs.take2 {l : List (Pt × Tm)} {es : List (List Value)} {c : Zh} {j : Nat} (h : OCs (l.drop j) (es.drop j) c) (hj : j < l.length) :
    ∃ a b ka kb c', es[j]? = some (a ++ b) ∧ OP (l[j]).1 a ka ∧ OT (l[j]).2 b kb ∧ c = ka ++ (kb ++ c') ∧ ∀ x, OCs (l.drop (j + 1)) ((es.set j x).drop (j + 1)) c' := by
  rw [List.drop_eq_getElem_cons hj] at h
  cases hlj : l[j] with
  | mk p t =>
    rw [hlj, OCs] at h
    obtain ⟨a, b, es', ka, kb, c', h1, h2, h3, h4, h5⟩ := h
    have hj' : es[j]? = some (a ++ b) := by
      have := congrArg (fun l => l[0]?) h1
      simpa [List.getElem?_drop] using this
    refine ⟨a, b, ka, kb, c', hj', h2, h3, h5, fun x => ?_⟩
    rw [List.drop_set_of_lt (by omega)]
    have : es.drop (j + 1) = es' := by rw [← List.drop_drop, h1]; rfl
    rw [this]; exact h4
theorem take_set {es : List (List Value)} {x e : List Value} {j : Nat} (h : es[j]? = some e) : (es.set j x).take (j + 1) = es.take j ++ [x] := by
  have hj := (List.getElem?_eq_some_iff.1 h).1
  rw [List.take_succ_eq_append_getElem (by simpa using hj), List.take_set_of_le (by omega)]
  simp
end Go.Proofs.YtfdeibbpfgolcaaGreat.Hs
/-! Walks, printed by a program of this session's own (gen.py). -/
namespace Go.Proofs.YtfdeibbpfgolcaaGreat.Hs
open Go Go.Proofs
set_option maxRecDepth 100000
set_option linter.unusedVariables false
set_option linter.unusedSimpArgs false
attribute [local irreducible] JL J CT wlo DT
theorem idxP_ct (g : Nat) (fs cv : List Value) (hcall : ∀ args w, (callFunc g args).run Tryz.prog w = .ok (.enter g args) w) {σ : Type} (Sc : σ → Zh) (Inv : σ → Prop) (step : Pt → σ → Bool × σ) (l : List Pt) (v : Value) (H : Heap) (hl : rdS RP 35 H v l) (s0 : σ) (h0 : Inv s0) (hI : ∀ x ∈ l, ∀ s, Inv s → (step x s).1 = false → Inv (step x s).2) (hg : ∀ x ∈ l, ∀ s, Inv s → ∀ a h, Hle H h → RP h a x → CT Tryz.prog g ⟨fs ++ [.agg ⟨a⟩] ++ cv⟩ [Sc s] h (fun v N => v = .bool (step x s).1 ∧ N = [Sc (step x s).2])) : CT Tryz.prog 75 ⟨[v, .func (.func g) ⟨fs⟩ ⟨cv⟩]⟩ [Sc s0] H (fun v N => v = iv (idxS step l 0 s0).1 ∧ N = [Sc (idxS step l 0 s0).2]) := by
 refine Zn Tryz.func75 rfl rfl <| Zc <| Za <| JLA rfl <| Zb <| Zc <| Zc <| Za <| JLm v ?_
 obtain ⟨a1, cap1, hv1⟩ := hl.sl
 have hle1 := hl.le
 refine JLn (Pu.lenSl Tryz.runUnderlying52 hv1) <| JLM rfl <| Zb <| Zk <| ZF (fun k ρ M => ∃ (j : Nat) (s : σ), ρ 0 = v ∧ ρ 1 = .func (.func g) ⟨fs⟩ ⟨cv⟩ ∧ ρ 4 = iv 0 ∧ ρ 7 = iv ((l.length : Int)) ∧ ρ 8 = iv ((j : Int)) ∧ Sub [Sc s] M ∧ j ≤ l.length ∧ Inv s ∧ idxS step (l.drop j) j s = idxS step l 0 s0 ∧ k = l.length - j) _ ⟨0, s0, rfl, rfl, rfl, rfl, rfl, (Sk Sub.nil), Nat.zero_le _, h0, rfl, rfl⟩ ?_
 rintro _ ρ2 _ ⟨j, s, e3, e4, e5, e6, e7, hm8, hj, hs, hinv, rfl⟩
 obtain ⟨ρ9, rfl⟩ := Zu (uc e3 (uc e4 (uc e5 (uc e6 (uc e7 un)))))
 clear e3 e4 e5 e6 e7
 refine ZI hm8 <| Zc <| Za <| JLn (Pu.lss rfl rfl) <| Zb <| Zc <| Zf rfl (fun h10 => ?_) (fun h10 => ?_)
 ·replace h10 := dt h10
  have h10n : j < l.length := by omega
  have hlenl := hl.le
  refine Zj <| Zc <| Zk <| Zc <| Za <| JLM rfl <| JLA rfl <| Zb <| Zc <| Za <| JLM rfl <| JLm v <| JLM rfl ?_
  obtain ⟨b11, o11, cap11, row11, T11, fr11, cs11, hv11, hb11, hs11, hE11⟩ := hl.get j (by first | assumption | omega | decide | simp)
  refine JLq (pp b11 (o11 + j * 35)) (Pu.idx j Tryz.runUnderlying52 ZQ hv11 rfl rfl (by first | assumption | omega | decide | simp)) <| JLr (Zg ZQ rfl (At.im hb11) hs11 <| Zw 0 rfl hcall rfl rfl (fun hin => hg _ (List.getElem_mem h10n) _ hs _ _ (Hle.hu _ _) (RP.mono (Hle.hu _ _) hE11)) rfl ?_)
  rintro _ _ ⟨rfl, rfl⟩
  refine Zb <| Zf rfl (fun h12 => ?_) (fun h12 => ?_)
  ·refine Zc <| Za <| JLM rfl <| JLA rfl <| Zb <| Zm <| ⟨iv ((j : Int)), [Sc (step (l[j]) s).2], Ret.one rfl (RV.tmp rfl), (Sk Sub.nil), ?_⟩
   refine ⟨?_, ?_⟩ <;> rw [← hinv, ZT h10n, idxS, if_pos h12]
  refine Zj <| Za <| JLn (Pu.inc rfl rfl (by omega)) <| JLM rfl <| Zb <| ⟨_, ?_, (j + 1), ((step (l[j]) s).2), rfl, rfl, rfl, rfl, rfl, (Sk Sub.nil), ?_, ?_, ?_, rfl⟩
  ·omega
  ·omega
  ·exact hI _ (List.getElem_mem h10n) s hs h12
  rw [ZT h10n, idxS, if_neg (by simp [h12])] at hinv; exact hinv
 replace h10 := df h10
 have h10n : l.length ≤ j := by omega
 refine Zy _ rfl <| Zc <| Za <| JLA rfl <| Zb <| Zm <| ⟨iv (-1), [Sc s], Ret.one rfl (RV.tmp rfl), (Sk Sub.nil), ?_⟩
 refine ⟨?_, ?_⟩ <;> rw [← hinv, YL h10n] <;> rfl
theorem idxT_ct (g : Nat) (fs cv : List Value) (hcall : ∀ args w, (callFunc g args).run Tryz.prog w = .ok (.enter g args) w) {σ : Type} (Sc : σ → Zh) (Inv : σ → Prop) (step : Tm → σ → Bool × σ) (l : List Tm) (v : Value) (H : Heap) (hl : rdS RT 36 H v l) (s0 : σ) (h0 : Inv s0) (hI : ∀ x ∈ l, ∀ s, Inv s → (step x s).1 = false → Inv (step x s).2) (hg : ∀ x ∈ l, ∀ s, Inv s → ∀ a h, Hle H h → RT h a x → CT Tryz.prog g ⟨fs ++ [.agg ⟨a⟩] ++ cv⟩ [Sc s] h (fun v N => v = .bool (step x s).1 ∧ N = [Sc (step x s).2])) : CT Tryz.prog 76 ⟨[v, .func (.func g) ⟨fs⟩ ⟨cv⟩]⟩ [Sc s0] H (fun v N => v = iv (idxS step l 0 s0).1 ∧ N = [Sc (idxS step l 0 s0).2]) := by
 refine Zn Tryz.func76 rfl rfl <| Zc <| Za <| JLA rfl <| Zb <| Zc <| Zc <| Za <| JLm v ?_
 obtain ⟨a1, cap1, hv1⟩ := hl.sl
 have hle1 := hl.le
 refine JLn (Pu.lenSl Tryz.runUnderlying24 hv1) <| JLM rfl <| Zb <| Zk <| ZF (fun k ρ M => ∃ (j : Nat) (s : σ), ρ 0 = v ∧ ρ 1 = .func (.func g) ⟨fs⟩ ⟨cv⟩ ∧ ρ 4 = iv 0 ∧ ρ 7 = iv ((l.length : Int)) ∧ ρ 8 = iv ((j : Int)) ∧ Sub [Sc s] M ∧ j ≤ l.length ∧ Inv s ∧ idxS step (l.drop j) j s = idxS step l 0 s0 ∧ k = l.length - j) _ ⟨0, s0, rfl, rfl, rfl, rfl, rfl, (Sk Sub.nil), Nat.zero_le _, h0, rfl, rfl⟩ ?_
 rintro _ ρ2 _ ⟨j, s, e3, e4, e5, e6, e7, hm8, hj, hs, hinv, rfl⟩
 obtain ⟨ρ9, rfl⟩ := Zu (uc e3 (uc e4 (uc e5 (uc e6 (uc e7 un)))))
 clear e3 e4 e5 e6 e7
 refine ZI hm8 <| Zc <| Za <| JLn (Pu.lss rfl rfl) <| Zb <| Zc <| Zf rfl (fun h10 => ?_) (fun h10 => ?_)
 ·replace h10 := dt h10
  have h10n : j < l.length := by omega
  have hlenl := hl.le
  refine Zj <| Zc <| Zk <| Zc <| Za <| JLM rfl <| JLA rfl <| Zb <| Zc <| Za <| JLM rfl <| JLm v <| JLM rfl ?_
  obtain ⟨b11, o11, cap11, row11, T11, fr11, cs11, hv11, hb11, hs11, hE11⟩ := hl.get j (by first | assumption | omega | decide | simp)
  refine JLq (pp b11 (o11 + j * 36)) (Pu.idx j Tryz.runUnderlying24 Zt hv11 rfl rfl (by first | assumption | omega | decide | simp)) <| JLr (Zg Zt rfl (At.im hb11) hs11 <| Zw 0 rfl hcall rfl rfl (fun hin => hg _ (List.getElem_mem h10n) _ hs _ _ (Hle.hu _ _) (RT.mono (Hle.hu _ _) hE11)) rfl ?_)
  rintro _ _ ⟨rfl, rfl⟩
  refine Zb <| Zf rfl (fun h12 => ?_) (fun h12 => ?_)
  ·refine Zc <| Za <| JLM rfl <| JLA rfl <| Zb <| Zm <| ⟨iv ((j : Int)), [Sc (step (l[j]) s).2], Ret.one rfl (RV.tmp rfl), (Sk Sub.nil), ?_⟩
   refine ⟨?_, ?_⟩ <;> rw [← hinv, ZT h10n, idxS, if_pos h12]
  refine Zj <| Za <| JLn (Pu.inc rfl rfl (by omega)) <| JLM rfl <| Zb <| ⟨_, ?_, (j + 1), ((step (l[j]) s).2), rfl, rfl, rfl, rfl, rfl, (Sk Sub.nil), ?_, ?_, ?_, rfl⟩
  ·omega
  ·omega
  ·exact hI _ (List.getElem_mem h10n) s hs h12
  rw [ZT h10n, idxS, if_neg (by simp [h12])] at hinv; exact hinv
 replace h10 := df h10
 have h10n : l.length ≤ j := by omega
 refine Zy _ rfl <| Zc <| Za <| JLA rfl <| Zb <| Zm <| ⟨iv (-1), [Sc s], Ret.one rfl (RV.tmp rfl), (Sk Sub.nil), ?_⟩
 refine ⟨?_, ?_⟩ <;> rw [← hinv, YL h10n] <;> rfl
theorem idxC_ct (g : Nat) (fs cv : List Value) (hcall : ∀ args w, (callFunc g args).run Tryz.prog w = .ok (.enter g args) w) {σ : Type} (Sc : σ → Zh) (Inv : σ → Prop) (step : (Pt × Tm) → σ → Bool × σ) (l : List (Pt × Tm)) (v : Value) (H : Heap) (hl : rdS RC 71 H v l) (s0 : σ) (h0 : Inv s0) (hI : ∀ x ∈ l, ∀ s, Inv s → (step x s).1 = false → Inv (step x s).2) (hg : ∀ x ∈ l, ∀ s, Inv s → ∀ a h, Hle H h → RC h a x → CT Tryz.prog g ⟨fs ++ [.agg ⟨a⟩] ++ cv⟩ [Sc s] h (fun v N => v = .bool (step x s).1 ∧ N = [Sc (step x s).2])) : CT Tryz.prog 77 ⟨[v, .func (.func g) ⟨fs⟩ ⟨cv⟩]⟩ [Sc s0] H (fun v N => v = iv (idxS step l 0 s0).1 ∧ N = [Sc (idxS step l 0 s0).2]) := by
 refine Zn Tryz.func77 rfl rfl <| Zc <| Za <| JLA rfl <| Zb <| Zc <| Zc <| Za <| JLm v ?_
 obtain ⟨a1, cap1, hv1⟩ := hl.sl
 have hle1 := hl.le
 refine JLn (Pu.lenSl Tryz.runUnderlying25 hv1) <| JLM rfl <| Zb <| Zk <| ZF (fun k ρ M => ∃ (j : Nat) (s : σ), ρ 0 = v ∧ ρ 1 = .func (.func g) ⟨fs⟩ ⟨cv⟩ ∧ ρ 4 = iv 0 ∧ ρ 7 = iv ((l.length : Int)) ∧ ρ 8 = iv ((j : Int)) ∧ Sub [Sc s] M ∧ j ≤ l.length ∧ Inv s ∧ idxS step (l.drop j) j s = idxS step l 0 s0 ∧ k = l.length - j) _ ⟨0, s0, rfl, rfl, rfl, rfl, rfl, (Sk Sub.nil), Nat.zero_le _, h0, rfl, rfl⟩ ?_
 rintro _ ρ2 _ ⟨j, s, e3, e4, e5, e6, e7, hm8, hj, hs, hinv, rfl⟩
 obtain ⟨ρ9, rfl⟩ := Zu (uc e3 (uc e4 (uc e5 (uc e6 (uc e7 un)))))
 clear e3 e4 e5 e6 e7
 refine ZI hm8 <| Zc <| Za <| JLn (Pu.lss rfl rfl) <| Zb <| Zc <| Zf rfl (fun h10 => ?_) (fun h10 => ?_)
 ·replace h10 := dt h10
  have h10n : j < l.length := by omega
  have hlenl := hl.le
  refine Zj <| Zc <| Zk <| Zc <| Za <| JLM rfl <| JLA rfl <| Zb <| Zc <| Za <| JLM rfl <| JLm v <| JLM rfl ?_
  obtain ⟨b11, o11, cap11, row11, T11, fr11, cs11, hv11, hb11, hs11, hE11⟩ := hl.get j (by first | assumption | omega | decide | simp)
  obtain ⟨ca11, cb11, rfl, hA11, hB11⟩ := hE11
  refine JLq (pp b11 (o11 + j * 71)) (Pu.idx j Tryz.runUnderlying25 Yl hv11 rfl rfl (by first | assumption | omega | decide | simp)) <| JLr (Zg Yl rfl (At.im hb11) hs11 <| Zw 0 rfl hcall rfl rfl (fun hin => hg _ (List.getElem_mem h10n) _ hs _ _ (Hle.hu _ _) (RC.mono (Hle.hu _ _) (RC_mk hA11 hB11))) rfl ?_)
  rintro _ _ ⟨rfl, rfl⟩
  refine Zb <| Zf rfl (fun h12 => ?_) (fun h12 => ?_)
  ·refine Zc <| Za <| JLM rfl <| JLA rfl <| Zb <| Zm <| ⟨iv ((j : Int)), [Sc (step (l[j]) s).2], Ret.one rfl (RV.tmp rfl), (Sk Sub.nil), ?_⟩
   refine ⟨?_, ?_⟩ <;> rw [← hinv, ZT h10n, idxS, if_pos h12]
  refine Zj <| Za <| JLn (Pu.inc rfl rfl (by omega)) <| JLM rfl <| Zb <| ⟨_, ?_, (j + 1), ((step (l[j]) s).2), rfl, rfl, rfl, rfl, rfl, (Sk Sub.nil), ?_, ?_, ?_, rfl⟩
  ·omega
  ·omega
  ·exact hI _ (List.getElem_mem h10n) s hs h12
  rw [ZT h10n, idxS, if_neg (by simp [h12])] at hinv; exact hinv
 replace h10 := df h10
 have h10n : l.length ≤ j := by omega
 refine Zy _ rfl <| Zc <| Za <| JLA rfl <| Zb <| Zm <| ⟨iv (-1), [Sc s], Ret.one rfl (RV.tmp rfl), (Sk Sub.nil), ?_⟩
 refine ⟨?_, ?_⟩ <;> rw [← hinv, YL h10n] <;> rfl
theorem containsP_ct (g : Nat) (fs cv : List Value) (hcall : ∀ args w, (callFunc g args).run Tryz.prog w = .ok (.enter g args) w) {σ : Type} (Sc : σ → Zh) (Inv : σ → Prop) (step : Pt → σ → Bool × σ) (l : List Pt) (v : Value) (H : Heap) (hl : rdS RP 35 H v l) (s0 : σ) (h0 : Inv s0) (hI : ∀ x ∈ l, ∀ s, Inv s → (step x s).1 = false → Inv (step x s).2) (hg : ∀ x ∈ l, ∀ s, Inv s → ∀ a h, Hle H h → RP h a x → CT Tryz.prog g ⟨fs ++ [.agg ⟨a⟩] ++ cv⟩ [Sc s] h (fun v N => v = .bool (step x s).1 ∧ N = [Sc (step x s).2])) : CT Tryz.prog 27 ⟨[v, .func (.func g) ⟨fs⟩ ⟨cv⟩]⟩ [Sc s0] H (fun v N => v = .bool (Yk step l s0).1 ∧ N = [Sc (Yk step l s0).2]) := by
 refine Zn Tryz.func27 rfl rfl <| Zc <| Za <| JLA rfl <| Zb <| Zc <| Za <| JLm v <| JLM rfl <| Zw 0 rfl Tryz.call75 rfl rfl (fun hin => idxP_ct g fs cv hcall Sc Inv step _ _ _ (RPs.mono (Hle.hu _ _) hl) s0 h0 hI (fun x hx s hs a h hh ra => hg x hx s hs a h (Hle.trans (Hle.hu _ _) hh) ra)) rfl ?_
 rintro _ _ ⟨rfl, rfl⟩
 refine JLn (Pu.geq rfl rfl) <| JLA rfl <| Zb <| Zm <| ⟨.bool (decide (0 ≤ (idxS step l 0 s0).1)), [Sc (idxS step l 0 s0).2], Ret.one rfl (RV.tmp rfl), (Sk Sub.nil), ?_⟩
 exact ⟨by rw [(idxS_any step l 0 s0).1], by rw [(idxS_any step l 0 s0).2]⟩
theorem containsT_ct (g : Nat) (fs cv : List Value) (hcall : ∀ args w, (callFunc g args).run Tryz.prog w = .ok (.enter g args) w) {σ : Type} (Sc : σ → Zh) (Inv : σ → Prop) (step : Tm → σ → Bool × σ) (l : List Tm) (v : Value) (H : Heap) (hl : rdS RT 36 H v l) (s0 : σ) (h0 : Inv s0) (hI : ∀ x ∈ l, ∀ s, Inv s → (step x s).1 = false → Inv (step x s).2) (hg : ∀ x ∈ l, ∀ s, Inv s → ∀ a h, Hle H h → RT h a x → CT Tryz.prog g ⟨fs ++ [.agg ⟨a⟩] ++ cv⟩ [Sc s] h (fun v N => v = .bool (step x s).1 ∧ N = [Sc (step x s).2])) : CT Tryz.prog 29 ⟨[v, .func (.func g) ⟨fs⟩ ⟨cv⟩]⟩ [Sc s0] H (fun v N => v = .bool (Yk step l s0).1 ∧ N = [Sc (Yk step l s0).2]) := by
 refine Zn Tryz.func29 rfl rfl <| Zc <| Za <| JLA rfl <| Zb <| Zc <| Za <| JLm v <| JLM rfl <| Zw 0 rfl Tryz.call76 rfl rfl (fun hin => idxT_ct g fs cv hcall Sc Inv step _ _ _ (RTs.mono (Hle.hu _ _) hl) s0 h0 hI (fun x hx s hs a h hh ra => hg x hx s hs a h (Hle.trans (Hle.hu _ _) hh) ra)) rfl ?_
 rintro _ _ ⟨rfl, rfl⟩
 refine JLn (Pu.geq rfl rfl) <| JLA rfl <| Zb <| Zm <| ⟨.bool (decide (0 ≤ (idxS step l 0 s0).1)), [Sc (idxS step l 0 s0).2], Ret.one rfl (RV.tmp rfl), (Sk Sub.nil), ?_⟩
 exact ⟨by rw [(idxS_any step l 0 s0).1], by rw [(idxS_any step l 0 s0).2]⟩
theorem containsC_ct (g : Nat) (fs cv : List Value) (hcall : ∀ args w, (callFunc g args).run Tryz.prog w = .ok (.enter g args) w) {σ : Type} (Sc : σ → Zh) (Inv : σ → Prop) (step : (Pt × Tm) → σ → Bool × σ) (l : List (Pt × Tm)) (v : Value) (H : Heap) (hl : rdS RC 71 H v l) (s0 : σ) (h0 : Inv s0) (hI : ∀ x ∈ l, ∀ s, Inv s → (step x s).1 = false → Inv (step x s).2) (hg : ∀ x ∈ l, ∀ s, Inv s → ∀ a h, Hle H h → RC h a x → CT Tryz.prog g ⟨fs ++ [.agg ⟨a⟩] ++ cv⟩ [Sc s] h (fun v N => v = .bool (step x s).1 ∧ N = [Sc (step x s).2])) : CT Tryz.prog 30 ⟨[v, .func (.func g) ⟨fs⟩ ⟨cv⟩]⟩ [Sc s0] H (fun v N => v = .bool (Yk step l s0).1 ∧ N = [Sc (Yk step l s0).2]) := by
 refine Zn Tryz.func30 rfl rfl <| Zc <| Za <| JLA rfl <| Zb <| Zc <| Za <| JLm v <| JLM rfl <| Zw 0 rfl Tryz.call77 rfl rfl (fun hin => idxC_ct g fs cv hcall Sc Inv step _ _ _ (RCs.mono (Hle.hu _ _) hl) s0 h0 hI (fun x hx s hs a h hh ra => hg x hx s hs a h (Hle.trans (Hle.hu _ _) hh) ra)) rfl ?_
 rintro _ _ ⟨rfl, rfl⟩
 refine JLn (Pu.geq rfl rfl) <| JLA rfl <| Zb <| Zm <| ⟨.bool (decide (0 ≤ (idxS step l 0 s0).1)), [Sc (idxS step l 0 s0).2], Ret.one rfl (RV.tmp rfl), (Sk Sub.nil), ?_⟩
 exact ⟨by rw [(idxS_any step l 0 s0).1], by rw [(idxS_any step l 0 s0).2]⟩
end Go.Proofs.YtfdeibbpfgolcaaGreat.Hs
/-! Walks, printed by a program of this session's own (gen.py). -/
namespace Go.Proofs.YtfdeibbpfgolcaaGreat.Hs
open Go Go.Proofs
set_option maxRecDepth 100000
set_option linter.unusedVariables false
set_option linter.unusedSimpArgs false
attribute [local irreducible] JL J CT wlo DT
theorem longPK_ct : ∀ (x : Pt) (d s : Int) (a : List Value) (H : Heap) (bL bA bD : Nat), RP H a x → H bA = some (.cells ⟨[pp bL 0]⟩ 130 (0, 0)) → H bD = some (.cells ⟨[iv d]⟩ 3 (0, 0)) → 0 ≤ d → d ≤ 100 → (∀ h a, Hle H h → RP h a x → CT Tryz.prog 106 ⟨[pp bL 0, .agg ⟨a⟩, iv (d + 1)]⟩ [(BX bL [iv s] 132)] h (fun v N => v = .bool (cnP stL (d + 1) x s).1 ∧ N = [(BX bL [iv ((cnP stL (d + 1) x s).2)] 132)])) → CT Tryz.prog 142 ⟨[.agg ⟨a⟩, pp bA 0, pp bD 0]⟩ [(BX bL [iv s] 132)] H (fun v N => v = .bool (cnP stL (d + 1) x s).1 ∧ N = [(BX bL [iv ((cnP stL (d + 1) x s).2)] 132)]) := by
 intro x d s a H bL bA bD ra hH1 hH5 hd0 hd1 hg
 refine Zn Tryz.func142 rfl rfl <| Zc <| Za <| JLr (Zo (l := a) rfl rfl fun b1 => JLA rfl <| Zb <| Zc <| Za <| JLr (Zd ty130 rfl (At.im hH1) rfl <| JLr (Zg ZQ rfl (At.bx 0 rfl) (Zr (Zz ra)) <| JLr (Zd ty3 rfl (At.im hH5) rfl <| JLn (Pu.add64 rfl rfl (by first | omega | (constructor <;> omega))) <| Zw 1 rfl Tryz.call106 rfl rfl (fun hin => hg _ _ (Hle.hu _ _) (RP.mono (Hle.hu _ _) ra)) rfl ?_))))
 rintro _ _ ⟨rfl, rfl⟩
 refine JLA rfl <| Zb <| Zm <| ⟨.bool ((cnP stL (d + 1) x s).1), [(BX bL [iv ((cnP stL (d + 1) x s).2)] 132)], Ret.one rfl (RV.tmp rfl), (Sk Sub.nil), ?_⟩
 exact ⟨rfl, rfl⟩
theorem longTK_ct : ∀ (x : Tm) (d s : Int) (a : List Value) (H : Heap) (bL bA bD : Nat), RT H a x → H bA = some (.cells ⟨[pp bL 0]⟩ 130 (0, 0)) → H bD = some (.cells ⟨[iv d]⟩ 3 (0, 0)) → 0 ≤ d → d ≤ 100 → (∀ h a, Hle H h → RT h a x → CT Tryz.prog 74 ⟨[pp bL 0, .agg ⟨a⟩, iv (d + 1)]⟩ [(BX bL [iv s] 132)] h (fun v N => v = .bool (cnT stL (d + 1) x s).1 ∧ N = [(BX bL [iv ((cnT stL (d + 1) x s).2)] 132)])) → CT Tryz.prog 104 ⟨[.agg ⟨a⟩, pp bA 0, pp bD 0]⟩ [(BX bL [iv s] 132)] H (fun v N => v = .bool (cnT stL (d + 1) x s).1 ∧ N = [(BX bL [iv ((cnT stL (d + 1) x s).2)] 132)]) := by
 intro x d s a H bL bA bD ra hH1 hH5 hd0 hd1 hg
 refine Zn Tryz.func104 rfl rfl <| Zc <| Za <| JLr (Zo (l := a) rfl rfl fun b1 => JLA rfl <| Zb <| Zc <| Za <| JLr (Zd ty130 rfl (At.im hH1) rfl <| JLr (Zg Zt rfl (At.bx 0 rfl) (Zr (Zq ra)) <| JLr (Zd ty3 rfl (At.im hH5) rfl <| JLn (Pu.add64 rfl rfl (by first | omega | (constructor <;> omega))) <| Zw 1 rfl Tryz.call74 rfl rfl (fun hin => hg _ _ (Hle.hu _ _) (RT.mono (Hle.hu _ _) ra)) rfl ?_))))
 rintro _ _ ⟨rfl, rfl⟩
 refine JLA rfl <| Zb <| Zm <| ⟨.bool ((cnT stL (d + 1) x s).1), [(BX bL [iv ((cnT stL (d + 1) x s).2)] 132)], Ret.one rfl (RV.tmp rfl), (Sk Sub.nil), ?_⟩
 exact ⟨rfl, rfl⟩
theorem longP_ct : ∀ (p : Pt) (d n : Int) (cs : List Value) (H : Heap) (bL : Nat), RP H cs p → 0 ≤ n → n ≤ 300 → 0 ≤ d → d ≤ 61 → CT Tryz.prog 106 ⟨[pp bL 0, .agg ⟨cs⟩, iv d]⟩ [(BX bL [iv n] 132)] H (fun v N => v = .bool (cnP stL d p n).1 ∧ N = [(BX bL [iv ((cnP stL d p n).2)] 132)]) := by
 intro p
 induction p using Pt.ind with
 | h kind num ref kids ih =>
 intro d n cs H bL hp hn0 hn1 hd0 hd1
 obtain ⟨ks, rfl, hk, hn, hks⟩ := RP_mk.1 hp
 refine Zn Tryz.func106 rfl rfl <| Zc <| Za <| JLr (Zo (l := [pp bL 0]) rfl rfl fun b1 => JLr (Zo (l := pkP kind num ref ks) rfl rfl fun b2 => JLr (Zo (l := [iv d]) rfl rfl fun b3 => JLA rfl <| Zb <| Zc <| Zc <| Za <| JLr (Zd ty130 rfl (At.bx 2 rfl) rfl <| JLq (pp bL 0) (Pu.nilCheck rfl) ?_))))
 refine JLq (pp bL 0) (fa132_0 rfl rfl) <| JLr (Zd ty3 rfl (At.bx 3 rfl) rfl <| JLn (Pu.add64 rfl rfl (by first | omega | (constructor <;> omega))) <| JLq (pp bL 0) (Pu.nilCheck rfl) <| JLq (pp bL 0) (fa132_0 rfl rfl) <| JLr (Ze 3 (vs := [iv (n + 1)]) (l := [iv (n + 1)]) ty3 rfl rfl rfl rfl rfl (Zi rfl Zp) rfl <| Zb <| Zc <| Za <| JLr (Zd ty130 rfl (At.bx 2 rfl) rfl <| JLq (pp bL 0) (Pu.nilCheck rfl) <| JLq (pp bL 0) (fa132_0 rfl rfl) <| JLr (Zd ty3 rfl (At.bx 3 rfl) rfl ?_))))
 refine JLn (Pu.gtr rfl rfl) <| JLM rfl <| Zv 2 [20, 21] [(21, cond (decide (300 < n + 1)) undef (.bool (decide (60 < d))))] ?_ fun f5 => ?_
 ·cases h4 : (decide (300 < n + 1)) with
  | false =>
   replace h4 := df h4
   refine JLr (Zd ty3 rfl (At.bx 0 rfl) rfl <| JLn (Pu.gtr rfl rfl) ?_)
   exact Zb ⟨⟨rfl, trivial⟩, rfl⟩
  | true =>
   exact Zx rfl ⟨rfl, trivial⟩
 refine JLn (Pu.pickOr rfl rfl rfl) <| Zb <| Zf rfl (fun h6 => ?_) (fun h6 => ?_)
 ·refine Zc <| Za <| JLA rfl <| Zb <| Zm <| ⟨.bool true, [(BX bL [iv (n + 1)] 132)], Ret.one rfl (RV.tmp rfl), (Sd (Sd (Sd (Sk Sub.nil)))), ?_⟩
  refine ⟨?_, ?_⟩ <;> rw [cnP, if_pos (by simpa [stL] using h6)]
 obtain ⟨h6a, h6b⟩ := orF h6
 replace h6a := df h6a
 replace h6b := df h6b
 refine Zj <| Zc <| Za <| JLq (pp b2 34) (ZX rfl rfl) <| JLr (Zd Yz rfl (At.bx 1 rfl) (Z3 ..) <| JLq (.func (.func 142) ⟨[]⟩ ⟨[pp b1 0, pp b3 0]⟩) (Pu.makeFunc rfl rfl) <| Zw 3 rfl Tryz.call27 rfl rfl (fun hin => containsP_ct 142 [] [pp b1 0, pp b3 0] (fun _ _ => rfl) (fun n => (BX bL [iv n] 132)) (fun n => 0 ≤ n ∧ n ≤ 300) (cnP stL (d + 1)) _ _ _ (RPs.mono (Hle.hu _ _) hks) (n + 1) ⟨by omega, by omega⟩ (fun x hx s hs hf => cnP_keep stL_le x _ s hs.1 hf) (fun x hx s hs a h hh ra => longPK_ct x d s a h bL b1 b3 ra (hh _ _ (hin 2 _ rfl _ _ List.mem_cons_self)) (hh _ _ (hin 0 _ rfl _ _ List.mem_cons_self)) (by omega) (by omega) (fun h' a' hh' ra' => ih x hx (d + 1) s a' h' bL ra' hs.1 hs.2 (by omega) (by omega)))) rfl ?_)
 rintro _ _ ⟨rfl, rfl⟩
 refine JLA rfl <| Zb <| Zm <| ⟨.bool ((Yk (cnP stL (d + 1)) kids (n + 1)).1), [(BX bL [iv ((Yk (cnP stL (d + 1)) kids (n + 1)).2)] 132)], Ret.one rfl (RV.tmp rfl), (Sk Sub.nil), ?_⟩
 refine ⟨?_, ?_⟩ <;> rw [cnP, if_neg (by simp [stL]; omega), cnPs_any]
theorem longC_ct : ∀ (c : Pt × Tm) (d n : Int) (a : List Value) (H : Heap) (bL bA bD bK : Nat), RC H a c → 0 ≤ n → n ≤ 300 → 0 ≤ d → d ≤ 60 → H bA = some (.cells ⟨[pp bL 0]⟩ 130 (0, 0)) → H bD = some (.cells ⟨[iv d]⟩ 3 (0, 0)) → H bK = some (.cells ⟨[.func (.func 104) ⟨[]⟩ ⟨[pp bA 0, pp bD 0]⟩]⟩ 28 (0, 0)) → (∀ s a h, Hle H h → RT h a c.2 → 0 ≤ s → s ≤ 300 → CT Tryz.prog 74 ⟨[pp bL 0, .agg ⟨a⟩, iv (d + 1)]⟩ [(BX bL [iv s] 132)] h (fun v N => v = .bool (cnT stL (d + 1) c.2 s).1 ∧ N = [(BX bL [iv ((cnT stL (d + 1) c.2 s).2)] 132)])) → CT Tryz.prog 105 ⟨[.agg ⟨a⟩, pp bA 0, pp bD 0, pp bK 0]⟩ [(BX bL [iv n] 132)] H (fun v N => v = .bool (cnC stL (d + 1) c n).1 ∧ N = [(BX bL [iv ((cnC stL (d + 1) c n).2)] 132)]) := by
 intro c d n a H bL bA bD bK ⟨ca, cb, e1, ra1, ra2⟩ hn0 hn1 hd0 hd1 hH1 hH5 hH7 hg
 subst e1
 refine Zn Tryz.func105 rfl rfl <| Zc <| Za <| JLr (Zo (l := ca ++ cb) rfl rfl fun b1 => JLA rfl <| Zb <| Zc <| Za <| JLr (Zd ty130 rfl (At.im hH1) rfl <| JLq (pp b1 0) (YE rfl rfl) <| JLr (Zg ZQ rfl (At.bx 0 rfl) (Y3 (Zz ra1)) <| JLr (Zd ty3 rfl (At.im hH5) rfl <| JLn (Pu.add64 rfl rfl (by first | omega | (constructor <;> omega))) ?_))))
 refine Zw 1 rfl Tryz.call106 rfl rfl (fun hin => longP_ct _ _ _ _ _ _ (RP.mono (Hle.hu _ _) ra1) (by omega) (by omega) (by omega) (by omega)) rfl ?_
 rintro _ _ ⟨rfl, rfl⟩
 refine JLM rfl ?_
 cases h3 : ((cnP stL (d + 1) (c.1) n).1) with
 | true =>
  iterate 4 refine YG rfl ?_
  refine JLq (.bool true) (Pu.pickT rfl rfl) <| JLA rfl <| Zb <| Zm <| ⟨.bool true, [(BX bL [iv ((cnP stL (d + 1) (c.1) n).2)] 132)], Ret.one rfl (RV.tmp rfl), (Sk Sub.nil), ?_⟩
  refine ⟨?_, ?_⟩ <;> rw [cnC, if_pos h3]
 | false =>
  refine JLr (Zd ty28 rfl (At.im hH7) rfl <| JLq (pp b1 35) (Y9 rfl rfl) <| JLr (Zg Zt rfl (At.bx 1 rfl) (sub_r (Zz ra1) (Zq ra2)) <| Zw 0 rfl Tryz.call104 rfl rfl (fun hin => longTK_ct _ d _ _ _ bL bA bD (RT.mono (Hle.hu _ _) ra2) (Hle.hu _ _ _ _ hH1) (Hle.hu _ _ _ _ hH5) (by omega) (by omega) (fun h' a' hh' ra' => hg _ _ _ (Hle.trans (Hle.hu _ _) hh') ra' (cnP_keep stL_le _ _ _ hn0 h3).1 (cnP_keep stL_le _ _ _ hn0 h3).2)) rfl ?_))
  rintro _ _ ⟨rfl, rfl⟩
  refine JLq (.bool ((cnT stL (d + 1) (c.2) ((cnP stL (d + 1) (c.1) n).2)).1)) (Pu.pickF rfl rfl) <| JLA rfl <| Zb <| Zm <| ⟨.bool ((cnT stL (d + 1) (c.2) ((cnP stL (d + 1) (c.1) n).2)).1), [(BX bL [iv ((cnT stL (d + 1) (c.2) ((cnP stL (d + 1) (c.1) n).2)).2)] 132)], Ret.one rfl (RV.tmp rfl), (Sk Sub.nil), ?_⟩
  refine ⟨?_, ?_⟩ <;> rw [cnC, if_neg (by simp [h3])]
theorem longT_ct : ∀ (t : Tm) (d n : Int) (cs : List Value) (H : Heap) (bL : Nat), RT H cs t → 0 ≤ n → n ≤ 300 → 0 ≤ d → d ≤ 61 → CT Tryz.prog 74 ⟨[pp bL 0, .agg ⟨cs⟩, iv d]⟩ [(BX bL [iv n] 132)] H (fun v N => v = .bool (cnT stL d t n).1 ∧ N = [(BX bL [iv ((cnT stL d t n).2)] 132)]) := by
 intro t
 induction t using Tm.ind with
 | h kind num ref kids cases ih ih' =>
 intro d n cs H bL ht hn0 hn1 hd0 hd1
 obtain ⟨ks, cv, rfl, hk, hn, hks, hcv⟩ := RT_mk.1 ht
 refine Zn Tryz.func74 rfl rfl <| Zc <| Za <| JLr (Zo (l := [pp bL 0]) rfl rfl fun b1 => JLr (Zo (l := pkT kind num ref ks cv) rfl rfl fun b2 => JLr (Zo (l := [iv d]) rfl rfl fun b3 => JLA rfl <| Zb <| Zc <| Zc <| Za <| JLr (Zd ty130 rfl (At.bx 2 rfl) rfl <| JLq (pp bL 0) (Pu.nilCheck rfl) ?_))))
 refine JLq (pp bL 0) (fa132_0 rfl rfl) <| JLr (Zd ty3 rfl (At.bx 3 rfl) rfl <| JLn (Pu.add64 rfl rfl (by first | omega | (constructor <;> omega))) <| JLq (pp bL 0) (Pu.nilCheck rfl) <| JLq (pp bL 0) (fa132_0 rfl rfl) <| JLr (Ze 3 (vs := [iv (n + 1)]) (l := [iv (n + 1)]) ty3 rfl rfl rfl rfl rfl (Zi rfl Zp) rfl <| Zb <| Zc <| Za <| JLr (Zd ty130 rfl (At.bx 2 rfl) rfl <| JLq (pp bL 0) (Pu.nilCheck rfl) <| JLq (pp bL 0) (fa132_0 rfl rfl) <| JLr (Zd ty3 rfl (At.bx 3 rfl) rfl ?_))))
 refine JLn (Pu.gtr rfl rfl) <| JLM rfl <| Zv 2 [21, 22] [(22, cond (decide (300 < n + 1)) undef (.bool (decide (60 < d))))] ?_ fun f5 => ?_
 ·cases h4 : (decide (300 < n + 1)) with
  | false =>
   replace h4 := df h4
   refine JLr (Zd ty3 rfl (At.bx 0 rfl) rfl <| JLn (Pu.gtr rfl rfl) ?_)
   exact Zb ⟨⟨rfl, trivial⟩, rfl⟩
  | true =>
   exact Zx rfl ⟨rfl, trivial⟩
 refine JLn (Pu.pickOr rfl rfl rfl) <| Zb <| Zf rfl (fun h6 => ?_) (fun h6 => ?_)
 ·refine Zc <| Za <| JLA rfl <| Zb <| Zm <| ⟨.bool true, [(BX bL [iv (n + 1)] 132)], Ret.one rfl (RV.tmp rfl), (Sd (Sd (Sd (Sk Sub.nil)))), ?_⟩
  refine ⟨?_, ?_⟩ <;> rw [cnT, if_pos (by simpa [stL] using h6)]
 obtain ⟨h6a, h6b⟩ := orF h6
 replace h6a := df h6a
 replace h6b := df h6b
 refine Zj <| Zc <| Za <| JLq (.func (.func 104) ⟨[]⟩ ⟨[pp b1 0, pp b3 0]⟩) (Pu.makeFunc rfl rfl) <| JLr (Zl (l := [.nilFunc]) Tryz.zeroValue28 rfl fun b7 => JLr (Ze 0 (vs := [.func (.func 104) ⟨[]⟩ ⟨[pp b1 0, pp b3 0]⟩]) (l := [.func (.func 104) ⟨[]⟩ ⟨[pp b1 0, pp b3 0]⟩]) ty28 rfl rfl rfl rfl rfl (Zi rfl Zp) rfl <| Zb <| Zc <| Za <| JLq (pp b2 34) (ZY rfl rfl) <| JLr (Zd YA rfl (At.bx 2 rfl) (ZV ..) <| JLr (Zd ty28 rfl (At.bx 0 rfl) rfl <| Zw 4 rfl Tryz.call29 rfl rfl (fun hin => containsT_ct 104 [] [pp b1 0, pp b3 0] (fun _ _ => rfl) (fun n => (BX bL [iv n] 132)) (fun n => 0 ≤ n ∧ n ≤ 300) (cnT stL (d + 1)) _ _ _ (RTs.mono (Hle.hu _ _) hks) (n + 1) ⟨by omega, by omega⟩ (fun x hx s hs hf => cnT_keep stL_le x _ s hs.1 hf) (fun x hx s hs a h hh ra => longTK_ct x d s a h bL b1 b3 ra (hh _ _ (hin 3 _ rfl _ _ List.mem_cons_self)) (hh _ _ (hin 1 _ rfl _ _ List.mem_cons_self)) (by omega) (by omega) (fun h' a' hh' ra' => ih x hx (d + 1) s a' h' bL ra' hs.1 hs.2 (by omega) (by omega)))) rfl ?_))))
 rintro _ _ ⟨rfl, rfl⟩
 refine JLM rfl ?_
 cases h9 : ((Yk (cnT stL (d + 1)) kids (n + 1)).1) with
 | true =>
  iterate 4 refine YG rfl ?_
  refine JLq (.bool true) (Pu.pickT rfl rfl) <| JLA rfl <| Zb <| Zm <| ⟨.bool true, [(BX bL [iv ((Yk (cnT stL (d + 1)) kids (n + 1)).2)] 132)], Ret.one rfl (RV.tmp rfl), (Sk Sub.nil), ?_⟩
  refine ⟨?_, ?_⟩ <;> rw [cnT, if_neg (by simp [stL]; omega), cnTs_any, if_pos h9]
 | false =>
  refine JLq (pp b2 35) (ZP rfl rfl) <| JLr (Zd Ym rfl (At.bx 3 rfl) (ZO ..) <| JLq (.func (.func 105) ⟨[]⟩ ⟨[pp b1 0, pp b3 0, pp b7 0]⟩) (Pu.makeFunc rfl rfl) <| Zw 0 rfl Tryz.call30 rfl rfl (fun hin => containsC_ct 105 [] [pp b1 0, pp b3 0, pp b7 0] (fun _ _ => rfl) (fun n => (BX bL [iv n] 132)) (fun n => 0 ≤ n ∧ n ≤ 300) (cnC stL (d + 1)) _ _ _ (RCs.mono (Hle.hu _ _) hcv) ((Yk (cnT stL (d + 1)) kids (n + 1)).2) (anyT_keep stL_le _ _ _ (by omega) (by omega) h9) (fun x hx s hs hf => cnC_keep stL_le x _ s hs.1 hf) (fun x hx s hs a h hh ra => longC_ct x d s a h bL b1 b3 b7 ra hs.1 hs.2 (by omega) (by omega) (hh _ _ (hin 3 _ rfl _ _ List.mem_cons_self)) (hh _ _ (hin 1 _ rfl _ _ List.mem_cons_self)) (hh _ _ (hin 0 _ rfl _ _ List.mem_cons_self)) (fun s' a' h' hh' ra' k1 k2 => ih' x hx (d + 1) s' a' h' bL ra' k1 k2 (by omega) (by omega)))) rfl ?_)
  rintro _ _ ⟨rfl, rfl⟩
  refine JLq (.bool ((Yk (cnC stL (d + 1)) cases ((Yk (cnT stL (d + 1)) kids (n + 1)).2)).1)) (Pu.pickF rfl rfl) <| JLA rfl <| Zb <| Zm <| ⟨.bool ((Yk (cnC stL (d + 1)) cases ((Yk (cnT stL (d + 1)) kids (n + 1)).2)).1), [(BX bL [iv ((Yk (cnC stL (d + 1)) cases ((Yk (cnT stL (d + 1)) kids (n + 1)).2)).2)] 132)], Ret.one rfl (RV.tmp rfl), (Sk Sub.nil), ?_⟩
  refine ⟨?_, ?_⟩ <;> rw [cnT, if_neg (by simp [stL]; omega), cnTs_any, if_neg (by simp [h9]), cnCs_any]
end Go.Proofs.YtfdeibbpfgolcaaGreat.Hs
/-! Walks, printed by a program of this session's own (gen.py). -/
namespace Go.Proofs.YtfdeibbpfgolcaaGreat.Hs
open Go Go.Proofs
set_option maxRecDepth 100000
set_option linter.unusedVariables false
set_option linter.unusedSimpArgs false
attribute [local irreducible] JL J CT wlo DT
theorem moreR_ct (k j : Int) (H : Heap) : CT Tryz.prog 156 ⟨[iv k, iv j]⟩ [] H (fun v N => v = iv (Z4 k j) ∧ N = []) := by
 refine Zn Tryz.func156 rfl rfl <| Zc <| Za <| JLA rfl <| Zb <| Zc <| Zk <| Zc <| Zc <| Za <| JLM rfl <| JLn (Pu.eql rfl rfl) <| JLA rfl ?_
 refine Zb <| Zf rfl (fun h1 => ?_) (fun h1 => ?_)
 ·replace h1 := dt h1
  refine Zj <| Zf rfl (fun _ => ?_) (fun h2 => absurd h1 (df h2))
  refine Zc <| Za <| JLA rfl <| Zb <| Zm <| ⟨iv 1, [], Ret.one rfl (RV.tmp rfl), Sub.nil, ?_⟩
  exact ⟨by first | (simp_all [Z4]; done) | (congr 1; unfold Z4; simp_all; try omega), rfl⟩
 replace h1 := df h1
 refine Zc <| Za <| JLM rfl <| JLn (Pu.eql rfl rfl) <| JLM rfl <| Zv 2 [11, 12] [(12, cond (decide (k = 5)) (.bool (decide (j = 1))) undef)] ?_ fun f4 => ?_
 ·cases h3 : (decide (k = 5)) with
  | true =>
   replace h3 := dt h3
   refine JLM rfl <| JLn (Pu.eql rfl rfl) ?_
   exact Zb ⟨⟨rfl, trivial⟩, rfl⟩
  | false =>
   exact Zx rfl ⟨rfl, trivial⟩
 refine JLn (Pu.pickAnd rfl rfl rfl) <| JLA rfl <| Zb <| Zf rfl (fun h5 => ?_) (fun h5 => ?_)
 ·obtain ⟨h5a, h5b⟩ := YM h5
  replace h5a := dt h5a
  replace h5b := dt h5b
  refine Zj <| Zf rfl (fun h6 => ?_) (fun h6 => ?_)
  ·obtain ⟨h6a, h6b⟩ := YM h6
   replace h6a := dt h6a
   replace h6b := dt h6b
   refine Zc <| Za <| JLA rfl <| Zb <| Zm <| ⟨iv 1, [], Ret.one rfl (RV.tmp rfl), Sub.nil, ?_⟩
   exact ⟨by first | (simp_all [Z4]; done) | (congr 1; unfold Z4; simp_all; try omega), rfl⟩
  refine Zc <| Za <| JLM rfl <| JLn (Pu.eql rfl rfl) <| JLM rfl <| Zv 2 [24, 25] [(25, cond (decide (k = 12)) (.bool (decide (1 < j))) undef)] ?_ fun f8 => ?_
  ·cases h7 : (decide (k = 12)) with
   | true =>
    replace h7 := dt h7
    refine JLM rfl <| JLn (Pu.gtr rfl rfl) ?_
    exact Zb ⟨⟨rfl, trivial⟩, rfl⟩
   | false =>
    exact Zx rfl ⟨rfl, trivial⟩
  refine JLn (Pu.pickAnd rfl rfl rfl) <| JLA rfl <| Zb <| Zf rfl (fun h9 => ?_) (fun h9 => ?_)
  ·obtain ⟨h9a, h9b⟩ := YM h9
   replace h9a := dt h9a
   replace h9b := dt h9b
   refine Zc <| Za <| JLA rfl <| Zb <| Zm <| ⟨iv 2, [], Ret.one rfl (RV.tmp rfl), Sub.nil, ?_⟩
   exact ⟨by first | (simp_all [Z4]; done) | (congr 1; unfold Z4; simp_all; try omega), rfl⟩
  refine Zj <| Zc <| Za <| JLA rfl <| Zb <| Zm <| ⟨iv 0, [], Ret.one rfl (RV.tmp rfl), Sub.nil, ?_⟩
  exact ⟨by first | (simp_all [Z4]; done) | (congr 1; unfold Z4; simp_all; try omega), rfl⟩
 refine Za <| JLM rfl <| JLn (Pu.eql rfl rfl) <| JLM rfl <| Zv 2 [17, 18] [(18, cond (decide (k = 12)) (.bool (decide (j = 1))) undef)] ?_ fun f11 => ?_
 ·cases h10 : (decide (k = 12)) with
  | true =>
   replace h10 := dt h10
   refine JLM rfl <| JLn (Pu.eql rfl rfl) ?_
   exact Zb ⟨⟨rfl, trivial⟩, rfl⟩
  | false =>
   exact Zx rfl ⟨rfl, trivial⟩
 refine JLn (Pu.pickAnd rfl rfl rfl) <| JLA rfl <| Zb <| Zf rfl (fun h12 => ?_) (fun h12 => ?_)
 ·obtain ⟨h12a, h12b⟩ := YM h12
  replace h12a := dt h12a
  replace h12b := dt h12b
  refine Zc <| Za <| JLA rfl <| Zb <| Zm <| ⟨iv 1, [], Ret.one rfl (RV.tmp rfl), Sub.nil, ?_⟩
  exact ⟨by first | (simp_all [Z4]; done) | (congr 1; unfold Z4; simp_all; try omega), rfl⟩
 refine Zc <| Za <| JLM rfl <| JLn (Pu.eql rfl rfl) <| JLM rfl <| Zv 2 [24, 25] [(25, cond (decide (k = 12)) (.bool (decide (1 < j))) undef)] ?_ fun f14 => ?_
 ·cases h13 : (decide (k = 12)) with
  | true =>
   replace h13 := dt h13
   refine JLM rfl <| JLn (Pu.gtr rfl rfl) ?_
   exact Zb ⟨⟨rfl, trivial⟩, rfl⟩
  | false =>
   exact Zx rfl ⟨rfl, trivial⟩
 refine JLn (Pu.pickAnd rfl rfl rfl) <| JLA rfl <| Zb <| Zf rfl (fun h15 => ?_) (fun h15 => ?_)
 ·obtain ⟨h15a, h15b⟩ := YM h15
  replace h15a := dt h15a
  replace h15b := dt h15b
  refine Zc <| Za <| JLA rfl <| Zb <| Zm <| ⟨iv 2, [], Ret.one rfl (RV.tmp rfl), Sub.nil, ?_⟩
  exact ⟨by first | (simp_all [Z4]; done) | (congr 1; unfold Z4; simp_all; try omega), rfl⟩
 refine Zj <| Zc <| Za <| JLA rfl <| Zb <| Zm <| ⟨iv 0, [], Ret.one rfl (RV.tmp rfl), Sub.nil, ?_⟩
 exact ⟨by first | (simp_all [Z4]; done) | (congr 1; unfold Z4; simp_all; try omega), rfl⟩
theorem offR_ct (n lo hi : Int) (H : Heap) : CT Tryz.prog 152 ⟨[iv n, iv lo, iv hi]⟩ [] H (fun v N => v = .bool (decide (n < lo ∨ hi < n)) ∧ N = []) := by
 refine Zn Tryz.func152 rfl rfl <| Zc <| Za <| JLA rfl <| Zb <| Zc <| Za <| JLM rfl <| JLM rfl <| JLn (Pu.lss rfl rfl) <| JLM rfl <| Zv 3 [11, 12, 13] [(13, cond (decide (n < lo)) undef (.bool (decide (hi < n))))] ?_ fun f2 => ?_
 ·cases h1 : (decide (n < lo)) with
  | false =>
   replace h1 := df h1
   refine JLM rfl <| JLM rfl <| JLn (Pu.gtr rfl rfl) ?_
   exact Zb ⟨⟨rfl, trivial⟩, rfl⟩
  | true =>
   exact Zx rfl ⟨rfl, trivial⟩
 refine JLn (Pu.pickOr rfl rfl rfl) <| JLA rfl <| Zb <| Zm <| ⟨.bool ((decide (n < lo)) || (decide (hi < n))), [], Ret.one rfl (RV.tmp rfl), Sub.nil, ?_⟩
 exact ⟨by simp, rfl⟩
theorem bindsR_ct : ∀ (p : Pt) (cs : List Value) (H : Heap), RP H cs p → binds p ≤ 1000000 → CT Tryz.prog 157 ⟨[.agg ⟨cs⟩]⟩ [] H (fun v N => v = iv (binds p : Int) ∧ N = []) := by
 intro p
 induction p using Pt.ind with
 | h kind num ref kids ih =>
 intro cs H hp hb
 obtain ⟨ks, rfl, hk, hn, hks⟩ := RP_mk.1 hp
 rw [binds] at hb ⊢
 refine Zn Tryz.func157 rfl rfl <| Zc <| Za <| JLr (Zo (l := pkP kind num ref ks) rfl rfl fun b1 => JLA rfl <| Zb <| Zc <| Zc <| Za <| JLq (pp b1 0) (Yj rfl rfl) <| JLr (Zd ty3 rfl (At.bx 0 rfl) (YJ ..) <| JLn (Pu.eql rfl rfl) <| Zb ?_))
 refine Zf rfl (fun h2 => ?_) (fun h2 => ?_)
 ·replace h2 := dt h2
  refine Zc <| Za <| JLA rfl <| Zb <| Zm <| ⟨iv 1, [], Ret.one rfl (RV.tmp rfl), Sub.nil, ?_⟩
  exact ⟨by rw [if_pos (by assumption)]; rfl, rfl⟩
 replace h2 := df h2
 refine Zj <| Zc <| Za <| JLA rfl <| Zb <| Zc <| Zc <| Za <| JLA rfl <| Zb <| Zk <| ZF (fun k ρ M => ∃ (j : Nat), ρ 1 = pp b1 0 ∧ ρ 2 = iv 0 ∧ ρ 3 = iv ((Yx (kids.take j) : Int)) ∧ ρ 4 = iv ((j : Int)) ∧ Sub [(BX b1 (pkP kind num ref ks) 54)] M ∧ j ≤ kids.length ∧ k = kids.length - j) _ ⟨0, rfl, rfl, rfl, rfl, (Sk Sub.nil), Nat.zero_le _, rfl⟩ ?_
 rintro _ ρ3 _ ⟨j, e4, e5, e6, e7, hm8, hj, rfl⟩
 obtain ⟨ρ9, rfl⟩ := Zu (uc e4 (uc e5 (uc e6 (uc e7 un))))
 clear e4 e5 e6 e7
 refine ZI hm8 ?_
 have hlen := hks.le
 refine Zc <| Zc <| Za <| JLM rfl <| JLq (pp b1 34) (ZX rfl rfl) <| JLr (Zd Yz rfl (At.bx 0 rfl) (Z3 ..) ?_)
 obtain ⟨a10, cap10, hv10⟩ := hks.sl
 have hle10 := hks.le
 refine JLn (Pu.lenSl Tryz.runUnderlying52 hv10) <| JLn (Pu.lss rfl rfl) <| Zb <| Zf rfl (fun h11 => ?_) (fun h11 => ?_)
 ·replace h11 := dt h11
  have h11n : j < kids.length := by omega
  have hm1 := binds_mem kids _ (List.getElem_mem h11n)
  have hm2 := bindsL_take kids _ h11n
  have hm3 := bindsL_take_le kids (j + 1)
  rw [if_neg (by assumption)] at hb
  refine Zj <| Zc <| Zk <| Za <| JLM rfl <| JLq (pp b1 34) (ZX rfl rfl) <| JLr (Zd Yz rfl (At.bx 0 rfl) (Z3 ..) <| JLM rfl ?_)
  obtain ⟨b12, o12, cap12, row12, T12, fr12, cs12, hv12, hb12, hs12, hE12⟩ := hks.get j (by first | assumption | omega | decide | simp)
  refine JLq (pp b12 (o12 + j * 35)) (Pu.idx j Tryz.runUnderlying52 ZQ hv12 rfl rfl (by first | assumption | omega | decide | simp)) <| JLr (Zg ZQ rfl (At.im hb12) hs12 <| Jc Tryz.call157 rfl (fun hin => ih _ (List.getElem_mem h11n) _ _ (RP.mono (Hle.hu _ _) hE12) (by omega)) rfl ?_)
  rintro _ _ ⟨rfl, rfl⟩
  refine JLn (Pu.add64 rfl rfl (by first | omega | (constructor <;> omega))) <| JLA rfl <| Zb <| Za <| JLM rfl <| JLn (Pu.inc rfl rfl (by omega)) <| JLA rfl <| Zb <| ⟨_, ?_, (j + 1), rfl, rfl, (ieq rfl (by omega)), rfl, (Sk Sub.nil), ?_, rfl⟩
  ·omega
  omega
 replace h11 := df h11
 have h11n : kids.length ≤ j := by omega
 refine Zy _ rfl <| Zc <| Za <| JLM rfl <| JLA rfl <| Zb <| Zm <| ⟨iv ((Yx (kids.take j) : Int)), [], Ret.one rfl (RV.tmp rfl), Sub.nil, ?_⟩
 exact ⟨by rw [if_neg (by assumption), List.take_of_length_le h11n], rfl⟩
theorem hasNum_ct (k : Int) (H : Heap) : CT Tryz.prog 153 ⟨[iv k]⟩ [] H (fun v N => v = .bool (Y8 k) ∧ N = []) := by
 refine Zn Tryz.func153 rfl rfl <| Zc <| Za <| JLA rfl <| Zb <| Zc <| Za <| JLM rfl <| JLn (Pu.eql rfl rfl) <| JLM rfl <| Zv 2 [6, 7] [(7, cond (decide (k = 1)) undef (.bool (decide (k = 2))))] ?_ fun f2 => ?_
 ·cases h1 : (decide (k = 1)) with
  | false =>
   replace h1 := df h1
   refine JLM rfl <| JLn (Pu.eql rfl rfl) ?_
   exact Zb ⟨⟨rfl, trivial⟩, rfl⟩
  | true =>
   exact Zx rfl ⟨rfl, trivial⟩
 refine JLn (Pu.pickOr rfl rfl rfl) <| JLM rfl <| Zv 2 [10, 11] [(11, cond ((decide (k = 1)) || (decide (k = 2))) undef (.bool (decide (k = 7))))] ?_ fun f4 => ?_
 ·cases h3 : ((decide (k = 1)) || (decide (k = 2))) with
  | false =>
   obtain ⟨h3a, h3b⟩ := orF h3
   replace h3a := df h3a
   replace h3b := df h3b
   refine JLM rfl <| JLn (Pu.eql rfl rfl) ?_
   exact Zb ⟨⟨rfl, trivial⟩, rfl⟩
  | true =>
   exact Zx rfl ⟨rfl, trivial⟩
 refine JLn (Pu.pickOr rfl rfl rfl) <| JLM rfl <| Zv 2 [14, 15] [(15, cond (((decide (k = 1)) || (decide (k = 2))) || (decide (k = 7))) undef (.bool (decide (k = 8))))] ?_ fun f6 => ?_
 ·cases h5 : (((decide (k = 1)) || (decide (k = 2))) || (decide (k = 7))) with
  | false =>
   obtain ⟨h5a, h5b⟩ := orF h5
   obtain ⟨h5aa, h5ab⟩ := orF h5a
   replace h5aa := df h5aa
   replace h5ab := df h5ab
   replace h5b := df h5b
   refine JLM rfl <| JLn (Pu.eql rfl rfl) ?_
   exact Zb ⟨⟨rfl, trivial⟩, rfl⟩
  | true =>
   exact Zx rfl ⟨rfl, trivial⟩
 refine JLn (Pu.pickOr rfl rfl rfl) <| JLM rfl <| Zv 2 [18, 19] [(19, cond ((((decide (k = 1)) || (decide (k = 2))) || (decide (k = 7))) || (decide (k = 8))) undef (.bool (decide (k = 10))))] ?_ fun f8 => ?_
 ·cases h7 : ((((decide (k = 1)) || (decide (k = 2))) || (decide (k = 7))) || (decide (k = 8))) with
  | false =>
   obtain ⟨h7a, h7b⟩ := orF h7
   obtain ⟨h7aa, h7ab⟩ := orF h7a
   obtain ⟨h7aaa, h7aab⟩ := orF h7aa
   replace h7aaa := df h7aaa
   replace h7aab := df h7aab
   replace h7ab := df h7ab
   replace h7b := df h7b
   refine JLM rfl <| JLn (Pu.eql rfl rfl) ?_
   exact Zb ⟨⟨rfl, trivial⟩, rfl⟩
  | true =>
   exact Zx rfl ⟨rfl, trivial⟩
 refine JLn (Pu.pickOr rfl rfl rfl) <| JLM rfl <| Zv 2 [22, 23] [(23, cond (((((decide (k = 1)) || (decide (k = 2))) || (decide (k = 7))) || (decide (k = 8))) || (decide (k = 10))) undef (.bool (decide (k = 11))))] ?_ fun f10 => ?_
 ·cases h9 : (((((decide (k = 1)) || (decide (k = 2))) || (decide (k = 7))) || (decide (k = 8))) || (decide (k = 10))) with
  | false =>
   obtain ⟨h9a, h9b⟩ := orF h9
   obtain ⟨h9aa, h9ab⟩ := orF h9a
   obtain ⟨h9aaa, h9aab⟩ := orF h9aa
   obtain ⟨h9aaaa, h9aaab⟩ := orF h9aaa
   replace h9aaaa := df h9aaaa
   replace h9aaab := df h9aaab
   replace h9aab := df h9aab
   replace h9ab := df h9ab
   replace h9b := df h9b
   refine JLM rfl <| JLn (Pu.eql rfl rfl) ?_
   exact Zb ⟨⟨rfl, trivial⟩, rfl⟩
  | true =>
   exact Zx rfl ⟨rfl, trivial⟩
 refine JLn (Pu.pickOr rfl rfl rfl) <| JLA rfl <| Zb <| Zm <| ⟨.bool ((((((decide (k = 1)) || (decide (k = 2))) || (decide (k = 7))) || (decide (k = 8))) || (decide (k = 10))) || (decide (k = 11))), [], Ret.one rfl (RV.tmp rfl), Sub.nil, ?_⟩
 exact ⟨by simp_all [Y8], rfl⟩
theorem hasRef_ct (k : Int) (H : Heap) : CT Tryz.prog 47 ⟨[iv k]⟩ [] H (fun v N => v = .bool (ZH k) ∧ N = []) := by
 refine Zn Tryz.func47 rfl rfl <| Zc <| Za <| JLA rfl <| Zb <| Zc <| Za <| JLM rfl <| JLn (Pu.eql rfl rfl) <| JLM rfl <| Zv 2 [6, 7] [(7, cond (decide (k = 6)) undef (.bool (decide (k = 8))))] ?_ fun f2 => ?_
 ·cases h1 : (decide (k = 6)) with
  | false =>
   replace h1 := df h1
   refine JLM rfl <| JLn (Pu.eql rfl rfl) ?_
   exact Zb ⟨⟨rfl, trivial⟩, rfl⟩
  | true =>
   exact Zx rfl ⟨rfl, trivial⟩
 refine JLn (Pu.pickOr rfl rfl rfl) <| JLM rfl <| Zv 2 [10, 11] [(11, cond ((decide (k = 6)) || (decide (k = 8))) undef (.bool (decide (k = 11))))] ?_ fun f4 => ?_
 ·cases h3 : ((decide (k = 6)) || (decide (k = 8))) with
  | false =>
   obtain ⟨h3a, h3b⟩ := orF h3
   replace h3a := df h3a
   replace h3b := df h3b
   refine JLM rfl <| JLn (Pu.eql rfl rfl) ?_
   exact Zb ⟨⟨rfl, trivial⟩, rfl⟩
  | true =>
   exact Zx rfl ⟨rfl, trivial⟩
 refine JLn (Pu.pickOr rfl rfl rfl) <| JLM rfl <| Zv 2 [14, 15] [(15, cond (((decide (k = 6)) || (decide (k = 8))) || (decide (k = 11))) undef (.bool (decide (k = 12))))] ?_ fun f6 => ?_
 ·cases h5 : (((decide (k = 6)) || (decide (k = 8))) || (decide (k = 11))) with
  | false =>
   obtain ⟨h5a, h5b⟩ := orF h5
   obtain ⟨h5aa, h5ab⟩ := orF h5a
   replace h5aa := df h5aa
   replace h5ab := df h5ab
   replace h5b := df h5b
   refine JLM rfl <| JLn (Pu.eql rfl rfl) ?_
   exact Zb ⟨⟨rfl, trivial⟩, rfl⟩
  | true =>
   exact Zx rfl ⟨rfl, trivial⟩
 refine JLn (Pu.pickOr rfl rfl rfl) <| JLA rfl <| Zb <| Zm <| ⟨.bool ((((decide (k = 6)) || (decide (k = 8))) || (decide (k = 11))) || (decide (k = 12))), [], Ret.one rfl (RV.tmp rfl), Sub.nil, ?_⟩
 exact ⟨by simp_all [ZH], rfl⟩
theorem kidsR_ct (k : Int) (H : Heap) : CT Tryz.prog 154 ⟨[iv k]⟩ [] H (fun v N => v = .tuple ⟨[iv (loK k), iv (hiK k)]⟩ ∧ N = []) := by
 refine Zn Tryz.func154 rfl rfl <| Zc <| Za <| JLA rfl <| JLA rfl <| Zb <| Zc <| Zc <| Za <| JLM rfl <| Zb <| Zk <| Zc ?_
 refine Zc <| Za <| JLn (Pu.eql rfl rfl) <| JLA rfl <| Zb <| Zf rfl (fun h1 => ?_) (fun h1 => ?_)
 ·replace h1 := dt h1
  refine Zj <| Zf rfl (fun _ => ?_) (fun h2 => absurd h1 (df h2))
  refine Zc <| Za <| JLA rfl <| JLA rfl <| Zb <| Zm <| ⟨.tuple ⟨[iv 1, iv 1]⟩, [], Ret.two rfl (RV.tmp rfl) (RV.tmp rfl), Sub.nil, ?_⟩
  exact ⟨by simp_all [loK, hiK], rfl⟩
 replace h1 := df h1
 refine Zc <| Za <| JLn (Pu.eql rfl rfl) <| JLA rfl <| Zb <| Zf rfl (fun h3 => ?_) (fun h3 => ?_)
 ·replace h3 := dt h3
  refine Zj <| Zf rfl (fun _ => ?_) (fun h4 => absurd h3 (df h4))
  refine Zc <| Za <| JLA rfl <| JLA rfl <| Zb <| Zm <| ⟨.tuple ⟨[iv 1, iv 1]⟩, [], Ret.two rfl (RV.tmp rfl) (RV.tmp rfl), Sub.nil, ?_⟩
  exact ⟨by simp_all [loK, hiK], rfl⟩
 replace h3 := df h3
 refine Za <| JLn (Pu.eql rfl rfl) <| JLA rfl <| Zb <| Zf rfl (fun h5 => ?_) (fun h5 => ?_)
 ·replace h5 := dt h5
  refine Zc <| Za <| JLA rfl <| JLA rfl <| Zb <| Zm <| ⟨.tuple ⟨[iv 1, iv 1]⟩, [], Ret.two rfl (RV.tmp rfl) (RV.tmp rfl), Sub.nil, ?_⟩
  exact ⟨by simp_all [loK, hiK], rfl⟩
 replace h5 := df h5
 refine Zc <| Zc <| Za <| JLn (Pu.eql rfl rfl) <| JLA rfl <| Zb <| Zf rfl (fun h6 => ?_) (fun h6 => ?_)
 ·replace h6 := dt h6
  refine Zj <| Zf rfl (fun _ => ?_) (fun h7 => absurd h6 (df h7))
  refine Zc <| Za <| JLA rfl <| JLA rfl <| Zb <| Zm <| ⟨.tuple ⟨[iv 2, iv 2]⟩, [], Ret.two rfl (RV.tmp rfl) (RV.tmp rfl), Sub.nil, ?_⟩
  exact ⟨by simp_all [loK, hiK], rfl⟩
 replace h6 := df h6
 refine Zc <| Za <| JLn (Pu.eql rfl rfl) <| JLA rfl <| Zb <| Zf rfl (fun h8 => ?_) (fun h8 => ?_)
 ·replace h8 := dt h8
  refine Zj <| Zf rfl (fun _ => ?_) (fun h9 => absurd h8 (df h9))
  refine Zc <| Za <| JLA rfl <| JLA rfl <| Zb <| Zm <| ⟨.tuple ⟨[iv 2, iv 2]⟩, [], Ret.two rfl (RV.tmp rfl) (RV.tmp rfl), Sub.nil, ?_⟩
  exact ⟨by simp_all [loK, hiK], rfl⟩
 replace h8 := df h8
 refine Za <| JLn (Pu.eql rfl rfl) <| JLA rfl <| Zb <| Zf rfl (fun h10 => ?_) (fun h10 => ?_)
 ·replace h10 := dt h10
  refine Zc <| Za <| JLA rfl <| JLA rfl <| Zb <| Zm <| ⟨.tuple ⟨[iv 2, iv 2]⟩, [], Ret.two rfl (RV.tmp rfl) (RV.tmp rfl), Sub.nil, ?_⟩
  exact ⟨by simp_all [loK, hiK], rfl⟩
 replace h10 := df h10
 refine Zc <| Za <| JLn (Pu.eql rfl rfl) <| JLA rfl <| Zb <| Zf rfl (fun h11 => ?_) (fun h11 => ?_)
 ·replace h11 := dt h11
  refine Zc <| Za <| JLA rfl <| JLA rfl <| Zb <| Zm <| ⟨.tuple ⟨[iv 0, iv 4]⟩, [], Ret.two rfl (RV.tmp rfl) (RV.tmp rfl), Sub.nil, ?_⟩
  exact ⟨by simp_all [loK, hiK], rfl⟩
 replace h11 := df h11
 refine Zc <| Za <| JLn (Pu.eql rfl rfl) <| JLA rfl <| Zb <| Zf rfl (fun h12 => ?_) (fun h12 => ?_)
 ·replace h12 := dt h12
  refine Zc <| Za <| JLA rfl <| JLA rfl <| Zb <| Zm <| ⟨.tuple ⟨[iv 2, iv 10]⟩, [], Ret.two rfl (RV.tmp rfl) (RV.tmp rfl), Sub.nil, ?_⟩
  exact ⟨by simp_all [loK, hiK], rfl⟩
 replace h12 := df h12
 refine Zj <| Zc <| Za <| JLA rfl <| JLA rfl <| Zb <| Zm <| ⟨.tuple ⟨[iv 0, iv 0]⟩, [], Ret.two rfl (RV.tmp rfl) (RV.tmp rfl), Sub.nil, ?_⟩
 exact ⟨by simp_all [loK, hiK], rfl⟩
theorem fields_ct (k : Int) (H : Heap) : CT Tryz.prog 60 ⟨[iv k]⟩ [] H (fun v N => v = .agg ⟨[.bool (fN k), .bool (fR k), .bool (fC k)]⟩ ∧ N = []) := by
 refine Zn Tryz.func60 rfl rfl <| Zc <| Za <| JLr (Zl (l := [.bool false, .bool false, .bool false]) Tryz.zeroValue114 rfl fun b1 => Zb <| Zc <| Za <| JLr (Zl (l := [.bool false, .bool false, .bool false]) Tryz.zeroValue114 rfl fun b2 => Zb <| Zc <| Zc <| Za <| JLM rfl ?_))
 refine Zb <| Zk <| Zc <| Zc <| Za <| JLn (Pu.eql rfl rfl) <| JLA rfl <| Zb <| Zf rfl (fun h3 => ?_) (fun h3 => ?_)
 ·replace h3 := dt h3
  refine Zj <| Zf rfl (fun _ => ?_) (fun h4 => absurd h3 (df h4))
  refine Za <| JLq (pp b2 0) (Pu.idxA 0 Tryz.runUnderlying114 ty4 rfl rfl (by decide) (by decide)) <| JLr (Ze 0 (vs := [.bool true]) (l := [.bool true, .bool false, .bool false]) ty4 rfl rfl rfl rfl rfl (Zi rfl Zp) rfl <| Zb <| Zc <| Za <| JLr (Zg Z8 rfl (At.bx 0 rfl) rfl <| JLr (Ze 1 (vs := [.bool true, .bool false, .bool false]) (l := [.bool true, .bool false, .bool false]) Z8 rfl rfl rfl rfl rfl (Zi rfl (Zi rfl (Zi rfl Zp))) rfl <| Zb <| Zm <| ⟨.agg ⟨[.bool true, .bool false, .bool false]⟩, [], Ret.one rfl (RV.cell Z8 rfl (At.bx 1 rfl) rfl), Sub.nil, ?_⟩)))
  exact ⟨by simp_all [fN, fR, fC], rfl⟩
 replace h3 := df h3
 refine Zc <| Za <| JLn (Pu.eql rfl rfl) <| JLA rfl <| Zb <| Zf rfl (fun h5 => ?_) (fun h5 => ?_)
 ·replace h5 := dt h5
  refine Zj <| Zf rfl (fun _ => ?_) (fun h6 => absurd h5 (df h6))
  refine Za <| JLq (pp b2 0) (Pu.idxA 0 Tryz.runUnderlying114 ty4 rfl rfl (by decide) (by decide)) <| JLr (Ze 0 (vs := [.bool true]) (l := [.bool true, .bool false, .bool false]) ty4 rfl rfl rfl rfl rfl (Zi rfl Zp) rfl <| Zb <| Zc <| Za <| JLr (Zg Z8 rfl (At.bx 0 rfl) rfl <| JLr (Ze 1 (vs := [.bool true, .bool false, .bool false]) (l := [.bool true, .bool false, .bool false]) Z8 rfl rfl rfl rfl rfl (Zi rfl (Zi rfl (Zi rfl Zp))) rfl <| Zb <| Zm <| ⟨.agg ⟨[.bool true, .bool false, .bool false]⟩, [], Ret.one rfl (RV.cell Z8 rfl (At.bx 1 rfl) rfl), Sub.nil, ?_⟩)))
  exact ⟨by simp_all [fN, fR, fC], rfl⟩
 replace h5 := df h5
 refine Zc <| Za <| JLn (Pu.eql rfl rfl) <| JLA rfl <| Zb <| Zf rfl (fun h7 => ?_) (fun h7 => ?_)
 ·replace h7 := dt h7
  refine Zj <| Zf rfl (fun _ => ?_) (fun h8 => absurd h7 (df h8))
  refine Za <| JLq (pp b2 0) (Pu.idxA 0 Tryz.runUnderlying114 ty4 rfl rfl (by decide) (by decide)) <| JLr (Ze 0 (vs := [.bool true]) (l := [.bool true, .bool false, .bool false]) ty4 rfl rfl rfl rfl rfl (Zi rfl Zp) rfl <| Zb <| Zc <| Za <| JLr (Zg Z8 rfl (At.bx 0 rfl) rfl <| JLr (Ze 1 (vs := [.bool true, .bool false, .bool false]) (l := [.bool true, .bool false, .bool false]) Z8 rfl rfl rfl rfl rfl (Zi rfl (Zi rfl (Zi rfl Zp))) rfl <| Zb <| Zm <| ⟨.agg ⟨[.bool true, .bool false, .bool false]⟩, [], Ret.one rfl (RV.cell Z8 rfl (At.bx 1 rfl) rfl), Sub.nil, ?_⟩)))
  exact ⟨by simp_all [fN, fR, fC], rfl⟩
 replace h7 := df h7
 refine Za <| JLn (Pu.eql rfl rfl) <| JLA rfl <| Zb <| Zf rfl (fun h9 => ?_) (fun h9 => ?_)
 ·replace h9 := dt h9
  refine Za <| JLq (pp b2 0) (Pu.idxA 0 Tryz.runUnderlying114 ty4 rfl rfl (by decide) (by decide)) <| JLr (Ze 0 (vs := [.bool true]) (l := [.bool true, .bool false, .bool false]) ty4 rfl rfl rfl rfl rfl (Zi rfl Zp) rfl <| Zb <| Zc <| Za <| JLr (Zg Z8 rfl (At.bx 0 rfl) rfl <| JLr (Ze 1 (vs := [.bool true, .bool false, .bool false]) (l := [.bool true, .bool false, .bool false]) Z8 rfl rfl rfl rfl rfl (Zi rfl (Zi rfl (Zi rfl Zp))) rfl <| Zb <| Zm <| ⟨.agg ⟨[.bool true, .bool false, .bool false]⟩, [], Ret.one rfl (RV.cell Z8 rfl (At.bx 1 rfl) rfl), Sub.nil, ?_⟩)))
  exact ⟨by simp_all [fN, fR, fC], rfl⟩
 replace h9 := df h9
 refine Zc <| Zc <| Za <| JLn (Pu.eql rfl rfl) <| JLA rfl <| Zb <| Zf rfl (fun h10 => ?_) (fun h10 => ?_)
 ·replace h10 := dt h10
  refine Zj <| Zf rfl (fun _ => ?_) (fun h11 => absurd h10 (df h11))
  refine Za <| JLq (pp b2 0) (Pu.idxA 0 Tryz.runUnderlying114 ty4 rfl rfl (by decide) (by decide)) <| JLr (Ze 0 (vs := [.bool true]) (l := [.bool true, .bool false, .bool false]) ty4 rfl rfl rfl rfl rfl (Zi rfl Zp) rfl <| JLq (pp b2 1) (Pu.idxA 1 Tryz.runUnderlying114 ty4 rfl rfl (by decide) (by decide)) <| JLr (Ze 0 (vs := [.bool true]) (l := [.bool true, .bool true, .bool false]) ty4 rfl rfl rfl rfl rfl (Zi rfl Zp) rfl <| Zb <| Zc <| Za <| JLr (Zg Z8 rfl (At.bx 0 rfl) rfl <| JLr (Ze 1 (vs := [.bool true, .bool true, .bool false]) (l := [.bool true, .bool true, .bool false]) Z8 rfl rfl rfl rfl rfl (Zi rfl (Zi rfl (Zi rfl Zp))) rfl <| Zb <| Zm <| ⟨.agg ⟨[.bool true, .bool true, .bool false]⟩, [], Ret.one rfl (RV.cell Z8 rfl (At.bx 1 rfl) rfl), Sub.nil, ?_⟩))))
  exact ⟨by simp_all [fN, fR, fC], rfl⟩
 replace h10 := df h10
 refine Za <| JLn (Pu.eql rfl rfl) <| JLA rfl <| Zb <| Zf rfl (fun h12 => ?_) (fun h12 => ?_)
 ·replace h12 := dt h12
  refine Za <| JLq (pp b2 0) (Pu.idxA 0 Tryz.runUnderlying114 ty4 rfl rfl (by decide) (by decide)) <| JLr (Ze 0 (vs := [.bool true]) (l := [.bool true, .bool false, .bool false]) ty4 rfl rfl rfl rfl rfl (Zi rfl Zp) rfl <| JLq (pp b2 1) (Pu.idxA 1 Tryz.runUnderlying114 ty4 rfl rfl (by decide) (by decide)) <| JLr (Ze 0 (vs := [.bool true]) (l := [.bool true, .bool true, .bool false]) ty4 rfl rfl rfl rfl rfl (Zi rfl Zp) rfl <| Zb <| Zc <| Za <| JLr (Zg Z8 rfl (At.bx 0 rfl) rfl <| JLr (Ze 1 (vs := [.bool true, .bool true, .bool false]) (l := [.bool true, .bool true, .bool false]) Z8 rfl rfl rfl rfl rfl (Zi rfl (Zi rfl (Zi rfl Zp))) rfl <| Zb <| Zm <| ⟨.agg ⟨[.bool true, .bool true, .bool false]⟩, [], Ret.one rfl (RV.cell Z8 rfl (At.bx 1 rfl) rfl), Sub.nil, ?_⟩))))
  exact ⟨by simp_all [fN, fR, fC], rfl⟩
 replace h12 := df h12
 refine Zc <| Zc <| Za <| JLn (Pu.eql rfl rfl) <| JLA rfl <| Zb <| Zf rfl (fun h13 => ?_) (fun h13 => ?_)
 ·replace h13 := dt h13
  refine Zj <| Zf rfl (fun _ => ?_) (fun h14 => absurd h13 (df h14))
  refine Za <| JLq (pp b2 1) (Pu.idxA 1 Tryz.runUnderlying114 ty4 rfl rfl (by decide) (by decide)) <| JLr (Ze 0 (vs := [.bool true]) (l := [.bool false, .bool true, .bool false]) ty4 rfl rfl rfl rfl rfl (Zi rfl Zp) rfl <| Zb <| Zc <| Za <| JLr (Zg Z8 rfl (At.bx 0 rfl) rfl <| JLr (Ze 1 (vs := [.bool false, .bool true, .bool false]) (l := [.bool false, .bool true, .bool false]) Z8 rfl rfl rfl rfl rfl (Zi rfl (Zi rfl (Zi rfl Zp))) rfl <| Zb <| Zm <| ⟨.agg ⟨[.bool false, .bool true, .bool false]⟩, [], Ret.one rfl (RV.cell Z8 rfl (At.bx 1 rfl) rfl), Sub.nil, ?_⟩)))
  exact ⟨by simp_all [fN, fR, fC], rfl⟩
 replace h13 := df h13
 refine Za <| JLn (Pu.eql rfl rfl) <| JLA rfl <| Zb <| Zf rfl (fun h15 => ?_) (fun h15 => ?_)
 ·replace h15 := dt h15
  refine Za <| JLq (pp b2 1) (Pu.idxA 1 Tryz.runUnderlying114 ty4 rfl rfl (by decide) (by decide)) <| JLr (Ze 0 (vs := [.bool true]) (l := [.bool false, .bool true, .bool false]) ty4 rfl rfl rfl rfl rfl (Zi rfl Zp) rfl <| Zb <| Zc <| Za <| JLr (Zg Z8 rfl (At.bx 0 rfl) rfl <| JLr (Ze 1 (vs := [.bool false, .bool true, .bool false]) (l := [.bool false, .bool true, .bool false]) Z8 rfl rfl rfl rfl rfl (Zi rfl (Zi rfl (Zi rfl Zp))) rfl <| Zb <| Zm <| ⟨.agg ⟨[.bool false, .bool true, .bool false]⟩, [], Ret.one rfl (RV.cell Z8 rfl (At.bx 1 rfl) rfl), Sub.nil, ?_⟩)))
  exact ⟨by simp_all [fN, fR, fC], rfl⟩
 replace h15 := df h15
 refine Zc <| Za <| JLn (Pu.eql rfl rfl) <| JLA rfl <| Zb <| Zf rfl (fun h16 => ?_) (fun h16 => ?_)
 ·replace h16 := dt h16
  refine Za <| JLq (pp b2 2) (Pu.idxA 2 Tryz.runUnderlying114 ty4 rfl rfl (by decide) (by decide)) <| JLr (Ze 0 (vs := [.bool true]) (l := [.bool false, .bool false, .bool true]) ty4 rfl rfl rfl rfl rfl (Zi rfl Zp) rfl <| Zb <| Zc <| Za <| JLr (Zg Z8 rfl (At.bx 0 rfl) rfl <| JLr (Ze 1 (vs := [.bool false, .bool false, .bool true]) (l := [.bool false, .bool false, .bool true]) Z8 rfl rfl rfl rfl rfl (Zi rfl (Zi rfl (Zi rfl Zp))) rfl <| Zb <| Zm <| ⟨.agg ⟨[.bool false, .bool false, .bool true]⟩, [], Ret.one rfl (RV.cell Z8 rfl (At.bx 1 rfl) rfl), Sub.nil, ?_⟩)))
  exact ⟨by simp_all [fN, fR, fC], rfl⟩
 replace h16 := df h16
 refine Zj <| Zc <| Za <| JLr (Zg Z8 rfl (At.bx 0 rfl) rfl <| JLr (Ze 1 (vs := [.bool false, .bool false, .bool false]) (l := [.bool false, .bool false, .bool false]) Z8 rfl rfl rfl rfl rfl (Zi rfl (Zi rfl (Zi rfl Zp))) rfl <| Zb <| Zm <| ⟨.agg ⟨[.bool false, .bool false, .bool false]⟩, [], Ret.one rfl (RV.cell Z8 rfl (At.bx 1 rfl) rfl), Sub.nil, ?_⟩))
 exact ⟨by simp_all [fN, fR, fC], rfl⟩
theorem patternFields_ct (k : Int) (H : Heap) : CT Tryz.prog 169 ⟨[iv k]⟩ [] H (fun v N => v = .agg ⟨[.bool (pfN k), .bool (pfR k), .bool false]⟩ ∧ N = []) := by
 refine Zn Tryz.func169 rfl rfl <| Zc <| Za <| JLr (Zl (l := [.bool false, .bool false, .bool false]) Tryz.zeroValue114 rfl fun b1 => Zb <| Zc <| Zc <| Za <| JLM rfl <| Zb <| Zk <| Zc <| Za ?_)
 refine JLn (Pu.eql rfl rfl) <| JLA rfl <| Zb <| Zf rfl (fun h2 => ?_) (fun h2 => ?_)
 ·replace h2 := dt h2
  refine Zc <| Za <| JLq (.agg ⟨[.bool true, .bool false, .bool false]⟩) (Pu.build (pv := [(0, .bool true), (1, .bool false), (2, .bool false)]) (l := [.bool true, .bool false, .bool false]) rfl (bld114_0_1_2 _ _ _)) <| JLr (Ze 0 (vs := [.bool true, .bool false, .bool false]) (l := [.bool true, .bool false, .bool false]) Z8 rfl rfl rfl rfl rfl (Zi rfl (Zi rfl (Zi rfl Zp))) rfl <| Zb <| Zm <| ⟨.agg ⟨[.bool true, .bool false, .bool false]⟩, [], Ret.one rfl (RV.cell Z8 rfl (At.bx 0 rfl) rfl), Sub.nil, ?_⟩)
  exact ⟨by simp_all [pfN, pfR], rfl⟩
 replace h2 := df h2
 refine Zc <| Za <| JLn (Pu.eql rfl rfl) <| JLA rfl <| Zb <| Zf rfl (fun h3 => ?_) (fun h3 => ?_)
 ·replace h3 := dt h3
  refine Zc <| Za <| JLq (.agg ⟨[.bool true, .bool true, .bool false]⟩) (Pu.build (pv := [(0, .bool true), (1, .bool true), (2, .bool false)]) (l := [.bool true, .bool true, .bool false]) rfl (bld114_0_1_2 _ _ _)) <| JLr (Ze 0 (vs := [.bool true, .bool true, .bool false]) (l := [.bool true, .bool true, .bool false]) Z8 rfl rfl rfl rfl rfl (Zi rfl (Zi rfl (Zi rfl Zp))) rfl <| Zb <| Zm <| ⟨.agg ⟨[.bool true, .bool true, .bool false]⟩, [], Ret.one rfl (RV.cell Z8 rfl (At.bx 0 rfl) rfl), Sub.nil, ?_⟩)
  exact ⟨by simp_all [pfN, pfR], rfl⟩
 replace h3 := df h3
 refine Zj <| Zc <| Za <| JLq (.agg ⟨[.bool false, .bool false, .bool false]⟩) (Pu.build (pv := []) (l := [.bool false, .bool false, .bool false]) rfl bld114_) <| JLr (Ze 0 (vs := [.bool false, .bool false, .bool false]) (l := [.bool false, .bool false, .bool false]) Z8 rfl rfl rfl rfl rfl (Zi rfl (Zi rfl (Zi rfl Zp))) rfl <| Zb <| Zm <| ⟨.agg ⟨[.bool false, .bool false, .bool false]⟩, [], Ret.one rfl (RV.cell Z8 rfl (At.bx 0 rfl) rfl), Sub.nil, ?_⟩)
 exact ⟨by simp_all [pfN, pfR], rfl⟩
theorem clash_ct (a b c : Bool) (n : Int) (r : Sm) (m : Int) (H : Heap) : CT Tryz.prog 148 ⟨[.agg ⟨[.bool a, .bool b, .bool c]⟩, iv n, .agg ⟨sC r⟩, iv m]⟩ [] H (fun v N => v = .bool (clashB a b c n r m) ∧ N = []) := by
 refine Zn Tryz.func148 rfl rfl <| Zc <| Za <| JLr (Zo (l := [.bool a, .bool b, .bool c]) rfl rfl fun b1 => JLr (Zo (l := sC r) rfl rfl fun b2 => JLA rfl <| Zb <| Zc <| Za <| JLM rfl <| JLn (Pu.neq rfl rfl) <| JLr (Zg ZR rfl (At.bx 0 rfl) (Zr rfl) <| JLq (.agg ⟨sC zS⟩) (Pu.build (pv := []) (l := sC zS) rfl bld23_) ?_)))
 refine JLn (neqS rfl rfl) <| JLM rfl <| JLn (Pu.gtr rfl rfl) <| JLq (.agg ⟨[.bool (!decide (n = 0)), .bool (!decide (r = zS)), .bool (decide (0 < m))]⟩) (Pu.build (pv := [(0, .bool (!decide (n = 0))), (1, .bool (!decide (r = zS))), (2, .bool (decide (0 < m)))]) (l := [.bool (!decide (n = 0)), .bool (!decide (r = zS)), .bool (decide (0 < m))]) rfl (bld114_0_1_2 _ _ _)) <| JLr (Zl (l := [.bool false, .bool false, .bool false]) Tryz.zeroValue114 rfl fun b3 => JLr (Ze 0 (vs := [.bool (!decide (n = 0)), .bool (!decide (r = zS)), .bool (decide (0 < m))]) (l := [.bool (!decide (n = 0)), .bool (!decide (r = zS)), .bool (decide (0 < m))]) Z8 rfl rfl rfl rfl rfl (Zi rfl (Zi rfl (Zi rfl Zp))) rfl <| Zb <| Zc <| Za <| JLr (Zg Z8 rfl (At.bx 0 rfl) rfl <| JLr (Zl (l := [.bool false, .bool false, .bool false]) Tryz.zeroValue114 rfl fun b4 => JLr (Ze 0 (vs := [.bool (!decide (n = 0)), .bool (!decide (r = zS)), .bool (decide (0 < m))]) (l := [.bool (!decide (n = 0)), .bool (!decide (r = zS)), .bool (decide (0 < m))]) Z8 rfl rfl rfl rfl rfl (Zi rfl (Zi rfl (Zi rfl Zp))) rfl <| Zb ?_)))))
 refine Zc <| Zc <| Za <| JLM rfl <| Zb <| Zk <| Yo 4 <| Z0 <| Zc <| Za <| JLq (.bool true) (show Pu _ _ _ (.bool (decide ((0 : Int) < 3))) from Pu.lss rfl rfl) <| Zb <| Zc ?_
 refine Zf (b := true) rfl (fun _ => ?_) (fun h => absurd h (by simp))
 refine Zj <| Zc <| Zk <| Zc <| Za <| JLM rfl <| JLA rfl <| Zb <| Za <| JLM rfl <| JLM rfl <| JLq (pp b3 0) (Pu.idxA 0 Tryz.runUnderlying114 ty4 rfl rfl (by decide) (by decide)) <| JLr (Zd ty4 rfl (At.bx 1 rfl) rfl ?_)
 refine JLM rfl <| Zv 3 [29, 30, 31] [(31, cond (!decide (n = 0)) (.bool a) undef)] ?_ fun f6 => ?_
 ·cases h5 : (!decide (n = 0)) with
  | true =>
   replace h5 := nt h5
   replace h5 := df h5
   refine JLM rfl <| JLq (pp b1 0) (Pu.idxA 0 Tryz.runUnderlying114 ty4 rfl rfl (by decide) (by decide)) <| JLr (Zd ty4 rfl (At.bx 3 rfl) rfl ?_)
   exact Zb ⟨⟨rfl, trivial⟩, rfl⟩
  | false =>
   exact Zx rfl ⟨rfl, trivial⟩
 refine JLn (Pu.pickAnd rfl rfl rfl) <| JLq (pp b4 0) (Pu.idxA 0 Tryz.runUnderlying114 ty4 rfl rfl (by decide) (by decide)) <| JLr (Ze 0 (vs := [.bool ((!decide (n = 0)) && a)]) (l := [.bool ((!decide (n = 0)) && a), .bool (!decide (r = zS)), .bool (decide (0 < m))]) ty4 rfl rfl rfl rfl rfl (Zi rfl Zp) rfl <| Zb <| Za <| JLq (iv 1) (Pu.arith rfl rfl rfl) <| JLM rfl <| Zb <| Z0 <| Zc <| Za <| JLq (.bool true) (show Pu _ _ _ (.bool (decide ((1 : Int) < 3))) from Pu.lss rfl rfl) <| Zb ?_)
 refine Zc <| Zf (b := true) rfl (fun _ => ?_) (fun h => absurd h (by simp))
 refine Zj <| Zc <| Zk <| Zc <| Za <| JLM rfl <| JLA rfl <| Zb <| Za <| JLM rfl <| JLM rfl <| JLq (pp b3 1) (Pu.idxA 1 Tryz.runUnderlying114 ty4 rfl rfl (by decide) (by decide)) <| JLr (Zd ty4 rfl (At.bx 1 rfl) rfl ?_)
 refine JLM rfl <| Zv 3 [29, 30, 31] [(31, cond (!decide (r = zS)) (.bool b) undef)] ?_ fun f8 => ?_
 ·cases h7 : (!decide (r = zS)) with
  | true =>
   replace h7 := nt h7
   replace h7 := df h7
   refine JLM rfl <| JLq (pp b1 1) (Pu.idxA 1 Tryz.runUnderlying114 ty4 rfl rfl (by decide) (by decide)) <| JLr (Zd ty4 rfl (At.bx 3 rfl) rfl ?_)
   exact Zb ⟨⟨rfl, trivial⟩, rfl⟩
  | false =>
   exact Zx rfl ⟨rfl, trivial⟩
 refine JLn (Pu.pickAnd rfl rfl rfl) <| JLq (pp b4 1) (Pu.idxA 1 Tryz.runUnderlying114 ty4 rfl rfl (by decide) (by decide)) <| JLr (Ze 0 (vs := [.bool ((!decide (r = zS)) && b)]) (l := [.bool ((!decide (n = 0)) && a), .bool ((!decide (r = zS)) && b), .bool (decide (0 < m))]) ty4 rfl rfl rfl rfl rfl (Zi rfl Zp) rfl <| Zb <| Za <| JLq (iv 2) (Pu.arith rfl rfl rfl) <| JLM rfl <| Zb <| Z0 <| Zc <| Za <| JLq (.bool true) (show Pu _ _ _ (.bool (decide ((2 : Int) < 3))) from Pu.lss rfl rfl) <| Zb ?_)
 refine Zc <| Zf (b := true) rfl (fun _ => ?_) (fun h => absurd h (by simp))
 refine Zj <| Zc <| Zk <| Zc <| Za <| JLM rfl <| JLA rfl <| Zb <| Za <| JLM rfl <| JLM rfl <| JLq (pp b3 2) (Pu.idxA 2 Tryz.runUnderlying114 ty4 rfl rfl (by decide) (by decide)) <| JLr (Zd ty4 rfl (At.bx 1 rfl) rfl ?_)
 refine JLM rfl <| Zv 3 [29, 30, 31] [(31, cond (decide (0 < m)) (.bool c) undef)] ?_ fun f10 => ?_
 ·cases h9 : (decide (0 < m)) with
  | true =>
   replace h9 := dt h9
   refine JLM rfl <| JLq (pp b1 2) (Pu.idxA 2 Tryz.runUnderlying114 ty4 rfl rfl (by decide) (by decide)) <| JLr (Zd ty4 rfl (At.bx 3 rfl) rfl ?_)
   exact Zb ⟨⟨rfl, trivial⟩, rfl⟩
  | false =>
   exact Zx rfl ⟨rfl, trivial⟩
 refine JLn (Pu.pickAnd rfl rfl rfl) <| JLq (pp b4 2) (Pu.idxA 2 Tryz.runUnderlying114 ty4 rfl rfl (by decide) (by decide)) <| JLr (Ze 0 (vs := [.bool ((decide (0 < m)) && c)]) (l := [.bool ((!decide (n = 0)) && a), .bool ((!decide (r = zS)) && b), .bool ((decide (0 < m)) && c)]) ty4 rfl rfl rfl rfl rfl (Zi rfl Zp) rfl <| Zb <| Za <| JLq (iv 3) (Pu.arith rfl rfl rfl) <| JLM rfl <| Zb <| Z0 <| Zc <| Za <| JLq (.bool false) (show Pu _ _ _ (.bool (decide ((3 : Int) < 3))) from Pu.lss rfl rfl) <| Zb ?_)
 refine Zc <| Zf (b := false) rfl (fun h => absurd h (by simp)) (fun _ => Zy _ rfl <| Zc <| Za <| JLr (Zg Z8 rfl (At.bx 0 rfl) rfl <| JLr (Zg Z8 rfl (At.bx 1 rfl) rfl <| JLq (.bool (!((((!decide (n = 0)) && a) == (!decide (n = 0))) && ((((!decide (r = zS)) && b) == (!decide (r = zS))) && (((decide (0 < m)) && c) == (decide (0 < m))))))) (neqB3 rfl rfl) <| JLA rfl <| Zb <| Zm <| ⟨.bool (!((((!decide (n = 0)) && a) == (!decide (n = 0))) && ((((!decide (r = zS)) && b) == (!decide (r = zS))) && (((decide (0 < m)) && c) == (decide (0 < m)))))), [], Ret.one rfl (RV.tmp rfl), Sub.nil, ?_⟩)))
 exact ⟨by unfold clashB; congr 1; cases a <;> cases b <;> cases c <;> simp, rfl⟩
theorem kidsT_ct (k n : Int) (H : Heap) : CT Tryz.prog 149 ⟨[iv k, iv n]⟩ [] H (fun v N => v = .bool (kidsB k n) ∧ N = []) := by
 refine Zn Tryz.func149 rfl rfl <| Zc <| Za <| JLA rfl <| Zb <| Zc <| Zc <| Za <| JLM rfl <| Zb <| Zk <| Zc <| Zc ?_
 refine Za <| JLn (Pu.eql rfl rfl) <| JLA rfl <| Zb <| Zf rfl (fun h1 => ?_) (fun h1 => ?_)
 ·replace h1 := dt h1
  refine Zj <| Zf rfl (fun _ => ?_) (fun h2 => absurd h1 (df h2))
  refine Zc <| Za <| JLM rfl <| JLn (Pu.eql rfl rfl) <| JLA rfl <| Zb <| Zm <| ⟨.bool (decide (n = 1)), [], Ret.one rfl (RV.tmp rfl), Sub.nil, ?_⟩
  exact ⟨by simp_all [kidsB], rfl⟩
 replace h1 := df h1
 refine Zc <| Za <| JLn (Pu.eql rfl rfl) <| JLA rfl <| Zb <| Zf rfl (fun h3 => ?_) (fun h3 => ?_)
 ·replace h3 := dt h3
  refine Zj <| Zf rfl (fun _ => ?_) (fun h4 => absurd h3 (df h4))
  refine Zc <| Za <| JLM rfl <| JLn (Pu.eql rfl rfl) <| JLA rfl <| Zb <| Zm <| ⟨.bool (decide (n = 1)), [], Ret.one rfl (RV.tmp rfl), Sub.nil, ?_⟩
  exact ⟨by simp_all [kidsB], rfl⟩
 replace h3 := df h3
 refine Za <| JLn (Pu.eql rfl rfl) <| JLA rfl <| Zb <| Zf rfl (fun h5 => ?_) (fun h5 => ?_)
 ·replace h5 := dt h5
  refine Zc <| Za <| JLM rfl <| JLn (Pu.eql rfl rfl) <| JLA rfl <| Zb <| Zm <| ⟨.bool (decide (n = 1)), [], Ret.one rfl (RV.tmp rfl), Sub.nil, ?_⟩
  exact ⟨by simp_all [kidsB], rfl⟩
 replace h5 := df h5
 refine Zc <| Zc <| Za <| JLn (Pu.eql rfl rfl) <| JLA rfl <| Zb <| Zf rfl (fun h6 => ?_) (fun h6 => ?_)
 ·replace h6 := dt h6
  refine Zj <| Zf rfl (fun _ => ?_) (fun h7 => absurd h6 (df h7))
  refine Zc <| Za <| JLM rfl <| JLn (Pu.eql rfl rfl) <| JLA rfl <| Zb <| Zm <| ⟨.bool (decide (n = 2)), [], Ret.one rfl (RV.tmp rfl), Sub.nil, ?_⟩
  exact ⟨by simp_all [kidsB], rfl⟩
 replace h6 := df h6
 refine Zc <| Za <| JLn (Pu.eql rfl rfl) <| JLA rfl <| Zb <| Zf rfl (fun h8 => ?_) (fun h8 => ?_)
 ·replace h8 := dt h8
  refine Zj <| Zf rfl (fun _ => ?_) (fun h9 => absurd h8 (df h9))
  refine Zc <| Za <| JLM rfl <| JLn (Pu.eql rfl rfl) <| JLA rfl <| Zb <| Zm <| ⟨.bool (decide (n = 2)), [], Ret.one rfl (RV.tmp rfl), Sub.nil, ?_⟩
  exact ⟨by simp_all [kidsB], rfl⟩
 replace h8 := df h8
 refine Za <| JLn (Pu.eql rfl rfl) <| JLA rfl <| Zb <| Zf rfl (fun h10 => ?_) (fun h10 => ?_)
 ·replace h10 := dt h10
  refine Zc <| Za <| JLM rfl <| JLn (Pu.eql rfl rfl) <| JLA rfl <| Zb <| Zm <| ⟨.bool (decide (n = 2)), [], Ret.one rfl (RV.tmp rfl), Sub.nil, ?_⟩
  exact ⟨by simp_all [kidsB], rfl⟩
 replace h10 := df h10
 refine Zc <| Za <| JLn (Pu.eql rfl rfl) <| JLA rfl <| Zb <| Zf rfl (fun h11 => ?_) (fun h11 => ?_)
 ·replace h11 := dt h11
  refine Zc <| Za <| JLM rfl <| JLn (Pu.leq rfl rfl) <| JLA rfl <| Zb <| Zm <| ⟨.bool (decide (n ≤ 4)), [], Ret.one rfl (RV.tmp rfl), Sub.nil, ?_⟩
  exact ⟨by simp_all [kidsB], rfl⟩
 replace h11 := df h11
 refine Zc <| Za <| JLn (Pu.eql rfl rfl) <| JLA rfl <| Zb <| Zf rfl (fun h12 => ?_) (fun h12 => ?_)
 ·replace h12 := dt h12
  refine Zc <| Za <| JLM rfl <| Jc Tryz.call79 rfl (fun hin => YD _ _ _ _) rfl ?_
  rintro _ _ ⟨rfl, rfl⟩
  refine JLn (Pu.not rfl) <| JLA rfl <| Zb <| Zm <| ⟨.bool (!(decide (n < 2 ∨ 10 < n))), [], Ret.one rfl (RV.tmp rfl), Sub.nil, ?_⟩
  exact ⟨by simp_all [kidsB], rfl⟩
 replace h12 := df h12
 refine Zj <| Zc <| Za <| JLM rfl <| JLn (Pu.eql rfl rfl) <| JLA rfl <| Zb <| Zm <| ⟨.bool (decide (n = 0)), [], Ret.one rfl (RV.tmp rfl), Sub.nil, ?_⟩
 exact ⟨by simp_all [kidsB], rfl⟩
end Go.Proofs.YtfdeibbpfgolcaaGreat.Hs
/-! Walks, printed by a program of this session's own (gen.py). -/
namespace Go.Proofs.YtfdeibbpfgolcaaGreat.Hs
open Go Go.Proofs
set_option maxRecDepth 100000
set_option linter.unusedVariables false
set_option linter.unusedSimpArgs false
attribute [local irreducible] JL J CT wlo DT
theorem patternError_ct (kind num : Int) (ref : Sm) (ks : Value) (kids : List Pt) (H : Heap) (hks : rdS RP 35 H ks kids) : CT Tryz.prog 150 ⟨[.agg ⟨pkP kind num ref ks⟩]⟩ [] H (fun v N => v = iv (pErr kind num ref kids.length) ∧ N = []) := by
 refine Zn Tryz.func150 rfl rfl <| Zc <| Za <| JLr (Zo (l := pkP kind num ref ks) rfl rfl fun b1 => JLA rfl <| Zb <| Zc <| Za <| JLA rfl <| Zb <| Zc <| Zc <| Za ?_)
 refine JLq (pp b1 0) (Yj rfl rfl) <| JLr (Zd ty3 rfl (At.bx 0 rfl) (YJ ..) <| JLn (Pu.eql rfl rfl) <| Zb <| Zf rfl (fun h2 => ?_) (fun h2 => ?_))
 ·replace h2 := dt h2
  refine Za <| JLA rfl <| Zb <| Zc <| Zk <| Zc <| Za <| JLq (pp b1 0) (Yj rfl rfl) <| JLr (Zd ty3 rfl (At.bx 0 rfl) (YJ ..) <| Jc Tryz.call79 rfl (fun hin => YD _ _ _ _) rfl ?_)
  rintro _ _ ⟨rfl, rfl⟩
  refine JLA rfl <| Zb <| Zf rfl (fun h3 => ?_) (fun h3 => ?_)
  ·replace h3 := dt h3
   refine Zc <| Za <| JLA rfl <| Zb <| Zm <| ⟨iv 3, [], Ret.one rfl (RV.tmp rfl), Sub.nil, ?_⟩
   exact ⟨by refine congrArg (Value.int .i64) ?_; simp only [pErr]; (repeat' split) <;> first | rfl | omega | (exfalso; simp_all; done) | (exfalso; simp_all; omega) | grind, rfl⟩
  replace h3 := df h3
  refine Zc <| ZC mixed #[0, 1, 3, 0, 8, 0, 32, 127, 255] 7 [some 12, some 13, some 14, some 15, some 16, some 17, some 18] [] [(2, fun _ _ vw qw => vw = .agg ⟨[.bool (pfN kind), .bool (pfR kind), .bool false]⟩ ∧ qw = [])] rfl (by kernel_rfl) rfl (by kernel_rfl) <| Dq (pp b1 0) (fun _ => Yj rfl rfl) <| Dl1 ty3 (At.bx 0 rfl) (YJ ..) <| Dc rfl Tryz.call169 (fun _ => rfl) (fun hin => patternFields_ct _ _) ?_
  rintro _ _ ⟨rfl, rfl⟩
  refine Dq (pp b1 1) (fun _ => fa54_1 rfl rfl) <| Dl1 ty3 (At.bx 0 rfl) (pkP_1 ..) <| Dq (pp b1 2) (fun _ => fa54_2 rfl rfl) <| Dl ZR (At.bx 0 rfl) (pkP_2 ..) <| ZK (M' := [(BX b1 (pkP kind num ref ks) 54)]) rfl ?_
  show JL _ _ _ [_, _] _ _ _
  refine Jc Tryz.call148 rfl (fun hin => clash_ct _ _ _ _ _ _ _) rfl ?_
  rintro _ _ ⟨rfl, rfl⟩
  refine JLA rfl <| Zb <| Zf rfl (fun h4 => ?_) (fun h4 => ?_)
  ·refine Zc <| Za <| JLA rfl <| Zb <| Zm <| ⟨iv 7, [], Ret.one rfl (RV.tmp rfl), Sub.nil, ?_⟩
   exact ⟨by refine congrArg (Value.int .i64) ?_; simp only [pErr]; (repeat' split) <;> first | rfl | omega | (exfalso; simp_all; done) | (exfalso; simp_all; omega) | grind, rfl⟩
  refine Zc <| Za <| JLq (pp b1 34) (ZX rfl rfl) <| JLr (Zd Yz rfl (At.bx 0 rfl) (Z3 ..) ?_)
  obtain ⟨a5, cap5, hv5⟩ := hks.sl
  have hle5 := hks.le
  refine JLn (Pu.lenSl Tryz.runUnderlying52 hv5) <| JLM rfl <| JLn (Pu.gtr rfl rfl) <| JLA rfl <| Zb <| Zf rfl (fun h6 => ?_) (fun h6 => ?_)
  ·replace h6 := dt h6
   refine Zc <| Za <| JLA rfl <| Zb <| Zm <| ⟨iv 2, [], Ret.one rfl (RV.tmp rfl), Sub.nil, ?_⟩
   exact ⟨by refine congrArg (Value.int .i64) ?_; simp only [pErr]; (repeat' split) <;> first | rfl | omega | (exfalso; simp_all; done) | (exfalso; simp_all; omega) | grind, rfl⟩
  replace h6 := df h6
  refine Zc <| Zc <| Za <| JLq (pp b1 0) (Yj rfl rfl) <| JLr (Zd ty3 rfl (At.bx 0 rfl) (YJ ..) <| JLn (Pu.eql rfl rfl) <| JLM rfl <| Zv 3 [31, 32, 33] [(33, cond (decide (kind = 2)) (.bool (decide (num < 0 ∨ 1073741824 < num))) undef)] ?_ fun f8 => ?_)
  ·cases h7 : (decide (kind = 2)) with
   | true =>
    replace h7 := dt h7
    refine JLq (pp b1 1) (fa54_1 rfl rfl) <| JLr (Zd ty3 rfl (At.bx 0 rfl) (pkP_1 ..) <| Jc Tryz.call79 rfl (fun hin => YD _ _ _ _) rfl ?_)
    rintro _ _ ⟨rfl, rfl⟩
    exact Zb ⟨⟨rfl, trivial⟩, rfl⟩
   | false =>
    exact Zx rfl ⟨rfl, trivial⟩
  refine JLn (Pu.pickAnd rfl rfl rfl) <| JLA rfl <| Zb <| Zf rfl (fun h9 => ?_) (fun h9 => ?_)
  ·obtain ⟨h9a, h9b⟩ := YM h9
   replace h9a := dt h9a
   replace h9b := dt h9b
   refine Zj <| Zf rfl (fun h10 => ?_) (fun h10 => ?_)
   ·obtain ⟨h10a, h10b⟩ := YM h10
    replace h10a := dt h10a
    replace h10b := dt h10b
    refine Zc <| Za <| JLA rfl <| Zb <| Zm <| ⟨iv 3, [], Ret.one rfl (RV.tmp rfl), Sub.nil, ?_⟩
    exact ⟨by refine congrArg (Value.int .i64) ?_; simp only [pErr]; (repeat' split) <;> first | rfl | omega | (exfalso; simp_all; done) | (exfalso; simp_all; omega) | grind, rfl⟩
   refine Zj <| Zc <| Za <| JLA rfl <| Zb <| Zm <| ⟨iv 0, [], Ret.one rfl (RV.tmp rfl), Sub.nil, ?_⟩
   exact ⟨by refine congrArg (Value.int .i64) ?_; simp only [pErr]; (repeat' split) <;> first | rfl | omega | (exfalso; simp_all; done) | (exfalso; simp_all; omega) | grind, rfl⟩
  refine Za <| JLq (pp b1 0) (Yj rfl rfl) <| JLr (Zd ty3 rfl (At.bx 0 rfl) (YJ ..) <| JLn (Pu.eql rfl rfl) <| JLM rfl <| Zv 3 [39, 40, 41] [(41, cond (decide (kind = 3)) (.bool (decide (num < 0 ∨ 7 < num))) undef)] ?_ fun f12 => ?_)
  ·cases h11 : (decide (kind = 3)) with
   | true =>
    replace h11 := dt h11
    refine JLq (pp b1 1) (fa54_1 rfl rfl) <| JLr (Zd ty3 rfl (At.bx 0 rfl) (pkP_1 ..) <| Jc Tryz.call79 rfl (fun hin => YD _ _ _ _) rfl ?_)
    rintro _ _ ⟨rfl, rfl⟩
    exact Zb ⟨⟨rfl, trivial⟩, rfl⟩
   | false =>
    exact Zx rfl ⟨rfl, trivial⟩
  refine JLn (Pu.pickAnd rfl rfl rfl) <| JLA rfl <| Zb <| Zf rfl (fun h13 => ?_) (fun h13 => ?_)
  ·obtain ⟨h13a, h13b⟩ := YM h13
   replace h13a := dt h13a
   replace h13b := dt h13b
   refine Zc <| Za <| JLA rfl <| Zb <| Zm <| ⟨iv 3, [], Ret.one rfl (RV.tmp rfl), Sub.nil, ?_⟩
   exact ⟨by refine congrArg (Value.int .i64) ?_; simp only [pErr]; (repeat' split) <;> first | rfl | omega | (exfalso; simp_all; done) | (exfalso; simp_all; omega) | grind, rfl⟩
  refine Zj <| Zc <| Za <| JLA rfl <| Zb <| Zm <| ⟨iv 0, [], Ret.one rfl (RV.tmp rfl), Sub.nil, ?_⟩
  exact ⟨by refine congrArg (Value.int .i64) ?_; simp only [pErr]; (repeat' split) <;> first | rfl | omega | (exfalso; simp_all; done) | (exfalso; simp_all; omega) | grind, rfl⟩
 replace h2 := df h2
 refine Zj <| Zc <| Zk <| Zc <| Za <| JLq (pp b1 0) (Yj rfl rfl) <| JLr (Zd ty3 rfl (At.bx 0 rfl) (YJ ..) <| Jc Tryz.call79 rfl (fun hin => YD _ _ _ _) rfl ?_)
 rintro _ _ ⟨rfl, rfl⟩
 refine JLA rfl <| Zb <| Zf rfl (fun h14 => ?_) (fun h14 => ?_)
 ·replace h14 := dt h14
  refine Zc <| Za <| JLA rfl <| Zb <| Zm <| ⟨iv 3, [], Ret.one rfl (RV.tmp rfl), Sub.nil, ?_⟩
  exact ⟨by refine congrArg (Value.int .i64) ?_; simp only [pErr]; (repeat' split) <;> first | rfl | omega | (exfalso; simp_all; done) | (exfalso; simp_all; omega) | grind, rfl⟩
 replace h14 := df h14
 refine Zc <| ZC mixed #[0, 1, 3, 0, 8, 0, 32, 127, 255] 7 [some 12, some 13, some 14, some 15, some 16, some 17, some 18] [] [(2, fun _ _ vw qw => vw = .agg ⟨[.bool (pfN kind), .bool (pfR kind), .bool false]⟩ ∧ qw = [])] rfl (by kernel_rfl) rfl (by kernel_rfl) <| Dq (pp b1 0) (fun _ => Yj rfl rfl) <| Dl1 ty3 (At.bx 0 rfl) (YJ ..) <| Dc rfl Tryz.call169 (fun _ => rfl) (fun hin => patternFields_ct _ _) ?_
 rintro _ _ ⟨rfl, rfl⟩
 refine Dq (pp b1 1) (fun _ => fa54_1 rfl rfl) <| Dl1 ty3 (At.bx 0 rfl) (pkP_1 ..) <| Dq (pp b1 2) (fun _ => fa54_2 rfl rfl) <| Dl ZR (At.bx 0 rfl) (pkP_2 ..) <| ZK (M' := [(BX b1 (pkP kind num ref ks) 54)]) rfl ?_
 show JL _ _ _ [_, _] _ _ _
 refine Jc Tryz.call148 rfl (fun hin => clash_ct _ _ _ _ _ _ _) rfl ?_
 rintro _ _ ⟨rfl, rfl⟩
 refine JLA rfl <| Zb <| Zf rfl (fun h15 => ?_) (fun h15 => ?_)
 ·refine Zc <| Za <| JLA rfl <| Zb <| Zm <| ⟨iv 7, [], Ret.one rfl (RV.tmp rfl), Sub.nil, ?_⟩
  exact ⟨by refine congrArg (Value.int .i64) ?_; simp only [pErr]; (repeat' split) <;> first | rfl | omega | (exfalso; simp_all; done) | (exfalso; simp_all; omega) | grind, rfl⟩
 refine Zc <| Za <| JLq (pp b1 34) (ZX rfl rfl) <| JLr (Zd Yz rfl (At.bx 0 rfl) (Z3 ..) ?_)
 obtain ⟨a16, cap16, hv16⟩ := hks.sl
 have hle16 := hks.le
 refine JLn (Pu.lenSl Tryz.runUnderlying52 hv16) <| JLM rfl <| JLn (Pu.gtr rfl rfl) <| JLA rfl <| Zb <| Zf rfl (fun h17 => ?_) (fun h17 => ?_)
 ·replace h17 := dt h17
  refine Zc <| Za <| JLA rfl <| Zb <| Zm <| ⟨iv 2, [], Ret.one rfl (RV.tmp rfl), Sub.nil, ?_⟩
  exact ⟨by refine congrArg (Value.int .i64) ?_; simp only [pErr]; (repeat' split) <;> first | rfl | omega | (exfalso; simp_all; done) | (exfalso; simp_all; omega) | grind, rfl⟩
 replace h17 := df h17
 refine Zc <| Zc <| Za <| JLq (pp b1 0) (Yj rfl rfl) <| JLr (Zd ty3 rfl (At.bx 0 rfl) (YJ ..) <| JLn (Pu.eql rfl rfl) <| JLM rfl <| Zv 3 [31, 32, 33] [(33, cond (decide (kind = 2)) (.bool (decide (num < 0 ∨ 1073741824 < num))) undef)] ?_ fun f19 => ?_)
 ·cases h18 : (decide (kind = 2)) with
  | true =>
   replace h18 := dt h18
   refine JLq (pp b1 1) (fa54_1 rfl rfl) <| JLr (Zd ty3 rfl (At.bx 0 rfl) (pkP_1 ..) <| Jc Tryz.call79 rfl (fun hin => YD _ _ _ _) rfl ?_)
   rintro _ _ ⟨rfl, rfl⟩
   exact Zb ⟨⟨rfl, trivial⟩, rfl⟩
  | false =>
   exact Zx rfl ⟨rfl, trivial⟩
 refine JLn (Pu.pickAnd rfl rfl rfl) <| JLA rfl <| Zb <| Zf rfl (fun h20 => ?_) (fun h20 => ?_)
 ·obtain ⟨h20a, h20b⟩ := YM h20
  replace h20a := dt h20a
  replace h20b := dt h20b
  refine Zj <| Zf rfl (fun h21 => ?_) (fun h21 => ?_)
  ·obtain ⟨h21a, h21b⟩ := YM h21
   replace h21a := dt h21a
   replace h21b := dt h21b
   refine Zc <| Za <| JLA rfl <| Zb <| Zm <| ⟨iv 3, [], Ret.one rfl (RV.tmp rfl), Sub.nil, ?_⟩
   exact ⟨by refine congrArg (Value.int .i64) ?_; simp only [pErr]; (repeat' split) <;> first | rfl | omega | (exfalso; simp_all; done) | (exfalso; simp_all; omega) | grind, rfl⟩
  refine Zj <| Zc <| Za <| JLA rfl <| Zb <| Zm <| ⟨iv 0, [], Ret.one rfl (RV.tmp rfl), Sub.nil, ?_⟩
  exact ⟨by refine congrArg (Value.int .i64) ?_; simp only [pErr]; (repeat' split) <;> first | rfl | omega | (exfalso; simp_all; done) | (exfalso; simp_all; omega) | grind, rfl⟩
 refine Za <| JLq (pp b1 0) (Yj rfl rfl) <| JLr (Zd ty3 rfl (At.bx 0 rfl) (YJ ..) <| JLn (Pu.eql rfl rfl) <| JLM rfl <| Zv 3 [39, 40, 41] [(41, cond (decide (kind = 3)) (.bool (decide (num < 0 ∨ 7 < num))) undef)] ?_ fun f23 => ?_)
 ·cases h22 : (decide (kind = 3)) with
  | true =>
   replace h22 := dt h22
   refine JLq (pp b1 1) (fa54_1 rfl rfl) <| JLr (Zd ty3 rfl (At.bx 0 rfl) (pkP_1 ..) <| Jc Tryz.call79 rfl (fun hin => YD _ _ _ _) rfl ?_)
   rintro _ _ ⟨rfl, rfl⟩
   exact Zb ⟨⟨rfl, trivial⟩, rfl⟩
  | false =>
   exact Zx rfl ⟨rfl, trivial⟩
 refine JLn (Pu.pickAnd rfl rfl rfl) <| JLA rfl <| Zb <| Zf rfl (fun h24 => ?_) (fun h24 => ?_)
 ·obtain ⟨h24a, h24b⟩ := YM h24
  replace h24a := dt h24a
  replace h24b := dt h24b
  refine Zc <| Za <| JLA rfl <| Zb <| Zm <| ⟨iv 3, [], Ret.one rfl (RV.tmp rfl), Sub.nil, ?_⟩
  exact ⟨by refine congrArg (Value.int .i64) ?_; simp only [pErr]; (repeat' split) <;> first | rfl | omega | (exfalso; simp_all; done) | (exfalso; simp_all; omega) | grind, rfl⟩
 refine Zj <| Zc <| Za <| JLA rfl <| Zb <| Zm <| ⟨iv 0, [], Ret.one rfl (RV.tmp rfl), Sub.nil, ?_⟩
 exact ⟨by refine congrArg (Value.int .i64) ?_; simp only [pErr]; (repeat' split) <;> first | rfl | omega | (exfalso; simp_all; done) | (exfalso; simp_all; omega) | grind, rfl⟩
theorem patternsError_ct : ∀ (p : Pt) (cs : List Value) (H : Heap), RP H cs p → CT Tryz.prog 115 ⟨[.agg ⟨cs⟩]⟩ [] H (fun v N => v = iv (pErrs p) ∧ N = []) := by
 intro p
 induction p using Pt.ind with
 | h kind num ref kids ih =>
 intro cs H hp
 obtain ⟨ks, rfl, hk, hn, hks⟩ := RP_mk.1 hp
 refine Zn Tryz.func115 rfl rfl <| Zc <| Za <| JLr (Zo (l := pkP kind num ref ks) rfl rfl fun b1 => JLA rfl <| Zb <| Zc <| Za <| JLr (Zg ZQ rfl (At.bx 0 rfl) (pkP_a ..) <| Jc Tryz.call150 rfl (fun hin => patternError_ct _ _ _ _ _ _ (RPs.mono (Hle.hu _ _) hks)) rfl ?_))
 rintro _ _ ⟨rfl, rfl⟩
 refine JLA rfl <| Zb <| Zc <| Zc <| Za <| JLA rfl <| Zb <| Zk <| ZF (fun k ρ M => ∃ (j : Nat) (e : Int), ρ 1 = pp b1 0 ∧ ρ 2 = iv 0 ∧ ρ 3 = iv e ∧ ρ 4 = iv ((j : Int)) ∧ Sub [(BX b1 (pkP kind num ref ks) 54)] M ∧ j ≤ kids.length ∧ (if e = 0 then pErrsL (kids.drop j) else e) = pErrs (.mk kind num ref kids) ∧ k = kids.length - j) _ ⟨0, (pErr kind num ref kids.length), rfl, rfl, rfl, rfl, (Sk Sub.nil), Nat.zero_le _, (by rw [pErrs]; rfl), rfl⟩ ?_
 rintro _ ρ2 _ ⟨j, e, e3, e4, e5, e6, hm7, hj, hinv, rfl⟩
 obtain ⟨ρ8, rfl⟩ := Zu (uc e3 (uc e4 (uc e5 (uc e6 un))))
 clear e3 e4 e5 e6
 refine ZI hm7 ?_
 have hlen := hks.le
 refine Zc <| Zc <| Za <| JLM rfl <| JLq (pp b1 34) (ZX rfl rfl) <| JLr (Zd Yz rfl (At.bx 0 rfl) (Z3 ..) ?_)
 obtain ⟨a9, cap9, hv9⟩ := hks.sl
 have hle9 := hks.le
 refine JLn (Pu.lenSl Tryz.runUnderlying52 hv9) <| JLn (Pu.lss rfl rfl) <| JLM rfl <| Zv 2 [13, 14] [(14, cond (decide ((j : Int) < (kids.length : Int))) (.bool (decide (e = 0))) undef)] ?_ fun f11 => ?_
 ·cases h10 : (decide ((j : Int) < (kids.length : Int))) with
  | true =>
   replace h10 := dt h10
   have h10n : j < kids.length := by omega
   refine JLM rfl <| JLn (Pu.eql rfl rfl) ?_
   exact Zb ⟨⟨rfl, trivial⟩, rfl⟩
  | false =>
   exact Zx rfl ⟨rfl, trivial⟩
 refine JLn (Pu.pickAnd rfl rfl rfl) <| Zb <| Zf rfl (fun h12 => ?_) (fun h12 => ?_)
 ·obtain ⟨h12a, h12b⟩ := YM h12
  replace h12a := dt h12a
  have h12an : j < kids.length := by omega
  replace h12b := dt h12b
  refine Zj <| Zc <| Zk <| Za <| JLq (pp b1 34) (ZX rfl rfl) <| JLr (Zd Yz rfl (At.bx 0 rfl) (Z3 ..) <| JLM rfl ?_)
  obtain ⟨b13, o13, cap13, row13, T13, fr13, cs13, hv13, hb13, hs13, hE13⟩ := hks.get j (by first | assumption | omega | decide | simp)
  refine JLq (pp b13 (o13 + j * 35)) (Pu.idx j Tryz.runUnderlying52 ZQ hv13 rfl rfl (by first | assumption | omega | decide | simp)) <| JLr (Zg ZQ rfl (At.im hb13) hs13 <| Jc Tryz.call115 rfl (fun hin => ih _ (List.getElem_mem h12an) _ _ (RP.mono (Hle.hu _ _) hE13)) rfl ?_)
  rintro _ _ ⟨rfl, rfl⟩
  refine JLA rfl <| Zb <| Za <| JLM rfl <| JLn (Pu.inc rfl rfl (by omega)) <| JLA rfl <| Zb <| ⟨_, ?_, (j + 1), (pErrs (kids[j])), rfl, rfl, rfl, rfl, (Sk Sub.nil), ?_, ?_, rfl⟩
  ·omega
  ·omega
  rw [if_pos (by assumption), ZT h12an, pErrsL] at hinv; exact hinv
 refine Zy _ rfl <| Zc <| Za <| JLM rfl <| JLA rfl <| Zb <| Zm <| ⟨iv e, [], Ret.one rfl (RV.tmp rfl), Sub.nil, ?_⟩
 refine ⟨?_, rfl⟩
 rw [← hinv]; by_cases he : e = 0
 ·have hj2 : kids.length ≤ j := by
   apply Nat.le_of_not_lt; intro hlt; have : (j : Int) < (kids.length : Int) := by omega
   simp_all
  rw [if_pos he, YL hj2, he]; rfl
 rw [if_neg he]
theorem patternErrorR_ct : ∀ (p : Pt) (cs : List Value) (H : Heap), RP H cs p → CT Tryz.prog 155 ⟨[.agg ⟨cs⟩]⟩ [] H (fun v N => v = iv (pErrR p) ∧ N = []) := by
 intro p
 induction p using Pt.ind with
 | h kind num ref kids ih =>
 intro cs H hp
 obtain ⟨ks, rfl, hk, hn, hks⟩ := RP_mk.1 hp
 refine Zn Tryz.func155 rfl rfl <| Zc <| Za <| JLr (Zo (l := pkP kind num ref ks) rfl rfl fun b1 => JLA rfl <| Zb <| Zc <| Zc <| Za <| JLq (pp b1 0) (Yj rfl rfl) <| JLr (Zd ty3 rfl (At.bx 0 rfl) (YJ ..) <| Jc Tryz.call152 rfl (fun hin => offR_ct _ _ _ _) rfl ?_))
 rintro _ _ ⟨rfl, rfl⟩
 refine Zb <| Zf rfl (fun h2 => ?_) (fun h2 => ?_)
 ·replace h2 := dt h2
  refine Zc <| Za <| JLA rfl <| Zb <| Zm <| ⟨iv 3, [], Ret.one rfl (RV.tmp rfl), Sub.nil, ?_⟩
  have hx : pHead kind num ref kids.length = 3 := by simp only [pHead]; (repeat' split) <;> first | rfl | omega | (exfalso; simp_all; done) | (exfalso; simp_all; omega) | grind
  exact ⟨by rw [pErrR, hx]; rfl, rfl⟩
 replace h2 := df h2
 refine Zj <| Zc <| Zc <| Za <| JLq (pp b1 0) (Yj rfl rfl) <| JLr (Zd ty3 rfl (At.bx 0 rfl) (YJ ..) <| JLn (Pu.eql rfl rfl) <| JLM rfl <| Zv 3 [12, 13, 14] [(14, cond (decide (kind = 1)) (.bool (!decide (num = 0))) undef)] ?_ fun f4 => ?_)
 ·cases h3 : (decide (kind = 1)) with
  | true =>
   replace h3 := dt h3
   refine JLq (pp b1 1) (fa54_1 rfl rfl) <| JLr (Zd ty3 rfl (At.bx 0 rfl) (pkP_1 ..) <| JLn (Pu.neq rfl rfl) ?_)
   exact Zb ⟨⟨rfl, trivial⟩, rfl⟩
  | false =>
   exact Zx rfl ⟨rfl, trivial⟩
 refine JLn (Pu.pickAnd rfl rfl rfl) <| JLM rfl <| Zv 9 [17, 18, 19, 20, 21, 22, 23, 24, 25] [(25, cond ((decide (kind = 1)) && (!decide (num = 0))) undef (.bool ((!decide (kind = 3)) && (!decide (ref = zS)))))] ?_ fun f8 => ?_
 ·cases h5 : ((decide (kind = 1)) && (!decide (num = 0))) with
  | false =>
   refine JLq (pp b1 0) (Yj rfl rfl) <| JLr (Zd ty3 rfl (At.bx 0 rfl) (YJ ..) <| JLn (Pu.neq rfl rfl) <| JLM rfl <| Zv 4 [21, 22, 23, 24] [(24, cond (!decide (kind = 3)) (.bool (!decide (ref = zS))) undef)] ?_ fun f7 => ?_)
   ·cases h6 : (!decide (kind = 3)) with
    | true =>
     replace h6 := nt h6
     replace h6 := df h6
     refine JLq (pp b1 2) (fa54_2 rfl rfl) <| JLr (Zg ZR rfl (At.bx 0 rfl) (pkP_2 ..) <| JLq (.agg ⟨sC zS⟩) (Pu.build (pv := []) (l := sC zS) rfl bld23_) <| JLn (neqS rfl rfl) ?_)
     exact Zb ⟨⟨rfl, trivial⟩, rfl⟩
    | false =>
     exact Zx rfl ⟨rfl, trivial⟩
   refine JLn (Pu.pickAnd rfl rfl rfl) ?_
   exact Zb ⟨⟨rfl, trivial⟩, rfl⟩
  | true =>
   exact Zx rfl ⟨rfl, trivial⟩
 refine JLn (Pu.pickOr rfl rfl rfl) <| Zb <| Zf rfl (fun h9 => ?_) (fun h9 => ?_)
 ·refine Zc <| Za <| JLA rfl <| Zb <| Zm <| ⟨iv 7, [], Ret.one rfl (RV.tmp rfl), Sub.nil, ?_⟩
  have hx : pHead kind num ref kids.length = 7 := by simp only [pHead]; (repeat' split) <;> first | rfl | omega | (exfalso; simp_all; done) | (exfalso; simp_all; omega) | grind
  exact ⟨by rw [pErrR, hx]; rfl, rfl⟩
 obtain ⟨h9a, h9b⟩ := orF h9
 refine Zj <| Zc <| Zc <| Za <| JLq (pp b1 0) (Yj rfl rfl) <| JLr (Zd ty3 rfl (At.bx 0 rfl) (YJ ..) <| JLn (Pu.neq rfl rfl) <| JLM rfl <| Zv 4 [31, 32, 33, 34] [(34, cond (!decide (kind = 3)) (.bool (decide (0 < (kids.length : Int)))) undef)] ?_ fun f12 => ?_)
 ·cases h10 : (!decide (kind = 3)) with
  | true =>
   replace h10 := nt h10
   replace h10 := df h10
   refine JLq (pp b1 34) (ZX rfl rfl) <| JLr (Zd Yz rfl (At.bx 0 rfl) (Z3 ..) ?_)
   obtain ⟨a11, cap11, hv11⟩ := hks.sl
   have hle11 := hks.le
   refine JLn (Pu.lenSl Tryz.runUnderlying52 hv11) <| JLn (Pu.gtr rfl rfl) ?_
   exact Zb ⟨⟨rfl, trivial⟩, rfl⟩
  | false =>
   exact Zx rfl ⟨rfl, trivial⟩
 refine JLn (Pu.pickAnd rfl rfl rfl) <| JLM rfl <| Zv 4 [37, 38, 39, 40] [(40, cond ((!decide (kind = 3)) && (decide (0 < (kids.length : Int)))) undef (.bool (decide (4 < (kids.length : Int)))))] ?_ fun f15 => ?_
 ·cases h13 : ((!decide (kind = 3)) && (decide (0 < (kids.length : Int)))) with
  | false =>
   refine JLq (pp b1 34) (ZX rfl rfl) <| JLr (Zd Yz rfl (At.bx 0 rfl) (Z3 ..) ?_)
   obtain ⟨a14, cap14, hv14⟩ := hks.sl
   have hle14 := hks.le
   refine JLn (Pu.lenSl Tryz.runUnderlying52 hv14) <| JLn (Pu.gtr rfl rfl) ?_
   exact Zb ⟨⟨rfl, trivial⟩, rfl⟩
  | true =>
   exact Zx rfl ⟨rfl, trivial⟩
 refine JLn (Pu.pickOr rfl rfl rfl) <| Zb <| Zf rfl (fun h16 => ?_) (fun h16 => ?_)
 ·refine Zc <| Za <| JLA rfl <| Zb <| Zm <| ⟨iv 2, [], Ret.one rfl (RV.tmp rfl), Sub.nil, ?_⟩
  have hx : pHead kind num ref kids.length = 2 := by simp only [pHead]; (repeat' split) <;> first | rfl | omega | (exfalso; simp_all; done) | (exfalso; simp_all; omega) | grind
  exact ⟨by rw [pErrR, hx]; rfl, rfl⟩
 obtain ⟨h16a, h16b⟩ := orF h16
 replace h16b := df h16b
 refine Zj <| Zc <| Zc <| Za <| JLq (pp b1 0) (Yj rfl rfl) <| JLr (Zd ty3 rfl (At.bx 0 rfl) (YJ ..) <| JLn (Pu.eql rfl rfl) <| JLM rfl <| Zv 3 [46, 47, 48] [(48, cond (decide (kind = 2)) (.bool (decide (num < 0 ∨ 1073741824 < num))) undef)] ?_ fun f18 => ?_)
 ·cases h17 : (decide (kind = 2)) with
  | true =>
   replace h17 := dt h17
   refine JLq (pp b1 1) (fa54_1 rfl rfl) <| JLr (Zd ty3 rfl (At.bx 0 rfl) (pkP_1 ..) <| Jc Tryz.call152 rfl (fun hin => offR_ct _ _ _ _) rfl ?_)
   rintro _ _ ⟨rfl, rfl⟩
   exact Zb ⟨⟨rfl, trivial⟩, rfl⟩
  | false =>
   exact Zx rfl ⟨rfl, trivial⟩
 refine JLn (Pu.pickAnd rfl rfl rfl) <| JLM rfl <| Zv 8 [51, 52, 53, 54, 55, 56, 57, 58] [(58, cond ((decide (kind = 2)) && (decide (num < 0 ∨ 1073741824 < num))) undef (.bool ((decide (kind = 3)) && (decide (num < 0 ∨ 7 < num)))))] ?_ fun f22 => ?_
 ·cases h19 : ((decide (kind = 2)) && (decide (num < 0 ∨ 1073741824 < num))) with
  | false =>
   refine JLq (pp b1 0) (Yj rfl rfl) <| JLr (Zd ty3 rfl (At.bx 0 rfl) (YJ ..) <| JLn (Pu.eql rfl rfl) <| JLM rfl <| Zv 3 [55, 56, 57] [(57, cond (decide (kind = 3)) (.bool (decide (num < 0 ∨ 7 < num))) undef)] ?_ fun f21 => ?_)
   ·cases h20 : (decide (kind = 3)) with
    | true =>
     replace h20 := dt h20
     refine JLq (pp b1 1) (fa54_1 rfl rfl) <| JLr (Zd ty3 rfl (At.bx 0 rfl) (pkP_1 ..) <| Jc Tryz.call152 rfl (fun hin => offR_ct _ _ _ _) rfl ?_)
     rintro _ _ ⟨rfl, rfl⟩
     exact Zb ⟨⟨rfl, trivial⟩, rfl⟩
    | false =>
     exact Zx rfl ⟨rfl, trivial⟩
   refine JLn (Pu.pickAnd rfl rfl rfl) ?_
   exact Zb ⟨⟨rfl, trivial⟩, rfl⟩
  | true =>
   exact Zx rfl ⟨rfl, trivial⟩
 refine JLn (Pu.pickOr rfl rfl rfl) <| Zb <| Zf rfl (fun h23 => ?_) (fun h23 => ?_)
 ·refine Zc <| Za <| JLA rfl <| Zb <| Zm <| ⟨iv 3, [], Ret.one rfl (RV.tmp rfl), Sub.nil, ?_⟩
  have hx : pHead kind num ref kids.length = 3 := by simp only [pHead]; (repeat' split) <;> first | rfl | omega | (exfalso; simp_all; done) | (exfalso; simp_all; omega) | grind
  exact ⟨by rw [pErrR, hx]; rfl, rfl⟩
 obtain ⟨h23a, h23b⟩ := orF h23
 refine Zj <| Zc <| Zc <| Za <| JLA rfl <| Zb <| Zk <| ZF (fun k ρ M => ∃ (j : Nat), ρ 1 = pp b1 0 ∧ ρ 2 = iv 0 ∧ ρ 3 = iv ((j : Int)) ∧ Sub [(BX b1 (pkP kind num ref ks) 54)] M ∧ j ≤ kids.length ∧ pHead kind num ref kids.length = 0 ∧ pErrRL (kids.drop j) = pErrRL kids ∧ k = kids.length - j) _ ⟨0, rfl, rfl, rfl, (Sk Sub.nil), Nat.zero_le _, (by simp only [pHead]; (repeat' split) <;> first | rfl | omega | (exfalso; simp_all; done) | (exfalso; simp_all; omega) | grind), rfl, rfl⟩ ?_
 rintro _ ρ24 _ ⟨j, e25, e26, e27, hm28, hj, hh, hinv, rfl⟩
 obtain ⟨ρ29, rfl⟩ := Zu (uc e25 (uc e26 (uc e27 un)))
 clear e25 e26 e27
 refine ZI hm28 ?_
 have hlen := hks.le
 refine Zc <| Zc <| Za <| JLM rfl <| JLq (pp b1 34) (ZX rfl rfl) <| JLr (Zd Yz rfl (At.bx 0 rfl) (Z3 ..) ?_)
 obtain ⟨a30, cap30, hv30⟩ := hks.sl
 have hle30 := hks.le
 refine JLn (Pu.lenSl Tryz.runUnderlying52 hv30) <| JLn (Pu.lss rfl rfl) <| Zb <| Zf rfl (fun h31 => ?_) (fun h31 => ?_)
 ·replace h31 := dt h31
  have h31n : j < kids.length := by omega
  refine Zj <| Zc <| Zk <| Zc <| Za <| JLq (pp b1 34) (ZX rfl rfl) <| JLr (Zd Yz rfl (At.bx 0 rfl) (Z3 ..) <| JLM rfl ?_)
  obtain ⟨b32, o32, cap32, row32, T32, fr32, cs32, hv32, hb32, hs32, hE32⟩ := hks.get j (by first | assumption | omega | decide | simp)
  refine JLq (pp b32 (o32 + j * 35)) (Pu.idx j Tryz.runUnderlying52 ZQ hv32 rfl rfl (by first | assumption | omega | decide | simp)) <| JLr (Zg ZQ rfl (At.im hb32) hs32 <| Jc Tryz.call155 rfl (fun hin => ih _ (List.getElem_mem h31n) _ _ (RP.mono (Hle.hu _ _) hE32)) rfl ?_)
  rintro _ _ ⟨rfl, rfl⟩
  refine JLA rfl <| Zb <| Zc <| Za <| JLM rfl <| JLn (Pu.neq rfl rfl) <| Zb <| Zf rfl (fun h33 => ?_) (fun h33 => ?_)
  ·replace h33 := nt h33
   replace h33 := df h33
   refine Zc <| Za <| JLM rfl <| JLA rfl <| Zb <| Zm <| ⟨iv (pErrR (kids[j])), [], Ret.one rfl (RV.tmp rfl), Sub.nil, ?_⟩
   exact ⟨by rw [pErrR, if_pos hh, ← hinv, ZT h31n, pErrRL, if_neg h33], rfl⟩
  replace h33 := nf h33
  replace h33 := dt h33
  refine Zj <| Za <| JLM rfl <| JLn (Pu.inc rfl rfl (by omega)) <| JLA rfl <| Zb <| ⟨_, ?_, (j + 1), rfl, rfl, rfl, (Sk Sub.nil), ?_, ?_, ?_, rfl⟩
  ·omega
  ·omega
  ·assumption
  rw [ZT h31n, pErrRL, if_pos h33] at hinv; exact hinv
 replace h31 := df h31
 have h31n : kids.length ≤ j := by omega
 refine Zy _ rfl <| Zc <| Za <| JLA rfl <| Zb <| Zm <| ⟨iv 0, [], Ret.one rfl (RV.tmp rfl), Sub.nil, ?_⟩
 exact ⟨by rw [pErrR, if_pos hh, ← hinv, YL h31n]; rfl, rfl⟩
theorem nodeError_ct : ∀ (t : Tm) (d m b : Int) (cs : List Value) (H : Heap), RT H cs t → 0 ≤ b → b + 2 * sizeT t ≤ 1000000 → CT Tryz.prog 117 ⟨[.agg ⟨cs⟩, iv d, iv m, iv b]⟩ [] H (fun v N => v = iv (nErr d m b t) ∧ N = []) := by
 intro t
 induction t using Tm.ind with
 | h kind num ref kids cases ih ih' =>
 intro d m b cs H ht hb0 hb
 obtain ⟨ks, cv, rfl, hk, hn, hks, hcv⟩ := RT_mk.1 ht
 rw [sizeT] at hb
 have hn1 : -9223372036854775808 ≤ num := hn.1
 have hn2 : num ≤ 9223372036854775807 := hn.2
 refine Zn Tryz.func117 rfl rfl <| Zc <| Za <| JLr (Zo (l := pkT kind num ref ks cv) rfl rfl fun b1 => JLA rfl <| Zb <| Zc <| Zc <| Za <| JLq (pp b1 0) (ZG rfl rfl) <| JLr (Zd ty3 rfl (At.bx 0 rfl) (ZU ..) <| Jc Tryz.call152 rfl (fun hin => offR_ct _ _ _ _) rfl ?_))
 rintro _ _ ⟨rfl, rfl⟩
 refine Zb <| Zf rfl (fun h2 => ?_) (fun h2 => ?_)
 ·replace h2 := dt h2
  refine Zc <| Za <| JLA rfl <| Zb <| Zm <| ⟨iv 3, [], Ret.one rfl (RV.tmp rfl), Sub.nil, ?_⟩
  have hx : nHead d m b kind num ref kids.length cases.length = 3 := by simp only [nHead]; (repeat' split) <;> first | rfl | omega | (exfalso; simp_all; done) | (exfalso; simp_all; omega) | grind
  exact ⟨by rw [nErr, hx]; rfl, rfl⟩
 replace h2 := df h2
 refine Zj <| Zc <| Zc <| Za <| JLq (pp b1 0) (ZG rfl rfl) <| JLr (Zd ty3 rfl (At.bx 0 rfl) (ZU ..) <| Jc Tryz.call153 rfl (fun hin => hasNum_ct _ _) rfl ?_)
 rintro _ _ ⟨rfl, rfl⟩
 refine JLn (Pu.not rfl) <| JLM rfl <| Zv 3 [25, 26, 27] [(27, cond (!(Y8 kind)) (.bool (!decide (num = 0))) undef)] ?_ fun f4 => ?_
 ·cases h3 : (!(Y8 kind)) with
  | true =>
   replace h3 := nt h3
   refine JLq (pp b1 1) (Ya rfl rfl) <| JLr (Zd ty3 rfl (At.bx 0 rfl) (Yn ..) <| JLn (Pu.neq rfl rfl) ?_)
   exact Zb ⟨⟨rfl, trivial⟩, rfl⟩
  | false =>
   exact Zx rfl ⟨rfl, trivial⟩
 refine JLn (Pu.pickAnd rfl rfl rfl) <| JLM rfl <| Zv 10 [30, 31, 32, 33, 34, 35, 36, 37, 38, 39] [(39, cond ((!(Y8 kind)) && (!decide (num = 0))) undef (.bool ((!(ZH kind)) && (!decide (ref = zS)))))] ?_ fun f8 => ?_
 ·cases h5 : ((!(Y8 kind)) && (!decide (num = 0))) with
  | false =>
   refine JLq (pp b1 0) (ZG rfl rfl) <| JLr (Zd ty3 rfl (At.bx 0 rfl) (ZU ..) <| Jc Tryz.call47 rfl (fun hin => hasRef_ct _ _) rfl ?_)
   rintro _ _ ⟨rfl, rfl⟩
   refine JLn (Pu.not rfl) <| JLM rfl <| Zv 4 [35, 36, 37, 38] [(38, cond (!(ZH kind)) (.bool (!decide (ref = zS))) undef)] ?_ fun f7 => ?_
   ·cases h6 : (!(ZH kind)) with
    | true =>
     replace h6 := nt h6
     refine JLq (pp b1 2) (Yq rfl rfl) <| JLr (Zg ZR rfl (At.bx 0 rfl) (Y5 ..) <| JLq (.agg ⟨sC zS⟩) (Pu.build (pv := []) (l := sC zS) rfl bld23_) <| JLn (neqS rfl rfl) ?_)
     exact Zb ⟨⟨rfl, trivial⟩, rfl⟩
    | false =>
     exact Zx rfl ⟨rfl, trivial⟩
   refine JLn (Pu.pickAnd rfl rfl rfl) ?_
   exact Zb ⟨⟨rfl, trivial⟩, rfl⟩
  | true =>
   exact Zx rfl ⟨rfl, trivial⟩
 refine JLn (Pu.pickOr rfl rfl rfl) <| JLM rfl <| Zv 9 [42, 43, 44, 45, 46, 47, 48, 49, 50] [(50, cond (((!(Y8 kind)) && (!decide (num = 0))) || ((!(ZH kind)) && (!decide (ref = zS)))) undef (.bool ((!decide (kind = 9)) && (decide (0 < (cases.length : Int))))))] ?_ fun f13 => ?_
 ·cases h9 : (((!(Y8 kind)) && (!decide (num = 0))) || ((!(ZH kind)) && (!decide (ref = zS)))) with
  | false =>
   obtain ⟨h9a, h9b⟩ := orF h9
   refine JLq (pp b1 0) (ZG rfl rfl) <| JLr (Zd ty3 rfl (At.bx 0 rfl) (ZU ..) <| JLn (Pu.neq rfl rfl) <| JLM rfl <| Zv 4 [46, 47, 48, 49] [(49, cond (!decide (kind = 9)) (.bool (decide (0 < (cases.length : Int)))) undef)] ?_ fun f12 => ?_)
   ·cases h10 : (!decide (kind = 9)) with
    | true =>
     replace h10 := nt h10
     replace h10 := df h10
     refine JLq (pp b1 35) (ZP rfl rfl) <| JLr (Zd Ym rfl (At.bx 0 rfl) (ZO ..) ?_)
     obtain ⟨a11, cap11, hv11⟩ := hcv.sl
     have hle11 := hcv.le
     refine JLn (Pu.lenSl Tryz.runUnderlying25 hv11) <| JLn (Pu.gtr rfl rfl) ?_
     exact Zb ⟨⟨rfl, trivial⟩, rfl⟩
    | false =>
     exact Zx rfl ⟨rfl, trivial⟩
   refine JLn (Pu.pickAnd rfl rfl rfl) ?_
   exact Zb ⟨⟨rfl, trivial⟩, rfl⟩
  | true =>
   exact Zx rfl ⟨rfl, trivial⟩
 refine JLn (Pu.pickOr rfl rfl rfl) <| Zb <| Zf rfl (fun h14 => ?_) (fun h14 => ?_)
 ·refine Zc <| Za <| JLA rfl <| Zb <| Zm <| ⟨iv 7, [], Ret.one rfl (RV.tmp rfl), Sub.nil, ?_⟩
  have hx : nHead d m b kind num ref kids.length cases.length = 7 := by simp only [nHead]; (repeat' split) <;> first | rfl | omega | (exfalso; simp_all; done) | (exfalso; simp_all; omega) | grind
  exact ⟨by rw [nErr, hx]; rfl, rfl⟩
 obtain ⟨h14a, h14b⟩ := orF h14
 obtain ⟨h14aa, h14ab⟩ := orF h14a
 refine Zj <| Zc <| Za <| JLq (pp b1 0) (ZG rfl rfl) <| JLr (Zd ty3 rfl (At.bx 0 rfl) (ZU ..) <| Jc Tryz.call154 rfl (fun hin => kidsR_ct _ _) rfl ?_)
 rintro _ _ ⟨rfl, rfl⟩
 refine JLM rfl <| JLn (Pu.extract rfl rfl) <| JLn (Pu.extract rfl rfl) <| JLA rfl <| JLA rfl <| Zb <| Zc <| Zc <| Za <| JLq (pp b1 34) (ZY rfl rfl) <| JLr (Zd YA rfl (At.bx 0 rfl) (ZV ..) ?_)
 obtain ⟨a15, cap15, hv15⟩ := hks.sl
 have hle15 := hks.le
 refine JLn (Pu.lenSl Tryz.runUnderlying24 hv15) <| JLM rfl <| JLM rfl <| Jc Tryz.call152 rfl (fun hin => offR_ct _ _ _ _) rfl ?_
 rintro _ _ ⟨rfl, rfl⟩
 refine JLM rfl <| Zv 4 [65, 66, 67, 68] [(68, cond (decide ((kids.length : Int) < loK kind ∨ hiK kind < (kids.length : Int))) undef (.bool (decide (8 < (cases.length : Int)))))] ?_ fun f18 => ?_
 ·cases h16 : (decide ((kids.length : Int) < loK kind ∨ hiK kind < (kids.length : Int))) with
  | false =>
   replace h16 := df h16
   refine JLq (pp b1 35) (ZP rfl rfl) <| JLr (Zd Ym rfl (At.bx 0 rfl) (ZO ..) ?_)
   obtain ⟨a17, cap17, hv17⟩ := hcv.sl
   have hle17 := hcv.le
   refine JLn (Pu.lenSl Tryz.runUnderlying25 hv17) <| JLn (Pu.gtr rfl rfl) ?_
   exact Zb ⟨⟨rfl, trivial⟩, rfl⟩
  | true =>
   exact Zx rfl ⟨rfl, trivial⟩
 refine JLn (Pu.pickOr rfl rfl rfl) <| Zb <| Zf rfl (fun h19 => ?_) (fun h19 => ?_)
 ·refine Zc <| Za <| JLA rfl <| Zb <| Zm <| ⟨iv 2, [], Ret.one rfl (RV.tmp rfl), Sub.nil, ?_⟩
  have hx : nHead d m b kind num ref kids.length cases.length = 2 := by simp only [nHead]; (repeat' split) <;> first | rfl | omega | (exfalso; simp_all; done) | (exfalso; simp_all; omega) | grind
  exact ⟨by rw [nErr, hx]; rfl, rfl⟩
 obtain ⟨h19a, h19b⟩ := orF h19
 replace h19a := df h19a
 replace h19b := df h19b
 refine Zj <| Zc <| Zc <| Za <| JLq (pp b1 0) (ZG rfl rfl) <| JLr (Zd ty3 rfl (At.bx 0 rfl) (ZU ..) <| JLn (Pu.eql rfl rfl) <| JLM rfl <| Zv 3 [74, 75, 76] [(76, cond (decide (kind = 2)) (.bool (decide (num < 0 ∨ 1073741824 < num))) undef)] ?_ fun f21 => ?_)
 ·cases h20 : (decide (kind = 2)) with
  | true =>
   replace h20 := dt h20
   refine JLq (pp b1 1) (Ya rfl rfl) <| JLr (Zd ty3 rfl (At.bx 0 rfl) (Yn ..) <| Jc Tryz.call152 rfl (fun hin => offR_ct _ _ _ _) rfl ?_)
   rintro _ _ ⟨rfl, rfl⟩
   exact Zb ⟨⟨rfl, trivial⟩, rfl⟩
  | false =>
   exact Zx rfl ⟨rfl, trivial⟩
 refine JLn (Pu.pickAnd rfl rfl rfl) <| JLM rfl <| Zv 8 [79, 80, 81, 82, 83, 84, 85, 86] [(86, cond ((decide (kind = 2)) && (decide (num < 0 ∨ 1073741824 < num))) undef (.bool ((decide (kind = 10)) && (decide (num < 1 ∨ 5 < num)))))] ?_ fun f25 => ?_
 ·cases h22 : ((decide (kind = 2)) && (decide (num < 0 ∨ 1073741824 < num))) with
  | false =>
   refine JLq (pp b1 0) (ZG rfl rfl) <| JLr (Zd ty3 rfl (At.bx 0 rfl) (ZU ..) <| JLn (Pu.eql rfl rfl) <| JLM rfl <| Zv 3 [83, 84, 85] [(85, cond (decide (kind = 10)) (.bool (decide (num < 1 ∨ 5 < num))) undef)] ?_ fun f24 => ?_)
   ·cases h23 : (decide (kind = 10)) with
    | true =>
     replace h23 := dt h23
     refine JLq (pp b1 1) (Ya rfl rfl) <| JLr (Zd ty3 rfl (At.bx 0 rfl) (Yn ..) <| Jc Tryz.call152 rfl (fun hin => offR_ct _ _ _ _) rfl ?_)
     rintro _ _ ⟨rfl, rfl⟩
     exact Zb ⟨⟨rfl, trivial⟩, rfl⟩
    | false =>
     exact Zx rfl ⟨rfl, trivial⟩
   refine JLn (Pu.pickAnd rfl rfl rfl) ?_
   exact Zb ⟨⟨rfl, trivial⟩, rfl⟩
  | true =>
   exact Zx rfl ⟨rfl, trivial⟩
 refine JLn (Pu.pickOr rfl rfl rfl) <| JLM rfl <| Zv 13 [89, 90, 91, 92, 93, 94, 95, 96, 97, 98, 99, 100, 101] [(101, cond (((decide (kind = 2)) && (decide (num < 0 ∨ 1073741824 < num))) || ((decide (kind = 10)) && (decide (num < 1 ∨ 5 < num)))) undef (.bool (((decide (kind = 8)) || (decide (kind = 11))) && (decide (num < 0 ∨ 7 < num)))))] ?_ fun f31 => ?_
 ·cases h26 : (((decide (kind = 2)) && (decide (num < 0 ∨ 1073741824 < num))) || ((decide (kind = 10)) && (decide (num < 1 ∨ 5 < num)))) with
  | false =>
   obtain ⟨h26a, h26b⟩ := orF h26
   refine JLq (pp b1 0) (ZG rfl rfl) <| JLr (Zd ty3 rfl (At.bx 0 rfl) (ZU ..) <| JLn (Pu.eql rfl rfl) <| JLM rfl <| Zv 3 [93, 94, 95] [(95, cond (decide (kind = 8)) undef (.bool (decide (kind = 11))))] ?_ fun f28 => ?_)
   ·cases h27 : (decide (kind = 8)) with
    | false =>
     replace h27 := df h27
     refine JLq (pp b1 0) (ZG rfl rfl) <| JLr (Zd ty3 rfl (At.bx 0 rfl) (ZU ..) <| JLn (Pu.eql rfl rfl) ?_)
     exact Zb ⟨⟨rfl, trivial⟩, rfl⟩
    | true =>
     exact Zx rfl ⟨rfl, trivial⟩
   refine JLn (Pu.pickOr rfl rfl rfl) <| JLM rfl <| Zv 3 [98, 99, 100] [(100, cond ((decide (kind = 8)) || (decide (kind = 11))) (.bool (decide (num < 0 ∨ 7 < num))) undef)] ?_ fun f30 => ?_
   ·cases h29 : ((decide (kind = 8)) || (decide (kind = 11))) with
    | true =>
     refine JLq (pp b1 1) (Ya rfl rfl) <| JLr (Zd ty3 rfl (At.bx 0 rfl) (Yn ..) <| Jc Tryz.call152 rfl (fun hin => offR_ct _ _ _ _) rfl ?_)
     rintro _ _ ⟨rfl, rfl⟩
     exact Zb ⟨⟨rfl, trivial⟩, rfl⟩
    | false =>
     exact Zx rfl ⟨rfl, trivial⟩
   refine JLn (Pu.pickAnd rfl rfl rfl) ?_
   exact Zb ⟨⟨rfl, trivial⟩, rfl⟩
  | true =>
   exact Zx rfl ⟨rfl, trivial⟩
 refine JLn (Pu.pickOr rfl rfl rfl) <| Zb <| Zf rfl (fun h32 => ?_) (fun h32 => ?_)
 ·refine Zc <| Za <| JLA rfl <| Zb <| Zm <| ⟨iv 3, [], Ret.one rfl (RV.tmp rfl), Sub.nil, ?_⟩
  have hx : nHead d m b kind num ref kids.length cases.length = 3 := by simp only [nHead]; (repeat' split) <;> first | rfl | omega | (exfalso; simp_all; done) | (exfalso; simp_all; omega) | grind
  exact ⟨by rw [nErr, hx]; rfl, rfl⟩
 obtain ⟨h32a, h32b⟩ := orF h32
 obtain ⟨h32aa, h32ab⟩ := orF h32a
 refine Zj <| Zc <| Zc <| Za <| JLq (pp b1 0) (ZG rfl rfl) <| JLr (Zd ty3 rfl (At.bx 0 rfl) (ZU ..) <| JLn (Pu.eql rfl rfl) <| JLM rfl <| Zv 17 [107, 108, 109, 110, 111, 112, 113, 114, 115, 116, 117, 118, 119, 120, 121, 122, 123] [(123, cond (decide (kind = 1)) (.bool ((decide (num < 0)) || ((decide (b ≤ num)) && (decide (d ≤ num - b))))) undef)] ?_ fun f38 => ?_)
 ·cases h33 : (decide (kind = 1)) with
  | true =>
   replace h33 := dt h33
   refine JLq (pp b1 1) (Ya rfl rfl) <| JLr (Zd ty3 rfl (At.bx 0 rfl) (Yn ..) <| JLn (Pu.lss rfl rfl) <| JLM rfl <| Zv 12 [111, 112, 113, 114, 115, 116, 117, 118, 119, 120, 121, 122] [(122, cond (decide (num < 0)) undef (.bool ((decide (b ≤ num)) && (decide (d ≤ num - b)))))] ?_ fun f37 => ?_)
   ·cases h34 : (decide (num < 0)) with
    | false =>
     replace h34 := df h34
     refine JLq (pp b1 1) (Ya rfl rfl) <| JLr (Zd ty3 rfl (At.bx 0 rfl) (Yn ..) <| JLM rfl <| JLn (Pu.geq rfl rfl) <| JLM rfl <| Zv 6 [116, 117, 118, 119, 120, 121] [(121, cond (decide (b ≤ num)) (.bool (decide (d ≤ num - b))) undef)] ?_ fun f36 => ?_)
     ·cases h35 : (decide (b ≤ num)) with
      | true =>
       replace h35 := dt h35
       refine JLq (pp b1 1) (Ya rfl rfl) <| JLr (Zd ty3 rfl (At.bx 0 rfl) (Yn ..) <| JLM rfl <| JLn (Pu.sub64 rfl rfl (by first | omega | (constructor <;> omega))) <| JLM rfl <| JLn (Pu.geq rfl rfl) ?_)
       exact Zb ⟨⟨rfl, trivial⟩, rfl⟩
      | false =>
       exact Zx rfl ⟨rfl, trivial⟩
     refine JLn (Pu.pickAnd rfl rfl rfl) ?_
     exact Zb ⟨⟨rfl, trivial⟩, rfl⟩
    | true =>
     exact Zx rfl ⟨rfl, trivial⟩
   refine JLn (Pu.pickOr rfl rfl rfl) ?_
   exact Zb ⟨⟨rfl, trivial⟩, rfl⟩
  | false =>
   exact Zx rfl ⟨rfl, trivial⟩
 refine JLn (Pu.pickAnd rfl rfl rfl) <| JLM rfl <| Zv 14 [126, 127, 128, 129, 130, 131, 132, 133, 134, 135, 136, 137, 138, 139] [(139, cond ((decide (kind = 1)) && ((decide (num < 0)) || ((decide (b ≤ num)) && (decide (d ≤ num - b))))) undef (.bool ((decide (kind = 7)) && ((decide (num < 0)) || (decide (m ≤ num))))))] ?_ fun f44 => ?_
 ·cases h39 : ((decide (kind = 1)) && ((decide (num < 0)) || ((decide (b ≤ num)) && (decide (d ≤ num - b))))) with
  | false =>
   refine JLq (pp b1 0) (ZG rfl rfl) <| JLr (Zd ty3 rfl (At.bx 0 rfl) (ZU ..) <| JLn (Pu.eql rfl rfl) <| JLM rfl <| Zv 9 [130, 131, 132, 133, 134, 135, 136, 137, 138] [(138, cond (decide (kind = 7)) (.bool ((decide (num < 0)) || (decide (m ≤ num)))) undef)] ?_ fun f43 => ?_)
   ·cases h40 : (decide (kind = 7)) with
    | true =>
     replace h40 := dt h40
     refine JLq (pp b1 1) (Ya rfl rfl) <| JLr (Zd ty3 rfl (At.bx 0 rfl) (Yn ..) <| JLn (Pu.lss rfl rfl) <| JLM rfl <| Zv 4 [134, 135, 136, 137] [(137, cond (decide (num < 0)) undef (.bool (decide (m ≤ num))))] ?_ fun f42 => ?_)
     ·cases h41 : (decide (num < 0)) with
      | false =>
       replace h41 := df h41
       refine JLq (pp b1 1) (Ya rfl rfl) <| JLr (Zd ty3 rfl (At.bx 0 rfl) (Yn ..) <| JLM rfl <| JLn (Pu.geq rfl rfl) ?_)
       exact Zb ⟨⟨rfl, trivial⟩, rfl⟩
      | true =>
       exact Zx rfl ⟨rfl, trivial⟩
     refine JLn (Pu.pickOr rfl rfl rfl) ?_
     exact Zb ⟨⟨rfl, trivial⟩, rfl⟩
    | false =>
     exact Zx rfl ⟨rfl, trivial⟩
   refine JLn (Pu.pickAnd rfl rfl rfl) ?_
   exact Zb ⟨⟨rfl, trivial⟩, rfl⟩
  | true =>
   exact Zx rfl ⟨rfl, trivial⟩
 refine JLn (Pu.pickOr rfl rfl rfl) <| Zb <| Zf rfl (fun h45 => ?_) (fun h45 => ?_)
 ·refine Zc <| Za <| JLA rfl <| Zb <| Zm <| ⟨iv 1, [], Ret.one rfl (RV.tmp rfl), Sub.nil, ?_⟩
  have hx : nHead d m b kind num ref kids.length cases.length = 1 := by simp only [nHead]; (repeat' split) <;> first | rfl | omega | (exfalso; simp_all; done) | (exfalso; simp_all; omega) | grind
  exact ⟨by rw [nErr, hx]; rfl, rfl⟩
 obtain ⟨h45a, h45b⟩ := orF h45
 refine Zj <| Zc <| Zc <| Za <| JLA rfl <| Zb <| Zk <| ZF (fun k ρ M => ∃ (j : Nat), ρ 1 = iv d ∧ ρ 2 = iv m ∧ ρ 3 = iv b ∧ ρ 4 = pp b1 0 ∧ ρ 8 = iv 0 ∧ ρ 11 = iv ((j : Int)) ∧ Sub [(BX b1 (pkT kind num ref ks cv) 27)] M ∧ j ≤ cases.length ∧ nHead d m b kind num ref kids.length cases.length = 0 ∧ pErrRC (cases.drop j) = pErrRC cases ∧ k = cases.length - j) _ ⟨0, rfl, rfl, rfl, rfl, rfl, rfl, (Sk Sub.nil), Nat.zero_le _, (by simp only [nHead]; (repeat' split) <;> first | rfl | omega | (exfalso; simp_all; done) | (exfalso; simp_all; omega) | grind), rfl, rfl⟩ ?_
 rintro _ ρ46 _ ⟨j, e47, e48, e49, e50, e51, e52, hm53, hj, hh, hinv, rfl⟩
 obtain ⟨ρ54, rfl⟩ := Zu (uc e47 (uc e48 (uc e49 (uc e50 (uc e51 (uc e52 un))))))
 clear e47 e48 e49 e50 e51 e52
 refine ZI hm53 ?_
 have hlen := hcv.le
 refine Zc <| Zc <| Za <| JLM rfl <| JLq (pp b1 35) (ZP rfl rfl) <| JLr (Zd Ym rfl (At.bx 0 rfl) (ZO ..) ?_)
 obtain ⟨a55, cap55, hv55⟩ := hcv.sl
 have hle55 := hcv.le
 refine JLn (Pu.lenSl Tryz.runUnderlying25 hv55) <| JLn (Pu.lss rfl rfl) <| Zb <| Zf rfl (fun h56 => ?_) (fun h56 => ?_)
 ·replace h56 := dt h56
  have h56n : j < cases.length := by omega
  refine Zj <| Zc <| Zk <| Zc <| Za <| JLq (pp b1 35) (ZP rfl rfl) <| JLr (Zd Ym rfl (At.bx 0 rfl) (ZO ..) <| JLM rfl ?_)
  obtain ⟨b57, o57, cap57, row57, T57, fr57, cs57, hv57, hb57, hs57, hE57⟩ := hcv.get j (by first | assumption | omega | decide | simp)
  obtain ⟨ca57, cb57, rfl, hA57, hB57⟩ := hE57
  refine JLq (pp b57 (o57 + j * 71)) (Pu.idx j Tryz.runUnderlying25 Yl hv57 rfl rfl (by first | assumption | omega | decide | simp)) <| JLq (pp b57 (o57 + j * 71)) (YE rfl rfl) <| JLr (Zg ZQ rfl (At.im hb57) (sub_sub0 hs57 (Y3 (Zz hA57))) <| Jc Tryz.call155 rfl (fun hin => patternErrorR_ct _ _ _ (RP.mono (Hle.hu _ _) hA57)) rfl ?_)
  rintro _ _ ⟨rfl, rfl⟩
  refine JLA rfl <| Zb <| Zc <| Za <| JLM rfl <| JLn (Pu.neq rfl rfl) <| Zb <| Zf rfl (fun h58 => ?_) (fun h58 => ?_)
  ·replace h58 := nt h58
   replace h58 := df h58
   refine Zc <| Za <| JLM rfl <| JLA rfl <| Zb <| Zm <| ⟨iv (pErrR (cases[j].1)), [], Ret.one rfl (RV.tmp rfl), Sub.nil, ?_⟩
   exact ⟨by rw [nErr, if_pos hh, ← hinv, ZT h56n, pErrRC, if_neg h58, if_neg h58], rfl⟩
  replace h58 := nf h58
  replace h58 := dt h58
  refine Zj <| Za <| JLM rfl <| JLn (Pu.inc rfl rfl (by omega)) <| JLA rfl <| Zb <| ⟨_, ?_, (j + 1), rfl, rfl, rfl, rfl, rfl, rfl, (Sk Sub.nil), ?_, ?_, ?_, rfl⟩
  ·omega
  ·omega
  ·assumption
  rw [ZT h56n, pErrRC, if_pos h58] at hinv; exact hinv
 replace h56 := df h56
 have h56n : cases.length ≤ j := by omega
 refine Zy _ rfl <| Zc <| Zc <| Za <| JLA rfl <| Zb <| Zk <| ZF (fun k ρ M => ∃ (j : Nat), ρ 1 = iv d ∧ ρ 2 = iv m ∧ ρ 3 = iv b ∧ ρ 4 = pp b1 0 ∧ ρ 8 = iv 0 ∧ ρ 13 = iv ((j : Int)) ∧ Sub [(BX b1 (pkT kind num ref ks cv) 27)] M ∧ j ≤ kids.length ∧ pErrRC cases = 0 ∧ nErrK d m b kind j (kids.drop j) = nErrK d m b kind 0 kids ∧ k = kids.length - j) _ ⟨0, rfl, rfl, rfl, rfl, rfl, rfl, (Sk Sub.nil), Nat.zero_le _, (by rw [← hinv, YL h56n]; rfl), rfl, rfl⟩ ?_
 rintro _ ρ59 _ ⟨j, e60, e61, e62, e63, e64, e65, hm66, hj, h1, hinv, rfl⟩
 obtain ⟨ρ67, rfl⟩ := Zu (uc e60 (uc e61 (uc e62 (uc e63 (uc e64 (uc e65 un))))))
 clear e60 e61 e62 e63 e64 e65
 refine ZI hm66 ?_
 have hlen := hks.le
 refine Zc <| Zc <| Za <| JLM rfl <| JLq (pp b1 34) (ZY rfl rfl) <| JLr (Zd YA rfl (At.bx 0 rfl) (ZV ..) ?_)
 obtain ⟨a68, cap68, hv68⟩ := hks.sl
 have hle68 := hks.le
 refine JLn (Pu.lenSl Tryz.runUnderlying24 hv68) <| JLn (Pu.lss rfl rfl) <| Zb <| Zf rfl (fun h69 => ?_) (fun h69 => ?_)
 ·replace h69 := dt h69
  have h69n : j < kids.length := by omega
  have hs1 := YY _ (List.getElem_mem h69n)
  have hm1 := more_le kind j
  refine Zj <| Zc <| Zk <| Zc <| ZC mixed #[0, 1, 0, 7, 15, 0, 0, 0, 0, 256, 0, 1792, 3968, 8191, 16383] 13 [some 165, some 166, some 167, some 168, some 169, some 170, some 171, some 172, some 173, some 174, some 175, some 176, some 177] [] [(11, fun _ _ vw qw => vw = iv (Z4 kind ((j : Int))) ∧ qw = [])] rfl (by kernel_rfl) rfl (by kernel_rfl) <| Dq (pp b1 34) (fun _ => ZY rfl rfl) <| Dl1 YA (At.bx 0 rfl) (ZV ..) <| DM (fun _ => rfl) ?_
  obtain ⟨b71, o71, cap71, row71, T71, fr71, cs71, hv71, hb71, hs71, hE71⟩ := hks.get j (by first | assumption | omega | decide | simp)
  refine Dq (pp b71 (o71 + j * 36)) (fun _ => Pu.idx j Tryz.runUnderlying24 Zt hv71 rfl rfl (by first | assumption | omega | decide | simp)) <| Dl Zt (At.im hb71) hs71 <| DM (fun _ => rfl) <| DM (fun _ => rfl) <| DM (fun _ => rfl) <| Dq (pp b1 0) (fun _ => ZG rfl rfl) <| Dl1 ty3 (At.bx 0 rfl) (ZU ..) <| DM (fun _ => rfl) <| Dc rfl Tryz.call156 (fun _ => rfl) (fun hin => moreR_ct _ _ _) ?_
  rintro _ _ ⟨rfl, rfl⟩
  refine Dn (fun _ => Pu.add64 rfl rfl (by first | omega | (constructor <;> omega))) <| ZK (M' := [(BX b1 (pkT kind num ref ks cv) 27)]) rfl ?_
  show JL _ _ _ [_, _] _ _ _
  refine Jc Tryz.call117 rfl (fun hin => ih _ (List.getElem_mem h69n) _ _ _ _ _ (RT.mono (Hle.hu _ _) hE71) (by omega) (by omega)) rfl ?_
  rintro _ _ ⟨rfl, rfl⟩
  refine JLA rfl <| Zb <| Zc <| Za <| JLM rfl <| JLn (Pu.neq rfl rfl) <| Zb <| Zf rfl (fun h72 => ?_) (fun h72 => ?_)
  ·replace h72 := nt h72
   replace h72 := df h72
   refine Zc <| Za <| JLM rfl <| JLA rfl <| Zb <| Zm <| ⟨iv (nErr d m (b + (Z4 kind ((j : Int)))) (kids[j])), [], Ret.one rfl (RV.tmp rfl), Sub.nil, ?_⟩
   exact ⟨by rw [nErr, if_pos hh, if_pos h1, ← hinv, ZT h69n, nErrK, if_neg h72, if_neg h72], rfl⟩
  replace h72 := nf h72
  replace h72 := dt h72
  refine Zj <| Za <| JLM rfl <| JLn (Pu.inc rfl rfl (by omega)) <| JLA rfl <| Zb <| ⟨_, ?_, (j + 1), rfl, rfl, rfl, rfl, rfl, rfl, (Sk Sub.nil), ?_, ?_, ?_, rfl⟩
  ·omega
  ·omega
  ·assumption
  rw [ZT h69n, nErrK, if_pos h72] at hinv; exact hinv
 replace h69 := df h69
 have h69n : kids.length ≤ j := by omega
 refine Zy _ rfl <| Zc <| Zc <| Za <| JLA rfl <| Zb <| Zk <| ZF (fun k ρ M => ∃ (j : Nat), ρ 1 = iv d ∧ ρ 2 = iv m ∧ ρ 3 = iv b ∧ ρ 4 = pp b1 0 ∧ ρ 8 = iv 0 ∧ ρ 15 = iv ((j : Int)) ∧ Sub [(BX b1 (pkT kind num ref ks cv) 27)] M ∧ j ≤ cases.length ∧ nErrK d m b kind 0 kids = 0 ∧ nErrC d m b (cases.drop j) = nErrC d m b cases ∧ k = cases.length - j) _ ⟨0, rfl, rfl, rfl, rfl, rfl, rfl, (Sk Sub.nil), Nat.zero_le _, (by rw [← hinv, YL h69n]; rfl), rfl, rfl⟩ ?_
 rintro _ ρ73 _ ⟨j, e74, e75, e76, e77, e78, e79, hm80, hj, h2, hinv, rfl⟩
 obtain ⟨ρ81, rfl⟩ := Zu (uc e74 (uc e75 (uc e76 (uc e77 (uc e78 (uc e79 un))))))
 clear e74 e75 e76 e77 e78 e79
 refine ZI hm80 ?_
 have hlen := hcv.le
 refine Zc <| Zc <| Za <| JLM rfl <| JLq (pp b1 35) (ZP rfl rfl) <| JLr (Zd Ym rfl (At.bx 0 rfl) (ZO ..) ?_)
 obtain ⟨a82, cap82, hv82⟩ := hcv.sl
 have hle82 := hcv.le
 refine JLn (Pu.lenSl Tryz.runUnderlying25 hv82) <| JLn (Pu.lss rfl rfl) <| Zb <| Zf rfl (fun h83 => ?_) (fun h83 => ?_)
 ·replace h83 := dt h83
  have h83n : j < cases.length := by omega
  have hs1 := Yp _ (List.getElem_mem h83n)
  have hm1 := binds_le (cases[j]).1
  refine Zj <| Zc <| Zk <| Zc <| ZC mixed #[0, 1, 0, 7, 15, 31, 0, 0, 0, 0, 512, 0, 3584, 7680, 15872, 32256, 65280, 131071, 262143] 17 [some 189, some 190, some 191, some 192, some 193, some 194, some 195, some 196, some 197, some 198, some 199, some 200, some 201, some 202, some 203, some 204, some 205] [] [(15, fun _ _ vw qw => vw = iv ((binds (cases[j].1) : Int)) ∧ qw = [])] rfl (by kernel_rfl) rfl (by kernel_rfl) <| Dq (pp b1 35) (fun _ => ZP rfl rfl) <| Dl1 Ym (At.bx 0 rfl) (ZO ..) <| DM (fun _ => rfl) ?_
  obtain ⟨b86, o86, cap86, row86, T86, fr86, cs86, hv86, hb86, hs86, hE86⟩ := hcv.get j (by first | assumption | omega | decide | simp)
  obtain ⟨ca86, cb86, rfl, hA86, hB86⟩ := hE86
  refine Dq (pp b86 (o86 + j * 71)) (fun _ => Pu.idx j Tryz.runUnderlying25 Yl hv86 rfl rfl (by first | assumption | omega | decide | simp)) <| Dq (pp b86 (o86 + j * 71 + 35)) (fun _ => Y9 rfl rfl) <| Dl Zt (At.im hb86) (sub_sub hs86 (sub_r (Zz hA86) (Zq hB86))) <| DM (fun _ => rfl) <| DM (fun _ => rfl) <| DM (fun _ => rfl) <| Dq (pp b1 35) (fun _ => ZP rfl rfl) <| Dl1 Ym (At.bx 0 rfl) (ZO ..) <| DM (fun _ => rfl) ?_
  obtain ⟨b87, o87, cap87, row87, T87, fr87, cs87, hv87, hb87, hs87, hE87⟩ := hcv.get j (by first | assumption | omega | decide | simp)
  obtain ⟨ca87, cb87, rfl, hA87, hB87⟩ := hE87
  refine Dq (pp b87 (o87 + j * 71)) (fun _ => Pu.idx j Tryz.runUnderlying25 Yl hv87 rfl rfl (by first | assumption | omega | decide | simp)) <| Dq (pp b87 (o87 + j * 71)) (fun _ => YE rfl rfl) <| Dl ZQ (At.im hb87) (sub_sub0 hs87 (Y3 (Zz hA87))) ?_
  refine Dc rfl Tryz.call157 (fun _ => rfl) (fun hin => bindsR_ct _ _ _ (RP.mono (Hle.hu _ _) hA87) (by omega)) ?_
  rintro _ _ ⟨rfl, rfl⟩
  refine Dn (fun _ => Pu.add64 rfl rfl (by first | omega | (constructor <;> omega))) <| ZK (M' := [(BX b1 (pkT kind num ref ks cv) 27)]) rfl ?_
  show JL _ _ _ [_, _] _ _ _
  refine Jc Tryz.call117 rfl (fun hin => ih' _ (List.getElem_mem h83n) _ _ _ _ _ (RT.mono (Hle.hu _ _) hB86) (by omega) (by omega)) rfl ?_
  rintro _ _ ⟨rfl, rfl⟩
  refine JLA rfl <| Zb <| Zc <| Za <| JLM rfl <| JLn (Pu.neq rfl rfl) <| Zb <| Zf rfl (fun h88 => ?_) (fun h88 => ?_)
  ·replace h88 := nt h88
   replace h88 := df h88
   refine Zc <| Za <| JLM rfl <| JLA rfl <| Zb <| Zm <| ⟨iv (nErr d m (b + ((binds (cases[j].1) : Int))) (cases[j].2)), [], Ret.one rfl (RV.tmp rfl), Sub.nil, ?_⟩
   exact ⟨by rw [nErr, if_pos hh, if_pos h1, if_pos h2, ← hinv, ZT h83n, nErrC, if_neg h88], rfl⟩
  replace h88 := nf h88
  replace h88 := dt h88
  refine Zj <| Za <| JLM rfl <| JLn (Pu.inc rfl rfl (by omega)) <| JLA rfl <| Zb <| ⟨_, ?_, (j + 1), rfl, rfl, rfl, rfl, rfl, rfl, (Sk Sub.nil), ?_, ?_, ?_, rfl⟩
  ·omega
  ·omega
  ·assumption
  rw [ZT h83n, nErrC, if_pos h88] at hinv; exact hinv
 replace h83 := df h83
 have h83n : cases.length ≤ j := by omega
 refine Zy _ rfl <| Zc <| Za <| JLA rfl <| Zb <| Zm <| ⟨iv 0, [], Ret.one rfl (RV.tmp rfl), Sub.nil, ?_⟩
 exact ⟨by rw [nErr, if_pos hh, if_pos h1, if_pos h2, ← hinv, YL h83n]; rfl, rfl⟩
end Go.Proofs.YtfdeibbpfgolcaaGreat.Hs
/-! Walks, printed by a program of this session's own (gen.py). -/
namespace Go.Proofs.YtfdeibbpfgolcaaGreat.Hs
open Go Go.Proofs
set_option maxRecDepth 100000
set_option linter.unusedVariables false
set_option linter.unusedSimpArgs false
attribute [local irreducible] JL J CT wlo DT
theorem known_ct (n b d : Int) (H : Heap) (bD : Nat) (hD : H bD = some (.cells ⟨[iv d]⟩ 3 (0, 0))) (hb0 : 0 ≤ b) (hb1 : b ≤ 1000000) (hn1 : -9223372036854775808 ≤ n) (hn2 : n ≤ 9223372036854775807) : CT Tryz.prog 90 ⟨[iv n, iv b, pp bD 0]⟩ [] H (fun v N => v = .bool (knownB d n b) ∧ N = []) := by
 refine Zn Tryz.func90 rfl rfl <| Zc <| Za <| JLA rfl <| Zb <| Zc <| Za <| JLM rfl <| JLn (Pu.geq rfl rfl) <| JLM rfl <| Zv 10 [9, 10, 11, 12, 13, 14, 15, 16, 17, 18] [(18, cond (decide (0 ≤ n)) (.bool ((decide (n < b)) || (decide (n - b < d)))) undef)] ?_ fun f4 => ?_
 ·cases h1 : (decide (0 ≤ n)) with
  | true =>
   replace h1 := dt h1
   refine JLM rfl <| JLM rfl <| JLn (Pu.lss rfl rfl) <| JLM rfl <| Zv 5 [13, 14, 15, 16, 17] [(17, cond (decide (n < b)) undef (.bool (decide (n - b < d))))] ?_ fun f3 => ?_
   ·cases h2 : (decide (n < b)) with
    | false =>
     replace h2 := df h2
     refine JLM rfl <| JLM rfl <| JLn (Pu.sub64 rfl rfl (by first | omega | (constructor <;> omega))) <| JLr (Zd ty3 rfl (At.im hD) rfl <| JLn (Pu.lss rfl rfl) ?_)
     exact Zb ⟨⟨rfl, trivial⟩, rfl⟩
    | true =>
     exact Zx rfl ⟨rfl, trivial⟩
   refine JLn (Pu.pickOr rfl rfl rfl) ?_
   exact Zb ⟨⟨rfl, trivial⟩, rfl⟩
  | false =>
   exact Zx rfl ⟨rfl, trivial⟩
 refine JLn (Pu.pickAnd rfl rfl rfl) <| JLA rfl <| Zb <| Zm <| ⟨.bool ((decide (0 ≤ n)) && ((decide (n < b)) || (decide (n - b < d)))), [], Ret.one rfl (RV.tmp rfl), Sub.nil, ?_⟩
 exact ⟨rfl, rfl⟩
set_option maxHeartbeats 2000000 in
theorem chkTerm_ct (kind num : Int) (ref : Sm) (ks cv : Value) (kids : List Tm) (cases : List (Pt × Tm)) (d m b : Int) (H : Heap) (bD : Nat) (hks : rdS RT 36 H ks kids) (hcv : rdS RC 71 H cv cases) (hD : H bD = some (.cells ⟨[iv d]⟩ 3 (0, 0))) (hb0 : 0 ≤ b) (hb1 : b ≤ 1000000) (hn1 : -9223372036854775808 ≤ num) (hn2 : num ≤ 9223372036854775807) : CT Tryz.prog 114 ⟨[.agg ⟨[iv m, .func (.func 90) ⟨[]⟩ ⟨[pp bD 0]⟩]⟩, .agg ⟨pkT kind num ref ks cv⟩, iv b]⟩ [] H (fun v N => v = iv (Yt d m b kind num ref kids.length cases.length) ∧ N = []) := by
 refine Zn Tryz.func114 rfl rfl <| Zc <| Za <| JLr (Zo (l := [iv m, .func (.func 90) ⟨[]⟩ ⟨[pp bD 0]⟩]) rfl rfl fun b1 => JLr (Zo (l := pkT kind num ref ks cv) rfl rfl fun b2 => JLA rfl <| Zb <| Zc <| Zk <| Zc <| Za <| JLq (pp b2 0) (ZG rfl rfl) <| JLr (Zd ty3 rfl (At.bx 0 rfl) (ZU ..) ?_)))
 refine Jc Tryz.call79 rfl (fun hin => YD _ _ _ _) rfl ?_
 rintro _ _ ⟨rfl, rfl⟩
 refine JLA rfl <| Zb <| Zf rfl (fun h3 => ?_) (fun h3 => ?_)
 ·replace h3 := dt h3
  refine Zc <| Za <| JLA rfl <| Zb <| Zm <| ⟨iv 3, [], Ret.one rfl (RV.tmp rfl), Sub.nil, ?_⟩
  exact ⟨by refine congrArg (Value.int .i64) ?_; simp only [Yt]; (repeat' split) <;> first | rfl | omega | (exfalso; simp_all; done) | (exfalso; simp_all; omega) | grind, rfl⟩
 replace h3 := df h3
 refine Zc <| ZC mixed #[0, 1, 3, 0, 8, 0, 32, 0, 128, 384, 1023, 2047] 10 [some 13, some 14, some 15, some 16, some 17, some 18, some 19, some 20, some 21, some 22] [] [(2, fun _ _ vw qw => vw = .agg ⟨[.bool (fN kind), .bool (fR kind), .bool (fC kind)]⟩ ∧ qw = [])] rfl (by kernel_rfl) rfl (by kernel_rfl) <| Dq (pp b2 0) (fun _ => ZG rfl rfl) <| Dl1 ty3 (At.bx 0 rfl) (ZU ..) <| Dc rfl Tryz.call60 (fun _ => rfl) (fun hin => fields_ct _ _) ?_
 rintro _ _ ⟨rfl, rfl⟩
 refine Dq (pp b2 1) (fun _ => Ya rfl rfl) <| Dl1 ty3 (At.bx 0 rfl) (Yn ..) <| Dq (pp b2 2) (fun _ => Yq rfl rfl) <| Dl ZR (At.bx 0 rfl) (Y5 ..) <| Dq (pp b2 35) (fun _ => ZP rfl rfl) <| Dl1 Ym (At.bx 0 rfl) (ZO ..) ?_
 obtain ⟨a5, cap5, hv5⟩ := hcv.sl
 have hle5 := hcv.le
 refine Dn (fun _ => Pu.lenSl Tryz.runUnderlying25 hv5) <| ZK (M' := [(BX b2 (pkT kind num ref ks cv) 27), (BX b1 [iv m, .func (.func 90) ⟨[]⟩ ⟨[pp bD 0]⟩] 149)]) rfl ?_
 show JL _ _ _ [_, _] _ _ _
 refine Jc Tryz.call148 rfl (fun hin => clash_ct _ _ _ _ _ _ _) rfl ?_
 rintro _ _ ⟨rfl, rfl⟩
 refine JLA rfl <| Zb <| Zf rfl (fun h6 => ?_) (fun h6 => ?_)
 ·refine Zc <| Za <| JLA rfl <| Zb <| Zm <| ⟨iv 7, [], Ret.one rfl (RV.tmp rfl), Sub.nil, ?_⟩
  exact ⟨by refine congrArg (Value.int .i64) ?_; simp only [Yt]; (repeat' split) <;> first | rfl | omega | (exfalso; simp_all; done) | (exfalso; simp_all; omega) | grind, rfl⟩
 refine Zc <| Za <| JLq (pp b2 0) (ZG rfl rfl) <| JLr (Zd ty3 rfl (At.bx 0 rfl) (ZU ..) <| JLq (pp b2 34) (ZY rfl rfl) <| JLr (Zd YA rfl (At.bx 0 rfl) (ZV ..) ?_))
 obtain ⟨a7, cap7, hv7⟩ := hks.sl
 have hle7 := hks.le
 refine JLn (Pu.lenSl Tryz.runUnderlying24 hv7) <| Jc Tryz.call149 rfl (fun hin => kidsT_ct _ _ _) rfl ?_
 rintro _ _ ⟨rfl, rfl⟩
 refine JLn (Pu.not rfl) <| JLM rfl <| Zv 4 [33, 34, 35, 36] [(36, cond (!(kidsB kind ((kids.length : Int)))) undef (.bool (decide (8 < (cases.length : Int)))))] ?_ fun f10 => ?_
 ·cases h8 : (!(kidsB kind ((kids.length : Int)))) with
  | false =>
   replace h8 := nf h8
   refine JLq (pp b2 35) (ZP rfl rfl) <| JLr (Zd Ym rfl (At.bx 0 rfl) (ZO ..) ?_)
   obtain ⟨a9, cap9, hv9⟩ := hcv.sl
   have hle9 := hcv.le
   refine JLn (Pu.lenSl Tryz.runUnderlying25 hv9) <| JLn (Pu.gtr rfl rfl) ?_
   exact Zb ⟨⟨rfl, trivial⟩, rfl⟩
  | true =>
   exact Zx rfl ⟨rfl, trivial⟩
 refine JLn (Pu.pickOr rfl rfl rfl) <| JLA rfl <| Zb <| Zf rfl (fun h11 => ?_) (fun h11 => ?_)
 ·refine Zc <| Za <| JLA rfl <| Zb <| Zm <| ⟨iv 2, [], Ret.one rfl (RV.tmp rfl), Sub.nil, ?_⟩
  exact ⟨by refine congrArg (Value.int .i64) ?_; simp only [Yt]; (repeat' split) <;> first | rfl | omega | (exfalso; simp_all; done) | (exfalso; simp_all; omega) | grind, rfl⟩
 obtain ⟨h11a, h11b⟩ := orF h11
 replace h11a := nf h11a
 replace h11b := df h11b
 refine Zj <| Zc <| Za <| JLA rfl <| Zb <| Zc <| Zc <| Za <| JLq (pp b2 0) (ZG rfl rfl) <| JLr (Zd ty3 rfl (At.bx 0 rfl) (ZU ..) <| Zb <| Zk <| Zc ?_)
 refine Za <| JLn (Pu.eql rfl rfl) <| JLA rfl <| Zb <| Zf rfl (fun h12 => ?_) (fun h12 => ?_)
 ·replace h12 := dt h12
  refine Zc <| Za <| JLq (pp b2 1) (Ya rfl rfl) <| JLr (Zd ty3 rfl (At.bx 0 rfl) (Yn ..) <| Jc Tryz.call79 rfl (fun hin => YD _ _ _ _) rfl ?_)
  rintro _ _ ⟨rfl, rfl⟩
  refine Zb <| Zf rfl (fun h13 => ?_) (fun h13 => ?_)
  ·replace h13 := dt h13
   refine Zc <| Za <| JLA rfl <| Zb <| Zm <| ⟨iv 3, [], Ret.one rfl (RV.tmp rfl), Sub.nil, ?_⟩
   exact ⟨by refine congrArg (Value.int .i64) ?_; simp only [Yt]; (repeat' split) <;> first | rfl | omega | (exfalso; simp_all; done) | (exfalso; simp_all; omega) | grind, rfl⟩
  replace h13 := df h13
  refine Zj <| Zc <| Zc <| Za <| JLq (pp b2 0) (ZG rfl rfl) <| JLr (Zd ty3 rfl (At.bx 0 rfl) (ZU ..) <| JLn (Pu.eql rfl rfl) <| JLM rfl <| Zv 3 [73, 74, 75] [(75, cond (decide (kind = 2)) undef (.bool (decide (kind = 8))))] ?_ fun f15 => ?_)
  ·cases h14 : (decide (kind = 2)) with
   | false =>
    replace h14 := df h14
    refine JLq (pp b2 0) (ZG rfl rfl) <| JLr (Zd ty3 rfl (At.bx 0 rfl) (ZU ..) <| JLn (Pu.eql rfl rfl) ?_)
    exact Zb ⟨⟨rfl, trivial⟩, rfl⟩
   | true =>
    exact Zx rfl ⟨rfl, trivial⟩
  refine JLn (Pu.pickOr rfl rfl rfl) <| JLM rfl <| Zv 3 [78, 79, 80] [(80, cond ((decide (kind = 2)) || (decide (kind = 8))) undef (.bool (decide (kind = 11))))] ?_ fun f17 => ?_
  ·cases h16 : ((decide (kind = 2)) || (decide (kind = 8))) with
   | false =>
    obtain ⟨h16a, h16b⟩ := orF h16
    replace h16a := df h16a
    replace h16b := df h16b
    refine JLq (pp b2 0) (ZG rfl rfl) <| JLr (Zd ty3 rfl (At.bx 0 rfl) (ZU ..) <| JLn (Pu.eql rfl rfl) ?_)
    exact Zb ⟨⟨rfl, trivial⟩, rfl⟩
   | true =>
    exact Zx rfl ⟨rfl, trivial⟩
  refine JLn (Pu.pickOr rfl rfl rfl) <| JLM rfl <| Zv 4 [83, 84, 85, 86] [(86, cond (((decide (kind = 2)) || (decide (kind = 8))) || (decide (kind = 11))) (.bool (decide (num < 0 ∨ 1073741824 < num))) undef)] ?_ fun f19 => ?_
  ·cases h18 : (((decide (kind = 2)) || (decide (kind = 8))) || (decide (kind = 11))) with
   | true =>
    refine JLq (pp b2 1) (Ya rfl rfl) <| JLr (Zd ty3 rfl (At.bx 0 rfl) (Yn ..) <| JLM rfl <| Jc Tryz.call79 rfl (fun hin => YD _ _ _ _) rfl ?_)
    rintro _ _ ⟨rfl, rfl⟩
    exact Zb ⟨⟨rfl, trivial⟩, rfl⟩
   | false =>
    exact Zx rfl ⟨rfl, trivial⟩
  refine JLn (Pu.pickAnd rfl rfl rfl) <| Zb <| Zf rfl (fun h20 => ?_) (fun h20 => ?_)
  ·obtain ⟨h20a, h20b⟩ := YM h20
   replace h20b := dt h20b
   refine Zc <| Za <| JLA rfl <| Zb <| Zm <| ⟨iv 3, [], Ret.one rfl (RV.tmp rfl), Sub.nil, ?_⟩
   exact ⟨by refine congrArg (Value.int .i64) ?_; simp only [Yt]; (repeat' split) <;> first | rfl | omega | (exfalso; simp_all; done) | (exfalso; simp_all; omega) | grind, rfl⟩
  refine Zj <| Zc <| Za <| JLA rfl <| Zb <| Zm <| ⟨iv 0, [], Ret.one rfl (RV.tmp rfl), Sub.nil, ?_⟩
  exact ⟨by refine congrArg (Value.int .i64) ?_; simp only [Yt]; (repeat' split) <;> first | rfl | omega | (exfalso; simp_all; done) | (exfalso; simp_all; omega) | grind, rfl⟩
 replace h12 := df h12
 refine Zc <| Zc <| Za <| JLn (Pu.eql rfl rfl) <| JLA rfl <| Zb <| Zf rfl (fun h21 => ?_) (fun h21 => ?_)
 ·replace h21 := dt h21
  refine Zj <| Zf rfl (fun _ => ?_) (fun h22 => absurd h21 (df h22))
  refine Za <| JLA rfl <| Zb <| Zc <| Zc <| Za <| JLq (pp b2 0) (ZG rfl rfl) <| JLr (Zd ty3 rfl (At.bx 0 rfl) (ZU ..) <| JLn (Pu.eql rfl rfl) <| JLM rfl <| Zv 3 [73, 74, 75] [(75, cond (decide (kind = 2)) undef (.bool (decide (kind = 8))))] ?_ fun f24 => ?_)
  ·cases h23 : (decide (kind = 2)) with
   | false =>
    replace h23 := df h23
    refine JLq (pp b2 0) (ZG rfl rfl) <| JLr (Zd ty3 rfl (At.bx 0 rfl) (ZU ..) <| JLn (Pu.eql rfl rfl) ?_)
    exact Zb ⟨⟨rfl, trivial⟩, rfl⟩
   | true =>
    exact Zx rfl ⟨rfl, trivial⟩
  refine JLn (Pu.pickOr rfl rfl rfl) <| JLM rfl <| Zv 3 [78, 79, 80] [(80, cond ((decide (kind = 2)) || (decide (kind = 8))) undef (.bool (decide (kind = 11))))] ?_ fun f26 => ?_
  ·cases h25 : ((decide (kind = 2)) || (decide (kind = 8))) with
   | false =>
    obtain ⟨h25a, h25b⟩ := orF h25
    replace h25a := df h25a
    replace h25b := df h25b
    refine JLq (pp b2 0) (ZG rfl rfl) <| JLr (Zd ty3 rfl (At.bx 0 rfl) (ZU ..) <| JLn (Pu.eql rfl rfl) ?_)
    exact Zb ⟨⟨rfl, trivial⟩, rfl⟩
   | true =>
    exact Zx rfl ⟨rfl, trivial⟩
  refine JLn (Pu.pickOr rfl rfl rfl) <| JLM rfl <| Zv 4 [83, 84, 85, 86] [(86, cond (((decide (kind = 2)) || (decide (kind = 8))) || (decide (kind = 11))) (.bool (decide (num < 0 ∨ 7 < num))) undef)] ?_ fun f28 => ?_
  ·cases h27 : (((decide (kind = 2)) || (decide (kind = 8))) || (decide (kind = 11))) with
   | true =>
    refine JLq (pp b2 1) (Ya rfl rfl) <| JLr (Zd ty3 rfl (At.bx 0 rfl) (Yn ..) <| JLM rfl <| Jc Tryz.call79 rfl (fun hin => YD _ _ _ _) rfl ?_)
    rintro _ _ ⟨rfl, rfl⟩
    exact Zb ⟨⟨rfl, trivial⟩, rfl⟩
   | false =>
    exact Zx rfl ⟨rfl, trivial⟩
  refine JLn (Pu.pickAnd rfl rfl rfl) <| Zb <| Zf rfl (fun h29 => ?_) (fun h29 => ?_)
  ·obtain ⟨h29a, h29b⟩ := YM h29
   replace h29b := dt h29b
   refine Zc <| Za <| JLA rfl <| Zb <| Zm <| ⟨iv 3, [], Ret.one rfl (RV.tmp rfl), Sub.nil, ?_⟩
   exact ⟨by refine congrArg (Value.int .i64) ?_; simp only [Yt]; (repeat' split) <;> first | rfl | omega | (exfalso; simp_all; done) | (exfalso; simp_all; omega) | grind, rfl⟩
  refine Zj <| Zc <| Za <| JLA rfl <| Zb <| Zm <| ⟨iv 0, [], Ret.one rfl (RV.tmp rfl), Sub.nil, ?_⟩
  exact ⟨by refine congrArg (Value.int .i64) ?_; simp only [Yt]; (repeat' split) <;> first | rfl | omega | (exfalso; simp_all; done) | (exfalso; simp_all; omega) | grind, rfl⟩
 replace h21 := df h21
 refine Za <| JLn (Pu.eql rfl rfl) <| JLA rfl <| Zb <| Zf rfl (fun h30 => ?_) (fun h30 => ?_)
 ·replace h30 := dt h30
  refine Za <| JLA rfl <| Zb <| Zc <| Zc <| Za <| JLq (pp b2 0) (ZG rfl rfl) <| JLr (Zd ty3 rfl (At.bx 0 rfl) (ZU ..) <| JLn (Pu.eql rfl rfl) <| JLM rfl <| Zv 3 [73, 74, 75] [(75, cond (decide (kind = 2)) undef (.bool (decide (kind = 8))))] ?_ fun f32 => ?_)
  ·cases h31 : (decide (kind = 2)) with
   | false =>
    replace h31 := df h31
    refine JLq (pp b2 0) (ZG rfl rfl) <| JLr (Zd ty3 rfl (At.bx 0 rfl) (ZU ..) <| JLn (Pu.eql rfl rfl) ?_)
    exact Zb ⟨⟨rfl, trivial⟩, rfl⟩
   | true =>
    exact Zx rfl ⟨rfl, trivial⟩
  refine JLn (Pu.pickOr rfl rfl rfl) <| JLM rfl <| Zv 3 [78, 79, 80] [(80, cond ((decide (kind = 2)) || (decide (kind = 8))) undef (.bool (decide (kind = 11))))] ?_ fun f34 => ?_
  ·cases h33 : ((decide (kind = 2)) || (decide (kind = 8))) with
   | false =>
    obtain ⟨h33a, h33b⟩ := orF h33
    replace h33a := df h33a
    replace h33b := df h33b
    refine JLq (pp b2 0) (ZG rfl rfl) <| JLr (Zd ty3 rfl (At.bx 0 rfl) (ZU ..) <| JLn (Pu.eql rfl rfl) ?_)
    exact Zb ⟨⟨rfl, trivial⟩, rfl⟩
   | true =>
    exact Zx rfl ⟨rfl, trivial⟩
  refine JLn (Pu.pickOr rfl rfl rfl) <| JLM rfl <| Zv 4 [83, 84, 85, 86] [(86, cond (((decide (kind = 2)) || (decide (kind = 8))) || (decide (kind = 11))) (.bool (decide (num < 0 ∨ 7 < num))) undef)] ?_ fun f36 => ?_
  ·cases h35 : (((decide (kind = 2)) || (decide (kind = 8))) || (decide (kind = 11))) with
   | true =>
    refine JLq (pp b2 1) (Ya rfl rfl) <| JLr (Zd ty3 rfl (At.bx 0 rfl) (Yn ..) <| JLM rfl <| Jc Tryz.call79 rfl (fun hin => YD _ _ _ _) rfl ?_)
    rintro _ _ ⟨rfl, rfl⟩
    exact Zb ⟨⟨rfl, trivial⟩, rfl⟩
   | false =>
    exact Zx rfl ⟨rfl, trivial⟩
  refine JLn (Pu.pickAnd rfl rfl rfl) <| Zb <| Zf rfl (fun h37 => ?_) (fun h37 => ?_)
  ·obtain ⟨h37a, h37b⟩ := YM h37
   replace h37b := dt h37b
   refine Zc <| Za <| JLA rfl <| Zb <| Zm <| ⟨iv 3, [], Ret.one rfl (RV.tmp rfl), Sub.nil, ?_⟩
   exact ⟨by refine congrArg (Value.int .i64) ?_; simp only [Yt]; (repeat' split) <;> first | rfl | omega | (exfalso; simp_all; done) | (exfalso; simp_all; omega) | grind, rfl⟩
  refine Zj <| Zc <| Za <| JLA rfl <| Zb <| Zm <| ⟨iv 0, [], Ret.one rfl (RV.tmp rfl), Sub.nil, ?_⟩
  exact ⟨by refine congrArg (Value.int .i64) ?_; simp only [Yt]; (repeat' split) <;> first | rfl | omega | (exfalso; simp_all; done) | (exfalso; simp_all; omega) | grind, rfl⟩
 replace h30 := df h30
 refine Zc <| Za <| JLn (Pu.eql rfl rfl) <| JLA rfl <| Zb <| Zf rfl (fun h38 => ?_) (fun h38 => ?_)
 ·replace h38 := dt h38
  refine Zc <| Za <| JLq (pp b1 1) (fa149_1 rfl rfl) <| JLr (Zd ty147 rfl (At.bx 1 rfl) rfl <| JLq (pp b2 1) (Ya rfl rfl) <| JLr (Zd ty3 rfl (At.bx 0 rfl) (Yn ..) <| JLM rfl <| Jc Tryz.call90 rfl (fun hin => known_ct _ _ _ _ bD (Hle.hu _ _ _ _ hD) hb0 hb1 hn1 hn2) rfl ?_))
  rintro _ _ ⟨rfl, rfl⟩
  refine JLn (Pu.not rfl) <| Zb <| Zf rfl (fun h39 => ?_) (fun h39 => ?_)
  ·replace h39 := nt h39
   refine Zc <| Za <| JLA rfl <| Zb <| Zm <| ⟨iv 1, [], Ret.one rfl (RV.tmp rfl), Sub.nil, ?_⟩
   exact ⟨by refine congrArg (Value.int .i64) ?_; simp only [Yt]; (repeat' split) <;> first | rfl | omega | (exfalso; simp_all; done) | (exfalso; simp_all; omega) | grind, rfl⟩
  replace h39 := nf h39
  refine Zj <| Zc <| Zc <| Za <| JLq (pp b2 0) (ZG rfl rfl) <| JLr (Zd ty3 rfl (At.bx 0 rfl) (ZU ..) <| JLn (Pu.eql rfl rfl) <| JLM rfl <| Zv 3 [73, 74, 75] [(75, cond (decide (kind = 2)) undef (.bool (decide (kind = 8))))] ?_ fun f41 => ?_)
  ·cases h40 : (decide (kind = 2)) with
   | false =>
    replace h40 := df h40
    refine JLq (pp b2 0) (ZG rfl rfl) <| JLr (Zd ty3 rfl (At.bx 0 rfl) (ZU ..) <| JLn (Pu.eql rfl rfl) ?_)
    exact Zb ⟨⟨rfl, trivial⟩, rfl⟩
   | true =>
    exact Zx rfl ⟨rfl, trivial⟩
  refine JLn (Pu.pickOr rfl rfl rfl) <| JLM rfl <| Zv 3 [78, 79, 80] [(80, cond ((decide (kind = 2)) || (decide (kind = 8))) undef (.bool (decide (kind = 11))))] ?_ fun f43 => ?_
  ·cases h42 : ((decide (kind = 2)) || (decide (kind = 8))) with
   | false =>
    obtain ⟨h42a, h42b⟩ := orF h42
    replace h42a := df h42a
    replace h42b := df h42b
    refine JLq (pp b2 0) (ZG rfl rfl) <| JLr (Zd ty3 rfl (At.bx 0 rfl) (ZU ..) <| JLn (Pu.eql rfl rfl) ?_)
    exact Zb ⟨⟨rfl, trivial⟩, rfl⟩
   | true =>
    exact Zx rfl ⟨rfl, trivial⟩
  refine JLn (Pu.pickOr rfl rfl rfl) <| JLM rfl <| Zv 4 [83, 84, 85, 86] [(86, cond (((decide (kind = 2)) || (decide (kind = 8))) || (decide (kind = 11))) (.bool (decide (num < 0 ∨ 1073741824 < num))) undef)] ?_ fun f45 => ?_
  ·cases h44 : (((decide (kind = 2)) || (decide (kind = 8))) || (decide (kind = 11))) with
   | true =>
    refine JLq (pp b2 1) (Ya rfl rfl) <| JLr (Zd ty3 rfl (At.bx 0 rfl) (Yn ..) <| JLM rfl <| Jc Tryz.call79 rfl (fun hin => YD _ _ _ _) rfl ?_)
    rintro _ _ ⟨rfl, rfl⟩
    exact Zb ⟨⟨rfl, trivial⟩, rfl⟩
   | false =>
    exact Zx rfl ⟨rfl, trivial⟩
  refine JLn (Pu.pickAnd rfl rfl rfl) <| Zb <| Zf rfl (fun h46 => ?_) (fun h46 => ?_)
  ·obtain ⟨h46a, h46b⟩ := YM h46
   replace h46b := dt h46b
   refine Zc <| Za <| JLA rfl <| Zb <| Zm <| ⟨iv 3, [], Ret.one rfl (RV.tmp rfl), Sub.nil, ?_⟩
   exact ⟨by refine congrArg (Value.int .i64) ?_; simp only [Yt]; (repeat' split) <;> first | rfl | omega | (exfalso; simp_all; done) | (exfalso; simp_all; omega) | grind, rfl⟩
  refine Zj <| Zc <| Za <| JLA rfl <| Zb <| Zm <| ⟨iv 0, [], Ret.one rfl (RV.tmp rfl), Sub.nil, ?_⟩
  exact ⟨by refine congrArg (Value.int .i64) ?_; simp only [Yt]; (repeat' split) <;> first | rfl | omega | (exfalso; simp_all; done) | (exfalso; simp_all; omega) | grind, rfl⟩
 replace h38 := df h38
 refine Zc <| Za <| JLn (Pu.eql rfl rfl) <| JLA rfl <| Zb <| Zf rfl (fun h47 => ?_) (fun h47 => ?_)
 ·replace h47 := dt h47
  refine Zc <| Za <| JLq (pp b2 1) (Ya rfl rfl) <| JLr (Zd ty3 rfl (At.bx 0 rfl) (Yn ..) <| JLn (Pu.lss rfl rfl) <| JLM rfl <| Zv 5 [63, 64, 65, 66, 67] [(67, cond (decide (num < 0)) undef (.bool (decide (m ≤ num))))] ?_ fun f49 => ?_)
  ·cases h48 : (decide (num < 0)) with
   | false =>
    replace h48 := df h48
    refine JLq (pp b2 1) (Ya rfl rfl) <| JLr (Zd ty3 rfl (At.bx 0 rfl) (Yn ..) <| JLq (pp b1 0) (fa149_0 rfl rfl) <| JLr (Zd ty3 rfl (At.bx 1 rfl) rfl <| JLn (Pu.geq rfl rfl) ?_))
    exact Zb ⟨⟨rfl, trivial⟩, rfl⟩
   | true =>
    exact Zx rfl ⟨rfl, trivial⟩
  refine JLn (Pu.pickOr rfl rfl rfl) <| Zb <| Zf rfl (fun h50 => ?_) (fun h50 => ?_)
  ·refine Zc <| Za <| JLA rfl <| Zb <| Zm <| ⟨iv 1, [], Ret.one rfl (RV.tmp rfl), Sub.nil, ?_⟩
   exact ⟨by refine congrArg (Value.int .i64) ?_; simp only [Yt]; (repeat' split) <;> first | rfl | omega | (exfalso; simp_all; done) | (exfalso; simp_all; omega) | grind, rfl⟩
  obtain ⟨h50a, h50b⟩ := orF h50
  replace h50a := df h50a
  replace h50b := df h50b
  refine Zj <| Zc <| Zc <| Za <| JLq (pp b2 0) (ZG rfl rfl) <| JLr (Zd ty3 rfl (At.bx 0 rfl) (ZU ..) <| JLn (Pu.eql rfl rfl) <| JLM rfl <| Zv 3 [73, 74, 75] [(75, cond (decide (kind = 2)) undef (.bool (decide (kind = 8))))] ?_ fun f52 => ?_)
  ·cases h51 : (decide (kind = 2)) with
   | false =>
    replace h51 := df h51
    refine JLq (pp b2 0) (ZG rfl rfl) <| JLr (Zd ty3 rfl (At.bx 0 rfl) (ZU ..) <| JLn (Pu.eql rfl rfl) ?_)
    exact Zb ⟨⟨rfl, trivial⟩, rfl⟩
   | true =>
    exact Zx rfl ⟨rfl, trivial⟩
  refine JLn (Pu.pickOr rfl rfl rfl) <| JLM rfl <| Zv 3 [78, 79, 80] [(80, cond ((decide (kind = 2)) || (decide (kind = 8))) undef (.bool (decide (kind = 11))))] ?_ fun f54 => ?_
  ·cases h53 : ((decide (kind = 2)) || (decide (kind = 8))) with
   | false =>
    obtain ⟨h53a, h53b⟩ := orF h53
    replace h53a := df h53a
    replace h53b := df h53b
    refine JLq (pp b2 0) (ZG rfl rfl) <| JLr (Zd ty3 rfl (At.bx 0 rfl) (ZU ..) <| JLn (Pu.eql rfl rfl) ?_)
    exact Zb ⟨⟨rfl, trivial⟩, rfl⟩
   | true =>
    exact Zx rfl ⟨rfl, trivial⟩
  refine JLn (Pu.pickOr rfl rfl rfl) <| JLM rfl <| Zv 4 [83, 84, 85, 86] [(86, cond (((decide (kind = 2)) || (decide (kind = 8))) || (decide (kind = 11))) (.bool (decide (num < 0 ∨ 1073741824 < num))) undef)] ?_ fun f56 => ?_
  ·cases h55 : (((decide (kind = 2)) || (decide (kind = 8))) || (decide (kind = 11))) with
   | true =>
    refine JLq (pp b2 1) (Ya rfl rfl) <| JLr (Zd ty3 rfl (At.bx 0 rfl) (Yn ..) <| JLM rfl <| Jc Tryz.call79 rfl (fun hin => YD _ _ _ _) rfl ?_)
    rintro _ _ ⟨rfl, rfl⟩
    exact Zb ⟨⟨rfl, trivial⟩, rfl⟩
   | false =>
    exact Zx rfl ⟨rfl, trivial⟩
  refine JLn (Pu.pickAnd rfl rfl rfl) <| Zb <| Zf rfl (fun h57 => ?_) (fun h57 => ?_)
  ·obtain ⟨h57a, h57b⟩ := YM h57
   replace h57b := dt h57b
   refine Zc <| Za <| JLA rfl <| Zb <| Zm <| ⟨iv 3, [], Ret.one rfl (RV.tmp rfl), Sub.nil, ?_⟩
   exact ⟨by refine congrArg (Value.int .i64) ?_; simp only [Yt]; (repeat' split) <;> first | rfl | omega | (exfalso; simp_all; done) | (exfalso; simp_all; omega) | grind, rfl⟩
  refine Zj <| Zc <| Za <| JLA rfl <| Zb <| Zm <| ⟨iv 0, [], Ret.one rfl (RV.tmp rfl), Sub.nil, ?_⟩
  exact ⟨by refine congrArg (Value.int .i64) ?_; simp only [Yt]; (repeat' split) <;> first | rfl | omega | (exfalso; simp_all; done) | (exfalso; simp_all; omega) | grind, rfl⟩
 replace h47 := df h47
 refine Zj <| Zc <| Zc <| Za <| JLq (pp b2 0) (ZG rfl rfl) <| JLr (Zd ty3 rfl (At.bx 0 rfl) (ZU ..) <| JLn (Pu.eql rfl rfl) <| JLM rfl <| Zv 3 [73, 74, 75] [(75, cond (decide (kind = 2)) undef (.bool (decide (kind = 8))))] ?_ fun f59 => ?_)
 ·cases h58 : (decide (kind = 2)) with
  | false =>
   replace h58 := df h58
   refine JLq (pp b2 0) (ZG rfl rfl) <| JLr (Zd ty3 rfl (At.bx 0 rfl) (ZU ..) <| JLn (Pu.eql rfl rfl) ?_)
   exact Zb ⟨⟨rfl, trivial⟩, rfl⟩
  | true =>
   exact Zx rfl ⟨rfl, trivial⟩
 refine JLn (Pu.pickOr rfl rfl rfl) <| JLM rfl <| Zv 3 [78, 79, 80] [(80, cond ((decide (kind = 2)) || (decide (kind = 8))) undef (.bool (decide (kind = 11))))] ?_ fun f61 => ?_
 ·cases h60 : ((decide (kind = 2)) || (decide (kind = 8))) with
  | false =>
   obtain ⟨h60a, h60b⟩ := orF h60
   replace h60a := df h60a
   replace h60b := df h60b
   refine JLq (pp b2 0) (ZG rfl rfl) <| JLr (Zd ty3 rfl (At.bx 0 rfl) (ZU ..) <| JLn (Pu.eql rfl rfl) ?_)
   exact Zb ⟨⟨rfl, trivial⟩, rfl⟩
  | true =>
   exact Zx rfl ⟨rfl, trivial⟩
 refine JLn (Pu.pickOr rfl rfl rfl) <| JLM rfl <| Zv 4 [83, 84, 85, 86] [(86, cond (((decide (kind = 2)) || (decide (kind = 8))) || (decide (kind = 11))) (.bool (decide (num < 0 ∨ 1073741824 < num))) undef)] ?_ fun f63 => ?_
 ·cases h62 : (((decide (kind = 2)) || (decide (kind = 8))) || (decide (kind = 11))) with
  | true =>
   refine JLq (pp b2 1) (Ya rfl rfl) <| JLr (Zd ty3 rfl (At.bx 0 rfl) (Yn ..) <| JLM rfl <| Jc Tryz.call79 rfl (fun hin => YD _ _ _ _) rfl ?_)
   rintro _ _ ⟨rfl, rfl⟩
   exact Zb ⟨⟨rfl, trivial⟩, rfl⟩
  | false =>
   exact Zx rfl ⟨rfl, trivial⟩
 refine JLn (Pu.pickAnd rfl rfl rfl) <| Zb <| Zf rfl (fun h64 => ?_) (fun h64 => ?_)
 ·obtain ⟨h64a, h64b⟩ := YM h64
  replace h64b := dt h64b
  refine Zc <| Za <| JLA rfl <| Zb <| Zm <| ⟨iv 3, [], Ret.one rfl (RV.tmp rfl), Sub.nil, ?_⟩
  exact ⟨by refine congrArg (Value.int .i64) ?_; simp only [Yt]; (repeat' split) <;> first | rfl | omega | (exfalso; simp_all; done) | (exfalso; simp_all; omega) | grind, rfl⟩
 refine Zj <| Zc <| Za <| JLA rfl <| Zb <| Zm <| ⟨iv 0, [], Ret.one rfl (RV.tmp rfl), Sub.nil, ?_⟩
 exact ⟨by refine congrArg (Value.int .i64) ?_; simp only [Yt]; (repeat' split) <;> first | rfl | omega | (exfalso; simp_all; done) | (exfalso; simp_all; omega) | grind, rfl⟩
end Go.Proofs.YtfdeibbpfgolcaaGreat.Hs
/-! Walks, printed by a program of this session's own (gen.py). -/
namespace Go.Proofs.YtfdeibbpfgolcaaGreat.Hs
open Go Go.Proofs
set_option maxRecDepth 100000
set_option linter.unusedVariables false
set_option linter.unusedSimpArgs false
attribute [local irreducible] JL J CT wlo DT
theorem all_ct : ∀ (t : Tm) (d m b : Int) (cs : List Value) (H : Heap) (bD : Nat), RT H cs t → H bD = some (.cells ⟨[iv d]⟩ 3 (0, 0)) → 0 ≤ b → b + 2 * sizeT t ≤ 1000000 → CT Tryz.prog 91 ⟨[.agg ⟨[iv m, .func (.func 90) ⟨[]⟩ ⟨[pp bD 0]⟩]⟩, .agg ⟨cs⟩, iv b]⟩ [] H (fun v N => v = iv (YU d m b t) ∧ N = []) := by
 intro t
 induction t using Tm.ind with
 | h kind num ref kids cases ih ih' =>
 intro d m b cs H bD ht hD hb0 hb
 obtain ⟨ks, cv, rfl, hk, hn, hks, hcv⟩ := RT_mk.1 ht
 rw [sizeT] at hb
 have hn1 : -9223372036854775808 ≤ num := hn.1
 have hn2 : num ≤ 9223372036854775807 := hn.2
 have ihx : ∀ x mo, (fun x mo => ((∃ (j : Nat) (hj : j < kids.length), x = kids[j]) ∨ ∃ (j : Nat) (hj : j < cases.length), x = cases[j].2) ∧ 0 ≤ mo ∧ mo + 2 * (sizeT x : Int) ≤ 2 * ((1 + ZD kids + ZM cases : Nat) : Int)) x mo → ∀ (d m b : Int) (cs : List Value) (H : Heap) (bD : Nat), RT H cs x → H bD = some (.cells ⟨[iv d]⟩ 3 (0, 0)) → 0 ≤ b → b + 2 * sizeT x ≤ 1000000 → CT Tryz.prog 91 ⟨[.agg ⟨[iv m, .func (.func 90) ⟨[]⟩ ⟨[pp bD 0]⟩]⟩, .agg ⟨cs⟩, iv b]⟩ [] H (fun v N => v = iv (YU d m b x) ∧ N = []) := by
  rintro x mo ⟨⟨j, hj, rfl⟩ | ⟨j, hj, rfl⟩, _, _⟩
  ·exact ih _ (List.getElem_mem hj)
  ·exact ih' _ (List.getElem_mem hj)
 refine Zn Tryz.func91 rfl rfl <| Zc <| Za <| JLr (Zo (l := [iv m, .func (.func 90) ⟨[]⟩ ⟨[pp bD 0]⟩]) rfl rfl fun b1 => JLr (Zo (l := pkT kind num ref ks cv) rfl rfl fun b2 => JLr (Zo (l := [iv b]) rfl rfl fun b3 => JLr (Zl (l := [iv 0]) Tryz.zeroValue31 rfl fun b4 => Zb <| Zc <| Zc <| Za <| JLr (Zg ty149 rfl (At.bx 3 rfl) rfl <| JLr (Zg Zt rfl (At.bx 2 rfl) (YI ..) ?_))))))
 refine JLr (Zd ty3 rfl (At.bx 1 rfl) rfl <| Jc Tryz.call114 rfl (fun hin => chkTerm_ct _ _ _ _ _ _ _ _ _ _ _ bD (RTs.mono (Hle.hu _ _) hks) (RCs.mono (Hle.hu _ _) hcv) (Hle.hu _ _ _ _ hD) hb0 (by omega) hn1 hn2) rfl ?_)
 rintro _ _ ⟨rfl, rfl⟩
 refine JLA rfl <| Zb <| Zc <| Za <| JLM rfl <| JLn (Pu.neq rfl rfl) <| Zb <| Zf rfl (fun h5 => ?_) (fun h5 => ?_)
 ·replace h5 := nt h5
  replace h5 := df h5
  refine Zc <| Za <| JLM rfl <| JLr (Ze 0 (vs := [iv (Yt d m b kind num ref kids.length cases.length)]) (l := [iv (Yt d m b kind num ref kids.length cases.length)]) ty31 rfl rfl rfl rfl rfl (Zi rfl Zp) rfl <| Zb <| Zm <| ⟨iv (Yt d m b kind num ref kids.length cases.length), [], Ret.one rfl (RV.cell1 ty31 rfl (At.bx 0 rfl) rfl), Sub.nil, ?_⟩)
  exact ⟨by rw [YU, if_neg h5], rfl⟩
 replace h5 := nf h5
 replace h5 := dt h5
 refine Zj <| Zc <| Zc <| Za <| JLq (pp b2 35) (ZP rfl rfl) <| JLr (Zd Ym rfl (At.bx 2 rfl) (ZO ..) ?_)
 obtain ⟨a6, cap6, hv6⟩ := hcv.sl
 have hle6 := hcv.le
 refine JLn (Pu.lenSl Tryz.runUnderlying25 hv6) <| JLM rfl <| Zb <| Zk ?_
 have hh0 : Yt d m b kind num ref kids.length cases.length = 0 := h5
 refine ZF (fun k ρ M => ∃ (j : Nat), ρ 3 = pp b1 0 ∧ ρ 4 = pp b2 0 ∧ ρ 5 = pp b3 0 ∧ ρ 6 = pp b4 0 ∧ ρ 22 = cv ∧ ρ 23 = iv ((cases.length : Int)) ∧ ρ 24 = iv ((j : Int)) ∧ Sub [(BX b4 [iv 0] 31), (BX b3 [iv b] 3), (BX b2 (pkT kind num ref ks cv) 27), (BX b1 [iv m, .func (.func 90) ⟨[]⟩ ⟨[pp bD 0]⟩] 149)] M ∧ j ≤ cases.length ∧ pErrsC (cases.drop j) = pErrsC cases ∧ k = cases.length - j) _ ⟨0, rfl, rfl, rfl, rfl, rfl, rfl, rfl, (Sk (Sk (Sk (Sk Sub.nil)))), Nat.zero_le _, rfl, rfl⟩ ?_
 rintro _ ρ7 _ ⟨j, e8, e9, e10, e11, e12, e13, e14, hm15, hj, hinv, rfl⟩
 obtain ⟨ρ16, rfl⟩ := Zu (uc e8 (uc e9 (uc e10 (uc e11 (uc e12 (uc e13 (uc e14 un)))))))
 clear e8 e9 e10 e11 e12 e13 e14
 refine ZI hm15 ?_
 have hlen := hcv.le
 refine Zc <| Za <| JLn (Pu.lss rfl rfl) <| Zb <| Zc <| Zf rfl (fun h17 => ?_) (fun h17 => ?_)
 ·replace h17 := dt h17
  have h17n : j < cases.length := by omega
  refine Zj <| Zc <| Zk <| Zc <| Za ?_
  obtain ⟨b18, o18, cap18, row18, T18, fr18, cs18, hv18, hb18, hs18, hE18⟩ := hcv.get j (by first | assumption | omega | decide | simp)
  obtain ⟨ca18, cb18, rfl, hA18, hB18⟩ := hE18
  refine JLq (pp b18 (o18 + j * 71)) (Pu.idx j Tryz.runUnderlying25 Yl hv18 rfl rfl (by first | assumption | omega | decide | simp)) <| JLr (Zg Yl rfl (At.im hb18) hs18 <| JLr (Zl (l := (pkP 0 0 zS nS) ++ (pkT 0 0 zS nS nS)) Tryz.zeroValue56 rfl fun b19 => JLr (Ze 0 (vs := ca18 ++ cb18) (l := ca18 ++ cb18) Yl rfl rfl rfl rfl (ZW (Zz hA18) (Zq hB18)) (Z6 (RP_ok hA18) (YV hB18)) (ZL (n := 71) rfl (ZW (Zz hA18) (Zq hB18))) <| Zb <| Zc <| Za <| JLq (pp b19 0) (YE rfl rfl) <| JLr (Zg ZQ rfl (At.bx 0 rfl) (Y3 (Zz hA18)) <| Jc Tryz.call115 rfl (fun hin => patternsError_ct _ _ _ (RP.mono (Hle.hu _ _) hA18)) rfl ?_))))
  rintro _ _ ⟨rfl, rfl⟩
  refine JLA rfl <| Zb <| Zc <| Za <| JLM rfl <| JLn (Pu.neq rfl rfl) <| Zb <| Zf rfl (fun h20 => ?_) (fun h20 => ?_)
  ·replace h20 := nt h20
   replace h20 := df h20
   refine Zc <| Za <| JLM rfl <| JLr (Ze 1 (vs := [iv (pErrs (cases[j].1))]) (l := [iv (pErrs (cases[j].1))]) ty31 rfl rfl rfl rfl rfl (Zi rfl Zp) rfl <| Zb <| Zm <| ⟨iv (pErrs (cases[j].1)), [], Ret.one rfl (RV.cell1 ty31 rfl (At.bx 1 rfl) rfl), Sub.nil, ?_⟩)
   exact ⟨by rw [YU, if_pos hh0, ← hinv, ZT h17n, pErrsC, if_neg h20, if_neg h20], rfl⟩
  replace h20 := nf h20
  replace h20 := dt h20
  refine Zj <| Za <| JLn (Pu.inc rfl rfl (by omega)) <| JLM rfl <| Zb <| ⟨_, ?_, (j + 1), rfl, rfl, rfl, rfl, rfl, rfl, rfl, (Sd (Sk (Sk (Sk (Sk Sub.nil))))), ?_, ?_, rfl⟩
  ·omega
  ·omega
  rw [ZT h17n, pErrsC, if_pos h20] at hinv; exact hinv
 replace h17 := df h17
 have h17n : cases.length ≤ j := by omega
 refine Zy _ rfl <| Zc <| Zc <| Za <| JLr (Zg Zt rfl (At.bx 2 rfl) (YI ..) <| Jc Tryz.call53 rfl (fun hin => parts_ct _ _ rfl) rfl ?_)
 rintro _ _ ⟨bT21, rfl, rfl⟩
 refine Zb <| Zk ?_
 have h1 : pErrsC cases = 0 := by rw [← hinv, YL h17n]; rfl
 refine J_range (L := [(BX bT21 (pkT kind num ref ks cv) 27), (BX b3 [iv b] 3), (BX b2 (pkT kind num ref ks cv) 27), (BX b1 [iv m, .func (.func 90) ⟨[]⟩ ⟨[pp bD 0]⟩] 149)]) (fun e : Int => [(BX b4 [iv e] 31)]) (fun e => !decide (e = 0)) 0 (fun e => e = yP (fun x mo _ => (decide (YU d m (b + mo) x = 0), YU d m (b + mo) x)) kind kids cases 0) rfl rfl Tryz.call95 (flatten_pick (i := 1) rfl) ?_ ?_ ?_
 ·intro l yc hY hin
  refine CT.mono (parts1_ct kind num ref ks cv kids cases _ bT21 (RTs.mono (Hle.hu _ _) hks) (RCs.mono (Hle.hu _ _) hcv) (hin 0 _ rfl _ _ List.mem_cons_self) (fun c hc => by have := Yp c hc; have := binds_le c.1; omega) (by have := len_sizeTs kids; omega) (by have := len_sizeCs cases; omega) l yc (fun e => e = 0) (fun x mo _ => (decide (YU d m (b + mo) x = 0), YU d m (b + mo) x)) 0 rfl (fun x mo => ((∃ (j : Nat) (hj : j < kids.length), x = kids[j]) ∨ ∃ (j : Nat) (hj : j < cases.length), x = cases[j].2) ∧ 0 ≤ mo ∧ mo + 2 * (sizeT x : Int) ≤ 2 * ((1 + ZD kids + ZM cases : Nat) : Int)) ?_ ?_ (fun x mo s _ h => of_decide_eq_true h) ?_) (fun v N hN => ⟨_, hN, rfl⟩)
  ·intro j hj; have hs1 := YY _ (List.getElem_mem hj); have hm1 := more_le kind j; exact ⟨.inl ⟨j, hj, rfl⟩, by omega, by omega⟩
  ·intro j hj; have hs1 := Yp _ (List.getElem_mem hj); have hm1 := binds_le (cases[j]).1; have hp1 := sizeT_pos (cases[j]).2; exact ⟨.inr ⟨j, hj, rfl⟩, by omega, by omega⟩
  intro x mo hit e i a h he hh ra
  subst he
  have hb0x : 0 ≤ b + mo := by have := hit.2.1; omega
  have hb1x : b + mo + 2 * (sizeT x : Int) ≤ 1000000 := by have := hit.2.2; omega
  have hp1 := sizeT_pos x
  refine YT.mono (hY 0 [_, _] h (fun e' => e' = YU d m (b + mo) x) rfl rfl (RoundOk.mk ?_)) ?_
  ·show J _ _ _ _ [(BX b4 [iv 0] 31)] _
   refine Za <| JLr (Zl (l := (pkT 0 0 zS nS nS) ++ ([iv 0] : List Value)) Tryz.zeroValue107 rfl fun b22 => JLr (Ze 0 (vs := a ++ ([iv mo] : List Value)) (l := a ++ ([iv mo] : List Value)) ty107 rfl rfl rfl rfl (ZW (Zq ra) rfl) (Z6 (YV ra) (Zi rfl Zp)) (ZL (n := 37) rfl (ZW (Zq ra) rfl)) <| Zb <| Zk <| Zc <| Za <| JLr (Zg ty149 rfl (At.im (hh _ _ (hin 3 _ rfl _ _ List.mem_cons_self))) rfl <| JLq (pp b22 0) (fa107_0 rfl rfl) <| JLr (Zg Zt rfl (At.bx 0 rfl) (Y3 (Zq ra)) <| JLr (Zd ty3 rfl (At.im (hh _ _ (hin 1 _ rfl _ _ List.mem_cons_self))) rfl <| JLq (pp b22 36) (fa107_1 rfl rfl) <| JLr (Zd ty3 rfl (At.bx 0 rfl) (get_r (n := 36) (i := 0) (Zq ra) rfl) ?_))))))
   refine JLn (Pu.add64 rfl rfl (by first | omega | (constructor <;> omega))) <| Jc Tryz.call91 rfl (fun hin => ihx x mo hit d m _ _ _ bD (RT.mono (Hle.hu _ _) ra) (Hle.hu _ _ _ _ (hh _ _ (Hle.hu _ _ _ _ hD))) hb0x hb1x) rfl ?_
   rintro _ _ ⟨rfl, rfl⟩
   refine JLA rfl <| Zb <| Zc <| Za <| JLM rfl <| JLn (Pu.neq rfl rfl) <| Zb <| Zf rfl (fun h23 => ?_) (fun h23 => ?_)
   ·replace h23 := nt h23
    replace h23 := df h23
    refine Zc <| Za <| JLM rfl <| JLr (Ze 1 (vs := [iv (YU d m (b + mo) x)]) (l := [iv (YU d m (b + mo) x)]) ty31 rfl rfl rfl rfl rfl (Zi rfl Zp) rfl <| Zb <| Zm ?_)
    exact ⟨YU d m (b + mo) x, by simp [h23], (Sd (Sk Sub.nil)), rfl⟩
   replace h23 := nf h23
   replace h23 := dt h23
   refine Zj ?_
   exact ⟨0, rfl, (Sd (Sk Sub.nil)), h23.symm⟩
  rintro v N ⟨e', rfl, rfl, rfl⟩; exact ⟨by simp, rfl⟩
 ·rintro ef hef hp
  refine Zc <| Za <| JLr (Ze 0 (vs := [iv 0]) (l := [iv 0]) ty31 rfl rfl rfl rfl rfl (Zi rfl Zp) rfl <| Zb <| Zm <| ⟨iv 0, [], Ret.one rfl (RV.cell1 ty31 rfl (At.bx 0 rfl) rfl), Sub.nil, ?_⟩)
  rw [yP_err] at hef
  have hp0 : ef = 0 := by simpa using hp
  exact ⟨by rw [YU, if_pos hh0, if_pos h1, ← hef, hp0], rfl⟩
 rintro ef hef hp
 refine ⟨iv ef, [], Ret.one rfl (RV.cell1 ty31 rfl (At.bx 0 rfl) rfl), Sub.nil, ?_⟩
 rw [yP_err] at hef
 have hp0 : ¬ ef = 0 := by simpa using hp
 exact ⟨by rw [YU, if_pos hh0, if_pos h1, ← hef], rfl⟩
end Go.Proofs.YtfdeibbpfgolcaaGreat.Hs
/-! Walks, printed by a program of this session's own (gen.py). -/
namespace Go.Proofs.YtfdeibbpfgolcaaGreat.Hs
open Go Go.Proofs
set_option maxRecDepth 100000
set_option linter.unusedVariables false
set_option linter.unusedSimpArgs false
attribute [local irreducible] JL J CT wlo DT
theorem check_ct (t : Tm) (d m : Int) (cs : List Value) (H : Heap) (ht : RT H cs t) : CT Tryz.prog 42 ⟨[.agg ⟨cs⟩, iv d, iv m]⟩ [] H (fun v N => v = iv (YZ d m t) ∧ N = []) := by
 refine Zn Tryz.func42 rfl rfl <| Zc <| Za <| JLr (Zo (l := cs) rfl rfl fun b1 => JLr (Zo (l := [iv d]) rfl rfl fun b2 => JLA rfl <| Zb <| Zc <| Zc <| Za <| JLq (.agg ⟨[iv 0]⟩) (Pu.build (pv := []) (l := [iv 0]) rfl bld132_) <| JLr (Zo (l := [iv 0]) rfl rfl fun b3 => JLr (Zg Zt rfl (At.bx 2 rfl) (Zr (Zq ht)) ?_))))
 refine Zw 0 rfl Tryz.call74 rfl rfl (fun hin => longT_ct _ _ _ _ _ _ (RT.mono (Hle.hu _ _) ht) (by omega) (by omega) (by omega) (by omega)) rfl ?_
 rintro _ _ ⟨rfl, rfl⟩
 refine Zb <| Zf rfl (fun h5 => ?_) (fun h5 => ?_)
 ·refine Zc <| Za <| JLA rfl <| Zb <| Zm <| ⟨iv 11, [], Ret.one rfl (RV.tmp rfl), Sub.nil, ?_⟩
  exact ⟨by rw [YZ, if_pos (by simp [h5])], rfl⟩
 refine Zj <| Zc <| Za <| JLM rfl <| JLq (.func (.func 90) ⟨[]⟩ ⟨[pp b2 0]⟩) (Pu.makeFunc rfl rfl) <| JLq (.agg ⟨[iv m, .func (.func 90) ⟨[]⟩ ⟨[pp b2 0]⟩]⟩) (Pu.build (pv := [(0, iv m), (1, .func (.func 90) ⟨[]⟩ ⟨[pp b2 0]⟩)]) (l := [iv m, .func (.func 90) ⟨[]⟩ ⟨[pp b2 0]⟩]) rfl (bld149_0_1 _ _ _ _)) <| JLr (Zl (l := [iv 0, .nilFunc]) Tryz.zeroValue149 rfl fun b6 => JLr (Ze 0 (vs := [iv m, .func (.func 90) ⟨[]⟩ ⟨[pp b2 0]⟩]) (l := [iv m, .func (.func 90) ⟨[]⟩ ⟨[pp b2 0]⟩]) ty149 rfl rfl rfl rfl rfl (Zi rfl (Zi rfl Zp)) rfl <| Zb <| Zc <| Za <| JLr (Zg ty149 rfl (At.bx 0 rfl) rfl <| JLr (Zg Zt rfl (At.bx 3 rfl) (Zr (Zq ht)) ?_))))
 refine Jc Tryz.call91 rfl (fun hin => all_ct _ _ _ _ _ _ _ (RT.mono (Hle.hu _ _) ht) (hin 2 _ rfl _ _ List.mem_cons_self) (by decide) (by have e1 := cnT_size t 1 0 h5; have e2 := cnT_le stL_le t 1 0 h5; omega)) rfl ?_
 rintro _ _ ⟨rfl, rfl⟩
 refine JLA rfl <| Zb <| Zm <| ⟨iv (YU d m 0 t), [], Ret.one rfl (RV.tmp rfl), Sub.nil, ?_⟩
 exact ⟨by rw [YZ, if_neg (by simp [h5])], rfl⟩
theorem right_ct (l : List Tm) (v : Value) (H : Heap) (hl : rdS RT 36 H v l) : CT Tryz.prog 49 ⟨[v]⟩ [] H (fun v N => v = iv (ZN l) ∧ N = []) := by
 refine Zn Tryz.func49 rfl rfl <| Zc <| Za <| JLA rfl <| Zb <| Zc <| Zc <| Za <| JLm v ?_
 obtain ⟨a1, cap1, hv1⟩ := hl.sl
 have hle1 := hl.le
 refine JLn (Pu.lenSl Tryz.runUnderlying24 hv1) <| JLM rfl <| Zb <| Zk <| ZF (fun k ρ M => ∃ (j : Nat), ρ 2 = iv 0 ∧ ρ 6 = v ∧ ρ 7 = iv ((l.length : Int)) ∧ ρ 8 = iv ((j : Int)) ∧ Sub [] M ∧ j ≤ l.length ∧ ZN (l.drop j) = ZN l ∧ k = l.length - j) _ ⟨0, rfl, rfl, rfl, rfl, Sub.nil, Nat.zero_le _, rfl, rfl⟩ ?_
 rintro _ ρ2 _ ⟨j, e3, e4, e5, e6, hm7, hj, hinv, rfl⟩
 obtain ⟨ρ8, rfl⟩ := Zu (uc e3 (uc e4 (uc e5 (uc e6 un))))
 clear e3 e4 e5 e6
 refine ZI hm7 <| Zc <| Za <| JLn (Pu.lss rfl rfl) <| Zb <| Zc <| Zf rfl (fun h9 => ?_) (fun h9 => ?_)
 ·replace h9 := dt h9
  have h9n : j < l.length := by omega
  have hlenl := hl.le
  refine Zj <| Zc <| Zk <| Zc <| Za ?_
  obtain ⟨b10, o10, cap10, row10, T10, fr10, cs10, hv10, hb10, hs10, hE10⟩ := hl.get j (by first | assumption | omega | decide | simp)
  refine JLq (pp b10 (o10 + j * 36)) (Pu.idx j Tryz.runUnderlying24 Zt hv10 rfl rfl (by first | assumption | omega | decide | simp)) <| JLr (Zg Zt rfl (At.im hb10) hs10 <| JLr (Zl (l := pkT 0 0 zS nS nS) Tryz.zeroValue27 rfl fun b11 => JLr (Ze 0 (vs := cs10) (l := cs10) Zt rfl rfl rfl rfl (Zq hE10) (YV hE10) (ZL (n := 36) rfl (Zq hE10)) <| Zb <| Zc <| Za <| JLr (Zg Zt rfl (At.bx 0 rfl) (Zr (Zq hE10)) <| Jc Tryz.call42 rfl (fun hin => check_ct _ _ _ _ _ (RT.mono (Hle.hu _ _) hE10)) rfl ?_))))
  rintro _ _ ⟨rfl, rfl⟩
  refine JLA rfl <| Zb <| Zc <| Za <| JLM rfl <| JLn (Pu.neq rfl rfl) <| Zb <| Zf rfl (fun h12 => ?_) (fun h12 => ?_)
  ·replace h12 := nt h12
   replace h12 := df h12
   refine Zc <| Za <| JLM rfl <| JLA rfl <| Zb <| Zm <| ⟨iv (YZ 60 8 (l[j])), [], Ret.one rfl (RV.tmp rfl), Sub.nil, ?_⟩
   exact ⟨by rw [← hinv, ZT h9n, ZN, if_neg h12], rfl⟩
  replace h12 := nf h12
  replace h12 := dt h12
  refine Zj <| Za <| JLn (Pu.inc rfl rfl (by omega)) <| JLM rfl <| Zb <| ⟨_, ?_, (j + 1), rfl, rfl, rfl, rfl, Sub.nil, ?_, ?_, rfl⟩
  ·omega
  ·omega
  rw [ZT h9n, ZN, if_pos h12] at hinv; exact hinv
 replace h9 := df h9
 have h9n : l.length ≤ j := by omega
 refine Zy _ rfl <| Zc <| Za <| JLA rfl <| Zb <| Zm <| ⟨iv 0, [], Ret.one rfl (RV.tmp rfl), Sub.nil, ?_⟩
 exact ⟨by rw [← hinv, YL h9n]; rfl, rfl⟩
end Go.Proofs.YtfdeibbpfgolcaaGreat.Hs
/-! Walks, printed by a program of this session's own (gen.py). -/
namespace Go.Proofs.YtfdeibbpfgolcaaGreat.Hs
open Go Go.Proofs
set_option maxRecDepth 100000
set_option linter.unusedVariables false
set_option linter.unusedSimpArgs false
attribute [local irreducible] JL J CT wlo DT
theorem stay_ct (n b : Int) (H : Heap) (hb : inI (n + b)) : CT Tryz.prog 82 ⟨[iv n, iv b]⟩ [] H (fun v N => ∃ cs k, v = .agg ⟨cs⟩ ∧ N = [k] ∧ OT (.mk 1 (n + b) zS [] []) cs k) := by
 have hb1 : -9223372036854775808 ≤ n + b := hb.1
 have hb2 : n + b ≤ 9223372036854775807 := hb.2
 refine Zn Tryz.func82 rfl rfl <| Zc <| Za <| JLr (Zl (l := pkT 0 0 zS nS nS) Tryz.zeroValue27 rfl fun b1 => Zb <| Zc <| Za <| JLM rfl <| JLM rfl <| JLn (Pu.add64 rfl rfl (by first | omega | (constructor <;> omega))) <| JLq (.agg ⟨pkT 1 (n + b) zS nS nS⟩) (Pu.build (pv := [(0, iv 1), (1, iv (n + b))]) (l := pkT 1 (n + b) zS nS nS) rfl (bld27_0_1 _ _)) <| JLr (Ze 0 (vs := pkT 1 (n + b) zS nS nS) (l := pkT 1 (n + b) zS nS nS) Zt rfl rfl rfl rfl rfl (Z2 rfl rfl) (Y4 ..) <| Zb ?_))
 refine Zm <| ⟨.agg ⟨pkT 1 (n + b) zS nS nS⟩, [[]], Ret.one rfl (RV.cell Zt rfl (At.bx 0 rfl) (YI ..)), (Sub.emp Sub.nil), ?_⟩
 exact ⟨_, _, rfl, rfl, OT_leaf (by unfold inI; omega) hb⟩
theorem same_ct (s : Sm) (H : Heap) : CT Tryz.prog 83 ⟨[.agg ⟨sC s⟩]⟩ [] H (fun v N => v = .agg ⟨sC s⟩ ∧ N = []) := by
 refine Zn Tryz.func83 rfl rfl <| Zc <| Za <| JLr (Zo (l := sC s) rfl rfl fun b1 => JLr (Zl (l := sC zS) Tryz.zeroValue23 rfl fun b2 => Zb <| Zc <| Za <| JLr (Zg ZR rfl (At.bx 1 rfl) (Zr rfl) <| JLr (Ze 0 (vs := sC s) (l := sC s) ZR rfl rfl rfl rfl rfl (sC_ok _) (ZL rfl rfl) <| Zb <| Zm <| ⟨.agg ⟨sC s⟩, [], Ret.one rfl (RV.cell ZR rfl (At.bx 0 rfl) (Zr rfl)), Sub.nil, ?_⟩))))
 exact ⟨rfl, rfl⟩
theorem mapPattern_ct : ∀ (gr : Nat) (frs crs : List Value) (hcallr : ∀ args w, (callFunc gr args).run Tryz.prog w = .ok (.enter gr args) w) (rf : Sm → Sm) (fv : Value) (hfv : fv.oneCell' = true) (p : Pt) (cs : List Value) (H : Heap), RP H cs p → (∀ s h, Hle H h → CT Tryz.prog gr ⟨frs ++ [.agg ⟨sC s⟩] ++ crs⟩ [] h (fun v N => v = .agg ⟨sC (rf s)⟩ ∧ N = [])) → sizeP p ≤ 1000000 → CT Tryz.prog 109 ⟨[.agg ⟨[fv, .func (.func gr) ⟨frs⟩ ⟨crs⟩]⟩, .agg ⟨cs⟩]⟩ [] H (fun v N => ∃ cs k, v = .agg ⟨cs⟩ ∧ N = [k] ∧ OP (mapP rf p) cs k) := by
 intro gr frs crs hcallr rf fv hfv p
 induction p using Pt.ind with
 | h kind num ref kids ih =>
 intro cs H hp hgr hz
 rw [sizeP] at hz
 have hlk := len_sizePs kids
 obtain ⟨ks, rfl, hk, hn, hks⟩ := RP_mk.1 hp
 refine Zn Tryz.func109 rfl rfl <| Zc <| Za <| JLr (Zo (l := [fv, .func (.func gr) ⟨frs⟩ ⟨crs⟩]) rfl rfl fun b1 => JLr (Zo (l := pkP kind num ref ks) rfl rfl fun b2 => JLr (Zl (l := pkP 0 0 zS nS) Tryz.zeroValue54 rfl fun b3 => Zb <| Zc <| ZC mixed #[0, 1, 0, 4, 0, 16, 0, 64, 240, 511, 0, 2047] 11 [some 8, some 9, some 10, some 11, some 12, some 13, some 14, some 15, some 16, some 17, some 5] [] [(8, fun _ _ vw qw => vw = .agg ⟨sC (rf ref)⟩ ∧ qw = []), (10, newP 54 (pkP 0 0 zS nS))] rfl (by kernel_rfl) rfl (by kernel_rfl) <| Dq (pp b2 0) (fun _ => Yj rfl rfl) <| Dl1 ty3 (At.bx 1 rfl) (YJ ..) <| Dq (pp b2 1) (fun _ => fa54_1 rfl rfl) <| Dl1 ty3 (At.bx 1 rfl) (pkP_1 ..) ?_)))
 refine Dq (pp b1 1) (fun _ => fa141_1 rfl rfl) <| Dl1 ty112 (At.bx 2 rfl) rfl <| Dq (pp b2 2) (fun _ => fa54_2 rfl rfl) <| Dl ZR (At.bx 1 rfl) (pkP_2 ..) <| Dc rfl hcallr (fun _ => rfl) (fun hin => hgr _ _ (Hle.hu _ _)) ?_
 rintro _ _ ⟨rfl, rfl⟩
 refine Dq (.agg ⟨pkP kind num (rf ref) nS⟩) (fun _ => Pu.build (pv := [(0, iv kind), (1, iv num), (2, .agg ⟨sC (rf ref)⟩)]) (l := pkP kind num (rf ref) nS) rfl (bld54_0_1_2 _ _ _)) <| Da Tryz.zeroValue54 rfl fun b5 => ZK (M' := [(BX b5 (pkP 0 0 zS nS) 54), (BX b3 (pkP 0 0 zS nS) 54), (BX b2 (pkP kind num ref ks) 54), (BX b1 [fv, .func (.func gr) ⟨frs⟩ ⟨crs⟩] 141)]) rfl ?_
 show JL _ _ _ [_] _ _ _
 refine JLr (Ze 0 (vs := pkP kind num (rf ref) nS) (l := pkP kind num (rf ref) nS) ZQ rfl rfl rfl rfl rfl (pkP_ok rfl) (pkP_s ..) <| Zb <| Zc <| Zc <| Za <| JLq (pp b2 34) (ZX rfl rfl) <| JLr (Zd Yz rfl (At.bx 2 rfl) (Z3 ..) ?_))
 obtain ⟨a6, cap6, hv6⟩ := hks.sl
 have hle6 := hks.le
 refine JLn (Pu.lenSl Tryz.runUnderlying52 hv6) <| JLM rfl <| Zb <| Zk <| ZF (fun k ρ M => ∃ (j : Nat) (v : Value) (es : List (List Value)) (k1 k2 : Zh), ρ 2 = pp b1 0 ∧ ρ 4 = pp b3 0 ∧ ρ 5 = pp b5 0 ∧ ρ 19 = ks ∧ ρ 20 = iv ((kids.length : Int)) ∧ ρ 21 = iv ((j : Int)) ∧ Sub [(BX b5 (pkP kind num (rf ref) v) 54), k1, k2, (BX b3 (pkP 0 0 zS nS) 54), (BX b1 [fv, .func (.func gr) ⟨frs⟩ ⟨crs⟩] 141)] M ∧ j ≤ kids.length ∧ Own 54 35 v es k1 ∧ OPs (mapPs rf (kids.take j)) es k2 ∧ k = kids.length - j) _ ⟨0, _, [], [], [], rfl, rfl, rfl, rfl, rfl, rfl, (Sk (Sub.emp (Sub.emp (Sk (Sd (Sk Sub.nil)))))), Nat.zero_le _, Own.nil, OPs.nil, rfl⟩ ?_
 rintro _ ρ7 _ ⟨j, v, es, k1, k2, e8, e9, e10, e11, e12, e13, hm14, hj, ho, hop, rfl⟩
 obtain ⟨ρ15, rfl⟩ := Zu (uc e8 (uc e9 (uc e10 (uc e11 (uc e12 (uc e13 un))))))
 clear e8 e9 e10 e11 e12 e13
 refine ZI hm14 ?_
 have hlen := hks.le
 refine Zc <| Za <| JLn (Pu.lss rfl rfl) <| Zb <| Zc <| Zf rfl (fun h16 => ?_) (fun h16 => ?_)
 ·replace h16 := dt h16
  have h16n : j < kids.length := by omega
  have hel := OPs_len hop
  rw [mapPs_len, List.length_take] at hel
  have hs1 := sizePs_mem _ (List.getElem_mem h16n)
  refine Zj <| Zc <| Zk <| Zc <| Za ?_
  obtain ⟨b17, o17, cap17, row17, T17, fr17, cs17, hv17, hb17, hs17, hE17⟩ := hks.get j (by first | assumption | omega | decide | simp)
  refine JLq (pp b17 (o17 + j * 35)) (Pu.idx j Tryz.runUnderlying52 ZQ hv17 rfl rfl (by first | assumption | omega | decide | simp)) <| JLr (Zg ZQ rfl (At.im hb17) hs17 <| JLr (Zl (l := pkP 0 0 zS nS) Tryz.zeroValue54 rfl fun b18 => JLr (Ze 0 (vs := cs17) (l := cs17) ZQ rfl rfl rfl rfl (Zz hE17) (RP_ok hE17) (ZL (n := 35) rfl (Zz hE17)) <| Zb <| ZC mixed #[0, 1, 0, 0, 12, 28, 63, 127, 255] 6 [some 25, some 26, some 27, some 28, some 29, some 30] [] [(4, fun _ _ vw qw => ∃ cs k, vw = .agg ⟨cs⟩ ∧ qw = [k] ∧ OP (mapP rf (kids[j])) cs k), (5, fun r _ vw qw => ∃ b k, vw = .slice (some ⟨b, 0, none⟩) 1 1 ∧ qw = [k] ∧ Own 54 35 (.slice (some ⟨b, 0, none⟩) 1 1) [(cel (r 4))] k ∧ k = (BX b (List.flatten [(cel (r 4))]) 54))] rfl (by kernel_rfl) rfl (by kernel_rfl) <| Dq (pp b5 34) (fun _ => ZX rfl rfl) <| Dl1 Yz (At.bx 1 rfl) (Z3 ..) <| Dl ty141 (At.bx 5 rfl) rfl <| Dl ZQ (At.bx 0 rfl) (Zr (Zz hE17)) ?_)))
  refine Dc rfl Tryz.call109 (fun _ => rfl) (fun hin => ih _ (List.getElem_mem h16n) _ _ (RP.mono (Hle.hu _ _) hE17) (fun s h hh => hgr s h (Hle.trans (Hle.hu _ _) hh)) (by omega)) ?_
  rintro _ _ ⟨cs21, k21, rfl, rfl, hO21⟩
  refine Dr rfl (fun _ => Zs (vs := [.agg ⟨cs21⟩]) [cs21] Tryz.runUnderlying52 el54 rfl rfl (by intro e he; simp only [List.mem_cons, List.not_mem_nil, or_false] at he; subst he; exact hO21.len) rfl (by decide) fun b k h1 h2 => ⟨[k], by rw [Z9 rfl]; exact Sub.refl, b, k, rfl, rfl, h1, h2⟩) (fun _ _ ⟨b22, k22, e1, e2, ho22, hk22⟩ => ?_); subst e1 e2
  refine ZK (M' := [k22, k21, (BX b18 cs17 54), (BX b5 (pkP kind num (rf ref) v) 54), k1, k2, (BX b3 (pkP 0 0 zS nS) 54), (BX b1 [fv, .func (.func gr) ⟨frs⟩ ⟨crs⟩] 141)]) rfl ?_
  show JL _ _ _ [_, _, _] _ _ _
  have hlens23 : ∀ e ∈ ([cs21] : List (List Value)), List.length e = 35 := by
   intro e he; simp only [List.mem_cons, List.not_mem_nil, or_false] at he
   rcases he with rfl
   ·exact hO21.len
  have hoks23 : ∀ e ∈ ([cs21] : List (List Value)), okc e := by
   intro e he; simp only [List.mem_cons, List.not_mem_nil, or_false] at he
   rcases he with rfl
   ·exact hO21.ok
  refine JLr (ZB (i := 4) (n := 1) (es' := [cs21]) Tryz.runUnderlying52 Tryz.runUnderlying52 (Or.inl rfl) el54 rfl rfl rfl ho (fun F w m => Src.row (((At.k 0 rfl (by rw [hk22]; exact List.mem_cons_self))).heap m) (Zr (ZA hlens23))) rfl hlens23 hoks23 (by decide) (by omega) fun v23 k23 ho23 => JLq (pp b5 34) (ZX rfl rfl) <| JLr (Ze 3 (vs := [v23]) (l := pkP kind num (rf ref) v23) Yz rfl rfl rfl (ZJ ho23.one) rfl (Zi ho23.one Zp) (pkP_s34 ..) <| Zb <| Za <| JLn (Pu.inc rfl rfl (by omega)) <| JLM rfl <| Zb <| ⟨_, ?_, (j + 1), v23, (es ++ [cs21]), k23, (k2 ++ k21), rfl, rfl, rfl, rfl, rfl, rfl, (Sd (Sub.cons 2 rfl (Sub.cons 2 rfl (Sub.join (Sub.cons 2 rfl (Sk (Sd (Sk (Sk Sub.nil))))))))), ?_, ?_, ?_, rfl⟩))
  ·omega
  ·omega
  ·assumption
  rw [mapPs_take rf kids j h16n]; exact OPs.snoc hO21 hop
 replace h16 := df h16
 have h16n : kids.length ≤ j := by omega
 refine Zy _ rfl <| Zc <| Za <| JLr (Zg ZQ rfl (At.bx 0 rfl) (pkP_a ..) <| JLr (Ze 3 (vs := pkP kind num (rf ref) v) (l := pkP kind num (rf ref) v) ZQ rfl rfl rfl rfl rfl (pkP_ok ho.one) (pkP_s ..) <| Zb <| Zm <| ⟨.agg ⟨pkP kind num (rf ref) v⟩, [k1 ++ k2], Ret.one rfl (RV.cell ZQ rfl (At.bx 3 rfl) (pkP_a ..)), (Sub.join (Sd (Sk (Sk Sub.nil)))), ?_⟩))
 rw [List.take_of_length_le h16n] at hop
 exact ⟨_, _, rfl, rfl, by rw [mapP]; exact OP_mk.2 ⟨v, es, k1, k2, rfl, hk, hn, ho, hop, rfl, by rw [mapPs_len]; exact hks.le⟩⟩
end Go.Proofs.YtfdeibbpfgolcaaGreat.Hs
/-! Walks, printed by a program of this session's own (gen.py). -/
namespace Go.Proofs.YtfdeibbpfgolcaaGreat.Hs
open Go Go.Proofs
set_option maxRecDepth 100000
set_option linter.unusedVariables false
set_option linter.unusedSimpArgs false
attribute [local irreducible] JL J CT wlo DT
set_option maxHeartbeats 1000000 in
theorem mapTerm_ct : ∀ (gr : Nat) (frs crs : List Value) (hcallr : ∀ args w, (callFunc gr args).run Tryz.prog w = .ok (.enter gr args) w) (rf : Sm → Sm) (gv : Nat) (fvs cvs : List Value) (hcallv : ∀ args w, (callFunc gv args).run Tryz.prog w = .ok (.enter gv args) w) (σ : Type) (Sc : σ → Zh) (Inv : σ → Prop) (vf : Int → Int → σ → Tm × σ) (hI : ∀ n b s, Inv s → Inv (vf n b s).2) (t : Tm) (b : Int) (s : σ) (cs : List Value) (H : Heap), RT H cs t → sizeT t ≤ 1000000 → vOK t → 0 ≤ b → b + 2 * sizeT t ≤ 2000000 → Inv s → (∀ s h, Hle H h → CT Tryz.prog gr ⟨frs ++ [.agg ⟨sC s⟩] ++ crs⟩ [] h (fun v N => v = .agg ⟨sC (rf s)⟩ ∧ N = [])) → (∀ (n b : Int) (s : σ) (h : Heap), Hle H h → Inv s → 0 ≤ n → n ≤ 2000000 → 0 ≤ b → b ≤ 2000000 → CT Tryz.prog gv ⟨fvs ++ [iv n, iv b] ++ cvs⟩ [Sc s] h (fun v N => ∃ cs k, v = .agg ⟨cs⟩ ∧ N = [k, Sc (vf n b s).2] ∧ OT (vf n b s).1 cs k)) → CT Tryz.prog 84 ⟨[.agg ⟨[.func (.func gv) ⟨fvs⟩ ⟨cvs⟩, .func (.func gr) ⟨frs⟩ ⟨crs⟩]⟩, .agg ⟨cs⟩, iv b]⟩ [Sc s] H (fun v N => ∃ cs k, v = .agg ⟨cs⟩ ∧ N = [k, Sc (YK rf vf b t s).2] ∧ OT (YK rf vf b t s).1 cs k) := by
 intro gr frs crs hcallr rf gv fvs cvs hcallv σ Sc Inv vf hI t
 induction t using Tm.ind with
 | h kind num ref kids cases ih ih' =>
 intro b s cs H ht hz hv hb0 hb hs hgr hgv
 rw [sizeT] at hz hb
 rw [vOK] at hv
 have hv1 : ¬ kind = 1 ∨ (0 ≤ num ∧ num ≤ 2000000) := by by_cases h : kind = 1; exact .inr (hv.1 h); exact .inl h
 have hlk := len_sizeTs kids
 have hlc := len_sizeCs cases
 obtain ⟨ks, cv, rfl, hk, hn, hks, hcv⟩ := RT_mk.1 ht
 have hn1 : -9223372036854775808 ≤ num := hn.1
 have hn2 : num ≤ 9223372036854775807 := hn.2
 refine Zn Tryz.func84 rfl rfl <| Zc <| Za <| JLr (Zo (l := [.func (.func gv) ⟨fvs⟩ ⟨cvs⟩, .func (.func gr) ⟨frs⟩ ⟨crs⟩]) rfl rfl fun b1 => JLr (Zo (l := pkT kind num ref ks cv) rfl rfl fun b2 => JLr (Zl (l := pkT 0 0 zS nS nS) Tryz.zeroValue27 rfl fun b3 => Zb <| Zc <| Zc <| Za <| JLq (pp b2 0) (ZG rfl rfl) <| JLr (Zd ty3 rfl (At.bx 1 rfl) (ZU ..) <| JLn (Pu.eql rfl rfl) ?_))))
 refine JLM rfl <| Zv 4 [16, 17, 18, 19] [(19, cond (decide (kind = 1)) (.bool (decide (b ≤ num))) undef)] ?_ fun f5 => ?_
 ·cases h4 : (decide (kind = 1)) with
  | true =>
   replace h4 := dt h4
   refine JLq (pp b2 1) (Ya rfl rfl) <| JLr (Zd ty3 rfl (At.bx 1 rfl) (Yn ..) <| JLM rfl <| JLn (Pu.geq rfl rfl) ?_)
   exact Zb ⟨⟨rfl, trivial⟩, rfl⟩
  | false =>
   exact Zx rfl ⟨rfl, trivial⟩
 refine JLn (Pu.pickAnd rfl rfl rfl) <| Zb <| Zf rfl (fun h6 => ?_) (fun h6 => ?_)
 ·obtain ⟨h6a, h6b⟩ := YM h6
  replace h6a := dt h6a
  replace h6b := dt h6b
  refine Zc <| Za <| JLq (pp b1 0) (fa141_0 rfl rfl) <| JLr (Zd ty139 rfl (At.bx 2 rfl) rfl <| JLq (pp b2 1) (Ya rfl rfl) <| JLr (Zd ty3 rfl (At.bx 1 rfl) (Yn ..) <| JLM rfl <| JLn (Pu.sub64 rfl rfl (by first | omega | (constructor <;> omega))) <| JLM rfl <| Zw 3 rfl hcallv rfl rfl (fun hin => hgv _ _ _ _ (Hle.hu _ _) hs (by omega) (by omega) (by omega) (by omega)) rfl ?_))
  rintro _ _ ⟨cs7, k7, rfl, rfl, hO7⟩
  refine JLr (Ze 2 (vs := cs7) (l := cs7) Zt rfl rfl rfl rfl hO7.len hO7.ok (ZL (n := 36) rfl hO7.len) <| Zb <| Zm <| ⟨.agg ⟨cs7⟩, [k7, Sc ((vf (num - b) b s).2)], Ret.one rfl (RV.cell Zt rfl (At.bx 2 rfl) (Zr hO7.len)), (Sk (Sk Sub.nil)), ?_⟩)
  have hx : kind = 1 ∧ b ≤ num := ⟨h6a, h6b⟩
  exact ⟨_, _, rfl, by rw [YK, if_pos hx], by rw [YK, if_pos hx]; exact hO7⟩
 refine Zj <| Zc <| ZC mixed #[0, 1, 0, 4, 0, 16, 0, 64, 240, 511, 0, 2047] 11 [some 29, some 30, some 31, some 32, some 33, some 34, some 35, some 36, some 37, some 38, some 7] [] [(8, fun _ _ vw qw => vw = .agg ⟨sC (rf ref)⟩ ∧ qw = []), (10, newP 27 (pkT 0 0 zS nS nS))] rfl (by kernel_rfl) rfl (by kernel_rfl) <| Dq (pp b2 0) (fun _ => ZG rfl rfl) <| Dl1 ty3 (At.bx 1 rfl) (ZU ..) <| Dq (pp b2 1) (fun _ => Ya rfl rfl) <| Dl1 ty3 (At.bx 1 rfl) (Yn ..) <| Dq (pp b1 1) (fun _ => fa141_1 rfl rfl) <| Dl1 ty112 (At.bx 2 rfl) rfl <| Dq (pp b2 2) (fun _ => Yq rfl rfl) <| Dl ZR (At.bx 1 rfl) (Y5 ..) <| Dc rfl hcallr (fun _ => rfl) (fun hin => hgr _ _ (Hle.hu _ _)) ?_
 rintro _ _ ⟨rfl, rfl⟩
 refine Dq (.agg ⟨pkT kind num (rf ref) nS nS⟩) (fun _ => Pu.build (pv := [(0, iv kind), (1, iv num), (2, .agg ⟨sC (rf ref)⟩)]) (l := pkT kind num (rf ref) nS nS) rfl (bld27_0_1_2 _ _ _)) <| Da Tryz.zeroValue27 rfl fun b9 => ZK (M' := [(BX b9 (pkT 0 0 zS nS nS) 27), (BX b3 (pkT 0 0 zS nS nS) 27), (BX b2 (pkT kind num ref ks cv) 27), (BX b1 [.func (.func gv) ⟨fvs⟩ ⟨cvs⟩, .func (.func gr) ⟨frs⟩ ⟨crs⟩] 141), Sc s]) rfl ?_
 show JL _ _ _ [_] _ _ _
 refine JLr (Ze 0 (vs := pkT kind num (rf ref) nS nS) (l := pkT kind num (rf ref) nS nS) Zt rfl rfl rfl rfl rfl (Z2 rfl rfl) (Y4 ..) <| Zb <| Zc <| Za <| JLq (pp b2 34) (ZY rfl rfl) <| JLr (Zd YA rfl (At.bx 2 rfl) (ZV ..) ?_))
 obtain ⟨a10, cap10, hv10⟩ := hks.sl
 have hle10 := hks.le
 refine JLn (Pu.lenSl Tryz.runUnderlying24 hv10) <| JLr (Runs_makeO (kids.length) Tryz.runUnderlying24 el27 rfl rfl rfl rfl (by omega) (by omega) fun v11 k11 ho11 => JLq (pp b9 34) (ZY rfl rfl) <| JLr (Ze 1 (vs := [v11]) (l := pkT kind num (rf ref) v11 nS) YA rfl rfl rfl (ZJ ho11.one) rfl (Zi ho11.one Zp) (pkT_s34 ..) <| Zb <| Zc <| Za <| JLq (pp b9 34) (ZY rfl rfl) <| JLr (Zd YA rfl (At.bx 1 rfl) (ZV ..) <| JLq (pp b2 34) (ZY rfl rfl) <| JLr (Zd YA rfl (At.bx 3 rfl) (ZV ..) ?_))))
 obtain ⟨es12, he12, hH12, hl12, hok12, hsr12⟩ := kids_src (P := Tryz.prog) hks
 refine JLr (Runs_copy (i := 0) (n := kids.length) (m := kids.length) (es' := es12) Tryz.runUnderlying24 el27 rfl rfl rfl ho11 (fun F w m => hsr12 w _ m) he12 (by simp) hl12 hok12 rfl fun kc12 hc12 => Zb <| Zc <| Zc <| Za <| JLq (pp b9 34) (ZY rfl rfl) <| JLr (Zd YA rfl (At.bx 1 rfl) (ZV ..) ?_))
 obtain ⟨a13, cap13, hv13⟩ := hc12.sl
 rw [he12] at hv13
 refine JLn (Pu.lenSl Tryz.runUnderlying24 hv13) <| JLM rfl <| Zb <| Zk ?_
 have hneg : ¬ (kind = 1 ∧ b ≤ num) := by intro hh; simp [hh.1, hh.2] at h6
 refine ZF (fun k ρ M => ∃ (j : Nat) (es : List (List Value)) (k1 k2 : Zh) (s1 : σ), ρ 2 = iv b ∧ ρ 3 = pp b1 0 ∧ ρ 4 = pp b2 0 ∧ ρ 6 = pp b3 0 ∧ ρ 7 = pp b9 0 ∧ ρ 50 = v11 ∧ ρ 51 = iv ((kids.length : Int)) ∧ ρ 52 = iv ((j : Int)) ∧ Sub [(BX b9 (pkT kind num (rf ref) v11 nS) 27), k1, k2, Sc s1, (BX b3 (pkT 0 0 zS nS nS) 27), (BX b2 (pkT kind num ref ks cv) 27), (BX b1 [.func (.func gv) ⟨fvs⟩ ⟨cvs⟩, .func (.func gr) ⟨frs⟩ ⟨crs⟩] 141)] M ∧ j ≤ kids.length ∧ Own 27 36 v11 es k1 ∧ Half H kids (Yw rf vf b kind 0 (kids.take j) s).1 j es k2 ∧ Inv s1 ∧ (Yw rf vf b kind 0 (kids.take j) s).2 = s1 ∧ k = kids.length - j) _ ⟨0, es12, kc12, [], s, rfl, rfl, rfl, rfl, rfl, rfl, rfl, rfl, (Sub.cons 1 rfl (Sk (Sub.emp (Sub.cons 3 rfl (Sk (Sk (Sk Sub.nil))))))), Nat.zero_le _, hc12, hH12, hs, rfl, rfl⟩ ?_
 rintro _ ρ14 _ ⟨j, es, k1, k2, s1, e15, e16, e17, e18, e19, e20, e21, e22, hm23, hj, ho, hH, hs1, hsq, rfl⟩
 obtain ⟨ρ24, rfl⟩ := Zu (uc e15 (uc e16 (uc e17 (uc e18 (uc e19 (uc e20 (uc e21 (uc e22 un))))))))
 clear e15 e16 e17 e18 e19 e20 e21 e22
 refine ZI hm23 <| Zc <| Za <| JLn (Pu.lss rfl rfl) <| Zb <| Zc <| Zf rfl (fun h25 => ?_) (fun h25 => ?_)
 ·replace h25 := dt h25
  have h25n : j < kids.length := by omega
  have hz1 := YY _ (List.getElem_mem h25n)
  have hm1 := more_le kind j
  refine Zj <| Zc <| Zk <| Zc <| Za <| JLM rfl ?_
  obtain ⟨b26, cap26, row26, e26, hv26, hm26, hs26, hE26⟩ := hH.at ho h25n
  refine JLq (pp b26 (0 + j * 36)) (Pu.idx j Tryz.runUnderlying24 Zt hv26 rfl rfl (by rw [hH.1]; exact h25n)) <| JLr (Zg Zt rfl (At.k 1 rfl hm26) hs26 <| JLr (Zl (l := pkT 0 0 zS nS nS) Tryz.zeroValue27 rfl fun b27 => JLA rfl <| JLr (Ze 0 (vs := e26) (l := e26) Zt rfl rfl rfl rfl (Zq hE26) (YV hE26) (ZL (n := 36) rfl (Zq hE26)) <| Zb <| ZC mixed #[0, 1, 0, 0, 0, 0, 0, 64, 0, 448, 992, 2040, 4095, 8191] 12 [some 57, some 58, some 59, some 60, some 61, some 62, some 63, some 64, some 65, some 66, some 67, some 68] [(11, 16)] [(9, fun _ _ vw qw => vw = iv (Z4 kind ((j : Int))) ∧ qw = []), (11, fun _ _ vw qw => ∃ cs k, vw = .agg ⟨cs⟩ ∧ qw = [k, Sc ((YK rf vf (b + (Z4 kind ((j : Int)))) (kids[j]) s1).2)] ∧ OT ((YK rf vf (b + (Z4 kind ((j : Int)))) (kids[j]) s1).1) cs k)] rfl (by kernel_rfl) rfl (by kernel_rfl) <| Dq (pp b9 34) (fun _ => ZY rfl rfl) <| Dl1 YA (At.bx 1 rfl) (ZV ..) <| DM (fun _ => rfl) <| Dl ty141 (At.bx 7 rfl) rfl <| Dl Zt (At.bx 0 rfl) (Zr (Zq hE26)) <| DM (fun _ => rfl) ?_)))
  refine Dq (pp b2 0) (fun _ => ZG rfl rfl) <| Dl1 ty3 (At.bx 6 rfl) (ZU ..) <| DM (fun _ => rfl) <| Dc rfl Tryz.call96 (fun _ => rfl) (fun hin => more_ct _ _ _) ?_
  rintro _ _ ⟨rfl, rfl⟩
  refine Dn (fun _ => Pu.add64 rfl rfl (by first | omega | (constructor <;> omega))) ?_
  refine DJ_call1 4 rfl rfl (fun _ => rfl) Tryz.call84 (fun _ => rfl) rfl (fun hin => ih _ (List.getElem_mem h25n) _ _ _ _ (RT.mono (Hle.hu _ _) hE26) (by omega) (vOKs_mem hv.2.1 _ (List.getElem_mem h25n)) (by omega) (by omega) hs1 (fun s h hh => hgr s h (Hle.trans (Hle.hu _ _) hh)) (fun n b s h hh => hgv n b s h (Hle.trans (Hle.hu _ _) hh))) (fun _ => rfl) ?_
  rintro _ _ ⟨cs29, k29, rfl, rfl, hO29⟩
  refine ZK (M' := [k29, Sc ((YK rf vf (b + (Z4 kind ((j : Int)))) (kids[j]) s1).2), (BX b27 e26 27), (BX b9 (pkT kind num (rf ref) v11 nS) 27), k1, k2, (BX b3 (pkT 0 0 zS nS nS) 27), (BX b2 (pkT kind num ref ks cv) 27), (BX b1 [.func (.func gv) ⟨fvs⟩ ⟨cvs⟩, .func (.func gr) ⟨frs⟩ ⟨crs⟩] 141)]) rfl ?_
  show JL _ _ _ [_, _] _ _ _
  obtain ⟨b30, cap30, row30, e30, hv30, hm30, hs30, hE30⟩ := hH.at ho h25n
  refine JLq (pp b30 (0 + j * 36)) (Pu.idx j Tryz.runUnderlying24 Zt hv30 rfl rfl (by rw [hH.1]; exact h25n)) <| JLr (Yr (i := 4) (j := j) (b := b30) Zt rfl ho ⟨_, _, hv30⟩ rfl (by rw [hH.1]; exact h25n) rfl rfl hO29.len hO29.ok fun k31 ho31 => Zb <| Za <| JLn (Pu.inc rfl rfl (by omega)) <| JLM rfl <| Zb <| ⟨_, ?_, (j + 1), (es.set j cs29), k31, (k2 ++ k29), ((YK rf vf (b + (Z4 kind ((j : Int)))) (kids[j]) s1).2), rfl, rfl, rfl, rfl, rfl, rfl, rfl, rfl, (Sub.cons 3 rfl (Sub.cons 3 rfl (Sub.join (Sub.cons 3 rfl (Sk (Sk (Sd (Sk (Sk (Sk Sub.nil)))))))))), ?_, ?_, ?_, ?_, ?_, rfl⟩)
  ·omega
  ·omega
  ·exact ho31
  ·rw [mapTs_take0 rf vf b kind kids j s h25n, hsq]; exact hH.step h25n hO29
  ·exact mapT_inv hI _ _ _ hs1
  rw [mapTs_take0 rf vf b kind kids j s h25n, hsq]
 replace h25 := df h25
 have h25n : kids.length ≤ j := by omega
 refine Zy _ rfl <| Zc <| Zc <| Za <| JLq (pp b2 35) (ZP rfl rfl) <| JLr (Zd Ym rfl (At.bx 5 rfl) (ZO ..) ?_)
 obtain ⟨a32, cap32, hv32⟩ := hcv.sl
 have hle32 := hcv.le
 refine JLn (Pu.lenSl Tryz.runUnderlying25 hv32) <| JLM rfl <| Zb <| Zk ?_
 have hjk := h25n
 rw [List.take_of_length_le hjk] at hsq hH
 refine ZF (fun k ρ M => ∃ (j : Nat) (w : Value) (es2 : List (List Value)) (k3 k4 : Zh) (s2 : σ), ρ 2 = iv b ∧ ρ 3 = pp b1 0 ∧ ρ 6 = pp b3 0 ∧ ρ 7 = pp b9 0 ∧ ρ 72 = cv ∧ ρ 73 = iv ((cases.length : Int)) ∧ ρ 74 = iv ((j : Int)) ∧ Sub [(BX b9 (pkT kind num (rf ref) v11 w) 27), k3, k4, Sc s2, k1, k2, (BX b3 (pkT 0 0 zS nS nS) 27), (BX b2 (pkT kind num ref ks cv) 27), (BX b1 [.func (.func gv) ⟨fvs⟩ ⟨cvs⟩, .func (.func gr) ⟨frs⟩ ⟨crs⟩] 141)] M ∧ j ≤ cases.length ∧ Own 56 71 w es2 k3 ∧ OCs (YR rf vf b (cases.take j) s1).1 es2 k4 ∧ Inv s2 ∧ (YR rf vf b (cases.take j) s1).2 = s2 ∧ k = cases.length - j) _ ⟨0, nS, [], [], [], s1, rfl, rfl, rfl, rfl, rfl, rfl, rfl, (Sk (Sub.emp (Sub.emp (Sub.cons 2 rfl (Sk (Sk (Sk (Sk (Sk Sub.nil))))))))), Nat.zero_le _, Own.nil, OCs.nil, hs1, rfl, rfl⟩ ?_
 rintro _ ρ33 _ ⟨j, w, es2, k3, k4, s2, e34, e35, e36, e37, e38, e39, e40, hm41, hj, how, hopw, hs2, hsq2, rfl⟩
 obtain ⟨ρ42, rfl⟩ := Zu (uc e34 (uc e35 (uc e36 (uc e37 (uc e38 (uc e39 (uc e40 un)))))))
 clear e34 e35 e36 e37 e38 e39 e40
 refine ZI hm41 <| Zc <| Za <| JLn (Pu.lss rfl rfl) <| Zb <| Zc <| Zf rfl (fun h43 => ?_) (fun h43 => ?_)
 ·replace h43 := dt h43
  have h43n : j < cases.length := by omega
  have helw := OCs_len hopw
  rw [mapCs_len, List.length_take] at helw
  have hz1 := Yp _ (List.getElem_mem h43n)
  have hm1 := binds_le (cases[j]).1
  refine Zj <| Zc <| Zk <| Zc <| Za ?_
  obtain ⟨b44, o44, cap44, row44, T44, fr44, cs44, hv44, hb44, hs44, hE44⟩ := hcv.get j (by first | assumption | omega | decide | simp)
  obtain ⟨ca44, cb44, rfl, hA44, hB44⟩ := hE44
  refine JLq (pp b44 (o44 + j * 71)) (Pu.idx j Tryz.runUnderlying25 Yl hv44 rfl rfl (by first | assumption | omega | decide | simp)) <| JLr (Zg Yl rfl (At.im hb44) hs44 <| JLr (Zl (l := (pkP 0 0 zS nS) ++ (pkT 0 0 zS nS nS)) Tryz.zeroValue56 rfl fun b45 => JLr (Ze 0 (vs := ca44 ++ cb44) (l := ca44 ++ cb44) Yl rfl rfl rfl rfl (ZW (Zz hA44) (Zq hB44)) (Z6 (RP_ok hA44) (YV hB44)) (ZL (n := 71) rfl (ZW (Zz hA44) (Zq hB44))) <| Zb <| ZC mixed #[0, 1, 0, 0, 8, 28, 0, 0, 128, 0, 0, 1024, 3132, 7740, 16380, 32764, 65532, 131071, 262143, 524287] 17 [some 78, some 79, some 80, some 81, some 82, some 83, some 84, some 85, some 86, some 87, some 88, some 89, some 90, some 91, some 92, some 93, some 94] [(14, 21)] [(5, fun _ _ vw qw => ∃ cs k, vw = .agg ⟨cs⟩ ∧ qw = [k] ∧ OP (mapP rf (cases[j].1)) cs k), (12, fun _ _ vw qw => vw = iv ((binds (cases[j].1) : Int)) ∧ qw = []), (14, fun _ _ vw qw => ∃ cs k, vw = .agg ⟨cs⟩ ∧ qw = [k, Sc ((YK rf vf (b + ((binds (cases[j].1) : Int))) (cases[j].2) s2).2)] ∧ OT ((YK rf vf (b + ((binds (cases[j].1) : Int))) (cases[j].2) s2).1) cs k), (16, fun r _ vw qw => ∃ b k, vw = .slice (some ⟨b, 0, none⟩) 1 1 ∧ qw = [k] ∧ Own 56 71 (.slice (some ⟨b, 0, none⟩) 1 1) [((cel (r 5))) ++ ((cel (r 14)))] k ∧ k = (BX b (List.flatten [((cel (r 5))) ++ ((cel (r 14)))]) 56))] rfl (by kernel_rfl) rfl (by kernel_rfl) <| Dq (pp b9 35) (fun _ => ZP rfl rfl) <| Dl1 Ym (At.bx 1 rfl) (ZO ..) <| Dl ty141 (At.bx 9 rfl) rfl <| Dq (pp b45 0) (fun _ => YE rfl rfl) <| Dl ZQ (At.bx 0 rfl) (Y3 (Zz hA44)) ?_)))
  refine Dc rfl Tryz.call109 (fun _ => rfl) (fun hin => mapPattern_ct gr frs crs hcallr rf _ rfl _ _ _ (RP.mono (Hle.hu _ _) hA44) (fun s h hh => hgr s h (Hle.trans (Hle.hu _ _) hh)) (by omega)) ?_
  rintro _ _ ⟨cs49, k49, rfl, rfl, hO49⟩
  refine Dl ty141 (At.bx 9 rfl) rfl <| Dq (pp b45 35) (fun _ => Y9 rfl rfl) <| Dl Zt (At.bx 0 rfl) (sub_r (Zz hA44) (Zq hB44)) <| DM (fun _ => rfl) <| Dq (pp b45 0) (fun _ => YE rfl rfl) <| Dl ZQ (At.bx 0 rfl) (Y3 (Zz hA44)) ?_
  refine Dc rfl Tryz.call97 (fun _ => rfl) (fun hin => binds_ct _ _ _ (RP.mono (Hle.hu _ _) hA44) (by omega)) ?_
  rintro _ _ ⟨rfl, rfl⟩
  refine Dn (fun _ => Pu.add64 rfl rfl (by first | omega | (constructor <;> omega))) ?_
  refine DJ_call1 5 rfl rfl (fun _ => rfl) Tryz.call84 (fun _ => rfl) rfl (fun hin => ih' _ (List.getElem_mem h43n) _ _ _ _ (RT.mono (Hle.hu _ _) hB44) (by omega) (vOKc_mem hv.2.2 _ (List.getElem_mem h43n)) (by omega) (by omega) hs2 (fun s h hh => hgr s h (Hle.trans (Hle.hu _ _) hh)) (fun n b s h hh => hgv n b s h (Hle.trans (Hle.hu _ _) hh))) (fun _ => rfl) ?_
  rintro _ _ ⟨cs50, k50, rfl, rfl, hO50⟩
  refine Dq (.agg ⟨cs49 ++ cs50⟩) (fun _ => Pu.build (pv := [(0, .agg ⟨cs49⟩), (1, .agg ⟨cs50⟩)]) (l := cs49 ++ cs50) rfl (bld56_0_1 hO49.len hO50.len)) <| Dr rfl (fun _ => Zs (vs := [.agg ⟨cs49 ++ cs50⟩]) [cs49 ++ cs50] Tryz.runUnderlying25 el56 rfl rfl (by intro e he; simp only [List.mem_cons, List.not_mem_nil, or_false] at he; subst he; exact (ZW hO49.len hO50.len)) rfl (by decide) fun b k h1 h2 => ⟨[k], by rw [Z9 rfl]; exact Sub.refl, b, k, rfl, rfl, h1, h2⟩) (fun _ _ ⟨b51, k51, e1, e2, ho51, hk51⟩ => ?_); subst e1 e2
  refine ZK (M' := [k51, k50, Sc ((YK rf vf (b + ((binds (cases[j].1) : Int))) (cases[j].2) s2).2), k49, (BX b45 (ca44 ++ cb44) 56), (BX b9 (pkT kind num (rf ref) v11 w) 27), k3, k4, k1, k2, (BX b3 (pkT 0 0 zS nS nS) 27), (BX b2 (pkT kind num ref ks cv) 27), (BX b1 [.func (.func gv) ⟨fvs⟩ ⟨cvs⟩, .func (.func gr) ⟨frs⟩ ⟨crs⟩] 141)]) rfl ?_
  show JL _ _ _ [_, _, _] _ _ _
  have hlens52 : ∀ e ∈ ([cs49 ++ cs50] : List (List Value)), List.length e = 71 := by
   intro e he; simp only [List.mem_cons, List.not_mem_nil, or_false] at he
   rcases he with rfl
   ·exact (ZW hO49.len hO50.len)
  have hoks52 : ∀ e ∈ ([cs49 ++ cs50] : List (List Value)), okc e := by
   intro e he; simp only [List.mem_cons, List.not_mem_nil, or_false] at he
   rcases he with rfl
   ·exact (Z6 hO49.ok hO50.ok)
  refine JLr (ZB (i := 6) (n := 1) (es' := [cs49 ++ cs50]) Tryz.runUnderlying25 Tryz.runUnderlying25 (Or.inl rfl) el56 rfl rfl rfl how (fun F w m => Src.row (((At.k 0 rfl (by rw [hk51]; exact List.mem_cons_self))).heap m) (Zr (ZA hlens52))) rfl hlens52 hoks52 (by decide) (by omega) fun v52 k52 ho52 => JLq (pp b9 35) (ZP rfl rfl) <| JLr (Ze 5 (vs := [v52]) (l := pkT kind num (rf ref) v11 v52) Ym rfl rfl rfl (ZJ ho52.one) rfl (Zi ho52.one Zp) (pkT_s35 ..) <| Zb <| Za <| JLn (Pu.inc rfl rfl (by omega)) <| JLM rfl <| Zb <| ⟨_, ?_, (j + 1), v52, (es2 ++ [cs49 ++ cs50]), k52, (k4 ++ (k49 ++ k50)), ((YK rf vf (b + ((binds (cases[j].1) : Int))) (cases[j].2) s2).2), rfl, rfl, rfl, rfl, rfl, rfl, rfl, (Sd (Sub.cons 4 rfl (Sub.cons 4 rfl (Sub.join3 (Sub.cons 4 rfl (Sub.cons 2 rfl (Sk (Sk (Sd (Sk (Sk (Sk (Sk (Sk Sub.nil)))))))))))))), ?_, ?_, ?_, ?_, ?_, rfl⟩))
  ·omega
  ·omega
  ·exact ho52
  ·rw [mapCs_take rf vf b cases j s1 h43n, hsq2]; exact OCs.snoc hO49 hO50 hopw
  ·exact mapT_inv hI _ _ _ hs2
  rw [mapCs_take rf vf b cases j s1 h43n, hsq2]
 replace h43 := df h43
 have h43n : cases.length ≤ j := by omega
 refine Zy _ rfl <| Zc <| Za <| JLr (Zg Zt rfl (At.bx 0 rfl) (YI ..) <| JLr (Ze 6 (vs := pkT kind num (rf ref) v11 w) (l := pkT kind num (rf ref) v11 w) Zt rfl rfl rfl rfl rfl (Z2 ho.one how.one) (Y4 ..) <| Zb <| Zm <| ⟨.agg ⟨pkT kind num (rf ref) v11 w⟩, [k1 ++ (k2 ++ (k3 ++ k4)), Sc s2], Ret.one rfl (RV.cell Zt rfl (At.bx 6 rfl) (YI ..)), (Sub.join4 (Sd (Sub.cons 3 rfl (Sub.cons 3 rfl (Sk (Sk (Sk Sub.nil))))))), ?_⟩))
 rw [List.take_of_length_le h43n] at hopw hsq2
 exact ⟨_, _, rfl, by rw [YK, if_neg hneg, hsq, hsq2], by rw [YK, if_neg hneg, hsq]; exact OT_mk.2 ⟨_, w, es, es2, k1, k2, k3, k4, rfl, hk, hn, ho, hH.done hjk, how, hopw, rfl, by rw [mapTs_len]; exact hks.le, by rw [mapCs_len]; exact hcv.le⟩⟩
end Go.Proofs.YtfdeibbpfgolcaaGreat.Hs
/-! The mapper without a state. -/
namespace Go.Proofs.YtfdeibbpfgolcaaGreat.Hs
open Go Go.Proofs
set_option maxRecDepth 100000

theorem CT.nils {P : Program} {f : FuncId} {a : Array Value} {H : Heap} {t : Tm} (h : CT P f a [] H (fun v N => ∃ cs k, v = .agg ⟨cs⟩ ∧ N = [k] ∧ OT t cs k)) :
    CT P f a [[]] H (fun v N => ∃ cs k, v = .agg ⟨cs⟩ ∧ N = [k, []] ∧ OT t cs k) := fun F w m => by
  refine (h F w (by simpa using m)).mono ?_
  rintro e w' ⟨v, N, h1, h2, cs, k, h3, h4, h5⟩
  subst h4
  exact ⟨v, [k, []], h1, by simpa using h2, cs, k, h3, rfl, h5⟩
theorem CT.unnils {P : Program} {f : FuncId} {a : Array Value} {H : Heap} {t : Tm} (h : CT P f a [[]] H (fun v N => ∃ cs k, v = .agg ⟨cs⟩ ∧ N = [k, []] ∧ OT t cs k)) :
    CT P f a [] H (fun v N => ∃ cs k, v = .agg ⟨cs⟩ ∧ N = [k] ∧ OT t cs k) := fun F w m => by
  refine (h F w (by simpa using m)).mono ?_
  rintro e w' ⟨v, N, h1, h2, cs, k, h3, h4, h5⟩
  subst h4
  exact ⟨v, [k], h1, by simpa using h2, cs, k, h3, rfl, h5⟩

theorem mapTermP_ct (gr : Nat) (frs crs : List Value) (hcallr : ∀ args w, (callFunc gr args).run Tryz.prog w = .ok (.enter gr args) w) (rf : Sm → Sm) (gv : Nat) (fvs cvs : List Value) (hcallv : ∀ args w, (callFunc gv args).run Tryz.prog w = .ok (.enter gv args) w)
    (vf : Int → Int → Tm) (t : Tm) (b : Int) (cs : List Value) (H : Heap) (ht : RT H cs t) (hz : sizeT t ≤ 1000000) (hv : vOK t) (hb0 : 0 ≤ b) (hb : b + 2 * sizeT t ≤ 2000000)
    (hgr : ∀ s h, Hle H h → CT Tryz.prog gr ⟨frs ++ [.agg ⟨sC s⟩] ++ crs⟩ [] h (fun v N => v = .agg ⟨sC (rf s)⟩ ∧ N = []))
    (hgv : ∀ (n b : Int) (h : Heap), Hle H h → 0 ≤ n → n ≤ 2000000 → 0 ≤ b → b ≤ 2000000 → CT Tryz.prog gv ⟨fvs ++ [.int .i64 n, .int .i64 b] ++ cvs⟩ [] h (fun v N => ∃ cs k, v = .agg ⟨cs⟩ ∧ N = [k] ∧ OT (vf n b) cs k)) :
    CT Tryz.prog 84 ⟨[.agg ⟨[.func (.func gv) ⟨fvs⟩ ⟨cvs⟩, .func (.func gr) ⟨frs⟩ ⟨crs⟩]⟩, .agg ⟨cs⟩, .int .i64 b]⟩ [] H (fun v N => ∃ cs k, v = .agg ⟨cs⟩ ∧ N = [k] ∧ OT (mapQ rf vf b t) cs k) :=
  CT.unnils (mapTerm_ct gr frs crs hcallr rf gv fvs cvs hcallv Unit (fun _ => []) (fun _ => True) (fun n b s => (vf n b, s)) (fun _ _ _ _ => trivial) t b () cs H ht hz hv hb0 hb trivial hgr
    (fun n b _ h hh _ h1 h2 h3 h4 => CT.nils (hgv n b h hh h1 h2 h3 h4)))
end Go.Proofs.YtfdeibbpfgolcaaGreat.Hs
/-! Walks, printed by a program of this session's own (gen.py). -/
namespace Go.Proofs.YtfdeibbpfgolcaaGreat.Hs
open Go Go.Proofs
set_option maxRecDepth 100000
set_option linter.unusedVariables false
set_option linter.unusedSimpArgs false
attribute [local irreducible] JL J CT wlo DT
theorem shiftedV_ct (n b dy fr : Int) (H : Heap) (bF bD : Nat) (hF : H bF = some (.cells ⟨[iv fr]⟩ 3 (0, 0))) (hD : H bD = some (.cells ⟨[iv dy]⟩ 3 (0, 0))) (hn0 : 0 ≤ n) (hn1 : n ≤ 2000000) (hb0 : 0 ≤ b) (hb1 : b ≤ 2000000) (hd0 : -2000000 ≤ dy) (hd1 : dy ≤ 2000000) : CT Tryz.prog 108 ⟨[iv n, iv b, pp bF 0, pp bD 0]⟩ [] H (fun v N => ∃ cs k, v = .agg ⟨cs⟩ ∧ N = [k] ∧ OT (shv dy fr n b) cs k) := by
 refine Zn Tryz.func108 rfl rfl <| Zc <| Za <| JLr (Zl (l := pkT 0 0 zS nS nS) Tryz.zeroValue27 rfl fun b1 => Zb <| Zc <| Zc <| Za <| JLM rfl <| JLr (Zd ty3 rfl (At.im hF) rfl <| JLn (Pu.geq rfl rfl) <| Zb <| Zf rfl (fun h2 => ?_) (fun h2 => ?_)))
 ·replace h2 := dt h2
  refine Za <| JLM rfl <| JLr (Zd ty3 rfl (At.im hD) rfl <| JLn (Pu.add64 rfl rfl (by first | omega | (constructor <;> omega))) <| JLA rfl <| Zb <| Zc <| Za <| JLM rfl <| JLM rfl <| Jc Tryz.call82 rfl (fun hin => stay_ct _ _ _ (by unfold inI; omega)) rfl ?_)
  rintro _ _ ⟨cs3, k3, rfl, rfl, hO3⟩
  refine JLr (Ze 1 (vs := cs3) (l := cs3) Zt rfl rfl rfl rfl hO3.len hO3.ok (ZL (n := 36) rfl hO3.len) <| Zb <| Zm <| ⟨.agg ⟨cs3⟩, [k3], Ret.one rfl (RV.cell Zt rfl (At.bx 1 rfl) (Zr hO3.len)), (Sk Sub.nil), ?_⟩)
  have hx : shv dy fr n b = .mk 1 (n + dy + b) zS [] [] := by first | rfl | (simp only [shv]; (repeat' split) <;> first | rfl | (exfalso; omega))
  exact ⟨_, _, rfl, rfl, by rw [hx]; exact hO3⟩
 replace h2 := df h2
 refine Zj <| Zc <| Za <| JLM rfl <| JLM rfl <| Jc Tryz.call82 rfl (fun hin => stay_ct _ _ _ (by unfold inI; omega)) rfl ?_
 rintro _ _ ⟨cs4, k4, rfl, rfl, hO4⟩
 refine JLr (Ze 1 (vs := cs4) (l := cs4) Zt rfl rfl rfl rfl hO4.len hO4.ok (ZL (n := 36) rfl hO4.len) <| Zb <| Zm <| ⟨.agg ⟨cs4⟩, [k4], Ret.one rfl (RV.cell Zt rfl (At.bx 1 rfl) (Zr hO4.len)), (Sk Sub.nil), ?_⟩)
 have hx : shv dy fr n b = .mk 1 (n + b) zS [] [] := by first | rfl | (simp only [shv]; (repeat' split) <;> first | rfl | (exfalso; omega))
 exact ⟨_, _, rfl, rfl, by rw [hx]; exact hO4⟩
theorem shifted_ct (t : Tm) (dy fr : Int) (cs : List Value) (H : Heap) (ht : RT H cs t) (hz : sizeT t ≤ 900000) (hv : vOK t) (hd0 : -2000000 ≤ dy) (hd1 : dy ≤ 2000000) : CT Tryz.prog 81 ⟨[.agg ⟨cs⟩, iv dy, iv fr]⟩ [] H (fun v N => ∃ cs k, v = .agg ⟨cs⟩ ∧ N = [k] ∧ OT (shT dy fr t) cs k) := by
 refine Zn Tryz.func81 rfl rfl <| Zc <| Za <| JLr (Zo (l := cs) rfl rfl fun b1 => JLr (Zo (l := [iv dy]) rfl rfl fun b2 => JLr (Zo (l := [iv fr]) rfl rfl fun b3 => JLr (Zl (l := pkT 0 0 zS nS nS) Tryz.zeroValue27 rfl fun b4 => Zb <| Zc <| Za <| JLq (.func (.func 108) ⟨[]⟩ ⟨[pp b3 0, pp b2 0]⟩) (Pu.makeFunc rfl rfl) <| JLq (.agg ⟨[.func (.func 108) ⟨[]⟩ ⟨[pp b3 0, pp b2 0]⟩, .func (.func 83) ⟨[]⟩ ⟨[]⟩]⟩) (Pu.build (pv := [(0, .func (.func 108) ⟨[]⟩ ⟨[pp b3 0, pp b2 0]⟩), (1, .func (.func 83) ⟨[]⟩ ⟨[]⟩)]) (l := [.func (.func 108) ⟨[]⟩ ⟨[pp b3 0, pp b2 0]⟩, .func (.func 83) ⟨[]⟩ ⟨[]⟩]) rfl (bld141_0_1 _ _ _ _ _ _)) <| JLr (Zg Zt rfl (At.bx 3 rfl) (Zr (Zq ht)) ?_)))))
 refine Jc Tryz.call84 rfl (fun hin => mapTermP_ct 83 [] [] Tryz.call83 (fun s => s) 108 [] [pp b3 0, pp b2 0] Tryz.call108 (shv dy fr) _ _ _ _ (RT.mono (Hle.hu _ _) ht) (by omega) hv (by decide) (by omega) (fun s h hh => same_ct s h) (fun n b h hh h1 h2 h3 h4 => shiftedV_ct n b dy fr h b3 b2 (hh _ _ (hin 1 _ rfl _ _ List.mem_cons_self)) (hh _ _ (hin 2 _ rfl _ _ List.mem_cons_self)) h1 h2 h3 h4 hd0 hd1)) rfl ?_
 rintro _ _ ⟨cs5, k5, rfl, rfl, hO5⟩
 refine JLr (Ze 1 (vs := cs5) (l := cs5) Zt rfl rfl rfl rfl hO5.len hO5.ok (ZL (n := 36) rfl hO5.len) <| Zb <| Zm <| ⟨.agg ⟨cs5⟩, [k5], Ret.one rfl (RV.cell Zt rfl (At.bx 1 rfl) (Zr hO5.len)), (Sk Sub.nil), ?_⟩)
 have hx : shT dy fr t = mapQ (fun s => s) (shv dy fr) 0 t := by first | rfl | (simp only [shT]; (repeat' split) <;> first | rfl | (exfalso; omega))
 exact ⟨_, _, rfl, rfl, by rw [hx]; exact hO5⟩
theorem substV_ct (n b m : Int) (u : Tm) (us : List Value) (H : Heap) (bN bU : Nat) (hN : H bN = some (.cells ⟨[iv m]⟩ 3 (0, 0))) (hU : H bU = some (.cells ⟨us⟩ 27 (0, 0))) (hu1 : RT H us u) (hzu : sizeT u ≤ 900000) (hvu : vOK u) (hn0 : 0 ≤ n) (hn1 : n ≤ 2000000) (hb0 : 0 ≤ b) (hb1 : b ≤ 2000000) : CT Tryz.prog 80 ⟨[iv n, iv b, pp bN 0, pp bU 0]⟩ [] H (fun v N => ∃ cs k, v = .agg ⟨cs⟩ ∧ N = [k] ∧ OT (sbv m u n b) cs k) := by
 refine Zn Tryz.func80 rfl rfl <| Zc <| Za <| JLr (Zl (l := pkT 0 0 zS nS nS) Tryz.zeroValue27 rfl fun b1 => Zb <| Zc <| Zk <| Zc <| Za <| JLM rfl <| JLr (Zd ty3 rfl (At.im hN) rfl <| JLn (Pu.eql rfl rfl) <| JLA rfl ?_))
 refine Zb <| Zf rfl (fun h2 => ?_) (fun h2 => ?_)
 ·replace h2 := dt h2
  refine Zc <| Za <| JLr (Zg Zt rfl (At.im hU) (Zr (Zq hu1)) <| JLM rfl <| Jc Tryz.call81 rfl (fun hin => shifted_ct _ _ _ _ _ (RT.mono (Hle.hu _ _) hu1) hzu hvu (by omega) (by omega)) rfl ?_)
  rintro _ _ ⟨cs3, k3, rfl, rfl, hO3⟩
  refine JLr (Ze 1 (vs := cs3) (l := cs3) Zt rfl rfl rfl rfl hO3.len hO3.ok (ZL (n := 36) rfl hO3.len) <| Zb <| Zm <| ⟨.agg ⟨cs3⟩, [k3], Ret.one rfl (RV.cell Zt rfl (At.bx 1 rfl) (Zr hO3.len)), (Sk Sub.nil), ?_⟩)
  have hx : sbv m u n b = shT b 0 u := by first | rfl | (simp only [sbv]; (repeat' split) <;> first | rfl | (exfalso; omega))
  exact ⟨_, _, rfl, rfl, by rw [hx]; exact hO3⟩
 replace h2 := df h2
 refine Zc <| Za <| JLM rfl <| JLr (Zd ty3 rfl (At.im hN) rfl <| JLn (Pu.gtr rfl rfl) <| JLA rfl <| Zb <| Zf rfl (fun h4 => ?_) (fun h4 => ?_))
 ·replace h4 := dt h4
  refine Za <| JLM rfl <| JLn (Pu.sub64 rfl rfl (by first | omega | (constructor <;> omega))) <| JLA rfl <| Zb <| Zc <| Za <| JLM rfl <| JLM rfl <| Jc Tryz.call82 rfl (fun hin => stay_ct _ _ _ (by unfold inI; omega)) rfl ?_
  rintro _ _ ⟨cs5, k5, rfl, rfl, hO5⟩
  refine JLr (Ze 1 (vs := cs5) (l := cs5) Zt rfl rfl rfl rfl hO5.len hO5.ok (ZL (n := 36) rfl hO5.len) <| Zb <| Zm <| ⟨.agg ⟨cs5⟩, [k5], Ret.one rfl (RV.cell Zt rfl (At.bx 1 rfl) (Zr hO5.len)), (Sk Sub.nil), ?_⟩)
  have hx : sbv m u n b = .mk 1 (n - 1 + b) zS [] [] := by first | rfl | (simp only [sbv]; (repeat' split) <;> first | rfl | (exfalso; omega))
  exact ⟨_, _, rfl, rfl, by rw [hx]; exact hO5⟩
 replace h4 := df h4
 refine Zj <| Zc <| Za <| JLM rfl <| JLM rfl <| Jc Tryz.call82 rfl (fun hin => stay_ct _ _ _ (by unfold inI; omega)) rfl ?_
 rintro _ _ ⟨cs6, k6, rfl, rfl, hO6⟩
 refine JLr (Ze 1 (vs := cs6) (l := cs6) Zt rfl rfl rfl rfl hO6.len hO6.ok (ZL (n := 36) rfl hO6.len) <| Zb <| Zm <| ⟨.agg ⟨cs6⟩, [k6], Ret.one rfl (RV.cell Zt rfl (At.bx 1 rfl) (Zr hO6.len)), (Sk Sub.nil), ?_⟩)
 have hx : sbv m u n b = .mk 1 (n + b) zS [] [] := by first | rfl | (simp only [sbv]; (repeat' split) <;> first | rfl | (exfalso; omega))
 exact ⟨_, _, rfl, rfl, by rw [hx]; exact hO6⟩
theorem short_ct (t : Tm) (cs : List Value) (H : Heap) (ht : RT H cs t) : CT Tryz.prog 70 ⟨[.agg ⟨cs⟩]⟩ [] H (fun v N => v = .tuple ⟨[.agg ⟨if longB t = true then pkT 0 0 zS nS nS else cs⟩, iv (if longB t = true then 11 else 0)]⟩ ∧ N = []) := by
 refine Zn Tryz.func70 rfl rfl <| Zc <| Za <| JLr (Zo (l := cs) rfl rfl fun b1 => JLr (Zl (l := pkT 0 0 zS nS nS) Tryz.zeroValue27 rfl fun b2 => JLA rfl <| Zb <| Zc <| Zc <| Za <| JLq (.agg ⟨[iv 0]⟩) (Pu.build (pv := []) (l := [iv 0]) rfl bld132_) <| JLr (Zo (l := [iv 0]) rfl rfl fun b3 => JLr (Zg Zt rfl (At.bx 2 rfl) (Zr (Zq ht)) ?_))))
 refine Zw 0 rfl Tryz.call74 rfl rfl (fun hin => longT_ct _ _ _ _ _ _ (RT.mono (Hle.hu _ _) ht) (by omega) (by omega) (by omega) (by omega)) rfl ?_
 rintro _ _ ⟨rfl, rfl⟩
 refine Zb <| Zf rfl (fun h5 => ?_) (fun h5 => ?_)
 ·refine Zc <| Za <| JLq (.agg ⟨pkT 0 0 zS nS nS⟩) (Pu.build (pv := []) (l := pkT 0 0 zS nS nS) rfl (bld27_ )) <| JLr (Ze 1 (vs := pkT 0 0 zS nS nS) (l := pkT 0 0 zS nS nS) Zt rfl rfl rfl rfl rfl (Z2 rfl rfl) (Y4 ..) <| JLA rfl <| Zb <| Zm <| ⟨.tuple ⟨[.agg ⟨pkT 0 0 zS nS nS⟩, iv 11]⟩, [], Ret.two rfl (RV.cell Zt rfl (At.bx 1 rfl) (YI ..)) (RV.tmp rfl), Sub.nil, ?_⟩)
  rw [long_eq] at h5
  exact ⟨by simp [h5], rfl⟩
 refine Zj <| Zc <| Za <| JLr (Zg Zt rfl (At.bx 2 rfl) (Zr (Zq ht)) <| JLr (Ze 1 (vs := cs) (l := cs) Zt rfl rfl rfl rfl (Zq ht) (YV ht) (ZL (n := 36) rfl (Zq ht)) <| JLA rfl <| Zb <| Zm <| ⟨.tuple ⟨[.agg ⟨cs⟩, iv 0]⟩, [], Ret.two rfl (RV.cell Zt rfl (At.bx 1 rfl) (Zr (Zq ht))) (RV.tmp rfl), Sub.nil, ?_⟩))
 rw [long_eq] at h5
 exact ⟨by simp [h5], rfl⟩
end Go.Proofs.YtfdeibbpfgolcaaGreat.Hs
/-! Walks, printed by a program of this session's own (gen.py). -/
namespace Go.Proofs.YtfdeibbpfgolcaaGreat.Hs
open Go Go.Proofs
set_option maxRecDepth 100000
set_option linter.unusedVariables false
set_option linter.unusedSimpArgs false
attribute [local irreducible] JL J CT wlo DT
theorem idxI_ct (g : Nat) (fs cv : List Value) (hcall : ∀ args w, (callFunc g args).run Tryz.prog w = .ok (.enter g args) w) (pr : Int → Bool) (l : List Int) (v : Value) (H : Heap) (hl : rdS RI 1 H v l) (hg : ∀ x ∈ l, ∀ h, Hle H h → CT Tryz.prog g ⟨fs ++ [iv x] ++ cv⟩ [] h (fun v N => v = .bool (pr x) ∧ N = [])) : CT Tryz.prog 143 ⟨[v, .func (.func g) ⟨fs⟩ ⟨cv⟩]⟩ [] H (fun v N => v = iv (fstI pr l 0) ∧ N = []) := by
 refine Zn Tryz.func143 rfl rfl <| Zc <| Za <| JLA rfl <| Zb <| Zc <| Zc <| Za <| JLm v ?_
 obtain ⟨a1, cap1, hv1⟩ := hl.sl
 have hle1 := hl.le
 refine JLn (Pu.lenSl Tryz.runUnderlying51 hv1) <| JLM rfl <| Zb <| Zk <| ZF (fun k ρ M => ∃ (j : Nat), ρ 0 = v ∧ ρ 1 = .func (.func g) ⟨fs⟩ ⟨cv⟩ ∧ ρ 4 = iv 0 ∧ ρ 7 = iv ((l.length : Int)) ∧ ρ 8 = iv ((j : Int)) ∧ Sub [] M ∧ j ≤ l.length ∧ fstI pr (l.drop j) j = fstI pr l 0 ∧ k = l.length - j) _ ⟨0, rfl, rfl, rfl, rfl, rfl, Sub.nil, Nat.zero_le _, rfl, rfl⟩ ?_
 rintro _ ρ2 _ ⟨j, e3, e4, e5, e6, e7, hm8, hj, hinv, rfl⟩
 obtain ⟨ρ9, rfl⟩ := Zu (uc e3 (uc e4 (uc e5 (uc e6 (uc e7 un)))))
 clear e3 e4 e5 e6 e7
 refine ZI hm8 <| Zc <| Za <| JLn (Pu.lss rfl rfl) <| Zb <| Zc <| Zf rfl (fun h10 => ?_) (fun h10 => ?_)
 ·replace h10 := dt h10
  have h10n : j < l.length := by omega
  have hlenl := hl.le
  refine Zj <| Zc <| Zk <| Zc <| Za <| JLM rfl <| JLA rfl <| Zb <| Zc <| Za <| JLM rfl <| JLm v <| JLM rfl ?_
  obtain ⟨b11, o11, cap11, row11, T11, fr11, cs11, hv11, hb11, hs11, hE11⟩ := hl.get j (by first | assumption | omega | decide | simp)
  refine JLq (pp b11 (o11 + j * 1)) (Pu.idx j Tryz.runUnderlying51 ty3 hv11 rfl rfl (by first | assumption | omega | decide | simp)) <| JLr (Zd ty3 rfl (At.im hb11) (YW ((show cs11 = [Value.int .i64 (l[j])] from hE11) ▸ hs11)) <| Jc hcall rfl (fun hin => hg _ (List.getElem_mem h10n) _ (Hle.hu _ _)) rfl ?_)
  rintro _ _ ⟨rfl, rfl⟩
  refine Zb <| Zf rfl (fun h12 => ?_) (fun h12 => ?_)
  ·refine Zc <| Za <| JLM rfl <| JLA rfl <| Zb <| Zm <| ⟨iv ((j : Int)), [], Ret.one rfl (RV.tmp rfl), Sub.nil, ?_⟩
   exact ⟨by rw [← hinv, ZT h10n, fstI, if_pos h12], rfl⟩
  refine Zj <| Za <| JLn (Pu.inc rfl rfl (by omega)) <| JLM rfl <| Zb <| ⟨_, ?_, (j + 1), rfl, rfl, rfl, rfl, rfl, Sub.nil, ?_, ?_, rfl⟩
  ·omega
  ·omega
  rw [ZT h10n, fstI, if_neg (by simp [h12])] at hinv; exact hinv
 replace h10 := df h10
 have h10n : l.length ≤ j := by omega
 refine Zy _ rfl <| Zc <| Za <| JLA rfl <| Zb <| Zm <| ⟨iv (-1), [], Ret.one rfl (RV.tmp rfl), Sub.nil, ?_⟩
 exact ⟨by rw [← hinv, YL h10n]; rfl, rfl⟩
theorem containsI_ct (g : Nat) (fs cv : List Value) (hcall : ∀ args w, (callFunc g args).run Tryz.prog w = .ok (.enter g args) w) (pr : Int → Bool) (l : List Int) (v : Value) (H : Heap) (hl : rdS RI 1 H v l) (hg : ∀ x ∈ l, ∀ h, Hle H h → CT Tryz.prog g ⟨fs ++ [iv x] ++ cv⟩ [] h (fun v N => v = .bool (pr x) ∧ N = [])) : CT Tryz.prog 110 ⟨[v, .func (.func g) ⟨fs⟩ ⟨cv⟩]⟩ [] H (fun v N => v = .bool (l.any pr) ∧ N = []) := by
 refine Zn Tryz.func110 rfl rfl <| Zc <| Za <| JLA rfl <| Zb <| Zc <| Za <| JLm v <| JLM rfl <| Jc Tryz.call143 rfl (fun hin => idxI_ct g fs cv hcall pr _ _ _ (RIs.mono (Hle.hu _ _) hl) (fun x hx h hh => hg x hx h (Hle.trans (Hle.hu _ _) hh))) rfl ?_
 rintro _ _ ⟨rfl, rfl⟩
 refine JLn (Pu.geq rfl rfl) <| JLA rfl <| Zb <| Zm <| ⟨.bool (decide (0 ≤ fstI pr l 0)), [], Ret.one rfl (RV.tmp rfl), Sub.nil, ?_⟩
 exact ⟨by rw [← fstI_any pr l 0], rfl⟩
theorem every1_ct (g : Nat) (fs cv : List Value) (hcall : ∀ args w, (callFunc g args).run Tryz.prog w = .ok (.enter g args) w) (pr : Int → Bool) (x : Int) (H : Heap) (bP : Nat) (hP : H bP = some (.cells ⟨[.func (.func g) ⟨fs⟩ ⟨cv⟩]⟩ 93 (0, 0))) (hg : ∀ h, Hle H h → CT Tryz.prog g ⟨fs ++ [iv x] ++ cv⟩ [] h (fun v N => v = .bool (pr x) ∧ N = [])) : CT Tryz.prog 111 ⟨[iv x, pp bP 0]⟩ [] H (fun v N => v = .bool (!pr x) ∧ N = []) := by
 refine Zn Tryz.func111 rfl rfl <| Zc <| Za <| JLA rfl <| Zb <| Zc <| Za <| JLr (Zd ty93 rfl (At.im hP) rfl <| JLM rfl <| Jc hcall rfl (fun hin => hg _ (Hle.hu _ _)) rfl ?_)
 rintro _ _ ⟨rfl, rfl⟩
 refine JLn (Pu.not rfl) <| JLA rfl <| Zb <| Zm <| ⟨.bool (!(pr x)), [], Ret.one rfl (RV.tmp rfl), Sub.nil, ?_⟩
 exact ⟨rfl, rfl⟩
theorem every_ct (g : Nat) (fs cv : List Value) (hcall : ∀ args w, (callFunc g args).run Tryz.prog w = .ok (.enter g args) w) (pr : Int → Bool) (l : List Int) (v : Value) (H : Heap) (hl : rdS RI 1 H v l) (hg : ∀ x ∈ l, ∀ h, Hle H h → CT Tryz.prog g ⟨fs ++ [iv x] ++ cv⟩ [] h (fun v N => v = .bool (pr x) ∧ N = [])) : CT Tryz.prog 85 ⟨[v, .func (.func g) ⟨fs⟩ ⟨cv⟩]⟩ [] H (fun v N => v = .bool (l.all pr) ∧ N = []) := by
 refine Zn Tryz.func85 rfl rfl <| Zc <| Za <| JLr (Zo (l := [.func (.func g) ⟨fs⟩ ⟨cv⟩]) rfl rfl fun b1 => JLA rfl <| Zb <| Zc <| Za <| JLm v <| JLq (.func (.func 111) ⟨[]⟩ ⟨[pp b1 0]⟩) (Pu.makeFunc rfl rfl) <| Jc Tryz.call110 rfl (fun hin => containsI_ct 111 [] [pp b1 0] Tryz.call111 (fun x => !pr x) _ _ _ (RIs.mono (Hle.hu _ _) hl) (fun x hx h hh => every1_ct g fs cv hcall pr x h b1 (hh _ _ (hin 0 _ rfl _ _ List.mem_cons_self)) (fun h2 hh2 => hg x hx h2 (Hle.trans (Hle.trans (Hle.hu _ _) hh) hh2)))) rfl ?_)
 rintro _ _ ⟨rfl, rfl⟩
 refine JLn (Pu.not rfl) <| JLA rfl <| Zb <| Zm <| ⟨.bool (!(l.any (fun x => !pr x))), [], Ret.one rfl (RV.tmp rfl), Sub.nil, ?_⟩
 exact ⟨by simp [List.not_any_eq_all_not], rfl⟩
theorem shiftO_ct (n dy fr : Int) (H : Heap) (bF bD : Nat) (hF : H bF = some (.cells ⟨[iv fr]⟩ 3 (0, 0))) (hD : H bD = some (.cells ⟨[iv dy]⟩ 3 (0, 0))) (hn0 : 0 ≤ n) (hn1 : n ≤ 60) (hd0 : -60 ≤ dy) (hd1 : dy ≤ 60) : CT Tryz.prog 86 ⟨[iv n, pp bF 0, pp bD 0]⟩ [] H (fun v N => v = .bool (mvOk dy fr n) ∧ N = []) := by
 refine Zn Tryz.func86 rfl rfl <| Zc <| Za <| JLA rfl <| Zb <| Zc <| Za <| JLM rfl <| JLr (Zd ty3 rfl (At.im hF) rfl <| JLn (Pu.lss rfl rfl) <| JLM rfl ?_)
 cases h1 : (decide (n < fr)) with
 | true =>
  replace h1 := dt h1
  iterate 6 refine YG rfl ?_
  refine JLq (.bool true) (Pu.pickT rfl rfl) <| JLA rfl <| Zb <| Zm <| ⟨.bool true, [], Ret.one rfl (RV.tmp rfl), Sub.nil, ?_⟩
  exact ⟨by simp only [mvOk]; simp_all <;> omega, rfl⟩
 | false =>
  replace h1 := df h1
  refine JLM rfl <| JLr (Zd ty3 rfl (At.im hD) rfl <| JLn (Pu.add64 rfl rfl (by first | omega | (constructor <;> omega))) <| JLr (Zd ty3 rfl (At.im hF) rfl <| Jc Tryz.call79 rfl (fun hin => YD _ _ _ _) rfl ?_))
  rintro _ _ ⟨rfl, rfl⟩
  refine JLn (Pu.not rfl) <| JLq (.bool (!(decide (n + dy < fr ∨ 59 < n + dy)))) (Pu.pickF rfl rfl) <| JLA rfl <| Zb <| Zm <| ⟨.bool (!(decide (n + dy < fr ∨ 59 < n + dy))), [], Ret.one rfl (RV.tmp rfl), Sub.nil, ?_⟩
  exact ⟨by simp only [mvOk]; simp_all <;> omega, rfl⟩
theorem freeV_ct (n b : Int) (s : List Int) (r : Nat) (H : Heap) (bM : Nat) (hM : H bM = some (.cells ⟨[.map (some r)]⟩ 165 (0, 0))) (hn0 : 0 ≤ n) (hn1 : n ≤ 2000000) (hb0 : 0 ≤ b) (hb1 : b ≤ 2000000) : CT Tryz.prog 107 ⟨[iv n, iv b, pp bM 0]⟩ [metC r s] H (fun v N => ∃ cs k, v = .agg ⟨cs⟩ ∧ N = [k, metC r (metV n b s).2] ∧ OT (metV n b s).1 cs k) := by
 refine Zn Tryz.func107 rfl rfl <| Zc <| Za <| JLr (Zl (l := pkT 0 0 zS nS nS) Tryz.zeroValue27 rfl fun b1 => Zb <| Zc <| Za <| JLr (Zd ty165 rfl (At.im hM) rfl <| JLM rfl <| JLr (Runs_mapUpdate (i := 1) Tryz.underlying165 Tryz.underlying3 rfl rfl rfl rfl <| Zb <| Zc <| Za ?_)))
 refine JLM rfl <| JLM rfl <| Jc Tryz.call82 rfl (fun hin => stay_ct _ _ _ (by unfold inI; omega)) rfl ?_
 rintro _ _ ⟨cs2, k2, rfl, rfl, hO2⟩
 refine JLr (Ze 1 (vs := cs2) (l := cs2) Zt rfl rfl rfl rfl hO2.len hO2.ok (ZL (n := 36) rfl hO2.len) <| Zb <| Zm <| ⟨.agg ⟨cs2⟩, [k2, metC r (addK s n)], Ret.one rfl (RV.cell Zt rfl (At.bx 1 rfl) (Zr hO2.len)), (Sk (Sd (Sk Sub.nil))), ?_⟩)
 exact ⟨_, _, rfl, rfl, hO2⟩
theorem freeP_ct (t : Tm) (cs : List Value) (H : Heap) (ht : RT H cs t) (hz : sizeT t ≤ 900000) (hv : vOK t) : CT Tryz.prog 78 ⟨[.agg ⟨cs⟩]⟩ [] H (fun v N => ∃ u k, v = u ∧ N = [k] ∧ Own 3 1 u (ints (freeP t)) k) := by
 refine Zn Tryz.func78 rfl rfl <| Zc <| Za <| JLr (Zo (l := cs) rfl rfl fun b1 => JLA rfl <| Zb <| Zc <| Za <| JLr (Runs_makeMap fun r2 => JLr (Zl (l := [.map none]) Tryz.zeroValue165 rfl fun b3 => JLr (Ze 0 (vs := [.map (some r2)]) (l := [.map (some r2)]) ty165 rfl rfl rfl rfl rfl (Zi rfl Zp) rfl <| Zb <| Zc ?_))))
 refine Za <| JLq (.func (.func 107) ⟨[]⟩ ⟨[pp b3 0]⟩) (Pu.makeFunc rfl rfl) <| JLq (.agg ⟨[.func (.func 107) ⟨[]⟩ ⟨[pp b3 0]⟩, .func (.func 83) ⟨[]⟩ ⟨[]⟩]⟩) (Pu.build (pv := [(0, .func (.func 107) ⟨[]⟩ ⟨[pp b3 0]⟩), (1, .func (.func 83) ⟨[]⟩ ⟨[]⟩)]) (l := [.func (.func 107) ⟨[]⟩ ⟨[pp b3 0]⟩, .func (.func 83) ⟨[]⟩ ⟨[]⟩]) rfl (bld141_0_1 _ _ _ _ _ _)) <| JLr (Zg Zt rfl (At.bx 2 rfl) (Zr (Zq ht)) <| Zw 1 rfl Tryz.call84 rfl rfl (fun hin => mapTerm_ct 83 [] [] Tryz.call83 (fun s => s) 107 [] [pp b3 0] Tryz.call107 (List Int) (metC r2) (fun _ => True) metV (fun _ _ _ _ => trivial) _ _ _ _ _ (RT.mono (Hle.hu _ _) ht) (by omega) hv (by decide) (by omega) trivial (fun s h hh => same_ct s h) (fun n b s h hh _ h1 h2 h3 h4 => freeV_ct n b s r2 h b3 (hh _ _ (hin 0 _ rfl _ _ List.mem_cons_self)) h1 h2 h3 h4)) rfl ?_)
 rintro _ _ ⟨cs4, k4, rfl, rfl, hO4⟩
 refine Zb <| Zc <| Za <| JLA rfl <| Zb <| Zc <| Zc <| Za <| JLM rfl <| Zb <| Zk <| ZF (fun k ρ M => ∃ (j : Nat) (v : Value) (k1 : Zh), ρ 2 = nS ∧ ρ 3 = pp b3 0 ∧ ρ 4 = v ∧ ρ 11 = iv ((j : Int)) ∧ Sub [k1, metC r2 (metT t), (BX b3 [.map (some r2)] 165)] M ∧ j ≤ 60 ∧ Own 3 1 v (ints (upTo (metF (metT t)) j)) k1 ∧ k = 60 - j) _ ⟨0, nS, [], rfl, rfl, rfl, rfl, (Sub.emp (Sd (Sk (Sk Sub.nil)))), Nat.zero_le _, Own.nil, rfl⟩ ?_
 rintro _ ρ5 _ ⟨j, v, k1, e6, e7, e8, e9, hm10, hj, ho, rfl⟩
 obtain ⟨ρ11, rfl⟩ := Zu (uc e6 (uc e7 (uc e8 (uc e9 un))))
 clear e6 e7 e8 e9
 refine ZI hm10 <| Zc <| Za <| JLn (Pu.lss rfl rfl) <| Zb <| Zc <| Zf rfl (fun h12 => ?_) (fun h12 => ?_)
 ·replace h12 := dt h12
  have h12n : j < 60 := by omega
  have hul := upTo_len (metF (metT t)) j
  have hil := ints_len (upTo (metF (metT t)) j)
  have hge := metF_get (metT t) j h12n
  refine Zj <| Zc <| Zk <| Zc <| Za <| JLM rfl <| JLA rfl <| Zb <| Zc <| Za <| JLr (Zd ty165 rfl (At.bx 2 rfl) rfl <| JLM rfl <| JLr (Runs_lookup (i := 1) Tryz.underlying165 Tryz.underlying3 Tryz.zeroValue4 rfl rfl rfl ?_))
  refine Zb <| Zf rfl (fun h13 => ?_) (fun h13 => ?_)
  ·replace h13 := dt h13
   refine Za <| JLm v <| JLM rfl <| JLr (Zs (vs := [iv ((j : Int))]) [[iv ((j : Int))]] Tryz.runUnderlying51 el3 rfl rfl (by intro e he; simp only [List.mem_cons, List.not_mem_nil, or_false] at he; subst he; exact rfl) rfl (by decide) fun b14 k14 ho14 hk14 => ?_)
   have hlens15 : ∀ e ∈ ([[iv ((j : Int))]] : List (List Value)), List.length e = 1 := by
    intro e he; simp only [List.mem_cons, List.not_mem_nil, or_false] at he
    rcases he with rfl
    ·exact rfl
   have hoks15 : ∀ e ∈ ([[iv ((j : Int))]] : List (List Value)), okc e := by
    intro e he; simp only [List.mem_cons, List.not_mem_nil, or_false] at he
    rcases he with rfl
    ·exact (Zi rfl Zp)
   refine JLr (ZB (i := 1) (n := 1) (es' := [[iv ((j : Int))]]) Tryz.runUnderlying51 Tryz.runUnderlying51 (Or.inl rfl) el3 rfl rfl rfl ho (fun F w m => Src.row (((At.k 0 rfl (by rw [hk14]; exact List.mem_cons_self))).heap m) (Zr (ZA hlens15))) rfl hlens15 hoks15 (by decide) (by omega) fun v15 k15 ho15 => JLa v15 <| Zb <| Za <| JLn (Pu.inc rfl rfl (by omega)) <| JLM rfl <| Zb <| ⟨_, ?_, (j + 1), v15, k15, rfl, rfl, rfl, rfl, (Sd (Sk (Sk (Sk Sub.nil)))), ?_, ?_, rfl⟩)
   ·omega
   ·omega
   rw [upTo_succ, hge, if_pos (by simp [h13]), ints_snoc]; exact ho15
  replace h13 := df h13
  refine Zj <| Za <| JLn (Pu.inc rfl rfl (by omega)) <| JLM rfl <| Zb <| ⟨_, ?_, (j + 1), v, k1, rfl, rfl, rfl, rfl, (Sk (Sk (Sk Sub.nil))), ?_, ?_, rfl⟩
  ·omega
  ·omega
  rw [upTo_succ, hge, if_neg (by simp [h13])]; exact ho
 replace h12 := df h12
 have h12n : 60 ≤ j := by omega
 refine Zy _ rfl <| Zc <| Za <| JLm v <| JLa v <| Zb <| Zm <| ⟨v, [k1], Ret.one rfl (RV.tmp rfl), (Sk Sub.nil), ?_⟩
 obtain rfl : j = 60 := by omega
 exact ⟨v, k1, rfl, rfl, ho⟩
end Go.Proofs.YtfdeibbpfgolcaaGreat.Hs
/-! Walks, printed by a program of this session's own (gen.py). -/
namespace Go.Proofs.YtfdeibbpfgolcaaGreat.Hs
open Go Go.Proofs
set_option maxRecDepth 100000
set_option linter.unusedVariables false
set_option linter.unusedSimpArgs false
attribute [local irreducible] JL J CT wlo DT
theorem shiftP_ct (t : Tm) (dy fr : Int) (cs : List Value) (H : Heap) (ht : RT H cs t) : CT Tryz.prog 38 ⟨[.agg ⟨cs⟩, iv dy, iv fr]⟩ [] H (fun v N => ∃ cs k, v = .tuple ⟨[.agg ⟨cs⟩, iv (shiftP t dy fr).2]⟩ ∧ N = [k] ∧ OT (shiftP t dy fr).1 cs k) := by
 refine Zn Tryz.func38 rfl rfl <| Zc <| Za <| JLr (Zo (l := cs) rfl rfl fun b1 => JLr (Zo (l := [iv dy]) rfl rfl fun b2 => JLr (Zo (l := [iv fr]) rfl rfl fun b3 => JLr (Zl (l := pkT 0 0 zS nS nS) Tryz.zeroValue27 rfl fun b4 => JLA rfl <| Zb <| Zc <| Zc <| Za <| JLr (Zg Zt rfl (At.bx 3 rfl) (Zr (Zq ht)) ?_)))))
 refine JLr (Zs (vs := [.agg ⟨cs⟩]) [cs] Tryz.runUnderlying24 el27 rfl rfl (by intro e he; simp only [List.mem_cons, List.not_mem_nil, or_false] at he; subst he; exact (Zq ht)) rfl (by decide) fun b5 k5 ho5 hk5 => Jc Tryz.call49 rfl (fun hin => right_ct _ _ _ (Own.rd1 ho5 (hin 0 _ rfl) (RT.mono (Hle.hu _ _) ht))) rfl ?_)
 rintro _ _ ⟨rfl, rfl⟩
 refine JLA rfl <| Zb <| Zc <| Za <| JLM rfl <| JLn (Pu.neq rfl rfl) <| Zb <| Zf rfl (fun h6 => ?_) (fun h6 => ?_)
 ·replace h6 := nt h6
  replace h6 := df h6
  refine Zc <| Za <| JLq (.agg ⟨pkT 0 0 zS nS nS⟩) (Pu.build (pv := []) (l := pkT 0 0 zS nS nS) rfl (bld27_ )) <| JLM rfl <| JLr (Ze 1 (vs := pkT 0 0 zS nS nS) (l := pkT 0 0 zS nS nS) Zt rfl rfl rfl rfl rfl (Z2 rfl rfl) (Y4 ..) <| JLA rfl <| Zb <| Zm <| ⟨.tuple ⟨[.agg ⟨pkT 0 0 zS nS nS⟩, iv (ZN [t])]⟩, [[]], Ret.two rfl (RV.cell Zt rfl (At.bx 1 rfl) (YI ..)) (RV.tmp rfl), (Sub.emp Sub.nil), ?_⟩)
  have hx : shiftP t dy fr = (zT, ZN [t]) := by simp only [shiftP]; (repeat' split) <;> first | rfl | (exfalso; simp_all; done) | (exfalso; simp_all; omega)
  exact ⟨_, _, by rw [hx], rfl, by rw [hx]; exact OT_zero⟩
 replace h6 := nf h6
 replace h6 := dt h6
 refine Zj <| Zc <| Zc <| Za <| JLr (Zd ty3 rfl (At.bx 3 rfl) rfl <| Jc Tryz.call79 rfl (fun hin => YD _ _ _ _) rfl ?_)
 rintro _ _ ⟨rfl, rfl⟩
 refine JLM rfl <| Zv 2 [19, 20] [(20, cond (decide (dy < -60 ∨ 60 < dy)) undef (.bool (decide (fr < 0 ∨ 60 < fr))))] ?_ fun f8 => ?_
 ·cases h7 : (decide (dy < -60 ∨ 60 < dy)) with
  | false =>
   replace h7 := df h7
   refine JLr (Zd ty3 rfl (At.bx 2 rfl) rfl <| Jc Tryz.call79 rfl (fun hin => YD _ _ _ _) rfl ?_)
   rintro _ _ ⟨rfl, rfl⟩
   exact Zb ⟨⟨rfl, trivial⟩, rfl⟩
  | true =>
   exact Zx rfl ⟨rfl, trivial⟩
 refine JLn (Pu.pickOr rfl rfl rfl) <| Zb <| Zf rfl (fun h9 => ?_) (fun h9 => ?_)
 ·refine Zc <| Za <| JLq (.agg ⟨pkT 0 0 zS nS nS⟩) (Pu.build (pv := []) (l := pkT 0 0 zS nS nS) rfl (bld27_ )) <| JLr (Ze 1 (vs := pkT 0 0 zS nS nS) (l := pkT 0 0 zS nS nS) Zt rfl rfl rfl rfl rfl (Z2 rfl rfl) (Y4 ..) <| JLA rfl <| Zb <| Zm <| ⟨.tuple ⟨[.agg ⟨pkT 0 0 zS nS nS⟩, iv 3]⟩, [[]], Ret.two rfl (RV.cell Zt rfl (At.bx 1 rfl) (YI ..)) (RV.tmp rfl), (Sub.emp Sub.nil), ?_⟩)
  have hx : shiftP t dy fr = (zT, 3) := by simp only [shiftP]; (repeat' split) <;> first | rfl | (exfalso; simp_all; done) | (exfalso; simp_all; omega)
  exact ⟨_, _, by rw [hx], rfl, by rw [hx]; exact OT_zero⟩
 obtain ⟨h9a, h9b⟩ := orF h9
 replace h9a := df h9a
 replace h9b := df h9b
 refine Zj <| Zc <| Zc <| Za <| JLr (Zg Zt rfl (At.bx 4 rfl) (Zr (Zq ht)) <| Jc Tryz.call78 rfl (fun hin => freeP_ct _ _ _ (RT.mono (Hle.hu _ _) ht) (by have := (Ye (YX ‹ZN [t] = 0›)).1; omega) (Ye (YX ‹ZN [t] = 0›)).2.1) rfl ?_)
 rintro u10 _ ⟨_, k10, hu10, rfl, ho10⟩; subst hu10
 refine JLq (.func (.func 86) ⟨[]⟩ ⟨[pp b3 0, pp b2 0]⟩) (Pu.makeFunc rfl rfl) <| Jc Tryz.call85 rfl (fun hin => every_ct 86 [] [pp b3 0, pp b2 0] Tryz.call86 (mvOk dy fr) _ _ _ (own_ints ho10 (by have := freeP_len t; omega) (hin 0 _ rfl)) (fun x hx h hh => shiftO_ct x dy fr h b3 b2 (hh _ _ (hin 3 _ rfl _ _ List.mem_cons_self)) (hh _ _ (hin 4 _ rfl _ _ List.mem_cons_self)) (freeP_bound t x hx).1 (by have := (freeP_bound t x hx).2; omega) (by omega) (by omega))) rfl ?_
 rintro _ _ ⟨rfl, rfl⟩
 refine JLn (Pu.not rfl) <| Zb <| Zf rfl (fun h11 => ?_) (fun h11 => ?_)
 ·replace h11 := nt h11
  refine Zc <| Za <| JLq (.agg ⟨pkT 0 0 zS nS nS⟩) (Pu.build (pv := []) (l := pkT 0 0 zS nS nS) rfl (bld27_ )) <| JLr (Ze 2 (vs := pkT 0 0 zS nS nS) (l := pkT 0 0 zS nS nS) Zt rfl rfl rfl rfl rfl (Z2 rfl rfl) (Y4 ..) <| JLA rfl <| Zb <| Zm <| ⟨.tuple ⟨[.agg ⟨pkT 0 0 zS nS nS⟩, iv 1]⟩, [[]], Ret.two rfl (RV.cell Zt rfl (At.bx 2 rfl) (YI ..)) (RV.tmp rfl), (Sub.emp Sub.nil), ?_⟩)
  have hx : shiftP t dy fr = (zT, 1) := by simp only [shiftP]; (repeat' split) <;> first | rfl | (exfalso; simp_all; done) | (exfalso; simp_all; omega)
  exact ⟨_, _, by rw [hx], rfl, by rw [hx]; exact OT_zero⟩
 replace h11 := nf h11
 refine Zj <| Zc <| Za <| JLr (Zg Zt rfl (At.bx 5 rfl) (Zr (Zq ht)) <| JLr (Zd ty3 rfl (At.bx 4 rfl) rfl <| JLr (Zd ty3 rfl (At.bx 3 rfl) rfl <| Jc Tryz.call81 rfl (fun hin => shifted_ct _ _ _ _ _ (RT.mono (Hle.hu _ _) ht) (by have := (Ye (YX ‹ZN [t] = 0›)).1; omega) (Ye (YX ‹ZN [t] = 0›)).2.1 (by omega) (by omega)) rfl ?_)))
 rintro _ _ ⟨cs12, k12, rfl, rfl, hO12⟩
 refine JLr (Ze 3 (vs := cs12) (l := cs12) Zt rfl rfl rfl rfl hO12.len hO12.ok (ZL (n := 36) rfl hO12.len) <| JLA rfl <| Zb <| Zm <| ⟨.tuple ⟨[.agg ⟨cs12⟩, iv 0]⟩, [k12], Ret.two rfl (RV.cell Zt rfl (At.bx 3 rfl) (Zr hO12.len)) (RV.tmp rfl), (Sk Sub.nil), ?_⟩)
 have hx : shiftP t dy fr = (shT dy fr t, 0) := by simp only [shiftP]; (repeat' split) <;> first | rfl | (exfalso; simp_all; done) | (exfalso; simp_all; omega)
 exact ⟨_, _, by rw [hx], rfl, by rw [hx]; exact hO12⟩
theorem freeE_ct (t : Tm) (cs : List Value) (H : Heap) (ht : RT H cs t) : CT Tryz.prog 35 ⟨[.agg ⟨cs⟩]⟩ [] H (fun v N => ∃ u e k, v = .tuple ⟨[u, iv e]⟩ ∧ N = [k] ∧ Own 3 1 u (ints (freeE t).1) k ∧ e = (freeE t).2) := by
 refine Zn Tryz.func35 rfl rfl <| Zc <| Za <| JLr (Zo (l := cs) rfl rfl fun b1 => JLA rfl <| JLA rfl <| Zb <| Zc <| Zc <| Za <| JLr (Zg Zt rfl (At.bx 0 rfl) (Zr (Zq ht)) <| JLr (Zs (vs := [.agg ⟨cs⟩]) [cs] Tryz.runUnderlying24 el27 rfl rfl (by intro e he; simp only [List.mem_cons, List.not_mem_nil, or_false] at he; subst he; exact (Zq ht)) rfl (by decide) fun b2 k2 ho2 hk2 => Jc Tryz.call49 rfl (fun hin => right_ct _ _ _ (Own.rd1 ho2 (hin 0 _ rfl) (RT.mono (Hle.hu _ _) ht))) rfl ?_)))
 rintro _ _ ⟨rfl, rfl⟩
 refine JLA rfl <| Zb <| Zc <| Za <| JLM rfl <| JLn (Pu.neq rfl rfl) <| Zb <| Zf rfl (fun h3 => ?_) (fun h3 => ?_)
 ·replace h3 := nt h3
  replace h3 := df h3
  refine Zc <| Za <| JLM rfl <| JLA rfl <| JLA rfl <| Zb <| Zm <| ⟨.tuple ⟨[nS, iv (ZN [t])]⟩, [[]], Ret.two rfl (RV.tmp rfl) (RV.tmp rfl), (Sub.emp Sub.nil), ?_⟩
  have hx : freeE t = ([], ZN [t]) := by rw [freeE, if_neg (by assumption)]
  exact ⟨_, _, _, rfl, rfl, by rw [hx]; exact Own.nil, by rw [hx]⟩
 replace h3 := nf h3
 replace h3 := dt h3
 refine Zj <| Zc <| Za <| JLr (Zg Zt rfl (At.bx 1 rfl) (Zr (Zq ht)) <| Jc Tryz.call78 rfl (fun hin => freeP_ct _ _ _ (RT.mono (Hle.hu _ _) ht) (by have := (Ye (YX ‹ZN [t] = 0›)).1; omega) (Ye (YX ‹ZN [t] = 0›)).2.1) rfl ?_)
 rintro u4 _ ⟨_, k4, hu4, rfl, ho4⟩; subst hu4
 refine JLa u4 <| JLA rfl <| Zb <| Zm <| ⟨.tuple ⟨[u4, iv 0]⟩, [k4], Ret.two rfl (RV.tmp rfl) (RV.tmp rfl), (Sk Sub.nil), ?_⟩
 have hx : freeE t = (freeP t, 0) := by rw [freeE, if_pos (by assumption)]
 exact ⟨_, _, _, rfl, rfl, by rw [hx]; exact ho4, by rw [hx]⟩
theorem substP_ct (t : Tm) (m : Int) (u : Tm) (cs us : List Value) (H : Heap) (ht : RT H cs t) (hu1 : RT H us u) : CT Tryz.prog 36 ⟨[.agg ⟨cs⟩, iv m, .agg ⟨us⟩]⟩ [] H (fun v N => ∃ cs k, v = .tuple ⟨[.agg ⟨cs⟩, iv (substP t m u).2]⟩ ∧ N = [k] ∧ OT (substP t m u).1 cs k) := by
 refine Zn Tryz.func36 rfl rfl <| Zc <| Za <| JLr (Zo (l := cs) rfl rfl fun b1 => JLr (Zo (l := [iv m]) rfl rfl fun b2 => JLr (Zo (l := us) rfl rfl fun b3 => JLr (Zl (l := pkT 0 0 zS nS nS) Tryz.zeroValue27 rfl fun b4 => JLA rfl <| Zb <| Zc <| Zc <| Za <| JLr (Zg Zt rfl (At.bx 3 rfl) (Zr (Zq ht)) ?_)))))
 refine JLr (Zg Zt rfl (At.bx 1 rfl) (Zr (Zq hu1)) <| JLr (Zs (vs := [.agg ⟨cs⟩, .agg ⟨us⟩]) [cs, us] Tryz.runUnderlying24 el27 rfl rfl (by intro e he; simp only [List.mem_cons, List.not_mem_nil, or_false] at he; rcases he with rfl | rfl <;> first | exact (Zq ht) | exact (Zq hu1)) rfl (by decide) fun b5 k5 ho5 hk5 => Jc Tryz.call49 rfl (fun hin => right_ct _ _ _ (Own.rd2 ho5 (hin 0 _ rfl) (RT.mono (Hle.hu _ _) ht) (RT.mono (Hle.hu _ _) hu1))) rfl ?_))
 rintro _ _ ⟨rfl, rfl⟩
 refine JLA rfl <| Zb <| Zc <| Za <| JLM rfl <| JLn (Pu.neq rfl rfl) <| Zb <| Zf rfl (fun h6 => ?_) (fun h6 => ?_)
 ·replace h6 := nt h6
  replace h6 := df h6
  refine Zc <| Za <| JLq (.agg ⟨pkT 0 0 zS nS nS⟩) (Pu.build (pv := []) (l := pkT 0 0 zS nS nS) rfl (bld27_ )) <| JLM rfl <| JLr (Ze 1 (vs := pkT 0 0 zS nS nS) (l := pkT 0 0 zS nS nS) Zt rfl rfl rfl rfl rfl (Z2 rfl rfl) (Y4 ..) <| JLA rfl <| Zb <| Zm <| ⟨.tuple ⟨[.agg ⟨pkT 0 0 zS nS nS⟩, iv (ZN [t, u])]⟩, [[]], Ret.two rfl (RV.cell Zt rfl (At.bx 1 rfl) (YI ..)) (RV.tmp rfl), (Sub.emp Sub.nil), ?_⟩)
  have hx : substP t m u = (zT, ZN [t, u]) := by simp only [substP]; (repeat' split) <;> first | rfl | (exfalso; simp_all; done) | (exfalso; simp_all; omega)
  exact ⟨_, _, by rw [hx], rfl, by rw [hx]; exact OT_zero⟩
 replace h6 := nf h6
 replace h6 := dt h6
 refine Zj <| Zc <| Zc <| Za <| JLr (Zd ty3 rfl (At.bx 3 rfl) rfl <| Jc Tryz.call79 rfl (fun hin => YD _ _ _ _) rfl ?_)
 rintro _ _ ⟨rfl, rfl⟩
 refine Zb <| Zf rfl (fun h7 => ?_) (fun h7 => ?_)
 ·replace h7 := dt h7
  refine Zc <| Za <| JLq (.agg ⟨pkT 0 0 zS nS nS⟩) (Pu.build (pv := []) (l := pkT 0 0 zS nS nS) rfl (bld27_ )) <| JLr (Ze 1 (vs := pkT 0 0 zS nS nS) (l := pkT 0 0 zS nS nS) Zt rfl rfl rfl rfl rfl (Z2 rfl rfl) (Y4 ..) <| JLA rfl <| Zb <| Zm <| ⟨.tuple ⟨[.agg ⟨pkT 0 0 zS nS nS⟩, iv 3]⟩, [[]], Ret.two rfl (RV.cell Zt rfl (At.bx 1 rfl) (YI ..)) (RV.tmp rfl), (Sub.emp Sub.nil), ?_⟩)
  have hx : substP t m u = (zT, 3) := by simp only [substP]; (repeat' split) <;> first | rfl | (exfalso; simp_all; done) | (exfalso; simp_all; omega)
  exact ⟨_, _, by rw [hx], rfl, by rw [hx]; exact OT_zero⟩
 replace h7 := df h7
 refine Zj <| Zc <| Za <| JLq (.func (.func 80) ⟨[]⟩ ⟨[pp b2 0, pp b3 0]⟩) (Pu.makeFunc rfl rfl) <| JLq (.agg ⟨[.func (.func 80) ⟨[]⟩ ⟨[pp b2 0, pp b3 0]⟩, .func (.func 83) ⟨[]⟩ ⟨[]⟩]⟩) (Pu.build (pv := [(0, .func (.func 80) ⟨[]⟩ ⟨[pp b2 0, pp b3 0]⟩), (1, .func (.func 83) ⟨[]⟩ ⟨[]⟩)]) (l := [.func (.func 80) ⟨[]⟩ ⟨[pp b2 0, pp b3 0]⟩, .func (.func 83) ⟨[]⟩ ⟨[]⟩]) rfl (bld141_0_1 _ _ _ _ _ _)) <| JLr (Zg Zt rfl (At.bx 4 rfl) (Zr (Zq ht)) <| Jc Tryz.call84 rfl (fun hin => mapTermP_ct 83 [] [] Tryz.call83 (fun s => s) 80 [] [pp b2 0, pp b3 0] Tryz.call80 (sbv m u) _ _ _ _ (RT.mono (Hle.hu _ _) ht) (by have := (Ye (rightT2 ‹ZN [t, u] = 0›).1).1; omega) (Ye (rightT2 ‹ZN [t, u] = 0›).1).2.1 (by decide) (by have := (Ye (rightT2 ‹ZN [t, u] = 0›).1).1; omega) (fun s h hh => same_ct s h) (fun n b h hh h1 h2 h3 h4 => substV_ct n b m u _ h b2 b3 (hh _ _ (hin 3 _ rfl _ _ List.mem_cons_self)) (hh _ _ (hin 2 _ rfl _ _ List.mem_cons_self)) (RT.mono (Hle.trans (Hle.hu _ _) hh) hu1) (by have := (Ye (rightT2 ‹ZN [t, u] = 0›).2).1; omega) (Ye (rightT2 ‹ZN [t, u] = 0›).2).2.1 h1 h2 h3 h4)) rfl ?_)
 rintro _ _ ⟨cs8, k8, rfl, rfl, hO8⟩
 refine Jc Tryz.call70 rfl (fun hin => short_ct _ _ _ (hO8.rd (hin 0 _ rfl))) rfl ?_
 rintro _ _ ⟨rfl, rfl⟩
 refine JLn (Pu.extract rfl rfl) <| JLn (Pu.extract rfl rfl) <| JLr (Ze 2 (vs := (if longB (mapQ (fun s => s) (sbv m u) 0 t) = true then pkT 0 0 zS nS nS else cs8)) (l := (if longB (mapQ (fun s => s) (sbv m u) 0 t) = true then pkT 0 0 zS nS nS else cs8)) Zt rfl rfl rfl rfl (len_ite (n := 36) rfl hO8.len) (okc_ite (Z2 rfl rfl) hO8.ok) (ZL (n := 36) rfl (len_ite (n := 36) rfl hO8.len)) <| JLA rfl <| Zb <| Zm ?_)
 by_cases hL : longB (mapQ (fun s => s) (sbv m u) 0 t) = true
 ·refine ⟨.tuple ⟨[.agg ⟨(if longB (mapQ (fun s => s) (sbv m u) 0 t) = true then pkT 0 0 zS nS nS else cs8)⟩, iv ((if longB (mapQ (fun s => s) (sbv m u) 0 t) = true then 11 else 0))]⟩, [[]], Ret.two rfl (RV.cell Zt rfl (At.bx 2 rfl) (Zr (len_ite (n := 36) rfl hO8.len))) (RV.tmp rfl), (Sub.emp Sub.nil), ?_⟩
  have hx : substP t m u = (zT, 11) := by rw [substP, if_pos (by assumption), if_neg (by omega), if_pos (show longB (sbT m u t) = true from hL)]
  exact ⟨_, _, by rw [if_pos hL, if_pos hL, hx], rfl, by rw [hx]; exact OT_zero⟩
 refine ⟨.tuple ⟨[.agg ⟨(if longB (mapQ (fun s => s) (sbv m u) 0 t) = true then pkT 0 0 zS nS nS else cs8)⟩, iv ((if longB (mapQ (fun s => s) (sbv m u) 0 t) = true then 11 else 0))]⟩, [k8], Ret.two rfl (RV.cell Zt rfl (At.bx 2 rfl) (Zr (len_ite (n := 36) rfl hO8.len))) (RV.tmp rfl), (Sk Sub.nil), ?_⟩
 have hx : substP t m u = (mapQ (fun s => s) (sbv m u) 0 t, 0) := by rw [substP, if_pos (by assumption), if_neg (by omega), if_neg (show ¬ longB (sbT m u t) = true from hL)]; rfl
 exact ⟨_, _, by rw [if_neg hL, if_neg hL, hx], rfl, by rw [hx]; exact hO8⟩
end Go.Proofs.YtfdeibbpfgolcaaGreat.Hs
/-! Walks, printed by a program of this session's own (gen.py). -/
namespace Go.Proofs.YtfdeibbpfgolcaaGreat.Hs
open Go Go.Proofs
set_option maxRecDepth 100000
set_option linter.unusedVariables false
set_option linter.unusedSimpArgs false
attribute [local irreducible] JL J CT wlo DT
theorem eqFuncP_ct (g : Nat) (fs cv : List Value) (hcall : ∀ args w, (callFunc g args).run Tryz.prog w = .ok (.enter g args) w) (l m : List Pt) (v u : Value) (H : Heap) (hl : rdS RP 35 H v l) (hm : rdS RP 35 H u m) (hg : ∀ x ∈ l, ∀ y ∈ m, ∀ a b h, Hle H h → RP h a x → RP h b y → CT Tryz.prog g ⟨fs ++ [.agg ⟨a⟩, .agg ⟨b⟩] ++ cv⟩ [] h (fun v N => v = .bool (decide (x = y)) ∧ N = [])) : CT Tryz.prog 102 ⟨[v, u, .func (.func g) ⟨fs⟩ ⟨cv⟩]⟩ [] H (fun v N => v = .bool (decide (l = m)) ∧ N = []) := by
 refine Zn Tryz.func102 rfl rfl <| Zc <| Za <| JLA rfl <| Zb <| Zc <| Zc <| Za <| JLm v ?_
 obtain ⟨a1, cap1, hv1⟩ := hl.sl
 have hle1 := hl.le
 refine JLn (Pu.lenSl Tryz.runUnderlying52 hv1) <| JLm u ?_
 obtain ⟨a2, cap2, hv2⟩ := hm.sl
 have hle2 := hm.le
 refine JLn (Pu.lenSl Tryz.runUnderlying52 hv2) <| JLn (Pu.neq rfl rfl) <| Zb <| Zf rfl (fun h3 => ?_) (fun h3 => ?_)
 ·replace h3 := nt h3
  replace h3 := df h3
  refine Zc <| Za <| JLA rfl <| Zb <| Zm <| ⟨.bool false, [], Ret.one rfl (RV.tmp rfl), Sub.nil, ?_⟩
  exact ⟨by rw [decide_eq_false]; intro e; subst e; exact h3 rfl, rfl⟩
 replace h3 := nf h3
 replace h3 := dt h3
 refine Zj <| Zc <| Zc <| Za <| JLm v ?_
 obtain ⟨a4, cap4, hv4⟩ := hl.sl
 have hle4 := hl.le
 refine JLn (Pu.lenSl Tryz.runUnderlying52 hv4) <| JLM rfl <| Zb <| Zk <| ZF (fun k ρ M => ∃ (j : Nat), ρ 1 = u ∧ ρ 2 = .func (.func g) ⟨fs⟩ ⟨cv⟩ ∧ ρ 6 = .bool false ∧ ρ 15 = v ∧ ρ 16 = iv ((l.length : Int)) ∧ ρ 17 = iv ((j : Int)) ∧ Sub [] M ∧ j ≤ l.length ∧ l.length = m.length ∧ l.take j = m.take j ∧ k = l.length - j) _ ⟨0, rfl, rfl, rfl, rfl, rfl, rfl, Sub.nil, Nat.zero_le _, (by omega), rfl, rfl⟩ ?_
 rintro _ ρ5 _ ⟨j, e6, e7, e8, e9, e10, e11, hm12, hj, hlen, htake, rfl⟩
 obtain ⟨ρ13, rfl⟩ := Zu (uc e6 (uc e7 (uc e8 (uc e9 (uc e10 (uc e11 un))))))
 clear e6 e7 e8 e9 e10 e11
 refine ZI hm12 <| Zc <| Za <| JLn (Pu.lss rfl rfl) <| Zb <| Zc <| Zf rfl (fun h14 => ?_) (fun h14 => ?_)
 ·replace h14 := dt h14
  have h14n : j < l.length := by omega
  have hlenl := hl.le
  have hltm : j < m.length := by omega
  refine Zj <| Zc <| Zk <| Zc <| Za <| JLM rfl ?_
  obtain ⟨b15, o15, cap15, row15, T15, fr15, cs15, hv15, hb15, hs15, hE15⟩ := hl.get j (by first | assumption | omega | decide | simp)
  refine JLq (pp b15 (o15 + j * 35)) (Pu.idx j Tryz.runUnderlying52 ZQ hv15 rfl rfl (by first | assumption | omega | decide | simp)) <| JLr (Zg ZQ rfl (At.im hb15) hs15 <| JLr (Zl (l := pkP 0 0 zS nS) Tryz.zeroValue54 rfl fun b16 => JLA rfl <| JLr (Ze 0 (vs := cs15) (l := cs15) ZQ rfl rfl rfl rfl (Zz hE15) (RP_ok hE15) (ZL (n := 35) rfl (Zz hE15)) <| Zb <| Zc <| Za <| JLm u <| JLM rfl ?_)))
  obtain ⟨b17, o17, cap17, row17, T17, fr17, cs17, hv17, hb17, hs17, hE17⟩ := hm.get j (by first | assumption | omega | decide | simp)
  refine JLq (pp b17 (o17 + j * 35)) (Pu.idx j Tryz.runUnderlying52 ZQ hv17 rfl rfl (by first | assumption | omega | decide | simp)) <| JLr (Zg ZQ rfl (At.im hb17) hs17 <| JLr (Zl (l := pkP 0 0 zS nS) Tryz.zeroValue54 rfl fun b18 => JLr (Ze 0 (vs := cs17) (l := cs17) ZQ rfl rfl rfl rfl (Zz hE17) (RP_ok hE17) (ZL (n := 35) rfl (Zz hE17)) <| Zb <| Zc <| Za <| JLM rfl <| JLr (Zg ZQ rfl (At.bx 1 rfl) (Zr (Zz hE15)) <| JLr (Zg ZQ rfl (At.bx 0 rfl) (Zr (Zz hE17)) <| Jc hcall rfl (fun hin => hg _ (List.getElem_mem h14n) _ (List.getElem_mem (by omega)) _ _ _ (Hle.hu _ _) (RP.mono (Hle.hu _ _) hE15) (RP.mono (Hle.hu _ _) hE17)) rfl ?_)))))
  rintro _ _ ⟨rfl, rfl⟩
  refine JLn (Pu.not rfl) <| Zb <| Zf rfl (fun h19 => ?_) (fun h19 => ?_)
  ·replace h19 := nt h19
   replace h19 := df h19
   refine Zc <| Za <| JLA rfl <| Zb <| Zm <| ⟨.bool false, [], Ret.one rfl (RV.tmp rfl), Sub.nil, ?_⟩
   exact ⟨by rw [decide_eq_false]; intro e; subst e; exact h19 rfl, rfl⟩
  replace h19 := nf h19
  replace h19 := dt h19
  refine Zj <| Za <| JLn (Pu.inc rfl rfl (by omega)) <| JLM rfl <| Zb <| ⟨_, ?_, (j + 1), rfl, rfl, rfl, rfl, rfl, rfl, Sub.nil, ?_, ?_, ?_, rfl⟩
  ·omega
  ·omega
  ·assumption
  rw [List.take_succ_eq_append_getElem h14n, List.take_succ_eq_append_getElem (by omega), htake, h19]
 replace h14 := df h14
 have h14n : l.length ≤ j := by omega
 refine Zy _ rfl <| Zc <| Za <| JLA rfl <| Zb <| Zm <| ⟨.bool true, [], Ret.one rfl (RV.tmp rfl), Sub.nil, ?_⟩
 exact ⟨by rw [decide_eq_true]; have e := htake; rw [List.take_of_length_le h14n, List.take_of_length_le (by omega)] at e; exact e, rfl⟩
theorem eqFuncT_ct (g : Nat) (fs cv : List Value) (hcall : ∀ args w, (callFunc g args).run Tryz.prog w = .ok (.enter g args) w) (l m : List Tm) (v u : Value) (H : Heap) (hl : rdS RT 36 H v l) (hm : rdS RT 36 H u m) (hg : ∀ x ∈ l, ∀ y ∈ m, ∀ a b h, Hle H h → RT h a x → RT h b y → CT Tryz.prog g ⟨fs ++ [.agg ⟨a⟩, .agg ⟨b⟩] ++ cv⟩ [] h (fun v N => v = .bool (decide (x = y)) ∧ N = [])) : CT Tryz.prog 101 ⟨[v, u, .func (.func g) ⟨fs⟩ ⟨cv⟩]⟩ [] H (fun v N => v = .bool (decide (l = m)) ∧ N = []) := by
 refine Zn Tryz.func101 rfl rfl <| Zc <| Za <| JLA rfl <| Zb <| Zc <| Zc <| Za <| JLm v ?_
 obtain ⟨a1, cap1, hv1⟩ := hl.sl
 have hle1 := hl.le
 refine JLn (Pu.lenSl Tryz.runUnderlying24 hv1) <| JLm u ?_
 obtain ⟨a2, cap2, hv2⟩ := hm.sl
 have hle2 := hm.le
 refine JLn (Pu.lenSl Tryz.runUnderlying24 hv2) <| JLn (Pu.neq rfl rfl) <| Zb <| Zf rfl (fun h3 => ?_) (fun h3 => ?_)
 ·replace h3 := nt h3
  replace h3 := df h3
  refine Zc <| Za <| JLA rfl <| Zb <| Zm <| ⟨.bool false, [], Ret.one rfl (RV.tmp rfl), Sub.nil, ?_⟩
  exact ⟨by rw [decide_eq_false]; intro e; subst e; exact h3 rfl, rfl⟩
 replace h3 := nf h3
 replace h3 := dt h3
 refine Zj <| Zc <| Zc <| Za <| JLm v ?_
 obtain ⟨a4, cap4, hv4⟩ := hl.sl
 have hle4 := hl.le
 refine JLn (Pu.lenSl Tryz.runUnderlying24 hv4) <| JLM rfl <| Zb <| Zk <| ZF (fun k ρ M => ∃ (j : Nat), ρ 1 = u ∧ ρ 2 = .func (.func g) ⟨fs⟩ ⟨cv⟩ ∧ ρ 6 = .bool false ∧ ρ 15 = v ∧ ρ 16 = iv ((l.length : Int)) ∧ ρ 17 = iv ((j : Int)) ∧ Sub [] M ∧ j ≤ l.length ∧ l.length = m.length ∧ l.take j = m.take j ∧ k = l.length - j) _ ⟨0, rfl, rfl, rfl, rfl, rfl, rfl, Sub.nil, Nat.zero_le _, (by omega), rfl, rfl⟩ ?_
 rintro _ ρ5 _ ⟨j, e6, e7, e8, e9, e10, e11, hm12, hj, hlen, htake, rfl⟩
 obtain ⟨ρ13, rfl⟩ := Zu (uc e6 (uc e7 (uc e8 (uc e9 (uc e10 (uc e11 un))))))
 clear e6 e7 e8 e9 e10 e11
 refine ZI hm12 <| Zc <| Za <| JLn (Pu.lss rfl rfl) <| Zb <| Zc <| Zf rfl (fun h14 => ?_) (fun h14 => ?_)
 ·replace h14 := dt h14
  have h14n : j < l.length := by omega
  have hlenl := hl.le
  have hltm : j < m.length := by omega
  refine Zj <| Zc <| Zk <| Zc <| Za <| JLM rfl ?_
  obtain ⟨b15, o15, cap15, row15, T15, fr15, cs15, hv15, hb15, hs15, hE15⟩ := hl.get j (by first | assumption | omega | decide | simp)
  refine JLq (pp b15 (o15 + j * 36)) (Pu.idx j Tryz.runUnderlying24 Zt hv15 rfl rfl (by first | assumption | omega | decide | simp)) <| JLr (Zg Zt rfl (At.im hb15) hs15 <| JLr (Zl (l := pkT 0 0 zS nS nS) Tryz.zeroValue27 rfl fun b16 => JLA rfl <| JLr (Ze 0 (vs := cs15) (l := cs15) Zt rfl rfl rfl rfl (Zq hE15) (YV hE15) (ZL (n := 36) rfl (Zq hE15)) <| Zb <| Zc <| Za <| JLm u <| JLM rfl ?_)))
  obtain ⟨b17, o17, cap17, row17, T17, fr17, cs17, hv17, hb17, hs17, hE17⟩ := hm.get j (by first | assumption | omega | decide | simp)
  refine JLq (pp b17 (o17 + j * 36)) (Pu.idx j Tryz.runUnderlying24 Zt hv17 rfl rfl (by first | assumption | omega | decide | simp)) <| JLr (Zg Zt rfl (At.im hb17) hs17 <| JLr (Zl (l := pkT 0 0 zS nS nS) Tryz.zeroValue27 rfl fun b18 => JLr (Ze 0 (vs := cs17) (l := cs17) Zt rfl rfl rfl rfl (Zq hE17) (YV hE17) (ZL (n := 36) rfl (Zq hE17)) <| Zb <| Zc <| Za <| JLM rfl <| JLr (Zg Zt rfl (At.bx 1 rfl) (Zr (Zq hE15)) <| JLr (Zg Zt rfl (At.bx 0 rfl) (Zr (Zq hE17)) <| Jc hcall rfl (fun hin => hg _ (List.getElem_mem h14n) _ (List.getElem_mem (by omega)) _ _ _ (Hle.hu _ _) (RT.mono (Hle.hu _ _) hE15) (RT.mono (Hle.hu _ _) hE17)) rfl ?_)))))
  rintro _ _ ⟨rfl, rfl⟩
  refine JLn (Pu.not rfl) <| Zb <| Zf rfl (fun h19 => ?_) (fun h19 => ?_)
  ·replace h19 := nt h19
   replace h19 := df h19
   refine Zc <| Za <| JLA rfl <| Zb <| Zm <| ⟨.bool false, [], Ret.one rfl (RV.tmp rfl), Sub.nil, ?_⟩
   exact ⟨by rw [decide_eq_false]; intro e; subst e; exact h19 rfl, rfl⟩
  replace h19 := nf h19
  replace h19 := dt h19
  refine Zj <| Za <| JLn (Pu.inc rfl rfl (by omega)) <| JLM rfl <| Zb <| ⟨_, ?_, (j + 1), rfl, rfl, rfl, rfl, rfl, rfl, Sub.nil, ?_, ?_, ?_, rfl⟩
  ·omega
  ·omega
  ·assumption
  rw [List.take_succ_eq_append_getElem h14n, List.take_succ_eq_append_getElem (by omega), htake, h19]
 replace h14 := df h14
 have h14n : l.length ≤ j := by omega
 refine Zy _ rfl <| Zc <| Za <| JLA rfl <| Zb <| Zm <| ⟨.bool true, [], Ret.one rfl (RV.tmp rfl), Sub.nil, ?_⟩
 exact ⟨by rw [decide_eq_true]; have e := htake; rw [List.take_of_length_le h14n, List.take_of_length_le (by omega)] at e; exact e, rfl⟩
theorem eqFuncC_ct (g : Nat) (fs cv : List Value) (hcall : ∀ args w, (callFunc g args).run Tryz.prog w = .ok (.enter g args) w) (l m : List (Pt × Tm)) (v u : Value) (H : Heap) (hl : rdS RC 71 H v l) (hm : rdS RC 71 H u m) (hg : ∀ x ∈ l, ∀ y ∈ m, ∀ a b h, Hle H h → RC h a x → RC h b y → CT Tryz.prog g ⟨fs ++ [.agg ⟨a⟩, .agg ⟨b⟩] ++ cv⟩ [] h (fun v N => v = .bool (decide (x = y)) ∧ N = [])) : CT Tryz.prog 64 ⟨[v, u, .func (.func g) ⟨fs⟩ ⟨cv⟩]⟩ [] H (fun v N => v = .bool (decide (l = m)) ∧ N = []) := by
 refine Zn Tryz.func64 rfl rfl <| Zc <| Za <| JLA rfl <| Zb <| Zc <| Zc <| Za <| JLm v ?_
 obtain ⟨a1, cap1, hv1⟩ := hl.sl
 have hle1 := hl.le
 refine JLn (Pu.lenSl Tryz.runUnderlying25 hv1) <| JLm u ?_
 obtain ⟨a2, cap2, hv2⟩ := hm.sl
 have hle2 := hm.le
 refine JLn (Pu.lenSl Tryz.runUnderlying25 hv2) <| JLn (Pu.neq rfl rfl) <| Zb <| Zf rfl (fun h3 => ?_) (fun h3 => ?_)
 ·replace h3 := nt h3
  replace h3 := df h3
  refine Zc <| Za <| JLA rfl <| Zb <| Zm <| ⟨.bool false, [], Ret.one rfl (RV.tmp rfl), Sub.nil, ?_⟩
  exact ⟨by rw [decide_eq_false]; intro e; subst e; exact h3 rfl, rfl⟩
 replace h3 := nf h3
 replace h3 := dt h3
 refine Zj <| Zc <| Zc <| Za <| JLm v ?_
 obtain ⟨a4, cap4, hv4⟩ := hl.sl
 have hle4 := hl.le
 refine JLn (Pu.lenSl Tryz.runUnderlying25 hv4) <| JLM rfl <| Zb <| Zk <| ZF (fun k ρ M => ∃ (j : Nat), ρ 1 = u ∧ ρ 2 = .func (.func g) ⟨fs⟩ ⟨cv⟩ ∧ ρ 6 = .bool false ∧ ρ 15 = v ∧ ρ 16 = iv ((l.length : Int)) ∧ ρ 17 = iv ((j : Int)) ∧ Sub [] M ∧ j ≤ l.length ∧ l.length = m.length ∧ l.take j = m.take j ∧ k = l.length - j) _ ⟨0, rfl, rfl, rfl, rfl, rfl, rfl, Sub.nil, Nat.zero_le _, (by omega), rfl, rfl⟩ ?_
 rintro _ ρ5 _ ⟨j, e6, e7, e8, e9, e10, e11, hm12, hj, hlen, htake, rfl⟩
 obtain ⟨ρ13, rfl⟩ := Zu (uc e6 (uc e7 (uc e8 (uc e9 (uc e10 (uc e11 un))))))
 clear e6 e7 e8 e9 e10 e11
 refine ZI hm12 <| Zc <| Za <| JLn (Pu.lss rfl rfl) <| Zb <| Zc <| Zf rfl (fun h14 => ?_) (fun h14 => ?_)
 ·replace h14 := dt h14
  have h14n : j < l.length := by omega
  have hlenl := hl.le
  have hltm : j < m.length := by omega
  refine Zj <| Zc <| Zk <| Zc <| Za <| JLM rfl ?_
  obtain ⟨b15, o15, cap15, row15, T15, fr15, cs15, hv15, hb15, hs15, hE15⟩ := hl.get j (by first | assumption | omega | decide | simp)
  obtain ⟨ca15, cb15, rfl, hA15, hB15⟩ := hE15
  refine JLq (pp b15 (o15 + j * 71)) (Pu.idx j Tryz.runUnderlying25 Yl hv15 rfl rfl (by first | assumption | omega | decide | simp)) <| JLr (Zg Yl rfl (At.im hb15) hs15 <| JLr (Zl (l := (pkP 0 0 zS nS) ++ (pkT 0 0 zS nS nS)) Tryz.zeroValue56 rfl fun b16 => JLA rfl <| JLr (Ze 0 (vs := ca15 ++ cb15) (l := ca15 ++ cb15) Yl rfl rfl rfl rfl (ZW (Zz hA15) (Zq hB15)) (Z6 (RP_ok hA15) (YV hB15)) (ZL (n := 71) rfl (ZW (Zz hA15) (Zq hB15))) <| Zb <| Zc <| Za <| JLm u <| JLM rfl ?_)))
  obtain ⟨b17, o17, cap17, row17, T17, fr17, cs17, hv17, hb17, hs17, hE17⟩ := hm.get j (by first | assumption | omega | decide | simp)
  obtain ⟨ca17, cb17, rfl, hA17, hB17⟩ := hE17
  refine JLq (pp b17 (o17 + j * 71)) (Pu.idx j Tryz.runUnderlying25 Yl hv17 rfl rfl (by first | assumption | omega | decide | simp)) <| JLr (Zg Yl rfl (At.im hb17) hs17 <| JLr (Zl (l := (pkP 0 0 zS nS) ++ (pkT 0 0 zS nS nS)) Tryz.zeroValue56 rfl fun b18 => JLr (Ze 0 (vs := ca17 ++ cb17) (l := ca17 ++ cb17) Yl rfl rfl rfl rfl (ZW (Zz hA17) (Zq hB17)) (Z6 (RP_ok hA17) (YV hB17)) (ZL (n := 71) rfl (ZW (Zz hA17) (Zq hB17))) <| Zb <| Zc <| Za <| JLM rfl <| JLr (Zg Yl rfl (At.bx 1 rfl) (Zr (ZW (Zz hA15) (Zq hB15))) <| JLr (Zg Yl rfl (At.bx 0 rfl) (Zr (ZW (Zz hA17) (Zq hB17))) <| Jc hcall rfl (fun hin => hg _ (List.getElem_mem h14n) _ (List.getElem_mem (by omega)) _ _ _ (Hle.hu _ _) (RC.mono (Hle.hu _ _) (RC_mk hA15 hB15)) (RC.mono (Hle.hu _ _) (RC_mk hA17 hB17))) rfl ?_)))))
  rintro _ _ ⟨rfl, rfl⟩
  refine JLn (Pu.not rfl) <| Zb <| Zf rfl (fun h19 => ?_) (fun h19 => ?_)
  ·replace h19 := nt h19
   replace h19 := df h19
   refine Zc <| Za <| JLA rfl <| Zb <| Zm <| ⟨.bool false, [], Ret.one rfl (RV.tmp rfl), Sub.nil, ?_⟩
   exact ⟨by rw [decide_eq_false]; intro e; subst e; exact h19 rfl, rfl⟩
  replace h19 := nf h19
  replace h19 := dt h19
  refine Zj <| Za <| JLn (Pu.inc rfl rfl (by omega)) <| JLM rfl <| Zb <| ⟨_, ?_, (j + 1), rfl, rfl, rfl, rfl, rfl, rfl, Sub.nil, ?_, ?_, ?_, rfl⟩
  ·omega
  ·omega
  ·assumption
  rw [List.take_succ_eq_append_getElem h14n, List.take_succ_eq_append_getElem (by omega), htake, h19]
 replace h14 := df h14
 have h14n : l.length ≤ j := by omega
 refine Zy _ rfl <| Zc <| Za <| JLA rfl <| Zb <| Zm <| ⟨.bool true, [], Ret.one rfl (RV.tmp rfl), Sub.nil, ?_⟩
 exact ⟨by rw [decide_eq_true]; have e := htake; rw [List.take_of_length_le h14n, List.take_of_length_le (by omega)] at e; exact e, rfl⟩
theorem samePattern_ct : ∀ (p q : Pt) (cs ds : List Value) (H : Heap), RP H cs p → RP H ds q → CT Tryz.prog 66 ⟨[.agg ⟨cs⟩, .agg ⟨ds⟩]⟩ [] H (fun v N => v = .bool (decide (p = q)) ∧ N = []) := by
 intro p
 induction p using Pt.ind with
 | h kind num ref kids ih =>
 intro q cs ds H hp hq
 obtain ⟨ks, rfl, hk, hn, hks⟩ := RP_mk.1 hp
 obtain ⟨ksq, rfl, hkq, hnq, hksq⟩ := RP_open hq
 refine Zn Tryz.func66 rfl rfl <| Zc <| Za <| JLr (Zo (l := pkP kind num ref ks) rfl rfl fun b1 => JLr (Zo (l := pkP (q.kind) (q.num) (q.ref) ksq) rfl rfl fun b2 => JLA rfl <| Zb <| Zc <| Za <| JLq (pp b1 0) (Yj rfl rfl) <| JLr (Zd ty3 rfl (At.bx 1 rfl) (YJ ..) <| JLq (pp b2 0) (Yj rfl rfl) <| JLr (Zd ty3 rfl (At.bx 0 rfl) (YJ ..) ?_))))
 refine JLn (Pu.eql rfl rfl) <| JLM rfl <| Zv 5 [11, 12, 13, 14, 15] [(15, cond (decide (kind = q.kind)) (.bool (decide (num = q.num))) undef)] ?_ fun f4 => ?_
 ·cases h3 : (decide (kind = q.kind)) with
  | true =>
   replace h3 := dt h3
   refine JLq (pp b1 1) (fa54_1 rfl rfl) <| JLr (Zd ty3 rfl (At.bx 1 rfl) (pkP_1 ..) <| JLq (pp b2 1) (fa54_1 rfl rfl) <| JLr (Zd ty3 rfl (At.bx 0 rfl) (pkP_1 ..) <| JLn (Pu.eql rfl rfl) ?_))
   exact Zb ⟨⟨rfl, trivial⟩, rfl⟩
  | false =>
   exact Zx rfl ⟨rfl, trivial⟩
 refine JLn (Pu.pickAnd rfl rfl rfl) <| JLM rfl <| Zv 5 [18, 19, 20, 21, 22] [(22, cond ((decide (kind = q.kind)) && (decide (num = q.num))) (.bool (decide (ref = q.ref))) undef)] ?_ fun f6 => ?_
 ·cases h5 : ((decide (kind = q.kind)) && (decide (num = q.num))) with
  | true =>
   obtain ⟨h5a, h5b⟩ := YM h5
   replace h5a := dt h5a
   replace h5b := dt h5b
   refine JLq (pp b1 2) (fa54_2 rfl rfl) <| JLr (Zg ZR rfl (At.bx 1 rfl) (pkP_2 ..) <| JLq (pp b2 2) (fa54_2 rfl rfl) <| JLr (Zg ZR rfl (At.bx 0 rfl) (pkP_2 ..) <| JLn (eqS rfl rfl) ?_))
   exact Zb ⟨⟨rfl, trivial⟩, rfl⟩
  | false =>
   exact Zx rfl ⟨rfl, trivial⟩
 refine JLn (Pu.pickAnd rfl rfl rfl) <| JLM rfl <| Zv 5 [25, 26, 27, 28, 29] [(29, cond (((decide (kind = q.kind)) && (decide (num = q.num))) && (decide (ref = q.ref))) (.bool (decide (kids = (q.kids)))) undef)] ?_ fun f8 => ?_
 ·cases h7 : (((decide (kind = q.kind)) && (decide (num = q.num))) && (decide (ref = q.ref))) with
  | true =>
   obtain ⟨h7a, h7b⟩ := YM h7
   obtain ⟨h7aa, h7ab⟩ := YM h7a
   replace h7aa := dt h7aa
   replace h7ab := dt h7ab
   replace h7b := dt h7b
   refine JLq (pp b1 34) (ZX rfl rfl) <| JLr (Zd Yz rfl (At.bx 1 rfl) (Z3 ..) <| JLq (pp b2 34) (ZX rfl rfl) <| JLr (Zd Yz rfl (At.bx 0 rfl) (Z3 ..) <| Jc Tryz.call102 rfl (fun hin => eqFuncP_ct 66 [] [] (fun _ _ => rfl) _ _ _ _ _ (RPs.mono (Hle.hu _ _) hks) (RPs.mono (Hle.hu _ _) hksq) (fun x hx y hy a b h hh ra rb => ih x hx y a b h ra rb)) rfl ?_))
   rintro _ _ ⟨rfl, rfl⟩
   exact Zb ⟨⟨rfl, trivial⟩, rfl⟩
  | false =>
   exact Zx rfl ⟨rfl, trivial⟩
 refine JLn (Pu.pickAnd rfl rfl rfl) <| JLA rfl <| Zb <| Zm <| ⟨.bool ((((decide (kind = q.kind)) && (decide (num = q.num))) && (decide (ref = q.ref))) && (decide (kids = (q.kids)))), [], Ret.one rfl (RV.tmp rfl), Sub.nil, ?_⟩
 exact ⟨congrArg Value.bool (eqPd ..), rfl⟩
theorem sameCase_ct : ∀ (c d : Pt × Tm) (a b : List Value) (H : Heap), RC H a c → RC H b d → (∀ h a b, Hle H h → RT h a c.2 → RT h b d.2 → CT Tryz.prog 16 ⟨[.agg ⟨a⟩, .agg ⟨b⟩]⟩ [] h (fun v N => v = .bool (decide (c.2 = d.2)) ∧ N = [])) → CT Tryz.prog 65 ⟨[.agg ⟨a⟩, .agg ⟨b⟩]⟩ [] H (fun v N => v = .bool (decide (c = d)) ∧ N = []) := by
 intro c d a b H ⟨ca, cb, e1, ra1, ra2⟩ ⟨da, db, e2, rb1, rb2⟩ hg
 subst e1 e2
 refine Zn Tryz.func65 rfl rfl <| Zc <| Za <| JLr (Zo (l := ca ++ cb) rfl rfl fun b1 => JLr (Zo (l := da ++ db) rfl rfl fun b2 => JLA rfl <| Zb <| Zc <| Za <| JLq (pp b1 0) (YE rfl rfl) <| JLr (Zg ZQ rfl (At.bx 1 rfl) (Y3 (Zz ra1)) <| JLq (pp b2 0) (YE rfl rfl) <| JLr (Zg ZQ rfl (At.bx 0 rfl) (Y3 (Zz rb1)) ?_))))
 refine Jc Tryz.call66 rfl (fun hin => samePattern_ct _ _ _ _ _ (RP.mono (Hle.hu _ _) ra1) (RP.mono (Hle.hu _ _) rb1)) rfl ?_
 rintro _ _ ⟨rfl, rfl⟩
 refine JLM rfl <| Zv 5 [11, 12, 13, 14, 15] [(15, cond (decide ((c.1) = (d.1))) (.bool (decide ((c.2) = (d.2)))) undef)] ?_ fun f4 => ?_
 ·cases h3 : (decide ((c.1) = (d.1))) with
  | true =>
   replace h3 := dt h3
   refine JLq (pp b1 35) (Y9 rfl rfl) <| JLr (Zg Zt rfl (At.bx 1 rfl) (sub_r (Zz ra1) (Zq ra2)) <| JLq (pp b2 35) (Y9 rfl rfl) <| JLr (Zg Zt rfl (At.bx 0 rfl) (sub_r (Zz rb1) (Zq rb2)) <| Jc Tryz.call16 rfl (fun hin => hg _ _ _ (Hle.hu _ _) (RT.mono (Hle.hu _ _) ra2) (RT.mono (Hle.hu _ _) rb2)) rfl ?_))
   rintro _ _ ⟨rfl, rfl⟩
   exact Zb ⟨⟨rfl, trivial⟩, rfl⟩
  | false =>
   exact Zx rfl ⟨rfl, trivial⟩
 refine JLn (Pu.pickAnd rfl rfl rfl) <| JLA rfl <| Zb <| Zm <| ⟨.bool ((decide ((c.1) = (d.1))) && (decide ((c.2) = (d.2)))), [], Ret.one rfl (RV.tmp rfl), Sub.nil, ?_⟩
 exact ⟨by obtain ⟨c1, c2⟩ := c; obtain ⟨d1, d2⟩ := d; refine congrArg Value.bool ?_; rw [Bool.eq_iff_iff]; simp, rfl⟩
theorem sameTerms_ct : ∀ (l m : List Tm) (v u : Value) (H : Heap) (_ : rdS RT 36 H v l) (_ : rdS RT 36 H u m) (_ : ∀ x ∈ l, ∀ y a b h, Hle H h → RT h a x → RT h b y → CT Tryz.prog 16 ⟨[.agg ⟨a⟩, .agg ⟨b⟩]⟩ [] h (fun v N => v = .bool (decide (x = y)) ∧ N = [])), CT Tryz.prog 63 ⟨[v, u]⟩ [] H (fun v N => v = .bool (decide (l = m)) ∧ N = []) := by
 intro l m v u H hl hm hg
 refine Zn Tryz.func63 rfl rfl <| Zc <| Za <| JLA rfl <| Zb <| Zc <| Za <| JLm v <| JLm u <| Jc Tryz.call101 rfl (fun hin => eqFuncT_ct 16 [] [] (fun _ _ => rfl) _ _ _ _ _ (RTs.mono (Hle.hu _ _) hl) (RTs.mono (Hle.hu _ _) hm) (fun x hx y hy a b h hh ra rb => hg x hx y a b h (Hle.trans (Hle.hu _ _) hh) ra rb)) rfl ?_
 rintro _ _ ⟨rfl, rfl⟩
 refine JLA rfl <| Zb <| Zm <| ⟨.bool (decide (l = m)), [], Ret.one rfl (RV.tmp rfl), Sub.nil, ?_⟩
 exact ⟨rfl, rfl⟩
theorem Y0 : ∀ (t u : Tm) (cs ds : List Value) (H : Heap), RT H cs t → RT H ds u → CT Tryz.prog 16 ⟨[.agg ⟨cs⟩, .agg ⟨ds⟩]⟩ [] H (fun v N => v = .bool (decide (t = u)) ∧ N = []) := by
 intro t
 induction t using Tm.ind with
 | h kind num ref kids cases ih ih' =>
 intro u cs ds H ht hu
 obtain ⟨ks, cv, rfl, hk, hn, hks, hcv⟩ := RT_mk.1 ht
 obtain ⟨ksu, cvu, rfl, hku, hnu, hksu, hcvu⟩ := RT_open hu
 refine Zn Tryz.func16 rfl rfl <| Zc <| Za <| JLr (Zo (l := pkT kind num ref ks cv) rfl rfl fun b1 => JLr (Zo (l := pkT (u.kind) (u.num) (u.ref) ksu cvu) rfl rfl fun b2 => JLA rfl <| Zb <| Zc <| Za <| JLq (pp b1 0) (ZG rfl rfl) <| JLr (Zd ty3 rfl (At.bx 1 rfl) (ZU ..) <| JLq (pp b2 0) (ZG rfl rfl) <| JLr (Zd ty3 rfl (At.bx 0 rfl) (ZU ..) ?_))))
 refine JLn (Pu.eql rfl rfl) <| JLM rfl <| Zv 5 [11, 12, 13, 14, 15] [(15, cond (decide (kind = u.kind)) (.bool (decide (num = u.num))) undef)] ?_ fun f4 => ?_
 ·cases h3 : (decide (kind = u.kind)) with
  | true =>
   replace h3 := dt h3
   refine JLq (pp b1 1) (Ya rfl rfl) <| JLr (Zd ty3 rfl (At.bx 1 rfl) (Yn ..) <| JLq (pp b2 1) (Ya rfl rfl) <| JLr (Zd ty3 rfl (At.bx 0 rfl) (Yn ..) <| JLn (Pu.eql rfl rfl) ?_))
   exact Zb ⟨⟨rfl, trivial⟩, rfl⟩
  | false =>
   exact Zx rfl ⟨rfl, trivial⟩
 refine JLn (Pu.pickAnd rfl rfl rfl) <| JLM rfl <| Zv 5 [18, 19, 20, 21, 22] [(22, cond ((decide (kind = u.kind)) && (decide (num = u.num))) (.bool (decide (ref = u.ref))) undef)] ?_ fun f6 => ?_
 ·cases h5 : ((decide (kind = u.kind)) && (decide (num = u.num))) with
  | true =>
   obtain ⟨h5a, h5b⟩ := YM h5
   replace h5a := dt h5a
   replace h5b := dt h5b
   refine JLq (pp b1 2) (Yq rfl rfl) <| JLr (Zg ZR rfl (At.bx 1 rfl) (Y5 ..) <| JLq (pp b2 2) (Yq rfl rfl) <| JLr (Zg ZR rfl (At.bx 0 rfl) (Y5 ..) <| JLn (eqS rfl rfl) ?_))
   exact Zb ⟨⟨rfl, trivial⟩, rfl⟩
  | false =>
   exact Zx rfl ⟨rfl, trivial⟩
 refine JLn (Pu.pickAnd rfl rfl rfl) <| JLM rfl <| Zv 5 [25, 26, 27, 28, 29] [(29, cond (((decide (kind = u.kind)) && (decide (num = u.num))) && (decide (ref = u.ref))) (.bool (decide (kids = (u.kids)))) undef)] ?_ fun f8 => ?_
 ·cases h7 : (((decide (kind = u.kind)) && (decide (num = u.num))) && (decide (ref = u.ref))) with
  | true =>
   obtain ⟨h7a, h7b⟩ := YM h7
   obtain ⟨h7aa, h7ab⟩ := YM h7a
   replace h7aa := dt h7aa
   replace h7ab := dt h7ab
   replace h7b := dt h7b
   refine JLq (pp b1 34) (ZY rfl rfl) <| JLr (Zd YA rfl (At.bx 1 rfl) (ZV ..) <| JLq (pp b2 34) (ZY rfl rfl) <| JLr (Zd YA rfl (At.bx 0 rfl) (ZV ..) <| Jc Tryz.call63 rfl (fun hin => sameTerms_ct _ _ _ _ _ (RTs.mono (Hle.hu _ _) hks) (RTs.mono (Hle.hu _ _) hksu) (fun x hx y a b h _ ra rb => ih x hx y a b h ra rb)) rfl ?_))
   rintro _ _ ⟨rfl, rfl⟩
   exact Zb ⟨⟨rfl, trivial⟩, rfl⟩
  | false =>
   exact Zx rfl ⟨rfl, trivial⟩
 refine JLn (Pu.pickAnd rfl rfl rfl) <| JLM rfl <| Zv 5 [32, 33, 34, 35, 36] [(36, cond ((((decide (kind = u.kind)) && (decide (num = u.num))) && (decide (ref = u.ref))) && (decide (kids = (u.kids)))) (.bool (decide (cases = (u.cases)))) undef)] ?_ fun f10 => ?_
 ·cases h9 : ((((decide (kind = u.kind)) && (decide (num = u.num))) && (decide (ref = u.ref))) && (decide (kids = (u.kids)))) with
  | true =>
   obtain ⟨h9a, h9b⟩ := YM h9
   obtain ⟨h9aa, h9ab⟩ := YM h9a
   obtain ⟨h9aaa, h9aab⟩ := YM h9aa
   replace h9aaa := dt h9aaa
   replace h9aab := dt h9aab
   replace h9ab := dt h9ab
   replace h9b := dt h9b
   refine JLq (pp b1 35) (ZP rfl rfl) <| JLr (Zd Ym rfl (At.bx 1 rfl) (ZO ..) <| JLq (pp b2 35) (ZP rfl rfl) <| JLr (Zd Ym rfl (At.bx 0 rfl) (ZO ..) <| Jc Tryz.call64 rfl (fun hin => eqFuncC_ct 65 [] [] (fun _ _ => rfl) _ _ _ _ _ (RCs.mono (Hle.hu _ _) hcv) (RCs.mono (Hle.hu _ _) hcvu) (fun x hx y hy a b h hh ra rb => sameCase_ct x y a b h ra rb (fun h' a' b' _ r1 r2 => ih' x hx y.2 a' b' h' r1 r2))) rfl ?_))
   rintro _ _ ⟨rfl, rfl⟩
   exact Zb ⟨⟨rfl, trivial⟩, rfl⟩
  | false =>
   exact Zx rfl ⟨rfl, trivial⟩
 refine JLn (Pu.pickAnd rfl rfl rfl) <| JLA rfl <| Zb <| Zm <| ⟨.bool (((((decide (kind = u.kind)) && (decide (num = u.num))) && (decide (ref = u.ref))) && (decide (kids = (u.kids)))) && (decide (cases = (u.cases)))), [], Ret.one rfl (RV.tmp rfl), Sub.nil, ?_⟩
 exact ⟨congrArg Value.bool (eqTd ..), rfl⟩
end Go.Proofs.YtfdeibbpfgolcaaGreat.Hs
