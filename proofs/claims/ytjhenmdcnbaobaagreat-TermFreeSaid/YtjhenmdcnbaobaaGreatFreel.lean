import Derived.Test.YtjhenmdcnbaobaaGreatFreek
import Derived.Laws.BytesArg
/-! Slices of bytes: their parts, their strings. -/
namespace Go.Proofs.YtjhenmdcnbaobaaGreat.Hs
open Go Go.Proofs
set_option maxRecDepth 100000
theorem Pu.castB {P : Program} {e : Operand → Value} {o : Oper} {b c : Bool} (h : Pu P e o (.bool b)) (q : b = c) : Pu P e o (.bool c) := q ▸ h
/-- a slice of bytes, with its room -/
def byR (H : Heap) (v : Value) (l : List Int) : Prop := ∃ a cap, v = .slice a l.length cap ∧ l.length ≤ cap ∧ Hs.rdS RB 1 H v l
theorem byR.rd {H : Heap} {v : Value} {l : List Int} (h : byR H v l) : Hs.rdS RB 1 H v l := by obtain ⟨_, _, _, _, h⟩ := h; exact h
theorem byR.one {H : Heap} {v : Value} {l : List Int} (h : byR H v l) : v.oneCell' = true := h.rd.one
theorem byR.mono {H H' : Heap} {v : Value} {l : List Int} (hh : Hle H H') (h : byR H v l) : byR H' v l := by obtain ⟨a, cap, e, h1, h⟩ := h; exact ⟨a, cap, e, h1, RBs.mono hh h⟩
theorem byR.cut {h : Heap} {a : Option Addr} {N cap : Nat} {l : List Int} (r : byR h (.slice a N cap) l) (n m : Nat) (hnm : n + m ≤ l.length) : Hs.rdS RB 1 h (.slice (if cap = n then a else a.map (·.add (n * 1))) m (cap - n)) ((l.drop n).take m) := by
  obtain ⟨a', c', e, h1, a2, c2, e2, h2, h0⟩ := r
  cases e; cases e2
  have hl : ((l.drop n).take m).length = m := by rw [List.length_take, List.length_drop]; omega
  refine ⟨_, _, by rw [hl], by rw [hl]; omega, ?_⟩
  by_cases hz : m = 0
  · exact .inl (by rw [hl]; exact hz)
  rcases h0 with h0 | ⟨b, o, row, T, fr, e1, e2, e3⟩
  · omega
  · right
    have hc : ¬ cap = n := by omega
    refine ⟨b, o + n * 1, row, T, fr, by rw [if_neg hc, e1]; simp [Addr.add], e2, rows.mk fun i hi => ?_⟩
    rw [hl] at hi
    obtain ⟨cs, h2, h3⟩ := e3.get (n + i) (by omega)
    exact ⟨cs, by rw [← h2]; congr 1; omega, by rw [List.getElem_take, List.getElem_drop]; exact h3⟩
section
variable {c : Cx} {H : Heap} {ρ : Nat → Value} {M : List Zf} {K : Value → List Zf → Prop} {d : Option Nat} {ot : TypeId} {pos : String} {af : Array Edge} {g : Option (Nat × Bool)} {x y z : Operand}
end
section
variable {c : Cx} {H : Heap} {l : List Oper} {b : Array Nat} {k : Nat} {ds : List (Option Nat)} {cs : List (Nat × Nat)} {P : List (Nat × Y2)} {ρ₀ : Nat → Value} {M₀ : List Zf} {Q : Post} {m : Nat} {os : List Oper} {r : Nat → Value} {N : Nat → List Zf}
  {d : Option Nat} {x : Operand} {ot : TypeId} {pos : String} {af : Array Edge} {g : Option (Nat × Bool)}
end
end Go.Proofs.YtjhenmdcnbaobaaGreat.Hs
