import Derived.Test.YtjhenmdcnbaobaaGreatFreeg
import Derived.Test.YtjhenmdcnbaobaaGreatChecked
import Derived.OpenShut
import Derived.ReadAgain
/-! What comes in, as the claims read it, is a term. -/
namespace Go.Proofs.YtjhenmdcnbaobaaGreat.Hs
open Go Go.Proofs

theorem list_of {α : Type} {n : Nat} {R : Nat → α → Prop} (h : ∀ i, i < n → ∃ x, R i x) : ∃ l : List α, l.length = n ∧ ∀ i (hi : i < l.length), R i l[i] := by
  induction n with
  | zero => exact ⟨[], rfl, fun i hi => absurd hi (by simp)⟩
  | succ n ih =>
    obtain ⟨l, h1, h2⟩ := ih fun i hi => h i (by omega)
    obtain ⟨x, hx⟩ := h n (by omega)
    refine ⟨l ++ [x], by simp [h1], fun i hi => ?_⟩
    by_cases hin : i < l.length
    · rw [List.getElem_append_left hin]; exact h2 i hin
    · have : i = n := by simp at hi; omega
      subst this
      rw [List.getElem_append_right (by omega)]
      simpa [h1] using hx

section
variable {Ht : Type} {enc : TypeId × Value → Ht} {P : Program} {w : World} {base : Nat} {spare : Nat → Bool} {held : Bool} {H : Heap}

theorem cells_sub {a : Addr} {n : Nat} {cs : List Value} (h : w.cells? base a n = some cs) (hn : 0 < n) :
    (a.spot = none) ∧ ∃ row T fr, w.heap[a.block]? = some (.cells ⟨row⟩ T fr) ∧ sub row a.off n = some cs := by
  obtain ⟨_, hl, hc⟩ := World.cells?_some h
  have get : ∀ i, i < n → ∃ v, cs[i]? = some v ∧ w.cell? (a.add i) = some v := fun i hi => by
    have h1 : i < cs.length := by omega
    exact ⟨cs[i], List.getElem?_eq_getElem h1, by rw [hc i hi, List.getElem?_eq_getElem h1]⟩
  obtain ⟨v0, _, h0⟩ := get 0 hn
  rw [Addr.add, if_pos rfl] at h0
  unfold World.cell? at h0
  cases hb : w.heap[a.block]? with
  | none => rw [hb] at h0; cases h0
  | some o =>
    rw [hb] at h0
    cases o with
    | cells c T fr =>
      simp only at h0
      have hsp : a.spot = none := by
        cases hs : a.spot with
        | none => rfl
        | some s => rw [hs] at h0; simp at h0
      refine ⟨hsp, c.toList, T, fr, rfl, ?_⟩
      have hall : ∀ i, i < n → c.toList[a.off + i]? = cs[i]? := fun i hi => by
        rw [← hc i hi]
        unfold World.cell?
        by_cases hi0 : i = 0
        · subst hi0; simp [Addr.add, hb, hsp]
        · simp [Addr.add, hi0, hb]
      have hlen : a.off + n ≤ c.toList.length := by
        obtain ⟨v, hv, _⟩ := get (n - 1) (by omega)
        have := hall (n - 1) (by omega)
        rw [hv] at this
        have := (List.getElem?_eq_some_iff.1 this).1
        omega
      rw [sub_mk hlen]
      congr 1
      apply List.ext_getElem?
      intro i
      rw [List.getElem?_take]
      split
      · rename_i hi; rw [List.getElem?_drop]; exact hall i hi
      · rename_i hi; rw [List.getElem?_eq_none (by omega)]
    | _ => cases h0

theorem slice_rd {α : Type} {E : Heap → List Value → α → Prop} {T e : TypeId} {sz fuel : Nat} {cs : List Value} {x : DataW Ht × List MemPlace} (hH : ∀ b o, w.heap[b]? = some o → H b = some o)
    (hT : P.underlying T = some (.slice e)) (hsz : P.cellsOf e = sz) (hpos : 0 < sz) (hE : ∀ m, m < fuel → ∀ cs x, DataW.trod enc P w base spare held m e cs = some x → ∃ p, E H cs p)
    (h : DataW.trod enc P w base spare held fuel T cs = some x) : ∃ ks l, cs = [ks] ∧ rdS E sz H ks l := by
  rcases DataW.trod_slice hT h with ⟨rfl, _⟩ | ⟨a, len, cap, elems, rest, n, rfl, rfl, _, _, hlc, hcm, hel, hget, _⟩
  · exact ⟨_, [], rfl, rdS.nil⟩
  · rw [hsz] at hget
    have key : ∀ i, i < len → ∃ p cs', w.cells? base (a.add (i * sz)) sz = some cs' ∧ E H cs' p := fun i hi => by
      have h1 := hget i hi
      rw [List.getElem?_eq_getElem (by omega)] at h1
      obtain ⟨cs', h2, h3⟩ := Option.bind_eq_some_iff.1 h1
      obtain ⟨p, hp⟩ := hE n (by omega) cs' _ h3
      exact ⟨p, cs', h2, hp⟩
    obtain ⟨l, hl, hr⟩ := list_of key
    refine ⟨_, l, rfl, some a, cap, by rw [hl], by rw [hl]; have : maxLen = 9223372036854775807 := rfl; omega, ?_⟩
    by_cases h0 : l.length = 0
    · exact .inl h0
    · right
      obtain ⟨cs0, hc0, _⟩ := hr 0 (by omega)
      rw [Nat.zero_mul, Addr.add, if_pos rfl] at hc0
      obtain ⟨hsp, row, T', fr, hb, _⟩ := cells_sub hc0 hpos
      obtain ⟨b, o, sp⟩ := a
      simp only at hsp hb
      subst hsp
      refine ⟨b, o, row, T', fr, rfl, hH _ _ hb, rows.mk fun i hi => ?_⟩
      obtain ⟨cs', hc', he'⟩ := hr i hi
      obtain ⟨_, row', T2, fr', hb', hs'⟩ := cells_sub hc' hpos
      have e1 : (Addr.add ⟨b, o, none⟩ (i * sz)).block = b := by unfold Addr.add; split <;> rfl
      have e2 : (Addr.add ⟨b, o, none⟩ (i * sz)).off = o + i * sz := by unfold Addr.add; split <;> simp_all
      rw [e1, hb] at hb'
      cases hb'
      rw [e2] at hs'
      exact ⟨cs', hs', he'⟩

end

section
variable {Ht : Type} {enc : TypeId × Value → Ht} {w : World} {base : Nat} {spare : Nat → Bool} {held : Bool} {H : Heap}
end
end Go.Proofs.YtjhenmdcnbaobaaGreat.Hs
/-! The types of the program, as the rules need them: printed by a program of this session's own (types.py). -/
namespace Go.Proofs.YtjhenmdcnbaobaaGreat.Hs
open Go Go.Proofs
set_option maxRecDepth 100000
theorem ty3 : Ty Tryz.prog 3 false 1 := ⟨Tryz.isAgg3, Tryz.sizeOf3⟩
theorem ty4 : Ty Tryz.prog 4 false 1 := ⟨Tryz.isAgg4, Tryz.sizeOf4⟩
theorem ty5 : Ty Tryz.prog 5 false 1 := ⟨Tryz.isAgg5, Tryz.sizeOf5⟩
theorem ty9 : Ty Tryz.prog 9 false 1 := ⟨Tryz.isAgg9, Tryz.sizeOf9⟩
theorem ty22 : Ty Tryz.prog 22 false 1 := ⟨Tryz.isAgg22, Tryz.sizeOf22⟩
theorem ty24 : Ty Tryz.prog 24 true 32 := ⟨Tryz.isAgg24, Tryz.sizeOf24⟩
theorem ty25 : Ty Tryz.prog 25 false 1 := ⟨Tryz.isAgg25, Tryz.sizeOf25⟩
theorem ty26 : Ty Tryz.prog 26 false 1 := ⟨Tryz.isAgg26, Tryz.sizeOf26⟩
theorem Zs : Ty Tryz.prog 28 true 36 := ⟨Tryz.isAgg28, Tryz.sizeOf28⟩
theorem ty31 : Ty Tryz.prog 31 false 1 := ⟨Tryz.isAgg31, Tryz.sizeOf31⟩
theorem ty33 : Ty Tryz.prog 33 false 1 := ⟨Tryz.isAgg33, Tryz.sizeOf33⟩
theorem ty56 : Ty Tryz.prog 56 false 1 := ⟨Tryz.isAgg56, Tryz.sizeOf56⟩
theorem ty62 : Ty Tryz.prog 62 false 1 := ⟨Tryz.isAgg62, Tryz.sizeOf62⟩
theorem ty67 : Ty Tryz.prog 67 false 1 := ⟨Tryz.isAgg67, Tryz.sizeOf67⟩
theorem ty83 : Ty Tryz.prog 83 false 1 := ⟨Tryz.isAgg83, Tryz.sizeOf83⟩
theorem Z0 : Ty Tryz.prog 85 true 35 := ⟨Tryz.isAgg85, Tryz.sizeOf85⟩
theorem ty87 : Ty Tryz.prog 87 true 71 := ⟨Tryz.isAgg87, Tryz.sizeOf87⟩
theorem ty93 : Ty Tryz.prog 93 false 1 := ⟨Tryz.isAgg93, Tryz.sizeOf93⟩
theorem ty94 : Ty Tryz.prog 94 false 1 := ⟨Tryz.isAgg94, Tryz.sizeOf94⟩
theorem ty97 : Ty Tryz.prog 97 true 37 := ⟨Tryz.isAgg97, Tryz.sizeOf97⟩
theorem ty106 : Ty Tryz.prog 106 false 1 := ⟨Tryz.isAgg106, Tryz.sizeOf106⟩
theorem ty107 : Ty Tryz.prog 107 false 1 := ⟨Tryz.isAgg107, Tryz.sizeOf107⟩
theorem ty109 : Ty Tryz.prog 109 true 2 := ⟨Tryz.isAgg109, Tryz.sizeOf109⟩
theorem YV : Ty Tryz.prog 117 false 1 := ⟨Tryz.isAgg117, Tryz.sizeOf117⟩
theorem ty120 : Ty Tryz.prog 120 false 1 := ⟨Tryz.isAgg120, Tryz.sizeOf120⟩
theorem ty121 : Ty Tryz.prog 121 false 1 := ⟨Tryz.isAgg121, Tryz.sizeOf121⟩
theorem ty123 : Ty Tryz.prog 123 true 2 := ⟨Tryz.isAgg123, Tryz.sizeOf123⟩
theorem ZS : Ty Tryz.prog 137 true 3 := ⟨Tryz.isAgg137, Tryz.sizeOf137⟩
theorem ty146 : Ty Tryz.prog 146 false 1 := ⟨Tryz.isAgg146, Tryz.sizeOf146⟩
theorem ty169 : Ty Tryz.prog 169 false 1 := ⟨Tryz.isAgg169, Tryz.sizeOf169⟩
theorem ty179 : Ty Tryz.prog 179 true 37 := ⟨Tryz.isAgg179, Tryz.sizeOf179⟩
theorem ZI {e : Operand → Value} {d : Option Nat} {ot : TypeId} {pos : String} {af : Array Edge} {g : Option (Nat × Bool)} {x : Operand} {b o q : Nat} (hx : e x = .pointer (some ⟨b, o, none⟩)) (ho : o + 0 = q) : Pu Tryz.prog e ⟨d, .fieldAddr 28 x 0, ot, pos, af, g⟩ (.pointer (some ⟨b, q, none⟩)) := Pu.fieldAddr Tryz.runUnderlying28 rfl ty3 hx ho
theorem Yj {e : Operand → Value} {d : Option Nat} {ot : TypeId} {pos : String} {af : Array Edge} {g : Option (Nat × Bool)} {x : Operand} {b o q : Nat} (hx : e x = .pointer (some ⟨b, o, none⟩)) (ho : o + 1 = q) : Pu Tryz.prog e ⟨d, .fieldAddr 28 x 1, ot, pos, af, g⟩ (.pointer (some ⟨b, q, none⟩)) := Pu.fieldAddr Tryz.runUnderlying28 rfl ty3 hx ho
theorem fa28_2 {e : Operand → Value} {d : Option Nat} {ot : TypeId} {pos : String} {af : Array Edge} {g : Option (Nat × Bool)} {x : Operand} {b o q : Nat} (hx : e x = .pointer (some ⟨b, o, none⟩)) (ho : o + 2 = q) : Pu Tryz.prog e ⟨d, .fieldAddr 28 x 2, ot, pos, af, g⟩ (.pointer (some ⟨b, q, none⟩)) := Pu.fieldAddr Tryz.runUnderlying28 rfl ty24 hx ho
theorem Yu {e : Operand → Value} {d : Option Nat} {ot : TypeId} {pos : String} {af : Array Edge} {g : Option (Nat × Bool)} {x : Operand} {b o q : Nat} (hx : e x = .pointer (some ⟨b, o, none⟩)) (ho : o + 34 = q) : Pu Tryz.prog e ⟨d, .fieldAddr 28 x 3, ot, pos, af, g⟩ (.pointer (some ⟨b, q, none⟩)) := Pu.fieldAddr Tryz.runUnderlying28 rfl ty25 hx ho
theorem YQ {e : Operand → Value} {d : Option Nat} {ot : TypeId} {pos : String} {af : Array Edge} {g : Option (Nat × Bool)} {x : Operand} {b o q : Nat} (hx : e x = .pointer (some ⟨b, o, none⟩)) (ho : o + 35 = q) : Pu Tryz.prog e ⟨d, .fieldAddr 28 x 4, ot, pos, af, g⟩ (.pointer (some ⟨b, q, none⟩)) := Pu.fieldAddr Tryz.runUnderlying28 rfl ty26 hx ho
theorem fa69_0 {e : Operand → Value} {d : Option Nat} {ot : TypeId} {pos : String} {af : Array Edge} {g : Option (Nat × Bool)} {x : Operand} {b o q : Nat} (hx : e x = .pointer (some ⟨b, o, none⟩)) (ho : o + 0 = q) : Pu Tryz.prog e ⟨d, .fieldAddr 69 x 0, ot, pos, af, g⟩ (.pointer (some ⟨b, q, none⟩)) := Pu.fieldAddr Tryz.runUnderlying69 rfl ty22 hx ho
theorem fa69_1 {e : Operand → Value} {d : Option Nat} {ot : TypeId} {pos : String} {af : Array Edge} {g : Option (Nat × Bool)} {x : Operand} {b o q : Nat} (hx : e x = .pointer (some ⟨b, o, none⟩)) (ho : o + 1 = q) : Pu Tryz.prog e ⟨d, .fieldAddr 69 x 1, ot, pos, af, g⟩ (.pointer (some ⟨b, q, none⟩)) := Pu.fieldAddr Tryz.runUnderlying69 rfl ty3 hx ho
theorem fa69_2 {e : Operand → Value} {d : Option Nat} {ot : TypeId} {pos : String} {af : Array Edge} {g : Option (Nat × Bool)} {x : Operand} {b o q : Nat} (hx : e x = .pointer (some ⟨b, o, none⟩)) (ho : o + 2 = q) : Pu Tryz.prog e ⟨d, .fieldAddr 69 x 2, ot, pos, af, g⟩ (.pointer (some ⟨b, q, none⟩)) := Pu.fieldAddr Tryz.runUnderlying69 rfl ty67 hx ho
theorem fa77_0 {e : Operand → Value} {d : Option Nat} {ot : TypeId} {pos : String} {af : Array Edge} {g : Option (Nat × Bool)} {x : Operand} {b o q : Nat} (hx : e x = .pointer (some ⟨b, o, none⟩)) (ho : o + 0 = q) : Pu Tryz.prog e ⟨d, .fieldAddr 77 x 0, ot, pos, af, g⟩ (.pointer (some ⟨b, q, none⟩)) := Pu.fieldAddr Tryz.runUnderlying77 rfl ty3 hx ho
theorem YS {e : Operand → Value} {d : Option Nat} {ot : TypeId} {pos : String} {af : Array Edge} {g : Option (Nat × Bool)} {x : Operand} {b o q : Nat} (hx : e x = .pointer (some ⟨b, o, none⟩)) (ho : o + 0 = q) : Pu Tryz.prog e ⟨d, .fieldAddr 85 x 0, ot, pos, af, g⟩ (.pointer (some ⟨b, q, none⟩)) := Pu.fieldAddr Tryz.runUnderlying85 rfl ty3 hx ho
theorem fa85_1 {e : Operand → Value} {d : Option Nat} {ot : TypeId} {pos : String} {af : Array Edge} {g : Option (Nat × Bool)} {x : Operand} {b o q : Nat} (hx : e x = .pointer (some ⟨b, o, none⟩)) (ho : o + 1 = q) : Pu Tryz.prog e ⟨d, .fieldAddr 85 x 1, ot, pos, af, g⟩ (.pointer (some ⟨b, q, none⟩)) := Pu.fieldAddr Tryz.runUnderlying85 rfl ty3 hx ho
theorem fa85_2 {e : Operand → Value} {d : Option Nat} {ot : TypeId} {pos : String} {af : Array Edge} {g : Option (Nat × Bool)} {x : Operand} {b o q : Nat} (hx : e x = .pointer (some ⟨b, o, none⟩)) (ho : o + 2 = q) : Pu Tryz.prog e ⟨d, .fieldAddr 85 x 2, ot, pos, af, g⟩ (.pointer (some ⟨b, q, none⟩)) := Pu.fieldAddr Tryz.runUnderlying85 rfl ty24 hx ho
theorem Y0 {e : Operand → Value} {d : Option Nat} {ot : TypeId} {pos : String} {af : Array Edge} {g : Option (Nat × Bool)} {x : Operand} {b o q : Nat} (hx : e x = .pointer (some ⟨b, o, none⟩)) (ho : o + 34 = q) : Pu Tryz.prog e ⟨d, .fieldAddr 85 x 3, ot, pos, af, g⟩ (.pointer (some ⟨b, q, none⟩)) := Pu.fieldAddr Tryz.runUnderlying85 rfl ty83 hx ho
theorem fa87_0 {e : Operand → Value} {d : Option Nat} {ot : TypeId} {pos : String} {af : Array Edge} {g : Option (Nat × Bool)} {x : Operand} {b o q : Nat} (hx : e x = .pointer (some ⟨b, o, none⟩)) (ho : o + 0 = q) : Pu Tryz.prog e ⟨d, .fieldAddr 87 x 0, ot, pos, af, g⟩ (.pointer (some ⟨b, q, none⟩)) := Pu.fieldAddr Tryz.runUnderlying87 rfl Z0 hx ho
theorem fa87_1 {e : Operand → Value} {d : Option Nat} {ot : TypeId} {pos : String} {af : Array Edge} {g : Option (Nat × Bool)} {x : Operand} {b o q : Nat} (hx : e x = .pointer (some ⟨b, o, none⟩)) (ho : o + 35 = q) : Pu Tryz.prog e ⟨d, .fieldAddr 87 x 1, ot, pos, af, g⟩ (.pointer (some ⟨b, q, none⟩)) := Pu.fieldAddr Tryz.runUnderlying87 rfl Zs hx ho
theorem fa97_1 {e : Operand → Value} {d : Option Nat} {ot : TypeId} {pos : String} {af : Array Edge} {g : Option (Nat × Bool)} {x : Operand} {b o q : Nat} (hx : e x = .pointer (some ⟨b, o, none⟩)) (ho : o + 1 = q) : Pu Tryz.prog e ⟨d, .fieldAddr 97 x 1, ot, pos, af, g⟩ (.pointer (some ⟨b, q, none⟩)) := Pu.fieldAddr Tryz.runUnderlying97 rfl ty3 hx ho
theorem fa97_3 {e : Operand → Value} {d : Option Nat} {ot : TypeId} {pos : String} {af : Array Edge} {g : Option (Nat × Bool)} {x : Operand} {b o q : Nat} (hx : e x = .pointer (some ⟨b, o, none⟩)) (ho : o + 34 = q) : Pu Tryz.prog e ⟨d, .fieldAddr 97 x 3, ot, pos, af, g⟩ (.pointer (some ⟨b, q, none⟩)) := Pu.fieldAddr Tryz.runUnderlying97 rfl ty93 hx ho
theorem fa97_4 {e : Operand → Value} {d : Option Nat} {ot : TypeId} {pos : String} {af : Array Edge} {g : Option (Nat × Bool)} {x : Operand} {b o q : Nat} (hx : e x = .pointer (some ⟨b, o, none⟩)) (ho : o + 35 = q) : Pu Tryz.prog e ⟨d, .fieldAddr 97 x 4, ot, pos, af, g⟩ (.pointer (some ⟨b, q, none⟩)) := Pu.fieldAddr Tryz.runUnderlying97 rfl ty94 hx ho
theorem fa109_0 {e : Operand → Value} {d : Option Nat} {ot : TypeId} {pos : String} {af : Array Edge} {g : Option (Nat × Bool)} {x : Operand} {b o q : Nat} (hx : e x = .pointer (some ⟨b, o, none⟩)) (ho : o + 0 = q) : Pu Tryz.prog e ⟨d, .fieldAddr 109 x 0, ot, pos, af, g⟩ (.pointer (some ⟨b, q, none⟩)) := Pu.fieldAddr Tryz.runUnderlying109 rfl ty106 hx ho
theorem fa109_1 {e : Operand → Value} {d : Option Nat} {ot : TypeId} {pos : String} {af : Array Edge} {g : Option (Nat × Bool)} {x : Operand} {b o q : Nat} (hx : e x = .pointer (some ⟨b, o, none⟩)) (ho : o + 1 = q) : Pu Tryz.prog e ⟨d, .fieldAddr 109 x 1, ot, pos, af, g⟩ (.pointer (some ⟨b, q, none⟩)) := Pu.fieldAddr Tryz.runUnderlying109 rfl ty107 hx ho
theorem Yp {e : Operand → Value} {d : Option Nat} {ot : TypeId} {pos : String} {af : Array Edge} {g : Option (Nat × Bool)} {x : Operand} {b o q : Nat} (hx : e x = .pointer (some ⟨b, o, none⟩)) (ho : o + 0 = q) : Pu Tryz.prog e ⟨d, .fieldAddr 119 x 0, ot, pos, af, g⟩ (.pointer (some ⟨b, q, none⟩)) := Pu.fieldAddr Tryz.runUnderlying119 rfl ty31 hx ho
theorem fa119_1 {e : Operand → Value} {d : Option Nat} {ot : TypeId} {pos : String} {af : Array Edge} {g : Option (Nat × Bool)} {x : Operand} {b o q : Nat} (hx : e x = .pointer (some ⟨b, o, none⟩)) (ho : o + 1 = q) : Pu Tryz.prog e ⟨d, .fieldAddr 119 x 1, ot, pos, af, g⟩ (.pointer (some ⟨b, q, none⟩)) := Pu.fieldAddr Tryz.runUnderlying119 rfl ty3 hx ho
theorem fa123_0 {e : Operand → Value} {d : Option Nat} {ot : TypeId} {pos : String} {af : Array Edge} {g : Option (Nat × Bool)} {x : Operand} {b o q : Nat} (hx : e x = .pointer (some ⟨b, o, none⟩)) (ho : o + 0 = q) : Pu Tryz.prog e ⟨d, .fieldAddr 123 x 0, ot, pos, af, g⟩ (.pointer (some ⟨b, q, none⟩)) := Pu.fieldAddr Tryz.runUnderlying123 rfl ty3 hx ho
theorem fa123_1 {e : Operand → Value} {d : Option Nat} {ot : TypeId} {pos : String} {af : Array Edge} {g : Option (Nat × Bool)} {x : Operand} {b o q : Nat} (hx : e x = .pointer (some ⟨b, o, none⟩)) (ho : o + 1 = q) : Pu Tryz.prog e ⟨d, .fieldAddr 123 x 1, ot, pos, af, g⟩ (.pointer (some ⟨b, q, none⟩)) := Pu.fieldAddr Tryz.runUnderlying123 rfl ty121 hx ho
theorem fa179_0 {e : Operand → Value} {d : Option Nat} {ot : TypeId} {pos : String} {af : Array Edge} {g : Option (Nat × Bool)} {x : Operand} {b o q : Nat} (hx : e x = .pointer (some ⟨b, o, none⟩)) (ho : o + 0 = q) : Pu Tryz.prog e ⟨d, .fieldAddr 179 x 0, ot, pos, af, g⟩ (.pointer (some ⟨b, q, none⟩)) := Pu.fieldAddr Tryz.runUnderlying179 rfl Zs hx ho
theorem fa179_1 {e : Operand → Value} {d : Option Nat} {ot : TypeId} {pos : String} {af : Array Edge} {g : Option (Nat × Bool)} {x : Operand} {b o q : Nat} (hx : e x = .pointer (some ⟨b, o, none⟩)) (ho : o + 36 = q) : Pu Tryz.prog e ⟨d, .fieldAddr 179 x 1, ot, pos, af, g⟩ (.pointer (some ⟨b, q, none⟩)) := Pu.fieldAddr Tryz.runUnderlying179 rfl ty3 hx ho
theorem el3 : El Tryz.prog 3 1 8 (.int .i64 0) := ⟨⟨Tryz.t3, Tryz.typeInfo3, rfl, rfl, rfl⟩, rfl⟩
theorem el4 : El Tryz.prog 4 1 1 (.bool false) := ⟨⟨Tryz.t4, Tryz.typeInfo4, rfl, rfl, rfl⟩, rfl⟩
theorem el5 : El Tryz.prog 5 1 1 (.int .u8 0) := ⟨⟨Tryz.t5, Tryz.typeInfo5, rfl, rfl, rfl⟩, rfl⟩
theorem el9 : El Tryz.prog 9 1 16 (.string ⟨#[]⟩) := ⟨⟨Tryz.t9, Tryz.typeInfo9, rfl, rfl, rfl⟩, rfl⟩
theorem el28 : El Tryz.prog 28 36 96 (.agg ⟨pkT 0 0 zS (.slice none 0 0) (.slice none 0 0)⟩) := ⟨⟨Tryz.t28, Tryz.typeInfo28, rfl, rfl, rfl⟩, rfl⟩
theorem el85 : El Tryz.prog 85 35 72 (.agg ⟨pkP 0 0 zS (.slice none 0 0)⟩) := ⟨⟨Tryz.t85, Tryz.typeInfo85, rfl, rfl, rfl⟩, rfl⟩
theorem el87 : El Tryz.prog 87 71 168 (.agg ⟨(pkP 0 0 zS (.slice none 0 0)) ++ (pkT 0 0 zS (.slice none 0 0) (.slice none 0 0))⟩) := ⟨⟨Tryz.t87, Tryz.typeInfo87, rfl, rfl, rfl⟩, rfl⟩
theorem el97 : El Tryz.prog 97 37 120 (.agg ⟨(pkT 0 0 zS (.slice none 0 0) (.slice none 0 0)) ++ [.slice none 0 0]⟩) := ⟨⟨Tryz.t97, Tryz.typeInfo97, rfl, rfl, rfl⟩, rfl⟩
theorem bld24_ : ∀ w, (Instr.build 24 ⟨[]⟩).run Tryz.prog w = .ok (.agg ⟨sC zS⟩) w := run_buildA Tryz.zeroValue24 Tryz.runUnderlying24 Tryz.sizeOf5 rfl
theorem pl28 (w : World) : (Sem.run Tryz.prog ((#[{ name := "Kind", type := 3, offset := 0, embedded := false, tag := "", pkgPath := "", byteOffset := 0 }, { name := "Num", type := 3, offset := 1, embedded := false, tag := "", pkgPath := "", byteOffset := 8 }, { name := "Ref", type := 24, offset := 2, embedded := false, tag := "", pkgPath := "", byteOffset := 16 }, { name := "Kids", type := 25, offset := 34, embedded := false, tag := "", pkgPath := "", byteOffset := 48 }, { name := "Cases", type := 26, offset := 35, embedded := false, tag := "", pkgPath := "", byteOffset := 72 }] : Array Field).mapM fun f => (do pure (f.offset, ← Go.sizeOf f.type) : Sem (Nat × Nat))) w) = .ok #[(0, 1), (1, 1), (2, 32), (34, 1), (35, 1)] w := by simp [Tryz.sizeOf24, Tryz.sizeOf25, Tryz.sizeOf26, Tryz.sizeOf3]
theorem bld28_ : ∀ w, (Instr.build 28 ⟨[]⟩).run Tryz.prog w = .ok (.agg ⟨pkT 0 0 zS (.slice none 0 0) (.slice none 0 0)⟩) w := ZL Tryz.zeroValue28 Tryz.runUnderlying28 pl28 rfl
theorem bld28_0_1 (k : Int) (n : Int) : ∀ w, (Instr.build 28 ⟨[(0, .int .i64 k), (1, .int .i64 n)]⟩).run Tryz.prog w = .ok (.agg ⟨pkT k n zS (.slice none 0 0) (.slice none 0 0)⟩) w := ZL Tryz.zeroValue28 Tryz.runUnderlying28 pl28 (by kernel_rfl)
theorem bld28_0_1_2 (k : Int) (n : Int) (r : Sm) : ∀ w, (Instr.build 28 ⟨[(0, .int .i64 k), (1, .int .i64 n), (2, .agg ⟨sC r⟩)]⟩).run Tryz.prog w = .ok (.agg ⟨pkT k n r (.slice none 0 0) (.slice none 0 0)⟩) w := ZL Tryz.zeroValue28 Tryz.runUnderlying28 pl28 (by kernel_rfl)
theorem bld28_0_1_3 (k : Int) (n : Int) (a3 : Option Addr) (n3 c3 : Nat) : ∀ w, (Instr.build 28 ⟨[(0, .int .i64 k), (1, .int .i64 n), (3, (.slice a3 n3 c3))]⟩).run Tryz.prog w = .ok (.agg ⟨pkT k n zS (.slice a3 n3 c3) (.slice none 0 0)⟩) w := ZL Tryz.zeroValue28 Tryz.runUnderlying28 pl28 (by kernel_rfl)
theorem bld28_0_2 (k : Int) (r : Sm) : ∀ w, (Instr.build 28 ⟨[(0, .int .i64 k), (2, .agg ⟨sC r⟩)]⟩).run Tryz.prog w = .ok (.agg ⟨pkT k 0 r (.slice none 0 0) (.slice none 0 0)⟩) w := ZL Tryz.zeroValue28 Tryz.runUnderlying28 pl28 (by kernel_rfl)
theorem bld28_0_2_1_3 (k : Int) (r : Sm) (n : Int) (a3 : Option Addr) (n3 c3 : Nat) : ∀ w, (Instr.build 28 ⟨[(0, .int .i64 k), (2, .agg ⟨sC r⟩), (1, .int .i64 n), (3, (.slice a3 n3 c3))]⟩).run Tryz.prog w = .ok (.agg ⟨pkT k n r (.slice a3 n3 c3) (.slice none 0 0)⟩) w := ZL Tryz.zeroValue28 Tryz.runUnderlying28 pl28 (by kernel_rfl)
theorem bld28_0_2_3 (k : Int) (r : Sm) (a3 : Option Addr) (n3 c3 : Nat) : ∀ w, (Instr.build 28 ⟨[(0, .int .i64 k), (2, .agg ⟨sC r⟩), (3, (.slice a3 n3 c3))]⟩).run Tryz.prog w = .ok (.agg ⟨pkT k 0 r (.slice a3 n3 c3) (.slice none 0 0)⟩) w := ZL Tryz.zeroValue28 Tryz.runUnderlying28 pl28 (by kernel_rfl)
theorem bld28_0_3 (k : Int) (a3 : Option Addr) (n3 c3 : Nat) : ∀ w, (Instr.build 28 ⟨[(0, .int .i64 k), (3, (.slice a3 n3 c3))]⟩).run Tryz.prog w = .ok (.agg ⟨pkT k 0 zS (.slice a3 n3 c3) (.slice none 0 0)⟩) w := ZL Tryz.zeroValue28 Tryz.runUnderlying28 pl28 (by kernel_rfl)
theorem bld28_0_3_4 (k : Int) (a3 : Option Addr) (n3 c3 : Nat) (a4 : Option Addr) (n4 c4 : Nat) : ∀ w, (Instr.build 28 ⟨[(0, .int .i64 k), (3, (.slice a3 n3 c3)), (4, (.slice a4 n4 c4))]⟩).run Tryz.prog w = .ok (.agg ⟨pkT k 0 zS (.slice a3 n3 c3) (.slice a4 n4 c4)⟩) w := ZL Tryz.zeroValue28 Tryz.runUnderlying28 pl28 (by kernel_rfl)
theorem pl69 (w : World) : (Sem.run Tryz.prog ((#[{ name := "bytes", type := 22, offset := 0, embedded := false, tag := "", pkgPath := "hoarstone/hoarstonekit", byteOffset := 0 }, { name := "at", type := 3, offset := 1, embedded := false, tag := "", pkgPath := "hoarstone/hoarstonekit", byteOffset := 24 }, { name := "seed", type := 67, offset := 2, embedded := false, tag := "", pkgPath := "hoarstone/hoarstonekit", byteOffset := 32 }] : Array Field).mapM fun f => (do pure (f.offset, ← Go.sizeOf f.type) : Sem (Nat × Nat))) w) = .ok #[(0, 1), (1, 1), (2, 1)] w := by simp [Tryz.sizeOf22, Tryz.sizeOf3, Tryz.sizeOf67]
theorem pl77 (w : World) : (Sem.run Tryz.prog ((#[{ name := "count", type := 3, offset := 0, embedded := false, tag := "", pkgPath := "hoarstone/term", byteOffset := 0 }] : Array Field).mapM fun f => (do pure (f.offset, ← Go.sizeOf f.type) : Sem (Nat × Nat))) w) = .ok #[(0, 1)] w := by simp [Tryz.sizeOf3]
theorem bld77_ : ∀ w, (Instr.build 77 ⟨[]⟩).run Tryz.prog w = .ok (.agg ⟨[.int .i64 0]⟩) w := ZL Tryz.zeroValue77 Tryz.runUnderlying77 pl77 rfl
theorem pl85 (w : World) : (Sem.run Tryz.prog ((#[{ name := "Kind", type := 3, offset := 0, embedded := false, tag := "", pkgPath := "", byteOffset := 0 }, { name := "Num", type := 3, offset := 1, embedded := false, tag := "", pkgPath := "", byteOffset := 8 }, { name := "Ref", type := 24, offset := 2, embedded := false, tag := "", pkgPath := "", byteOffset := 16 }, { name := "Kids", type := 83, offset := 34, embedded := false, tag := "", pkgPath := "", byteOffset := 48 }] : Array Field).mapM fun f => (do pure (f.offset, ← Go.sizeOf f.type) : Sem (Nat × Nat))) w) = .ok #[(0, 1), (1, 1), (2, 32), (34, 1)] w := by simp [Tryz.sizeOf24, Tryz.sizeOf3, Tryz.sizeOf83]
theorem bld85_0 (k : Int) : ∀ w, (Instr.build 85 ⟨[(0, .int .i64 k)]⟩).run Tryz.prog w = .ok (.agg ⟨pkP k 0 zS (.slice none 0 0)⟩) w := ZL Tryz.zeroValue85 Tryz.runUnderlying85 pl85 (by kernel_rfl)
theorem bld85_0_1 (k : Int) (n : Int) : ∀ w, (Instr.build 85 ⟨[(0, .int .i64 k), (1, .int .i64 n)]⟩).run Tryz.prog w = .ok (.agg ⟨pkP k n zS (.slice none 0 0)⟩) w := ZL Tryz.zeroValue85 Tryz.runUnderlying85 pl85 (by kernel_rfl)
theorem bld85_0_1_2 (k : Int) (n : Int) (r : Sm) : ∀ w, (Instr.build 85 ⟨[(0, .int .i64 k), (1, .int .i64 n), (2, .agg ⟨sC r⟩)]⟩).run Tryz.prog w = .ok (.agg ⟨pkP k n r (.slice none 0 0)⟩) w := ZL Tryz.zeroValue85 Tryz.runUnderlying85 pl85 (by kernel_rfl)
theorem bld85_0_2_1_3 (k : Int) (r : Sm) (n : Int) (a3 : Option Addr) (n3 c3 : Nat) : ∀ w, (Instr.build 85 ⟨[(0, .int .i64 k), (2, .agg ⟨sC r⟩), (1, .int .i64 n), (3, (.slice a3 n3 c3))]⟩).run Tryz.prog w = .ok (.agg ⟨pkP k n r (.slice a3 n3 c3)⟩) w := ZL Tryz.zeroValue85 Tryz.runUnderlying85 pl85 (by kernel_rfl)
theorem pl87 (w : World) : (Sem.run Tryz.prog ((#[{ name := "Pat", type := 85, offset := 0, embedded := false, tag := "", pkgPath := "", byteOffset := 0 }, { name := "Body", type := 28, offset := 35, embedded := false, tag := "", pkgPath := "", byteOffset := 72 }] : Array Field).mapM fun f => (do pure (f.offset, ← Go.sizeOf f.type) : Sem (Nat × Nat))) w) = .ok #[(0, 35), (35, 36)] w := by simp [Tryz.sizeOf28, Tryz.sizeOf85]
theorem bld87_0_1 {p t : List Value} (hp : p.length = 35) (ht : t.length = 36) : ∀ w, (Instr.build 87 ⟨[(0, .agg ⟨p⟩), (1, .agg ⟨t⟩)]⟩).run Tryz.prog w = .ok (.agg ⟨p ++ t⟩) w := ZL Tryz.zeroValue87 Tryz.runUnderlying87 pl87 (fill_cons (pre := []) (mid := pkP 0 0 zS (.slice none 0 0)) (post := pkT 0 0 zS (.slice none 0 0) (.slice none 0 0)) rfl rfl hp rfl rfl (by have := fill_cons (place := (#[(0, 35), (35, 36)][·]?)) (i := 1) (v := .agg ⟨t⟩) (rest := []) (pre := p) (mid := pkT 0 0 zS (.slice none 0 0) (.slice none 0 0)) (post := []) rfl rfl ht hp rfl rfl; simpa [Instr.fill] using this))
theorem pl97 (w : World) : (Sem.run Tryz.prog ((#[{ name := "Kind", type := 3, offset := 0, embedded := false, tag := "", pkgPath := "", byteOffset := 0 }, { name := "Num", type := 3, offset := 1, embedded := false, tag := "", pkgPath := "", byteOffset := 8 }, { name := "Ref", type := 24, offset := 2, embedded := false, tag := "", pkgPath := "", byteOffset := 16 }, { name := "Names", type := 93, offset := 34, embedded := false, tag := "", pkgPath := "", byteOffset := 48 }, { name := "Kids", type := 94, offset := 35, embedded := false, tag := "", pkgPath := "", byteOffset := 72 }, { name := "Cases", type := 95, offset := 36, embedded := false, tag := "", pkgPath := "", byteOffset := 96 }] : Array Field).mapM fun f => (do pure (f.offset, ← Go.sizeOf f.type) : Sem (Nat × Nat))) w) = .ok #[(0, 1), (1, 1), (2, 32), (34, 1), (35, 1), (36, 1)] w := by simp [Tryz.sizeOf24, Tryz.sizeOf3, Tryz.sizeOf93, Tryz.sizeOf94, Tryz.sizeOf95]
theorem bld97_0_1_2 (k : Int) (n : Int) (r : Sm) : ∀ w, (Instr.build 97 ⟨[(0, .int .i64 k), (1, .int .i64 n), (2, .agg ⟨sC r⟩)]⟩).run Tryz.prog w = .ok (.agg ⟨(pkT k n r (.slice none 0 0) (.slice none 0 0)) ++ [.slice none 0 0]⟩) w := ZL Tryz.zeroValue97 Tryz.runUnderlying97 pl97 (by kernel_rfl)
theorem pl109 (w : World) : (Sem.run Tryz.prog ((#[{ name := "variable", type := 106, offset := 0, embedded := false, tag := "", pkgPath := "hoarstone/term", byteOffset := 0 }, { name := "ref", type := 107, offset := 1, embedded := false, tag := "", pkgPath := "hoarstone/term", byteOffset := 8 }] : Array Field).mapM fun f => (do pure (f.offset, ← Go.sizeOf f.type) : Sem (Nat × Nat))) w) = .ok #[(0, 1), (1, 1)] w := by simp [Tryz.sizeOf106, Tryz.sizeOf107]
theorem bld109_0_1 (a0 : Fn) (x0 y0 : Array Value) (a1 : Fn) (x1 y1 : Array Value) : ∀ w, (Instr.build 109 ⟨[(0, .func a0 x0 y0), (1, .func a1 x1 y1)]⟩).run Tryz.prog w = .ok (.agg ⟨[.func a0 x0 y0, .func a1 x1 y1]⟩) w := ZL Tryz.zeroValue109 Tryz.runUnderlying109 pl109 (by kernel_rfl)
theorem pl119 (w : World) : (Sem.run Tryz.prog ((#[{ name := "Store", type := 31, offset := 0, embedded := true, tag := "", pkgPath := "", byteOffset := 0 }, { name := "left", type := 3, offset := 1, embedded := false, tag := "", pkgPath := "hoarstone/hoarstonekit", byteOffset := 8 }] : Array Field).mapM fun f => (do pure (f.offset, ← Go.sizeOf f.type) : Sem (Nat × Nat))) w) = .ok #[(0, 1), (1, 1)] w := by simp [Tryz.sizeOf3, Tryz.sizeOf31]
theorem pl123 (w : World) : (Sem.run Tryz.prog ((#[{ name := "members", type := 3, offset := 0, embedded := false, tag := "", pkgPath := "hoarstone/term", byteOffset := 0 }, { name := "known", type := 121, offset := 1, embedded := false, tag := "", pkgPath := "hoarstone/term", byteOffset := 8 }] : Array Field).mapM fun f => (do pure (f.offset, ← Go.sizeOf f.type) : Sem (Nat × Nat))) w) = .ok #[(0, 1), (1, 1)] w := by simp [Tryz.sizeOf121, Tryz.sizeOf3]
theorem bld123_0_1 (a0 : Int) (a1 : Fn) (x1 y1 : Array Value) : ∀ w, (Instr.build 123 ⟨[(0, .int .i64 a0), (1, .func a1 x1 y1)]⟩).run Tryz.prog w = .ok (.agg ⟨[.int .i64 a0, .func a1 x1 y1]⟩) w := ZL Tryz.zeroValue123 Tryz.runUnderlying123 pl123 (by kernel_rfl)
theorem bld137_ : ∀ w, (Instr.build 137 ⟨[]⟩).run Tryz.prog w = .ok (.agg ⟨[.bool false, .bool false, .bool false]⟩) w := run_buildA Tryz.zeroValue137 Tryz.runUnderlying137 Tryz.sizeOf4 rfl
theorem bld137_0_1_2 (a0 a1 a2 : Bool) : ∀ w, (Instr.build 137 ⟨[(0, .bool a0), (1, .bool a1), (2, .bool a2)]⟩).run Tryz.prog w = .ok (.agg ⟨[.bool a0, .bool a1, .bool a2]⟩) w := run_buildA Tryz.zeroValue137 Tryz.runUnderlying137 Tryz.sizeOf4 rfl
theorem pl179 (w : World) : (Sem.run Tryz.prog ((#[{ name := "Term", type := 28, offset := 0, embedded := true, tag := "", pkgPath := "", byteOffset := 0 }, { name := "more", type := 3, offset := 36, embedded := false, tag := "", pkgPath := "hoarstone/term", byteOffset := 96 }] : Array Field).mapM fun f => (do pure (f.offset, ← Go.sizeOf f.type) : Sem (Nat × Nat))) w) = .ok #[(0, 36), (36, 1)] w := by simp [Tryz.sizeOf28, Tryz.sizeOf3]
theorem bld179_0_1 {t : List Value} {m : Int} (ht : t.length = 36) : ∀ w, (Instr.build 179 ⟨[(0, .agg ⟨t⟩), (1, .int .i64 m)]⟩).run Tryz.prog w = .ok (.agg ⟨t ++ [.int .i64 m]⟩) w := ZL Tryz.zeroValue179 Tryz.runUnderlying179 pl179 (fill_cons (pre := []) (mid := pkT 0 0 zS (.slice none 0 0) (.slice none 0 0)) (post := [.int .i64 0]) rfl rfl ht rfl rfl (by have := fill_cons (place := (#[(0, 36), (36, 1)][·]?)) (i := 1) (v := .int .i64 m) (rest := []) (pre := t) (mid := [.int .i64 0]) (post := []) rfl rfl rfl ht rfl rfl; simpa [Instr.fill] using this))
theorem eqS {e : Operand → Value} {d : Option Nat} {ot : TypeId} {pos : String} {af : Array Edge} {g : Option (Nat × Bool)} {T' : TypeId} {x y : Operand} {r s : Sm} (hx : e x = .agg ⟨sC r⟩) (hy : e y = .agg ⟨sC s⟩) : Pu Tryz.prog e ⟨d, .binOp .eql 24 x y T', ot, pos, af, g⟩ (.bool (decide (r = s))) := Pu_eqlSum Tryz.eqGuardType24 Tryz.underlying24 Tryz.underlying5 Tryz.sizeOf5 hx hy
theorem neqS {e : Operand → Value} {d : Option Nat} {ot : TypeId} {pos : String} {af : Array Edge} {g : Option (Nat × Bool)} {T' : TypeId} {x y : Operand} {r s : Sm} (hx : e x = .agg ⟨sC r⟩) (hy : e y = .agg ⟨sC s⟩) : Pu Tryz.prog e ⟨d, .binOp .neq 24 x y T', ot, pos, af, g⟩ (.bool (!decide (r = s))) := Pu_neqSum Tryz.eqGuardType24 Tryz.underlying24 Tryz.underlying5 Tryz.sizeOf5 hx hy
theorem neqB3 {e : Operand → Value} {d : Option Nat} {ot : TypeId} {pos : String} {af : Array Edge} {g : Option (Nat × Bool)} {T' : TypeId} {x y : Operand} {a b c a' b' c' : Bool} (hx : e x = .agg ⟨[.bool a, .bool b, .bool c]⟩) (hy : e y = .agg ⟨[.bool a', .bool b', .bool c']⟩) : Pu Tryz.prog e ⟨d, .binOp .neq 137 x y T', ot, pos, af, g⟩ (.bool (!(a == a' && (b == b' && c == c')))) := Pu_neqB3 Tryz.eqGuardType137 Tryz.underlying137 Tryz.underlying4 Tryz.sizeOf4 hx hy
theorem mixed : Tryz.prog.follows .mixedOrders = true := Tryz.checked.mixed
end Go.Proofs.YtjhenmdcnbaobaaGreat.Hs
