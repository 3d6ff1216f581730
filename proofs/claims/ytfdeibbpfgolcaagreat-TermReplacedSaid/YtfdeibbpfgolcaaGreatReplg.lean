import Derived.Test.YtfdeibbpfgolcaaGreatReplf
import Derived.Test.YtfdeibbpfgolcaaGreatChecked
import Derived.OpenShut
import Derived.ReadAgain
/-! What comes in, as the claims read it, is a term. -/
namespace Go.Proofs.YtfdeibbpfgolcaaGreat.Hs
open Go Go.Proofs

theorem list_of {α : Type} {n : Nat} {R : Nat → α → Prop} (h : ∀ i, i < n → ∃ x, R i x) : ∃ l : List α, l.length = n ∧ ∀ i (hi : i < l.length), R i l[i] := by
  induction n with
  | zero => exact ⟨[], rfl, fun i hi => absurd hi (by simp)⟩
  | succ n ih =>
    obtain ⟨l, h1, h2⟩ := ih fun i hi => h i (by omega)
    obtain ⟨x, hx⟩ := h n (by omega)
    refine ⟨l ++ [x], by simp [h1], fun i hi => ?_⟩
    by_cases hin : i < l.length
    · rw [List.getElem_append_left hin]; exact h2 i hin
    · have : i = n := by simp at hi; omega
      subst this
      rw [List.getElem_append_right (by omega)]
      simpa [h1] using hx

section
variable {Ht : Type} {enc : TypeId × Value → Ht} {P : Program} {w : World} {base : Nat} {spare : Nat → Bool} {held : Bool} {H : Heap}

theorem cells_sub {a : Addr} {n : Nat} {cs : List Value} (h : w.cells? base a n = some cs) (hn : 0 < n) :
    (a.spot = none) ∧ ∃ row T fr, w.heap[a.block]? = some (.cells ⟨row⟩ T fr) ∧ sub row a.off n = some cs := by
  obtain ⟨_, hl, hc⟩ := World.cells?_some h
  have get : ∀ i, i < n → ∃ v, cs[i]? = some v ∧ w.cell? (a.add i) = some v := fun i hi => by
    have h1 : i < cs.length := by omega
    exact ⟨cs[i], List.getElem?_eq_getElem h1, by rw [hc i hi, List.getElem?_eq_getElem h1]⟩
  obtain ⟨v0, _, h0⟩ := get 0 hn
  rw [Addr.add, if_pos rfl] at h0
  unfold World.cell? at h0
  cases hb : w.heap[a.block]? with
  | none => rw [hb] at h0; cases h0
  | some o =>
    rw [hb] at h0
    cases o with
    | cells c T fr =>
      simp only at h0
      have hsp : a.spot = none := by
        cases hs : a.spot with
        | none => rfl
        | some s => rw [hs] at h0; simp at h0
      refine ⟨hsp, c.toList, T, fr, rfl, ?_⟩
      have hall : ∀ i, i < n → c.toList[a.off + i]? = cs[i]? := fun i hi => by
        rw [← hc i hi]
        unfold World.cell?
        by_cases hi0 : i = 0
        · subst hi0; simp [Addr.add, hb, hsp]
        · simp [Addr.add, hi0, hb]
      have hlen : a.off + n ≤ c.toList.length := by
        obtain ⟨v, hv, _⟩ := get (n - 1) (by omega)
        have := hall (n - 1) (by omega)
        rw [hv] at this
        have := (List.getElem?_eq_some_iff.1 this).1
        omega
      rw [sub_mk hlen]
      congr 1
      apply List.ext_getElem?
      intro i
      rw [List.getElem?_take]
      split
      · rename_i hi; rw [List.getElem?_drop]; exact hall i hi
      · rename_i hi; rw [List.getElem?_eq_none (by omega)]
    | _ => cases h0

theorem slice_rd {α : Type} {E : Heap → List Value → α → Prop} {T e : TypeId} {sz fuel : Nat} {cs : List Value} {x : DataW Ht × List MemPlace} (hH : ∀ b o, w.heap[b]? = some o → H b = some o)
    (hT : P.underlying T = some (.slice e)) (hsz : P.cellsOf e = sz) (hpos : 0 < sz) (hE : ∀ m, m < fuel → ∀ cs x, DataW.trod enc P w base spare held m e cs = some x → ∃ p, E H cs p)
    (h : DataW.trod enc P w base spare held fuel T cs = some x) : ∃ ks l, cs = [ks] ∧ rdS E sz H ks l := by
  rcases DataW.trod_slice hT h with ⟨rfl, _⟩ | ⟨a, len, cap, elems, rest, n, rfl, rfl, _, _, hlc, hcm, hel, hget, _⟩
  · exact ⟨_, [], rfl, rdS.nil⟩
  · rw [hsz] at hget
    have key : ∀ i, i < len → ∃ p cs', w.cells? base (a.add (i * sz)) sz = some cs' ∧ E H cs' p := fun i hi => by
      have h1 := hget i hi
      rw [List.getElem?_eq_getElem (by omega)] at h1
      obtain ⟨cs', h2, h3⟩ := Option.bind_eq_some_iff.1 h1
      obtain ⟨p, hp⟩ := hE n (by omega) cs' _ h3
      exact ⟨p, cs', h2, hp⟩
    obtain ⟨l, hl, hr⟩ := list_of key
    refine ⟨_, l, rfl, some a, cap, by rw [hl], by rw [hl]; have : maxLen = 9223372036854775807 := rfl; omega, ?_⟩
    by_cases h0 : l.length = 0
    · exact .inl h0
    · right
      obtain ⟨cs0, hc0, _⟩ := hr 0 (by omega)
      rw [Nat.zero_mul, Addr.add, if_pos rfl] at hc0
      obtain ⟨hsp, row, T', fr, hb, _⟩ := cells_sub hc0 hpos
      obtain ⟨b, o, sp⟩ := a
      simp only at hsp hb
      subst hsp
      refine ⟨b, o, row, T', fr, rfl, hH _ _ hb, rows.mk fun i hi => ?_⟩
      obtain ⟨cs', hc', he'⟩ := hr i hi
      obtain ⟨_, row', T2, fr', hb', hs'⟩ := cells_sub hc' hpos
      have e1 : (Addr.add ⟨b, o, none⟩ (i * sz)).block = b := by unfold Addr.add; split <;> rfl
      have e2 : (Addr.add ⟨b, o, none⟩ (i * sz)).off = o + i * sz := by unfold Addr.add; split <;> simp_all
      rw [e1, hb] at hb'
      cases hb'
      rw [e2] at hs'
      exact ⟨cs', hs', he'⟩

end

section
variable {Ht : Type} {enc : TypeId × Value → Ht} {w : World} {base : Nat} {spare : Nat → Bool} {held : Bool} {H : Heap}
end
end Go.Proofs.YtfdeibbpfgolcaaGreat.Hs
