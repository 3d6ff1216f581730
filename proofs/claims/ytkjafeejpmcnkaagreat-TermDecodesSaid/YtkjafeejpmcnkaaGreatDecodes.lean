/- TermDecodes: for all arguments the call returns true, and each argument reads behind it as it read before. No condition. -/
import Derived.Test.YtkjafeejpmcnkaaGreatDecodesl
namespace Go.Proofs.YtkjafeejpmcnkaaGreat
open Go Go.ChangeShapes Go.WideShapes
set_option maxRecDepth 100000

/-- A slice of bytes that comes in. -/
theorem bytes_in {Ht : Type} {enc : TypeId × Value → Ht} {W : World} {base b0 : Nat} {sp : Nat → Bool} {held : Bool} {v : Value} {d : DataW Ht} {ps : List MemPlace} (hv : Value.okWide Tryz.prog W .any b0 22 v) (h : DataW.Trod enc Tryz.prog W base sp held 22 v d ps) :
    ∃ (l : List Int) (a : Option Addr) (cap : Nat), v = .slice a l.length cap ∧ Hs.byR (lentOf W) (.slice a l.length cap) l ∧ ∀ x ∈ l, 0 ≤ x ∧ x ≤ 255 := by
  obtain ⟨a, len, cap, rfl⟩ := okWide_slice Tryz.underlying22 hv
  obtain ⟨fuel, hf⟩ := h
  obtain ⟨ks, l, hks, hl⟩ := Hs.slice_rd (E := fun h cs n => Hs.RB h cs n ∧ 0 ≤ n ∧ n ≤ 255) (sz := 1) (H := lentOf W) (fun _ _ h => h) Tryz.underlying22 (by kernel_rfl) (by decide) (fun m hm cs x hx => by
    obtain ⟨k, hk, _, wk⟩ := DataW.trod_int Tryz.underlying5 hx
    simp only [Lit.wf, IntKind.min, IntKind.max, IntKind.signed, IntKind.bits, Bool.and_eq_true] at wk
    exact ⟨k, hk, by simp at wk; omega⟩) hf
  have e : Value.slice a len cap = ks := by
    have : [Value.slice a len cap] = [ks] := hks
    exact (List.cons.inj this).1
  subst e
  obtain ⟨a', c', e', hn, h0⟩ := id hl
  cases e'
  have hrd : Hs.rdS Hs.RB 1 (lentOf W) (.slice a l.length cap) l := by
    refine ⟨a, cap, rfl, hn, ?_⟩
    rcases h0 with h0 | ⟨b, o, row, T, fr, e1, e2, e3⟩
    · exact .inl h0
    · refine .inr ⟨b, o, row, T, fr, e1, e2, Hs.rows.mk fun i hi => ?_⟩
      obtain ⟨cs, q1, q2⟩ := e3.get i hi
      exact ⟨cs, q1, q2.1⟩
  have h8 : ∀ x ∈ l, 0 ≤ x ∧ x ≤ 255 := by
    rcases h0 with h0 | ⟨b, o, row, T, fr, e1, e2, e3⟩
    · have : l = [] := List.eq_nil_of_length_eq_zero h0
      subst this
      intro x hx; cases hx
    · intro x hx
      obtain ⟨i, hi, rfl⟩ := List.getElem_of_mem hx
      obtain ⟨cs, q1, q2⟩ := e3.get i hi
      exact q2.2
  refine ⟨l, a, cap, rfl, ⟨a, cap, rfl, ?_, hrd⟩, h8⟩
  rcases DataW.trod_slice Tryz.underlying22 hf with ⟨e, _⟩ | ⟨_, _, _, _, _, _, _, e, _, _, hlc, _⟩
  · have : [Value.slice a l.length cap] = [Value.slice none 0 0] := e
    have := (List.cons.inj this).1
    injection this with h1 h2 h3
    omega
  · have := (List.cons.inj e).1
    injection this with h1 h2 h3
    omega

theorem decodes_lifted (os : Os) (started : os.Started) (H : Type) (enc : TypeId × Value → H) :
    ReturnsInHanded {} Tryz.checked os 3 .any (Rows.termDecodesSpec.pre6 enc Tryz.prog Tryz.f3 Rows.termDecodesRow.domain false) (Rows.termDecodesSpec.post enc Tryz.prog Tryz.f3 false true false false) := by
  refine returnsInHanded_of_change (C := Tryz.checked) cal_own started (by kernel_rfl) Tryz.func3
    (ChangeSpec.witness6 (enc := enc) (C := Tryz.checked) false ⟨#[], #[.slice none 0 0], []⟩ 8 (by kernel_rfl) (by kernel_rfl) (by kernel_rfl) (by kernel_rfl)) ?_
  intro W base args ds gs before hval0 hW _ _
  have hval : ∀ (j : Nat) t v, Tryz.f3.params[j]? = some t → args[j]? = some v → Value.okWide Tryz.prog W .any base t v := hval0
  have hW' := hW
  obtain ⟨p, q, hA0, _, _, _, _⟩ := hW
  have hA : DataW.TrodAll enc Tryz.prog W 0 (fun _ => true) true Tryz.f3.params.toList args.toList ds p := hA0
  rw [Tryz.params3] at hA hval
  obtain ⟨v0, l0, d0, e0, p0, q0, hl0, rfl, rfl, h0, hA⟩ := trodAll_cons hA
  obtain ⟨rfl, rfl, rfl⟩ := trodAll_nil hA
  obtain ⟨ars⟩ := args
  simp only at hl0
  subst hl0
  obtain ⟨l, a, cap, hv, hb, h8⟩ := bytes_in (hval 0 _ v0 rfl rfl) h0
  subst hv
  refine (law_calls (Hs.dec_law l a cap (lentOf W) hb h8)).mono fun e W' ⟨he, hb, ho, hout⟩ => ⟨_, he, ?_⟩
  refine law_post (apart := false) cal_kids cal_full hW' rfl (by rw [Tryz.params3]; decide +kernel) (tb := 4) rfl Tryz.underlying4 ?_ ?_ ?_ hb ho hout
  · intro l hl
    match l, hl with
    | [_], _ => rfl
  · intro l hl
    match l, hl with
    | [_], _ => rfl
  · intro l hl
    match l, hl with
    | [_], _ => rfl

theorem TermDecodes_holds : Rows.TermDecodesSaid :=
  OpenClaim.holds_of_wide 3 Tryz.f3 rfl rfl rfl rfl rfl rfl rfl ⟨rfl, rfl, rfl, rfl, rfl⟩ rfl rfl rfl rfl rfl (by kernel_rfl) Tryz.func3 (by kernel_rfl)
    (of_decide_eq_true (by kernel_rfl)) (by unfold Func.isWrapper; first | (rw [if_pos (by decide +kernel)]; kernel_rfl) | (rw [if_neg (by decide +kernel)]; exact ⟨rfl, rfl⟩))
    (fun os started H enc _ => decodes_lifted os started H enc)
end Go.Proofs.YtkjafeejpmcnkaaGreat
