/- TermRefs: for all arguments the call returns true, and each argument reads behind it as it read before. No condition. -/
import Derived.Test.YtfdeibbpfgolcaaGreatRefsp
namespace Go.Proofs.YtfdeibbpfgolcaaGreat
open Go Go.ChangeShapes Go.WideShapes
set_option maxRecDepth 100000

/-- A digest that comes in. -/
theorem sum_in {Ht : Type} {enc : TypeId × Value → Ht} {W : World} {base b0 : Nat} {sp : Nat → Bool} {held : Bool} {v : Value} {d : DataW Ht} {ps : List MemPlace} (hv : Value.okWide Tryz.prog W .any b0 23 v) (h : DataW.Trod enc Tryz.prog W base sp held 23 v d ps) :
    ∃ r, v = .agg ⟨Hs.sC r⟩ := by
  simp only [Value.okWide, Tryz.underlying23] at hv
  obtain ⟨⟨cs⟩, rfl, _⟩ := hv
  obtain ⟨fuel, hf⟩ := h
  obtain ⟨r, hr⟩ := Hs.sum_rd Tryz.underlying23 Tryz.underlying5 (by kernel_rfl) (by kernel_rfl) hf
  have hr : cs = Hs.sC r := hr
  exact ⟨r, by rw [hr]⟩

theorem refs_lifted (os : Os) (started : os.Started) (H : Type) (enc : TypeId × Value → H) :
    ReturnsInHanded {} Tryz.checked os 3 .any (Rows.termRefsSpec.pre6 enc Tryz.prog Tryz.f3 Rows.termRefsRow.domain false) (Rows.termRefsSpec.post enc Tryz.prog Tryz.f3 false true false false) := by
  refine returnsInHanded_of_change (C := Tryz.checked) cal_own started (by kernel_rfl) Tryz.func3
    (ChangeSpec.witness6 (enc := enc) (C := Tryz.checked) false ⟨#[], #[.agg ⟨Hs.pkT 0 0 Hs.zS (.slice none 0 0) (.slice none 0 0)⟩, .agg ⟨Hs.sC Hs.zS⟩, .agg ⟨Hs.sC Hs.zS⟩], []⟩ 8 (by kernel_rfl) (by kernel_rfl) (by kernel_rfl) (by kernel_rfl)) ?_
  intro W base args ds gs before hval0 hW _ _
  have hval : ∀ (j : Nat) t v, Tryz.f3.params[j]? = some t → args[j]? = some v → Value.okWide Tryz.prog W .any base t v := hval0
  have hW' := hW
  obtain ⟨p, q, hA0, _, _, _, _⟩ := hW
  have hA : DataW.TrodAll enc Tryz.prog W 0 (fun _ => true) true Tryz.f3.params.toList args.toList ds p := hA0
  rw [Tryz.params3] at hA hval
  obtain ⟨v0, l0, d0, e0, p0, q0, hl0, rfl, rfl, h0, hA⟩ := trodAll_cons hA
  obtain ⟨v1, l1, d1, e1, p1, q1, hl1, rfl, rfl, h1, hA⟩ := trodAll_cons hA
  obtain ⟨v2, l2, d2, e2, p2, q2, hl2, rfl, rfl, h2, hA⟩ := trodAll_cons hA
  obtain ⟨rfl, rfl, rfl⟩ := trodAll_nil hA
  subst hl2 hl1
  obtain ⟨ars⟩ := args
  simp only at hl0
  subst hl0
  obtain ⟨cs, t, rfl, ht⟩ := term_in (hval 0 _ v0 rfl rfl) h0
  obtain ⟨sf, rfl⟩ := sum_in (hval 1 _ v1 rfl rfl) h1
  obtain ⟨sg, rfl⟩ := sum_in (hval 2 _ v2 rfl rfl) h2
  refine (law_calls (Hs.refs_law t sf sg cs (lentOf W) ht)).mono fun e W' ⟨he, hb, ho, hout⟩ => ⟨_, he, ?_⟩
  refine law_post (apart := false) cal_kids cal_full hW' rfl (by rw [Tryz.params3]; decide +kernel) (tb := 4) rfl Tryz.underlying4 ?_ ?_ ?_ hb ho hout
  · intro l hl
    match l, hl with
    | [_, _, _], _ => rfl
  · intro l hl
    match l, hl with
    | [_, _, _], _ => rfl
  · intro l hl
    match l, hl with
    | [_, _, _], _ => rfl

theorem TermRefs_holds : Rows.TermRefsSaid :=
  OpenClaim.holds_of_wide 3 Tryz.f3 rfl rfl rfl rfl rfl rfl rfl ⟨rfl, rfl, rfl, rfl, rfl⟩ rfl rfl rfl rfl rfl (by kernel_rfl) Tryz.func3 (by kernel_rfl)
    (of_decide_eq_true (by kernel_rfl)) (by unfold Func.isWrapper; first | (rw [if_pos (by decide +kernel)]; kernel_rfl) | (rw [if_neg (by decide +kernel)]; exact ⟨rfl, rfl⟩))
    (fun os started H enc _ => refs_lifted os started H enc)
end Go.Proofs.YtfdeibbpfgolcaaGreat
