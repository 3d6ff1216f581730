/- TermParts: for all arguments the call returns true, and each argument reads behind it as it read before. No condition. -/
import Derived.Test.YtdeinimmmjichaaGreatPartsn
namespace Go.Proofs.YtdeinimmmjichaaGreat
open Go Go.ChangeShapes Go.WideShapes
set_option maxRecDepth 100000

/-- A path that comes in. -/
theorem path_in {Ht : Type} {enc : TypeId × Value → Ht} {W : World} {base b0 : Nat} {sp : Nat → Bool} {held : Bool} {v : Value} {d : DataW Ht} {ps : List MemPlace} (hv : Value.okWide Tryz.prog W .any b0 43 v) (h : DataW.Trod enc Tryz.prog W base sp held 43 v d ps) :
    ∃ l, Hs.pathR (lentOf W) v l ∧ ∀ n ∈ l, Hs.inI n := by
  obtain ⟨a, len, cap, rfl⟩ := okWide_slice Tryz.underlying43 hv
  obtain ⟨fuel, hf⟩ := h
  obtain ⟨ks, l, hks, hl⟩ := Hs.slice_rd (E := fun _ cs n => cs = [.int .i64 n] ∧ Hs.inI n) (sz := 1) (H := lentOf W) (fun _ _ h => h) Tryz.underlying43 (by kernel_rfl) (by decide) (fun m hm cs x hx => by
    obtain ⟨k, hk, _, wk⟩ := DataW.trod_int Tryz.underlying3 hx
    exact ⟨k, hk, Hs.wf_inI wk⟩) hf
  have e : Value.slice a len cap = ks := by
    have : [Value.slice a len cap] = [ks] := hks
    exact (List.cons.inj this).1
  subst e
  obtain ⟨a', c', e', hn, hr⟩ := id hl
  cases e'
  refine ⟨l, ⟨a, cap, rfl, ?_, hn, hr.imp id ?_⟩, ?_⟩
  · rcases DataW.trod_slice Tryz.underlying43 hf with ⟨e, _⟩ | ⟨_, _, _, _, _, _, _, e, _, _, hlc, _⟩
    · have : [Value.slice a l.length cap] = [Value.slice none 0 0] := e
      have := (List.cons.inj this).1
      injection this with h1 h2 h3
      omega
    · have := (List.cons.inj e).1
      injection this with h1 h2 h3
      omega
  · rintro ⟨b, o, row, T, fr, e1, e2, e3⟩
    refine ⟨b, o, row, T, fr, e1, e2, ?_⟩
    have : ∀ (m : List Int) (o : Nat), Hs.rows (fun cs n => cs = [.int .i64 n] ∧ Hs.inI n) 1 row o m → Hs.rows (Hs.RI (lentOf W)) 1 row o m := by
      intro m
      induction m with
      | nil => intro _ _; trivial
      | cons x m ih => rintro o ⟨⟨cs, q1, q2, _⟩, q3⟩; exact ⟨⟨cs, q1, q2⟩, ih _ q3⟩
    exact this _ _ e3
  · intro n hn
    obtain ⟨i, hi, rfl⟩ := List.getElem_of_mem hn
    rcases hr with h0 | ⟨b, o, row, T, fr, e1, e2, e3⟩
    · omega
    · obtain ⟨_, _, _, q⟩ := Hs.rows.get e3 i hi
      exact q

theorem parts_lifted (os : Os) (started : os.Started) (H : Type) (enc : TypeId × Value → H) :
    ReturnsInHanded {} Tryz.checked os 4 .any (Rows.termPartsSpec.pre6 enc Tryz.prog Tryz.f4 Rows.termPartsRow.domain false) (Rows.termPartsSpec.post enc Tryz.prog Tryz.f4 false true false false) := by
  refine returnsInHanded_of_change (C := Tryz.checked) cal_own started (by kernel_rfl) Tryz.func4
    (ChangeSpec.witness6 (enc := enc) (C := Tryz.checked) false ⟨#[], #[.agg ⟨Hs.pkT 0 0 Hs.zS (.slice none 0 0) (.slice none 0 0)⟩, .agg ⟨Hs.pkT 0 0 Hs.zS (.slice none 0 0) (.slice none 0 0)⟩, .slice none 0 0], []⟩ 8 (by kernel_rfl) (by kernel_rfl) (by kernel_rfl) (by kernel_rfl)) ?_
  intro W base args ds gs before hval0 hW _ _
  have hval : ∀ (j : Nat) t v, Tryz.f4.params[j]? = some t → args[j]? = some v → Value.okWide Tryz.prog W .any base t v := hval0
  have hW' := hW
  obtain ⟨p, q, hA0, _, _, _, _⟩ := hW
  have hA : DataW.TrodAll enc Tryz.prog W 0 (fun _ => true) true Tryz.f4.params.toList args.toList ds p := hA0
  rw [Tryz.params4] at hA hval
  obtain ⟨v0, l0, d0, e0, p0, q0, hl0, rfl, rfl, h0, hA⟩ := trodAll_cons hA
  obtain ⟨v1, l1, d1, e1, p1, q1, hl1, rfl, rfl, h1, hA⟩ := trodAll_cons hA
  obtain ⟨v2, l2, d2, e2, p2, q2, hl2, rfl, rfl, h2, hA⟩ := trodAll_cons hA
  obtain ⟨rfl, rfl, rfl⟩ := trodAll_nil hA
  subst hl2 hl1
  obtain ⟨ars⟩ := args
  simp only at hl0
  subst hl0
  obtain ⟨cs, t, rfl, ht⟩ := term_in (hval 0 _ v0 rfl rfl) h0
  obtain ⟨us, u, rfl, hu⟩ := term_in (hval 1 _ v1 rfl rfl) h1
  obtain ⟨l, hpr, hpi⟩ := path_in (hval 2 _ v2 rfl rfl) h2
  refine (law_calls (Hs.partsL_ct t u l cs us v2 (lentOf W) ht hu hpr hpi)).mono fun e W' ⟨he, hb, ho, hout⟩ => ⟨_, he, ?_⟩
  refine law_post (apart := false) cal_kids cal_full hW' rfl (by rw [Tryz.params4]; decide +kernel) (tb := 4) rfl Tryz.underlying4 ?_ ?_ ?_ hb ho hout
  · intro l hl
    match l, hl with
    | [_, _, _], _ => rfl
  · intro l hl
    match l, hl with
    | [_, _, _], _ => rfl
  · intro l hl
    match l, hl with
    | [_, _, _], _ => rfl

theorem TermParts_holds : Rows.TermPartsSaid :=
  OpenClaim.holds_of_wide 4 Tryz.f4 rfl rfl rfl rfl rfl rfl rfl ⟨rfl, rfl, rfl, rfl, rfl⟩ rfl rfl rfl rfl rfl (by kernel_rfl) Tryz.func4 (by kernel_rfl)
    (of_decide_eq_true (by kernel_rfl)) (by unfold Func.isWrapper; first | (rw [if_pos (by decide +kernel)]; kernel_rfl) | (rw [if_neg (by decide +kernel)]; exact ⟨rfl, rfl⟩))
    (fun os started H enc _ => parts_lifted os started H enc)
end Go.Proofs.YtdeinimmmjichaaGreat
