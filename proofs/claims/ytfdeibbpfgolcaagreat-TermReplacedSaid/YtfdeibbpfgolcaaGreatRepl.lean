/- TermReplaced: for all arguments the call returns true, and each argument reads behind it as it read before. No condition. -/
import Derived.Test.YtfdeibbpfgolcaaGreatReplq
namespace Go.Proofs.YtfdeibbpfgolcaaGreat
open Go Go.ChangeShapes Go.WideShapes
set_option maxRecDepth 100000

/-- A slice of bytes that comes in. -/
theorem bytes_in {Ht : Type} {enc : TypeId × Value → Ht} {W : World} {base b0 : Nat} {sp : Nat → Bool} {held : Bool} {v : Value} {d : DataW Ht} {ps : List MemPlace} (hv : Value.okWide Tryz.prog W .any b0 46 v) (h : DataW.Trod enc Tryz.prog W base sp held 46 v d ps) :
    ∃ l, Hs.bytesR (lentOf W) v l := by
  obtain ⟨a, len, cap, rfl⟩ := okWide_slice Tryz.underlying46 hv
  obtain ⟨fuel, hf⟩ := h
  obtain ⟨ks, l, hks, hl⟩ := Hs.slice_rd (E := Hs.RB) (sz := 1) (H := lentOf W) (fun _ _ h => h) Tryz.underlying46 (by kernel_rfl) (by decide) (fun m hm cs x hx => by
    obtain ⟨k, hk, _, wk⟩ := DataW.trod_int Tryz.underlying5 hx
    exact ⟨k, hk⟩) hf
  have e : Value.slice a len cap = ks := by
    have : [Value.slice a len cap] = [ks] := hks
    exact (List.cons.inj this).1
  subst e
  obtain ⟨a', c', e', hn, _⟩ := id hl
  cases e'
  refine ⟨l, a, cap, rfl, ?_, hl⟩
  rcases DataW.trod_slice Tryz.underlying46 hf with ⟨e, _⟩ | ⟨_, _, _, _, _, _, _, e, _, _, hlc, _⟩
  · have : [Value.slice a l.length cap] = [Value.slice none 0 0] := e
    have := (List.cons.inj this).1
    injection this with h1 h2 h3
    omega
  · have := (List.cons.inj e).1
    injection this with h1 h2 h3
    omega

theorem replaced_lifted (os : Os) (started : os.Started) (H : Type) (enc : TypeId × Value → H) :
    ReturnsInHanded {} Tryz.checked os 5 .any (Rows.termReplacedSpec.pre6 enc Tryz.prog Tryz.f5 Rows.termReplacedRow.domain false) (Rows.termReplacedSpec.post enc Tryz.prog Tryz.f5 false true false false) := by
  refine returnsInHanded_of_change (C := Tryz.checked) cal_own started (by kernel_rfl) Tryz.func5
    (ChangeSpec.witness6 (enc := enc) (C := Tryz.checked) false ⟨#[], #[.slice none 0 0, .int .u8 0], []⟩ 8 (by kernel_rfl) (by kernel_rfl) (by kernel_rfl) (by kernel_rfl)) ?_
  intro W base args ds gs before hval0 hW _ _
  have hval : ∀ (j : Nat) t v, Tryz.f5.params[j]? = some t → args[j]? = some v → Value.okWide Tryz.prog W .any base t v := hval0
  have hW' := hW
  obtain ⟨p, q, hA0, _, _, _, _⟩ := hW
  have hA : DataW.TrodAll enc Tryz.prog W 0 (fun _ => true) true Tryz.f5.params.toList args.toList ds p := hA0
  rw [Tryz.params5] at hA hval
  obtain ⟨v0, l0, d0, e0, p0, q0, hl0, rfl, rfl, h0, hA⟩ := trodAll_cons hA
  obtain ⟨v1, l1, d1, e1, p1, q1, hl1, rfl, rfl, h1, hA⟩ := trodAll_cons hA
  obtain ⟨rfl, rfl, rfl⟩ := trodAll_nil hA
  subst hl1
  obtain ⟨ars⟩ := args
  simp only at hl0
  subst hl0
  obtain ⟨l, hb⟩ := bytes_in (hval 0 _ v0 rfl rfl) h0
  obtain ⟨x1, rfl, hw1, _, _⟩ := open_int Tryz.underlying5 (hval 1 _ v1 rfl rfl) h1
  have u8 : ∀ n : Int, (Lit.int .u8 n).wf = true → 0 ≤ n ∧ n ≤ 255 := fun n h => by
    simp only [Lit.wf, Bool.and_eq_true, decide_eq_true_eq] at h
    have e1 : IntKind.u8.min = 0 := rfl
    have e2 : IntKind.u8.max = 255 := rfl
    omega
  have hv0 : Hs.rdS Hs.RB 1 (lentOf W) v0 l := by obtain ⟨_, _, _, _, h⟩ := hb; exact h
  refine (law_calls (Hs.replaced_law v0 l (lentOf W) hb hv0 x1 (u8 _ (by assumption)))).mono fun e W' ⟨he, hb, ho, hout⟩ => ⟨_, he, ?_⟩
  refine law_post (apart := false) cal_kids cal_full hW' rfl (by rw [Tryz.params5]; decide +kernel) (tb := 4) rfl Tryz.underlying4 ?_ ?_ ?_ hb ho hout
  · intro l hl
    match l, hl with
    | [_, _], _ => rfl
  · intro l hl
    match l, hl with
    | [_, _], _ => rfl
  · intro l hl
    match l, hl with
    | [_, _], _ => rfl

theorem TermReplaced_holds : Rows.TermReplacedSaid :=
  OpenClaim.holds_of_wide 5 Tryz.f5 rfl rfl rfl rfl rfl rfl rfl ⟨rfl, rfl, rfl, rfl, rfl⟩ rfl rfl rfl rfl rfl (by kernel_rfl) Tryz.func5 (by kernel_rfl)
    (of_decide_eq_true (by kernel_rfl)) (by unfold Func.isWrapper; first | (rw [if_pos (by decide +kernel)]; kernel_rfl) | (rw [if_neg (by decide +kernel)]; exact ⟨rfl, rfl⟩))
    (fun os started H enc _ => replaced_lifted os started H enc)
end Go.Proofs.YtfdeibbpfgolcaaGreat
