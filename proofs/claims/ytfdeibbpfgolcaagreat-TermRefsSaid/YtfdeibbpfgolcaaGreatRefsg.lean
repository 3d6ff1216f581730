import Derived.Test.YtfdeibbpfgolcaaGreatRefsf
import Derived.Test.YtfdeibbpfgolcaaGreatChecked
import Derived.OpenShut
import Derived.ReadAgain
/-! What comes in, as the claims read it, is a term. -/
namespace Go.Proofs.YtfdeibbpfgolcaaGreat.Hs
open Go Go.Proofs

theorem list_of {α : Type} {n : Nat} {R : Nat → α → Prop} (h : ∀ i, i < n → ∃ x, R i x) : ∃ l : List α, l.length = n ∧ ∀ i (hi : i < l.length), R i l[i] := by
  induction n with
  | zero => exact ⟨[], rfl, fun i hi => absurd hi (by simp)⟩
  | succ n ih =>
    obtain ⟨l, h1, h2⟩ := ih fun i hi => h i (by omega)
    obtain ⟨x, hx⟩ := h n (by omega)
    refine ⟨l ++ [x], by simp [h1], fun i hi => ?_⟩
    by_cases hin : i < l.length
    · rw [List.getElem_append_left hin]; exact h2 i hin
    · have : i = n := by simp at hi; omega
      subst this
      rw [List.getElem_append_right (by omega)]
      simpa [h1] using hx

section
variable {Ht : Type} {enc : TypeId × Value → Ht} {P : Program} {w : World} {base : Nat} {spare : Nat → Bool} {held : Bool} {H : Heap}

theorem cells_sub {a : Addr} {n : Nat} {cs : List Value} (h : w.cells? base a n = some cs) (hn : 0 < n) :
    (a.spot = none) ∧ ∃ row T fr, w.heap[a.block]? = some (.cells ⟨row⟩ T fr) ∧ sub row a.off n = some cs := by
  obtain ⟨_, hl, hc⟩ := World.cells?_some h
  have get : ∀ i, i < n → ∃ v, cs[i]? = some v ∧ w.cell? (a.add i) = some v := fun i hi => by
    have h1 : i < cs.length := by omega
    exact ⟨cs[i], List.getElem?_eq_getElem h1, by rw [hc i hi, List.getElem?_eq_getElem h1]⟩
  obtain ⟨v0, _, h0⟩ := get 0 hn
  rw [Addr.add, if_pos rfl] at h0
  unfold World.cell? at h0
  cases hb : w.heap[a.block]? with
  | none => rw [hb] at h0; cases h0
  | some o =>
    rw [hb] at h0
    cases o with
    | cells c T fr =>
      simp only at h0
      have hsp : a.spot = none := by
        cases hs : a.spot with
        | none => rfl
        | some s => rw [hs] at h0; simp at h0
      refine ⟨hsp, c.toList, T, fr, rfl, ?_⟩
      have hall : ∀ i, i < n → c.toList[a.off + i]? = cs[i]? := fun i hi => by
        rw [← hc i hi]
        unfold World.cell?
        by_cases hi0 : i = 0
        · subst hi0; simp [Addr.add, hb, hsp]
        · simp [Addr.add, hi0, hb]
      have hlen : a.off + n ≤ c.toList.length := by
        obtain ⟨v, hv, _⟩ := get (n - 1) (by omega)
        have := hall (n - 1) (by omega)
        rw [hv] at this
        have := (List.getElem?_eq_some_iff.1 this).1
        omega
      rw [sub_mk hlen]
      congr 1
      apply List.ext_getElem?
      intro i
      rw [List.getElem?_take]
      split
      · rename_i hi; rw [List.getElem?_drop]; exact hall i hi
      · rename_i hi; rw [List.getElem?_eq_none (by omega)]
    | _ => cases h0

theorem slice_rd {α : Type} {E : Heap → List Value → α → Prop} {T e : TypeId} {sz fuel : Nat} {cs : List Value} {x : DataW Ht × List MemPlace} (hH : ∀ b o, w.heap[b]? = some o → H b = some o)
    (hT : P.underlying T = some (.slice e)) (hsz : P.cellsOf e = sz) (hpos : 0 < sz) (hE : ∀ m, m < fuel → ∀ cs x, DataW.trod enc P w base spare held m e cs = some x → ∃ p, E H cs p)
    (h : DataW.trod enc P w base spare held fuel T cs = some x) : ∃ ks l, cs = [ks] ∧ rdS E sz H ks l := by
  rcases DataW.trod_slice hT h with ⟨rfl, _⟩ | ⟨a, len, cap, elems, rest, n, rfl, rfl, _, _, hlc, hcm, hel, hget, _⟩
  · exact ⟨_, [], rfl, rdS.nil⟩
  · rw [hsz] at hget
    have key : ∀ i, i < len → ∃ p cs', w.cells? base (a.add (i * sz)) sz = some cs' ∧ E H cs' p := fun i hi => by
      have h1 := hget i hi
      rw [List.getElem?_eq_getElem (by omega)] at h1
      obtain ⟨cs', h2, h3⟩ := Option.bind_eq_some_iff.1 h1
      obtain ⟨p, hp⟩ := hE n (by omega) cs' _ h3
      exact ⟨p, cs', h2, hp⟩
    obtain ⟨l, hl, hr⟩ := list_of key
    refine ⟨_, l, rfl, some a, cap, by rw [hl], by rw [hl]; have : maxLen = 9223372036854775807 := rfl; omega, ?_⟩
    by_cases h0 : l.length = 0
    · exact .inl h0
    · right
      obtain ⟨cs0, hc0, _⟩ := hr 0 (by omega)
      rw [Nat.zero_mul, Addr.add, if_pos rfl] at hc0
      obtain ⟨hsp, row, T', fr, hb, _⟩ := cells_sub hc0 hpos
      obtain ⟨b, o, sp⟩ := a
      simp only at hsp hb
      subst hsp
      refine ⟨b, o, row, T', fr, rfl, hH _ _ hb, rows.mk fun i hi => ?_⟩
      obtain ⟨cs', hc', he'⟩ := hr i hi
      obtain ⟨_, row', T2, fr', hb', hs'⟩ := cells_sub hc' hpos
      have e1 : (Addr.add ⟨b, o, none⟩ (i * sz)).block = b := by unfold Addr.add; split <;> rfl
      have e2 : (Addr.add ⟨b, o, none⟩ (i * sz)).off = o + i * sz := by unfold Addr.add; split <;> simp_all
      rw [e1, hb] at hb'
      cases hb'
      rw [e2] at hs'
      exact ⟨cs', hs', he'⟩

theorem take1 {cs : List Value} {o : Nat} {v : Value} (h : (cs.drop o).take 1 = [v]) : cs.drop o = v :: cs.drop (o + 1) := by
  cases hd : cs.drop o with
  | nil => rw [hd] at h; cases h
  | cons a l =>
    rw [hd] at h
    simp only [List.take_succ_cons, List.take_zero, List.cons.injEq, and_true] at h
    subst h
    have : cs.drop (o + 1) = l := by rw [← List.drop_drop, hd]; rfl
    rw [this]

theorem sum_rd {T u : TypeId} {fuel : Nat} {cs : List Value} {x : DataW Ht × List MemPlace} (hT : P.underlying T = some (.array 32 u)) (hu : P.underlying u = some (.int .u8)) (hcu : P.cellsOf u = 1) (hcT : P.cellsOf T = 32)
    (h : DataW.trod enc P w base spare held fuel T cs = some x) : ∃ r, cs = sC r := by
  obtain ⟨xs, m, rfl, _, hl, hxl, hget⟩ := DataW.trod_array hT h
  rw [hcT] at hl
  rw [hcu] at hget
  have key : ∀ i, i < 32 → ∃ n : Int, cs[i]? = some (.int .u8 n) ∧ 0 ≤ n ∧ n ≤ 255 := fun i hi => by
    have h1 := hget i hi
    rw [List.getElem?_eq_getElem (by omega)] at h1
    obtain ⟨n, h2, _, hw⟩ := DataW.trod_int hu h1
    rw [Nat.mul_one] at h2
    have h3 := take1 h2
    refine ⟨n, ?_, ?_⟩
    · have := congrArg (fun l => l[0]?) h3
      simpa [List.getElem?_drop] using this
    · simp only [Lit.wf, Bool.and_eq_true, decide_eq_true_eq] at hw
      have e1 : IntKind.u8.min = 0 := rfl
      have e2 : IntKind.u8.max = 255 := rfl
      omega
  obtain ⟨l, h1, h2⟩ := list_of key
  refine ⟨Vector.ofFn fun i : Fin 32 => UInt8.ofNat (l[i.1]'(by omega)).toNat, ?_⟩
  apply List.ext_getElem?
  intro i
  by_cases hi : i < 32
  · obtain ⟨h3, h4, h5⟩ := h2 i (by omega)
    rw [h3, sC_get _ i hi]
    simp
    omega
  · rw [List.getElem?_eq_none (by omega), List.getElem?_eq_none (by rw [sC_len]; omega)]

theorem wf_inI {n : Int} (h : (Lit.int .i64 n).wf = true) : inI n := by
  simp only [Lit.wf, Bool.and_eq_true, decide_eq_true_eq] at h
  have e1 : IntKind.i64.min = -9223372036854775808 := rfl
  have e2 : IntKind.i64.max = 9223372036854775807 := rfl
  unfold inI; omega
end

section
variable {Ht : Type} {enc : TypeId × Value → Ht} {w : World} {base : Nat} {spare : Nat → Bool} {held : Bool} {H : Heap}
theorem trod_RP (hH : ∀ b o, w.heap[b]? = some o → H b = some o) : ∀ (fuel : Nat) (cs : List Value) (x : DataW Ht × List MemPlace), DataW.trod enc Tryz.prog w base spare held fuel 54 cs = some x → ∃ p, RP H cs p := by
  intro fuel
  induction fuel using Nat.strongRecOn with
  | ind fuel ih =>
    intro cs x h
    obtain ⟨xs, n, rfl, _, hl, hxl, hf⟩ := DataW.trod_struct Tryz.underlying54 h
    have hc : Tryz.prog.cellsOf 54 = 35 := by kernel_rfl
    rw [hc] at hl
    have hx : xs.length = 4 := hxl
    have get : ∀ i (hi : i < 4), ∃ y, xs[i]? = some y := fun i hi => ⟨_, List.getElem?_eq_getElem (by omega)⟩
    obtain ⟨y0, e0⟩ := get 0 (by decide)
    obtain ⟨y1, e1⟩ := get 1 (by decide)
    obtain ⟨y2, e2⟩ := get 2 (by decide)
    obtain ⟨y3, e3⟩ := get 3 (by decide)
    have f0 : DataW.trod enc Tryz.prog w base spare held n 3 ((cs.drop 0).take (Tryz.prog.cellsOf 3)) = some y0 := (hf 0 _ rfl).trans e0
    have f1 : DataW.trod enc Tryz.prog w base spare held n 3 ((cs.drop 1).take (Tryz.prog.cellsOf 3)) = some y1 := (hf 1 _ rfl).trans e1
    have f2 : DataW.trod enc Tryz.prog w base spare held n 23 ((cs.drop 2).take (Tryz.prog.cellsOf 23)) = some y2 := (hf 2 _ rfl).trans e2
    have f3 : DataW.trod enc Tryz.prog w base spare held n 52 ((cs.drop 34).take (Tryz.prog.cellsOf 52)) = some y3 := (hf 3 _ rfl).trans e3
    rw [show Tryz.prog.cellsOf 3 = 1 from by kernel_rfl] at f0 f1
    rw [show Tryz.prog.cellsOf 23 = 32 from by kernel_rfl] at f2
    rw [show Tryz.prog.cellsOf 52 = 1 from by kernel_rfl] at f3
    obtain ⟨k, hk, _, wk⟩ := DataW.trod_int Tryz.underlying3 f0
    obtain ⟨m, hm, _, wm⟩ := DataW.trod_int Tryz.underlying3 f1
    obtain ⟨r, hr⟩ := sum_rd Tryz.underlying23 Tryz.underlying5 (by kernel_rfl) (by kernel_rfl) f2
    obtain ⟨ks, kids, hks, hkids⟩ := slice_rd (E := RP) (sz := 35) hH Tryz.underlying52 hc (by decide) (fun m hm cs x => ih m (by omega) cs x) f3
    refine ⟨.mk k m r kids, RP_mk.2 ⟨ks, ?_, wf_inI wk, wf_inI wm, hkids⟩⟩
    have a0 := take1 hk
    have a1 := take1 hm
    have a3 := take1 hks
    rw [List.drop_zero] at a0
    have a4 : cs.drop 35 = [] := List.drop_eq_nil_of_le (by omega)
    rw [a0, a1, ← List.take_append_drop 32 (cs.drop (1 + 1)), List.drop_drop]
    rw [show (cs.drop (1 + 1)).take 32 = sC r from hr, show 1 + 1 + 32 = 34 from rfl, a3, show 34 + 1 = 35 from rfl, a4]
    rfl
theorem trod_RT (hH : ∀ b o, w.heap[b]? = some o → H b = some o) : ∀ (fuel : Nat) (cs : List Value) (x : DataW Ht × List MemPlace), DataW.trod enc Tryz.prog w base spare held fuel 27 cs = some x → ∃ t, RT H cs t := by
  intro fuel
  induction fuel using Nat.strongRecOn with
  | ind fuel ih =>
    intro cs x h
    obtain ⟨xs, n, rfl, _, hl, hxl, hf⟩ := DataW.trod_struct Tryz.underlying27 h
    have hc : Tryz.prog.cellsOf 27 = 36 := by kernel_rfl
    have hcc : Tryz.prog.cellsOf 56 = 71 := by kernel_rfl
    rw [hc] at hl
    have hx : xs.length = 5 := hxl
    have get : ∀ i (hi : i < 5), ∃ y, xs[i]? = some y := fun i hi => ⟨_, List.getElem?_eq_getElem (by omega)⟩
    obtain ⟨y0, e0⟩ := get 0 (by decide)
    obtain ⟨y1, e1⟩ := get 1 (by decide)
    obtain ⟨y2, e2⟩ := get 2 (by decide)
    obtain ⟨y3, e3⟩ := get 3 (by decide)
    obtain ⟨y4, e4⟩ := get 4 (by decide)
    have f0 : DataW.trod enc Tryz.prog w base spare held n 3 ((cs.drop 0).take (Tryz.prog.cellsOf 3)) = some y0 := (hf 0 _ rfl).trans e0
    have f1 : DataW.trod enc Tryz.prog w base spare held n 3 ((cs.drop 1).take (Tryz.prog.cellsOf 3)) = some y1 := (hf 1 _ rfl).trans e1
    have f2 : DataW.trod enc Tryz.prog w base spare held n 23 ((cs.drop 2).take (Tryz.prog.cellsOf 23)) = some y2 := (hf 2 _ rfl).trans e2
    have f3 : DataW.trod enc Tryz.prog w base spare held n 24 ((cs.drop 34).take (Tryz.prog.cellsOf 24)) = some y3 := (hf 3 _ rfl).trans e3
    have f4 : DataW.trod enc Tryz.prog w base spare held n 25 ((cs.drop 35).take (Tryz.prog.cellsOf 25)) = some y4 := (hf 4 _ rfl).trans e4
    rw [show Tryz.prog.cellsOf 3 = 1 from by kernel_rfl] at f0 f1
    rw [show Tryz.prog.cellsOf 23 = 32 from by kernel_rfl] at f2
    rw [show Tryz.prog.cellsOf 24 = 1 from by kernel_rfl] at f3
    rw [show Tryz.prog.cellsOf 25 = 1 from by kernel_rfl] at f4
    obtain ⟨k, hk, _, wk⟩ := DataW.trod_int Tryz.underlying3 f0
    obtain ⟨m, hm, _, wm⟩ := DataW.trod_int Tryz.underlying3 f1
    obtain ⟨r, hr⟩ := sum_rd Tryz.underlying23 Tryz.underlying5 (by kernel_rfl) (by kernel_rfl) f2
    obtain ⟨ks, kids, hks, hkids⟩ := slice_rd (E := RT) (sz := 36) hH Tryz.underlying24 hc (by decide) (fun m hm cs x => ih m (by omega) cs x) f3
    obtain ⟨cv, cases, hcv, hcases⟩ := slice_rd (E := RC) (sz := 71) hH Tryz.underlying25 hcc (by decide) (fun m hm cs x hx => by
      obtain ⟨zs, n2, rfl, _, hl2, hzl, hf2⟩ := DataW.trod_struct Tryz.underlying56 hx
      rw [hcc] at hl2
      have hz : zs.length = 2 := hzl
      have g0 : DataW.trod enc Tryz.prog w base spare held n2 54 ((cs.drop 0).take (Tryz.prog.cellsOf 54)) = _ := (hf2 0 _ rfl).trans (List.getElem?_eq_getElem (show 0 < zs.length by omega))
      have g1 : DataW.trod enc Tryz.prog w base spare held n2 27 ((cs.drop 35).take (Tryz.prog.cellsOf 27)) = _ := (hf2 1 _ rfl).trans (List.getElem?_eq_getElem (show 1 < zs.length by omega))
      rw [show Tryz.prog.cellsOf 54 = 35 from by kernel_rfl] at g0
      rw [hc] at g1
      obtain ⟨p, hp⟩ := trod_RP hH _ _ _ g0
      obtain ⟨t, ht⟩ := ih n2 (by omega) _ _ g1
      refine ⟨(p, t), _, _, ?_, hp, ht⟩
      rw [List.drop_zero, List.take_of_length_le (i := 36) (by rw [List.length_drop]; omega)]
      exact (List.take_append_drop 35 cs).symm) f4
    refine ⟨.mk k m r kids cases, RT_mk.2 ⟨ks, cv, ?_, wf_inI wk, wf_inI wm, hkids, hcases⟩⟩
    have a0 := take1 hk
    have a1 := take1 hm
    have a3 := take1 hks
    have a4 := take1 hcv
    rw [List.drop_zero] at a0
    have a5 : cs.drop 36 = [] := List.drop_eq_nil_of_le (by omega)
    rw [a0, a1, ← List.take_append_drop 32 (cs.drop (1 + 1)), List.drop_drop]
    rw [show (cs.drop (1 + 1)).take 32 = sC r from hr, show 1 + 1 + 32 = 34 from rfl, a3, show 34 + 1 = 35 from rfl, a4, show 35 + 1 = 36 from rfl, a5]
    rfl
end
end Go.Proofs.YtfdeibbpfgolcaaGreat.Hs
