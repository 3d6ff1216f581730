import Derived.Test.YtfdeibbpfgolcaaGreatReplp
import Derived.Sort.OwnSorted
/-! Digests in a row of one's own, put into order: the library's contract as a contract of this logic. -/
namespace Go.Proofs.YtfdeibbpfgolcaaGreat.Hs
open Go Go.Proofs Go.Sort Go.RowKit Go.MapKept
theorem Mem.setW {w w' : World} {L : Zf} {H : Heap} {b : Nat} {o o' : Obj} (m : Mem w ((b, o) :: L) H)
    (hb : w'.heap[b]? = some o') (hne : ∀ k, k < w.heap.size → k ≠ b → w'.heap[k]? = w.heap[k]?) (hr : Still w w') : Mem w' ((b, o') :: L) H := by
  have hnd := m.nd
  rw [List.map_cons, List.nodup_cons] at hnd
  have lt : ∀ {k : Nat} {x : Obj}, w.heap[k]? = some x → k < w.heap.size := fun h => (Array.getElem?_eq_some_iff.1 h).1
  refine ⟨by rw [List.map_cons, List.nodup_cons]; exact hnd, ?_, ?_, ?_, hr.rest m.rest⟩
  · intro k x hk
    rcases List.mem_cons.1 hk with e | hk
    · cases e; exact hb
    · have h1 := m.own k x (List.mem_cons.2 (.inr hk))
      rw [hne k (lt h1) (fun e => hnd.1 (List.mem_map.2 ⟨(k, x), hk, e⟩))]; exact h1
  · intro k x hk
    rcases List.mem_cons.1 hk with e | hk
    · cases e; exact m.sep b o (List.mem_cons.2 (.inl rfl))
    · exact m.sep k x (List.mem_cons.2 (.inr hk))
  · intro k x hk
    have h1 := m.imm k x hk
    rw [hne k (lt h1) (fun e => by subst e; rw [m.sep k o (List.mem_cons.2 (.inl rfl))] at hk; cases hk)]; exact h1
/-- the world as what is lent -/
def lentW (W : World) : Heap := ⟨fun b => W.heap[b]?, W.os, W.output, W.tape, W.drawn⟩
theorem lentW_mem (W : World) : Mem W ([].flatten ++ []) (lentW W) := ⟨by simp, fun b o h => by simp at h, fun b o h => by simp at h, fun _ _ h => h, rfl, rfl, rfl, Nat.le_refl _⟩
/-- behind a call that only makes memory: the world, grown -/
theorem grown_of {W w' : World} (m : Mem w' [] (lentW W)) : ∃ q os, w' = grow (W.drewN q) os := by
  obtain ⟨h1, h2, h3, h4⟩ := m.rest
  have hsz : W.heap.size ≤ w'.heap.size := by
    by_cases h0 : W.heap.size = 0
    · omega
    · have h := m.imm (W.heap.size - 1) (W.heap[W.heap.size - 1]'(by omega)) (Array.getElem?_eq_getElem (by omega))
      have := (Array.getElem?_eq_some_iff.1 h).1
      omega
  refine ⟨w'.drawn - W.drawn, w'.heap.extract W.heap.size w'.heap.size, ?_⟩
  obtain ⟨heap, tape, drawn, os, output⟩ := w'
  simp only [lentW] at h1 h2 h3 h4 hsz
  simp only [grow, World.drewN]
  subst h1 h2 h3
  congr 1
  · apply Array.ext
    · simp; omega
    · intro i hi1 hi2
      by_cases hi : i < W.heap.size
      · rw [Array.getElem_append_left hi]
        have h := m.imm i (W.heap[i]) (Array.getElem?_eq_getElem hi)
        exact (Array.getElem?_eq_some_iff.1 h).2
      · rw [Array.getElem_append_right (by omega), Array.getElem_extract]
        congr 1; omega
  · omega
theorem cmp_calls (x y : Sm) (W : World) : Calls Tryz.prog 55 #[.agg ⟨sC x⟩, .agg ⟨sC y⟩] W fun e w' => e = .returned (.int .i64 (cmpS x y)) ∧ ∃ q os', w' = grow (W.drewN q) os' := by
  refine callsIn_wide.1 ((cmpf_ct x y (lentW W) [] W (lentW_mem W)).mono ?_)
  rintro e w' ⟨v, M', rfl, hm, rfl, rfl⟩
  exact ⟨rfl, grown_of hm⟩
theorem cmp_lays (blk off size : Nat) (w : World) : CmpLays Tryz.prog 55 #[] sC 32 cmpS blk off size w := fun _ _ _ _ x y => cmp_calls x y _
theorem ltOf_cmpS (x y : Sm) : ltOf cmpS x y = bef x y := cmpS_lt x y
theorem cmp_swo : SWO (ltOf cmpS) where
  irrefl x := by rw [ltOf_cmpS]; exact bef_irr x
  trans x y z h1 h2 := by rw [ltOf_cmpS] at *; exact bef_trans h1 h2
  ntrans x y z h1 h2 := by
    rw [ltOf_cmpS] at *
    cases h : bef x z with
    | false => rfl
    | true =>
      exfalso
      cases e1 : bef y x with
      | false => rw [bef_tri h1 e1] at h; rw [h] at h2; cases h2
      | true =>
        cases e2 : bef z y with
        | false => rw [← bef_tri h2 e2, h1] at h; cases h
        | true => have := bef_trans h (bef_trans e2 e1); rw [bef_irr] at this; cases this
theorem arr_get? (l : List Value) (i : Nat) : (⟨l⟩ : Array Value)[i]? = l[i]? := by rw [← Array.getElem?_toList]
theorem arr_get! {l : List Value} {i : Nat} (h : i < l.length) : (⟨l⟩ : Array Value)[i]! = l[i] := getElem!_pos (⟨l⟩ : Array Value) i h
theorem flat_get {es : List (List Value)} (h : ∀ e ∈ es, e.length = 32) {i c : Nat} (hi : i < es.length) (hc : c < 32) : es.flatten[i * 32 + c]? = es[i][c]? := by
  have h1 := sub_row (sp := []) h i hi
  rw [List.append_nil] at h1
  obtain ⟨_, h3⟩ := sub_some h1
  rw [h3, List.getElem?_take, if_pos hc, List.getElem?_drop]
theorem flat_sms (l : List Sm) : flatK sC 32 l.toArray = ⟨(sms l).flatten⟩ := by
  have hl := Zx (YX l)
  rw [ZU] at hl
  apply ext_get!
  · rw [size_flatK]; simp [hl]
  · intro t ht
    rw [size_flatK] at ht
    rw [get_flatK _ _ _ _ ht]
    have ht : t < l.length * 32 := ht
    have hi : t / 32 < l.length := by omega
    have hc : t % 32 < 32 := Nat.mod_lt _ (by decide)
    have e := flat_get (YX l) (i := t / 32) (c := t % 32) (by rw [ZU]; exact hi) hc
    rw [show t / 32 * 32 + t % 32 = t from by omega, sms_get l _ hi] at e
    have e1 : l.toArray[t / 32]! = l[t / 32] := by simp [hi]
    rw [e1]
    have e2 : t < (sms l).flatten.length := by rw [hl]; exact ht
    rw [List.getElem?_eq_getElem e2, List.getElem?_eq_getElem (by rw [sC_len]; exact hc)] at e
    have e3 := Option.some.inj e
    rw [arr_get! e2, e3, getElem!_pos]
theorem put_flat {F G sp : List Value} (h : F.length = G.length) : putCells id 0 ⟨F⟩ ⟨G ++ sp⟩ = ⟨F ++ sp⟩ := by
  apply Array.ext'
  apply List.ext_getElem?
  intro i
  simp only [putCells]
  rw [Array.getElem?_toList, Array.getElem?_mapIdx]
  by_cases hi : i < F.length
  · rw [List.getElem?_append_left hi]
    have : (⟨G ++ sp⟩ : Array Value)[i]? = some (G[i]'(by omega)) := by rw [arr_get?, List.getElem?_append_left (by omega), List.getElem?_eq_getElem]
    rw [this, List.getElem?_eq_getElem hi]
    simp [hi]
  · rw [List.getElem?_append_right (by omega)]
    have : (⟨G ++ sp⟩ : Array Value)[i]? = sp[i - F.length]? := by
      rw [arr_get?, List.getElem?_append_right (by omega), h]
    rw [this]
    cases sp[i - F.length]? with
    | none => rfl
    | some x => simp [hi]
theorem heap_sortW {w : World} {g n : Nat} {os : Array Obj} {cur : Array Value} {e : TypeId} {fr : Nat × Nat} (d : Array Value) (hb : w.heap[g]? = some (.cells cur e fr)) :
    (grow (putRow id (Sort.ahead w n) g 0 d) os).heap[g]? = some (.cells (putCells id 0 d cur) e fr) := by
  have hg : g < w.heap.size := (Array.getElem?_eq_some_iff.1 hb).1
  rw [heap_grow_old _ _ (by simpa using hg)]
  simp [putRow, mapBlock, Sort.ahead, Array.getElem?_modify, hb, onCells]
theorem sortS_ct (l : List Sm) (v : Value) (k : Zf) (H : Heap) (ho : Own 23 32 v (sms l) k) (hl : l.length ≤ 1000000) :
    CT Tryz.prog 54 ⟨[v, .func (.func 55) ⟨[]⟩ ⟨[]⟩]⟩ [k] H (fun r N => r = .tuple ⟨[]⟩ ∧ ∃ k' l', N = [k'] ∧ l'.Perm l ∧ l'.Pairwise (fun x y => bef y x = false) ∧ Own 23 32 v (sms l') k') := fun F w m => by
  rw [callsIn_wide]
  obtain ⟨h1, ⟨rfl, he, rfl⟩ | ⟨b, cap, spare, rfl, rfl, hsp, hcap⟩⟩ := ho
  · have : l = [] := by cases l with
      | nil => rfl
      | cons x l => cases he
    subst this
    have hc := AnyF.slices_SortFunc_none Tryz.sortS none 0 (.func (.func 55) #[] #[]) w
    change Calls Tryz.prog 54 _ _ _ at hc
    refine hc.mono ?_
    rintro e w' ⟨rfl, rfl⟩
    exact ⟨_, [[]], rfl, m, rfl, [], [], rfl, List.Perm.refl _, List.Pairwise.nil, by simpa [sms] using (Own.nil : Own 23 32 (.slice none 0 0) [] [])⟩
  · rw [ZU] at hsp hcap ⊢
    have hb := m.own b _ (by simp : (b, Obj.cells ⟨(sms l).flatten ++ spare⟩ 23 (0, 0)) ∈ _)
    have hfl := Zx (YX l)
    rw [ZU] at hfl
    have hH : HoldsK sC 32 w b 0 l.toArray := by
      unfold HoldsK
      rw [flat_sms]
      intro j hj
      have hj : j < (sms l).flatten.length := hj
      refine ⟨?_, by simp [World.frozen?, hb]⟩
      simp only [World.cell?, hb, Nat.zero_add]
      simp only [Option.isSome_none, Bool.false_eq_true, if_false]
      have e1 : (⟨(sms l).flatten ++ spare⟩ : Array Value)[j]? = some ((sms l).flatten[j]) := by
        rw [arr_get?, List.getElem?_append_left hj, List.getElem?_eq_getElem hj]
      rw [e1, arr_get! hj]; rfl
    have eg : ∀ args w, (callFunc 55 args).run Tryz.prog w = .ok (.enter 55 args) w := Tryz.call55
    have hc := AnyQ.slices_SortFunc Tryz.sortS 32 Tryz.isAgg23 Tryz.sizeOf23 sC sC_len sC_ok cmpS cmp_swo 55 #[] b 0 cap l.toArray w eg (cmp_lays b 0 l.toArray.size w) hH (Array.getElem?_eq_some_iff.1 hb).1 (by simp; omega)
    change Calls Tryz.prog 54 _ _ _ at hc
    refine hc.mono ?_
    rintro e w' ⟨rfl, d', n, os, hp, hs, rfl⟩
    obtain ⟨l', rfl⟩ : ∃ l' : List Sm, d' = l'.toArray := ⟨d'.toList, by simp⟩
    obtain ⟨hp1, _, hp3⟩ := hp
    have hll : l'.length = l.length := by simpa using hp1
    have hperm : l'.Perm l := by
      have e1 : (l'.toArray.extract 0 l.toArray.size).toList = l' := by simp [← hll]
      have e2 : (l.toArray.extract 0 l.toArray.size).toList = l := by simp
      rwa [e1, e2] at hp3
    have hsrt : l'.Pairwise (fun x y => bef y x = false) := by
      rw [List.pairwise_iff_getElem]
      intro i j hi hj hij
      have := hs i j (Nat.zero_le _) hij (by simp; omega)
      rw [ltOf_cmpS] at this
      have z : ∀ i (h : i < l'.length), l'.toArray[i]! = l'[i] := by intro i h; simp [h]
      rwa [z i hi, z j hj] at this
    have hfl' := Zx (YX l')
    rw [ZU, hll, ← hfl] at hfl'
    have hm : Mem (sortWorldK sC 32 w b 0 n l'.toArray os) ((b, .cells ⟨(sms l').flatten ++ spare⟩ 23 (0, 0)) :: F) H := by
      refine Mem.setW (w := w) (o := .cells ⟨(sms l).flatten ++ spare⟩ 23 (0, 0)) (by simpa using m) ?_ ?_ ⟨rfl, rfl, rfl, Nat.le_add_right _ _⟩
      · unfold sortWorldK putRowK
        rw [flat_sms, heap_sortW _ hb, put_flat hfl']
      · intro k hk hne
        unfold sortWorldK putRowK
        rw [heap_grow_old _ _ (by simpa using hk)]
        simp [putRow, mapBlock, Sort.ahead, Array.getElem?_modify, Ne.symm hne]
    refine ⟨_, [[(b, .cells ⟨(sms l').flatten ++ spare⟩ 23 (0, 0))]], rfl, by simpa using hm, rfl, _, l', rfl, hperm, hsrt, ?_⟩
    rw [← hll] at hsp hcap ⊢
    rw [← ZU l']
    exact ⟨YX l', .inr ⟨b, cap, spare, rfl, rfl, by rw [ZU]; exact hsp, by rw [ZU]; exact hcap⟩⟩
end Go.Proofs.YtfdeibbpfgolcaaGreat.Hs
/-! Walks, printed by a program of this session's own (gen.py). -/
namespace Go.Proofs.YtfdeibbpfgolcaaGreat.Hs
open Go Go.Proofs
set_option maxRecDepth 100000
set_option linter.unusedVariables false
set_option linter.unusedSimpArgs false
attribute [local irreducible] JL J CT wlo DT
set_option maxHeartbeats 2000000 in
theorem refsP_ct (t : Tm) (cs : List Value) (H : Heap) (ht : RT H cs t) : CT Tryz.prog 12 ⟨[.agg ⟨cs⟩]⟩ [] H (fun v N => ∃ va vb vc ka kb kc, v = .tuple ⟨[va, vb, vc, iv (ZI [t])]⟩ ∧ N = [ka ++ (kb ++ kc)] ∧ Own 23 32 va (sms ((refE t).a)) ka ∧ Own 23 32 vb (sms ((refE t).b)) kb ∧ Own 23 32 vc (sms ((refE t).c)) kc) := by
 refine Zk Tryz.func12 rfl rfl <| Zc <| Za <| JLr (Zp (l := cs) rfl rfl fun b1 => JLr (Zh (l := [nS]) Tryz.zeroValue34 rfl fun b2 => JLr (Zh (l := [nS]) Tryz.zeroValue34 rfl fun b3 => JLr (Zh (l := [nS]) Tryz.zeroValue34 rfl fun b4 => JLA rfl <| Zb <| Zc <| Zc <| Za <| JLr (Zi Zs rfl (At.bx 3 rfl) (Zu (Zv ht)) ?_)))))
 refine JLr (Zq (vs := [.agg ⟨cs⟩]) [cs] Tryz.runUnderlying24 el27 rfl rfl (by intro e he; simp only [List.mem_cons, List.not_mem_nil, or_false] at he; subst he; exact (Zv ht)) rfl (by decide) fun b5 k5 ho5 hk5 => Jc Tryz.call49 rfl (fun hin => right_ct _ _ _ (Own.rd1 ho5 (hin 0 _ rfl) (RT.mono (Hle.hu _ _) ht))) rfl ?_)
 rintro _ _ ⟨rfl, rfl⟩
 refine JLA rfl <| Zb <| Zc <| Za <| JLM rfl <| JLn (Pu.neq rfl rfl) <| Zb <| Zg rfl (fun h6 => ?_) (fun h6 => ?_)
 ·replace h6 := nt h6
  replace h6 := df h6
  refine Zc <| Za <| JLM rfl <| JLr (Zd 3 (vs := [nS]) (l := [nS]) Yx rfl rfl rfl rfl rfl (Zj rfl Zt) rfl <| JLr (Zd 2 (vs := [nS]) (l := [nS]) Yx rfl rfl rfl rfl rfl (Zj rfl Zt) rfl <| JLr (Zd 1 (vs := [nS]) (l := [nS]) Yx rfl rfl rfl rfl rfl (Zj rfl Zt) rfl <| JLA rfl <| Zb <| Zl <| ⟨.tuple ⟨[nS, nS, nS, iv (ZI [t])]⟩, [[] ++ ([] ++ [])], Ret.four rfl (RV.cell1 Yx rfl (At.bx 3 rfl) rfl) (RV.cell1 Yx rfl (At.bx 2 rfl) rfl) (RV.cell1 Yx rfl (At.bx 1 rfl) rfl) (RV.tmp rfl), (Sub.emp Sub.nil), ?_⟩)))
  have hx : refE t = ⟨[], [], []⟩ := by rw [refE, if_neg (by assumption)]
  exact ⟨_, _, _, _, _, _, rfl, rfl, by rw [hx]; exact Own.nil, by rw [hx]; exact Own.nil, by rw [hx]; exact Own.nil⟩
 replace h6 := nf h6
 replace h6 := dt h6
 refine Zm <| Zc ?_
 have hrt : ZI [t] = 0 := by assumption
 refine Za <| JLr (Runs_makeHd fun r7 => JLr (Zh (l := [.map none]) Tryz.zeroValue96 rfl fun b8 => JLr (Zd 0 (vs := [.map (some r7)]) (l := [.map (some r7)]) ty96 rfl rfl rfl rfl rfl (Zj rfl Zt) rfl <| Zb <| Zc <| Za <| JLq (.func (.func 50) ⟨[]⟩ ⟨[pp b8 0]⟩) (Pu.makeFunc rfl rfl) <| JLr (Zh (l := [.nilFunc]) Tryz.zeroValue100 rfl fun b9 => JLr (Zd 0 (vs := [.func (.func 50) ⟨[]⟩ ⟨[pp b8 0]⟩]) (l := [.func (.func 50) ⟨[]⟩ ⟨[pp b8 0]⟩]) ty100 rfl rfl rfl rfl rfl (Zj rfl Zt) rfl <| Zb <| Zc <| Za ?_)))))
 refine JLr (Zh (l := [.nilFunc]) Tryz.zeroValue101 rfl fun b10 => Zb <| Zc <| Za <| JLq (.func (.func 51) ⟨[]⟩ ⟨[pp b9 0, pp b3 0, pp b10 0]⟩) (Pu.makeFunc rfl rfl) <| JLr (Zd 0 (vs := [.func (.func 51) ⟨[]⟩ ⟨[pp b9 0, pp b3 0, pp b10 0]⟩]) (l := [.func (.func 51) ⟨[]⟩ ⟨[pp b9 0, pp b3 0, pp b10 0]⟩]) ty101 rfl rfl rfl rfl rfl (Zj rfl Zt) rfl <| Zb <| Zc <| Za <| JLr (Zh (l := [.nilFunc]) Tryz.zeroValue102 rfl fun b11 => Zb <| Zc <| Za ?_)))
 refine JLq (.func (.func 52) ⟨[]⟩ ⟨[pp b9 0, pp b2 0, pp b3 0, pp b4 0, pp b10 0, pp b11 0]⟩) (Pu.makeFunc rfl rfl) <| JLr (Zd 0 (vs := [.func (.func 52) ⟨[]⟩ ⟨[pp b9 0, pp b2 0, pp b3 0, pp b4 0, pp b10 0, pp b11 0]⟩]) (l := [.func (.func 52) ⟨[]⟩ ⟨[pp b9 0, pp b2 0, pp b3 0, pp b4 0, pp b10 0, pp b11 0]⟩]) ty102 rfl rfl rfl rfl rfl (Zj rfl Zt) rfl <| Zb <| Zc <| Za <| JLr (Ze ty102 rfl (At.bx 0 rfl) rfl <| JLr (Zi Zs rfl (At.bx 9 rfl) (Zu (Zv ht)) <| Zw (Sub.cons 4 rfl (Sub.cons 7 rfl (Sub.cons 6 rfl (Sub.cons 5 rfl (Sk (Sk (Sk (Sk (Sk (Sk Sub.nil)))))))))) <| Zw (M' := [gsC r7 b2 b3 b4 (⟨[], nS, nS, nS, [], [], []⟩ : GS), (BX b11 [.func (.func 52) ⟨[]⟩ ⟨[pp b9 0, pp b2 0, pp b3 0, pp b4 0, pp b10 0, pp b11 0]⟩] 102), (BX b10 [.func (.func 51) ⟨[]⟩ ⟨[pp b9 0, pp b3 0, pp b10 0]⟩] 101), (BX b9 [.func (.func 50) ⟨[]⟩ ⟨[pp b8 0]⟩] 100), (BX b8 [.map (some r7)] 96), k5, (BX b1 cs 27)]) (Sub.flat Sub.refl (by simp [gsC])) ?_)))
 have hI0 : gsI (⟨[], nS, nS, nS, [], [], []⟩ : GS) := ⟨Own.nil, Own.nil, Own.nil⟩
 refine Zr 0 rfl Tryz.call52 rfl rfl (fun hin => wlk_ct r7 b2 b3 b4 b8 b9 b10 b11 _ _ (⟨[], nS, nS, nS, [], [], []⟩ : GS) _ (RT.mono (Hle.hu _ _) ht) hI0 (by have := (ZX (YV hrt)).1; simp only [List.length_nil]; omega) (hin 3 _ rfl _ _ List.mem_cons_self) (hin 2 _ rfl _ _ List.mem_cons_self) (hin 1 _ rfl _ _ List.mem_cons_self) (hin 0 _ rfl _ _ List.mem_cons_self)) rfl ?_
 rintro _ _ ⟨s12, rfl, hI12, hl12⟩
 have hgl := gT_len t []
 have hck := (ZX (YV hrt)).1
 rw [← hl12] at hgl
 simp only [List.length_nil] at hgl
 have hsl6 := sel_len 6 s12.l
 have hsl8 := sel_len 8 s12.l
 have hsl11 := sel_len 11 s12.l
 refine Zw (M' := [hdC r7 (s12.l), (BX b2 [s12.v0] 34), s12.k0, (BX b3 [s12.v1] 34), s12.k1, (BX b4 [s12.v2] 34), s12.k2, (BX b11 [.func (.func 52) ⟨[]⟩ ⟨[pp b9 0, pp b2 0, pp b3 0, pp b4 0, pp b10 0, pp b11 0]⟩] 102), (BX b10 [.func (.func 51) ⟨[]⟩ ⟨[pp b9 0, pp b3 0, pp b10 0]⟩] 101), (BX b9 [.func (.func 50) ⟨[]⟩ ⟨[pp b8 0]⟩] 100), (BX b8 [.map (some r7)] 96), k5, (BX b1 cs 27)]) (Sub.flat Sub.refl (by simp [gsC])) <| Zb <| Zc <| Zc <| Za <| JLr (Ze Yx rfl (At.bx 1 rfl) rfl <| JLr (Ze Yx rfl (At.bx 3 rfl) rfl <| JLr (Ze Yx rfl (At.bx 5 rfl) rfl <| JLr (Zq (vs := [s12.v0, s12.v1, s12.v2]) [[s12.v0], [s12.v1], [s12.v2]] Tryz.runUnderlying108 el34 rfl (congr (congrArg List.cons (ZE hI12.1.one)) (congr (congrArg List.cons (ZE hI12.2.1.one)) (congr (congrArg List.cons (ZE hI12.2.2.one)) rfl))) (by intro e he; simp only [List.mem_cons, List.not_mem_nil, or_false] at he; rcases he with rfl | rfl | rfl <;> first | exact rfl | exact rfl | exact rfl) rfl (by decide) fun b13 k13 ho13 hk13 => JLn (Pu.lenSl Tryz.runUnderlying108 rfl) <| JLM rfl <| Zb <| Zo ?_))))
 refine Ya 4 <| ZG <| Zc <| Za <| JLq (.bool true) (show Pu _ _ _ (.bool (decide ((0 : Int) < 3))) from Pu.lss rfl rfl) <| Zb <| Zc <| Zg (b := true) rfl (fun _ => ?_) (fun h => absurd h (by simp))
 refine Zm <| Zc <| Zo <| Zc <| Za <| JLq (pp b13 0) (Pu.idx 0 Tryz.runUnderlying108 Yx rfl rfl (by decide) (by decide)) <| JLr (Ze Yx rfl (At.k 0 rfl (by rw [hk13]; exact List.mem_cons_self)) rfl <| JLa (s12.v0) <| Zb <| Za <| JLm (s12.v0) <| Zr 3 rfl Tryz.call54 rfl rfl (fun hin => sortS_ct (sel 6 s12.l) _ _ _ hI12.1 (by omega)) rfl ?_)
 rintro _ _ ⟨rfl, k14, l14, rfl, hp14, hs14, ho14⟩
 rw [hl12] at hp14
 rw [ref_a hp14 hs14] at ho14
 refine Zb <| Za <| JLq (iv 1) (Pu.arith rfl rfl rfl) <| JLM rfl <| Zb <| ZG <| Zc <| Za <| JLq (.bool true) (show Pu _ _ _ (.bool (decide ((1 : Int) < 3))) from Pu.lss rfl rfl) <| Zb <| Zc <| Zg (b := true) rfl (fun _ => ?_) (fun h => absurd h (by simp))
 refine Zm <| Zc <| Zo <| Zc <| Za <| JLq (pp b13 1) (Pu.idx 1 Tryz.runUnderlying108 Yx rfl rfl (by decide) (by decide)) <| JLr (Ze Yx rfl (At.k 1 rfl (by rw [hk13]; exact List.mem_cons_self)) rfl <| JLa (s12.v1) <| Zb <| Za <| JLm (s12.v1) <| Zr 5 rfl Tryz.call54 rfl rfl (fun hin => sortS_ct (sel 8 s12.l) _ _ _ hI12.2.1 (by omega)) rfl ?_)
 rintro _ _ ⟨rfl, k15, l15, rfl, hp15, hs15, ho15⟩
 rw [hl12] at hp15
 rw [ref_b hp15 hs15] at ho15
 refine Zb <| Za <| JLq (iv 2) (Pu.arith rfl rfl rfl) <| JLM rfl <| Zb <| ZG <| Zc <| Za <| JLq (.bool true) (show Pu _ _ _ (.bool (decide ((2 : Int) < 3))) from Pu.lss rfl rfl) <| Zb <| Zc <| Zg (b := true) rfl (fun _ => ?_) (fun h => absurd h (by simp))
 refine Zm <| Zc <| Zo <| Zc <| Za <| JLq (pp b13 2) (Pu.idx 2 Tryz.runUnderlying108 Yx rfl rfl (by decide) (by decide)) <| JLr (Ze Yx rfl (At.k 2 rfl (by rw [hk13]; exact List.mem_cons_self)) rfl <| JLa (s12.v2) <| Zb <| Za <| JLm (s12.v2) <| Zr 7 rfl Tryz.call54 rfl rfl (fun hin => sortS_ct (sel 11 s12.l) _ _ _ hI12.2.2 (by omega)) rfl ?_)
 rintro _ _ ⟨rfl, k16, l16, rfl, hp16, hs16, ho16⟩
 rw [hl12] at hp16
 rw [ref_c hp16 hs16] at ho16
 refine Zb <| Za <| JLq (iv 3) (Pu.arith rfl rfl rfl) <| JLM rfl <| Zb <| ZG <| Zc <| Za <| JLq (.bool false) (show Pu _ _ _ (.bool (decide ((3 : Int) < 3))) from Pu.lss rfl rfl) <| Zb <| Zc <| Zg (b := false) rfl (fun h => absurd h (by simp)) (fun _ => ZB _ rfl ?_)
 refine Zc <| Za <| JLr (Ze Yx rfl (At.bx 5 rfl) rfl <| JLr (Ze Yx rfl (At.bx 6 rfl) rfl <| JLr (Ze Yx rfl (At.bx 7 rfl) rfl <| JLr (Zd 5 (vs := [s12.v0]) (l := [s12.v0]) Yx rfl rfl rfl (ZE hI12.1.one) rfl (Zj hI12.1.one Zt) rfl <| JLr (Zd 6 (vs := [s12.v1]) (l := [s12.v1]) Yx rfl rfl rfl (ZE hI12.2.1.one) rfl (Zj hI12.2.1.one Zt) rfl <| JLr (Zd 7 (vs := [s12.v2]) (l := [s12.v2]) Yx rfl rfl rfl (ZE hI12.2.2.one) rfl (Zj hI12.2.2.one Zt) rfl <| JLA rfl <| Zb <| Zl <| ⟨.tuple ⟨[s12.v0, s12.v1, s12.v2, iv 0]⟩, [k14 ++ (k15 ++ k16)], Ret.four rfl (RV.cell1 Yx rfl (At.bx 5 rfl) rfl) (RV.cell1 Yx rfl (At.bx 6 rfl) rfl) (RV.cell1 Yx rfl (At.bx 7 rfl) rfl) (RV.tmp rfl), (Sub.join3 (Sub.cons 2 rfl (Sub.cons 1 rfl (Sk Sub.nil)))), ?_⟩))))))
 have hx : refE t = Y1 t := by rw [refE, if_pos hrt]
 exact ⟨_, _, _, _, _, _, by rw [hrt], rfl, by rw [hx]; exact ho14, by rw [hx]; exact ho15, by rw [hx]; exact ho16⟩
end Go.Proofs.YtfdeibbpfgolcaaGreat.Hs
/-! Room made ahead for digests: the library's contract as a contract of this logic; digests of a right term. -/
namespace Go.Proofs.YtfdeibbpfgolcaaGreat.Hs
open Go Go.Proofs
theorem growS_ct (n : Int) (H : Heap) (h0 : 0 ≤ n) (h1 : n ≤ 1000000) : CT Tryz.prog 73 ⟨[.slice none 0 0, .int .i64 n]⟩ [] H (fun r N => ∃ k, N = [k] ∧ Own 23 32 r (sms []) k) := fun F w m => by
  obtain ⟨n, rfl⟩ : ∃ q : Nat, n = (q : Int) := ⟨n.toNat, by omega⟩
  rw [callsIn_wide]
  by_cases hn : n = 0
  · subst hn
    have hc := Any8.slices_Grow_room Tryz.growS none 0 0 0 w (by decide) (by decide) (by decide) (by decide)
    change Calls Tryz.prog 73 _ _ _ at hc
    refine hc.mono ?_
    rintro e w' ⟨rfl, rfl⟩
    exact ⟨_, [[]], rfl, m, [], rfl, Own.nil⟩
  · have hc := Any8.slices_Grow_grow Tryz.growS Tryz.t23 (.agg ⟨sC zS⟩) (by kernel_rfl) rfl (by decide) none 0 0 n [] w (by decide) (by omega) (by show (0 + n) * 32 ≤ _; omega) (by omega) (by simp) (fun _ => rfl) (fun a h => by cases h)
    change Calls Tryz.prog 73 _ _ _ at hc
    refine hc.mono ?_
    rintro e w' ⟨rfl, rfl⟩
    have hG : 0 + n ≤ grownCap w (0 + n) 0 23 := grownCap_ge w _ _ _
    have hG : 0 + n ≤ grownCap w (0 + n) 0 (Tryz.growS_ren.t 25) := hG
    generalize grownCap w (0 + n) 0 (Tryz.growS_ren.t 25) = G at hG ⊢
    refine ⟨_, [[(w.heap.size, .cells ⟨(([] : List Value).toArray ++ Builtin.zeroCells (Value.agg ⟨sC zS⟩).cells (0 + n - 0) ++ Builtin.zeroCells (Value.agg ⟨sC zS⟩).cells (G - (0 + n))).toList⟩ 23 (0, 0))]], rfl, m.push (w' := w.drew.alloc _) rfl, _, rfl, ?_⟩
    refine ⟨by simp [sms], .inr ⟨w.heap.size, G, _, rfl, rfl, ?_, Nat.zero_le _⟩⟩
    have z1 := zeroCells_size (Value.agg ⟨sC zS⟩).cells (0 + n - 0)
    have z2 := zeroCells_size (Value.agg ⟨sC zS⟩).cells (G - (0 + n))
    have z3 : (Value.agg ⟨sC zS⟩).cells.size = 32 := rfl
    rw [z3] at z1 z2
    have e1 : (([] : List Value).toArray ++ Builtin.zeroCells (Value.agg ⟨sC zS⟩).cells (0 + n - 0) ++ Builtin.zeroCells (Value.agg ⟨sC zS⟩).cells (G - (0 + n))).size = (0 + n - 0) * 32 + (G - (0 + n)) * 32 := by
      rw [Array.size_append, Array.size_append, z1, z2]; simp
    rw [Array.length_toList, e1]
    show _ = (G - 0) * 32
    omega
theorem refsK_ct (t : Tm) (cs : List Value) (H : Heap) (ht : RT H cs t) (hc : Yf 60 8 t = 0) : CT Tryz.prog 12 ⟨[.agg ⟨cs⟩]⟩ [] H (fun v N => ∃ va vb vc ka kb kc, v = .tuple ⟨[va, vb, vc, .int .i64 0]⟩ ∧ N = [ka ++ (kb ++ kc)] ∧ Own 23 32 va (sms ((Y1 t).a)) ka ∧ Own 23 32 vb (sms ((Y1 t).b)) kb ∧ Own 23 32 vc (sms ((Y1 t).c)) kc) := by
  refine (refsP_ct t cs H ht).mono ?_
  rintro v N ⟨va, vb, vc, ka, kb, kc, h1, h2, h3, h4, h5⟩
  rw [rightT_one, hc] at h1
  have hr : ZI [t] = 0 := by rw [rightT_one, hc]
  have hx : refE t = Y1 t := by rw [refE, if_pos hr]
  rw [hx] at h3 h4 h5
  exact ⟨va, vb, vc, ka, kb, kc, h1, h2, h3, h4, h5⟩
theorem replK_ct (t : Tm) (f g : Sm) (cs : List Value) (H : Heap) (ht : RT H cs t) (hc : Yf 60 8 t = 0) : CT Tryz.prog 13 ⟨[.agg ⟨cs⟩, .agg ⟨sC f⟩, .agg ⟨sC g⟩]⟩ [] H (fun v N => ∃ cs k, v = .tuple ⟨[.agg ⟨cs⟩, .int .i64 0]⟩ ∧ N = [k] ∧ OT (rpT f g t) cs k) := by
  refine (replE_ct t f g cs H ht).mono ?_
  rintro v N ⟨cs', k, h1, h2, h3⟩
  have hr : ZI [t] = 0 := by rw [rightT_one, hc]
  have hx : rpE f g t = (rpT f g t, 0) := by rw [rpE, if_pos hr]
  rw [hx] at h1 h3
  exact ⟨cs', k, h1, h2, h3⟩
theorem bldFr : ∀ w, (Instr.build 23 ⟨[(0, .int .u8 200)]⟩).run Tryz.prog w = .ok (.agg ⟨sC frS⟩) w := run_buildA Tryz.zeroValue23 Tryz.runUnderlying23 Tryz.sizeOf5 rfl
theorem bldTo : ∀ w, (Instr.build 23 ⟨[(0, .int .u8 201), (1, .int .u8 7)]⟩).run Tryz.prog w = .ok (.agg ⟨sC toS⟩) w := run_buildA Tryz.zeroValue23 Tryz.runUnderlying23 Tryz.sizeOf5 rfl
theorem sms_at {l : List Sm} {j : Nat} (h : j < l.length) : (sms l)[j]'(by rw [ZU]; exact h) = sC (l.getD j zS) := by rw [sms_get l j h, getD_lt h]
theorem int_r22 {P : Program} {f : FuncId} {a : Array Value} {M : List Zf} {H : Heap} {x r : Int} (h : CT P f a M H (fun v N => v = .int .i64 x ∧ N = [])) (hr : x = r) : CT P f a M H (fun v N => v = .int .i64 r ∧ N = []) := hr ▸ h
theorem getD_mem22 {l : List Sm} {j : Nat} (h : j < l.length) : l.getD j zS ∈ l := by rw [getD_lt h]; exact List.getElem_mem h
theorem eq22 {t : Tm} {f : Sm} (hlo : toS ∉ Yg t) (hs : f ∈ Yg t ∨ Yg t = []) : (decide (toS ∈ Yg (rpT f toS t)) == decide ((0 : Int) < ((Yg t).length : Int))) = true := by
  rw [beq_iff_eq, decide_eq_decide, all_to hlo]
  constructor
  · intro h; have := List.length_pos_of_mem h; omega
  · intro h
    rcases hs with h1 | h1
    · exact h1
    · rw [h1] at h; simp at h
end Go.Proofs.YtfdeibbpfgolcaaGreat.Hs
/-! Walks, printed by a program of this session's own (gen.py). -/
namespace Go.Proofs.YtfdeibbpfgolcaaGreat.Hs
open Go Go.Proofs
set_option maxRecDepth 100000
set_option linter.unusedVariables false
set_option linter.unusedSimpArgs false
attribute [local irreducible] JL J CT wlo DT
theorem indexM_ct (l : List Sm) (s : Sm) (v : Value) (H : Heap) (hl : Hs.rdS RSm 32 H v l) : CT Tryz.prog 72 ⟨[v, .agg ⟨sC s⟩]⟩ [] H (fun v N => ∃ i : Int, v = iv i ∧ N = [] ∧ (0 ≤ i ↔ s ∈ l)) := by
 refine Zk Tryz.func72 rfl rfl <| Zc <| Za <| JLr (Zp (l := sC s) rfl rfl fun b1 => JLA rfl <| Zb <| Zc <| Zc <| Za <| JLm v ?_)
 obtain ⟨a2, cap2, hv2⟩ := hl.sl
 have hle2 := hl.le
 refine JLn (Pu.lenSl Tryz.runUnderlying34 hv2) <| JLM rfl <| Zb <| Zo <| ZT (fun k ρ M => ∃ (j : Nat), ρ 0 = v ∧ ρ 3 = pp b1 0 ∧ ρ 4 = iv 0 ∧ ρ 7 = iv ((l.length : Int)) ∧ ρ 8 = iv ((j : Int)) ∧ Sub [(BX b1 (sC s) 23)] M ∧ j ≤ l.length ∧ (∀ i, i < j → l.getD i zS ≠ s) ∧ k = l.length - j) _ ⟨0, rfl, rfl, rfl, rfl, rfl, (Sk Sub.nil), Nat.zero_le _, (fun i hi => absurd hi (by omega)), rfl⟩ ?_
 rintro _ ρ3 _ ⟨j, e4, e5, e6, e7, e8, hm9, hj, hno, rfl⟩
 obtain ⟨ρ10, rfl⟩ := Zn (uc e4 (uc e5 (uc e6 (uc e7 (uc e8 un)))))
 clear e4 e5 e6 e7 e8
 refine ZS hm9 <| Zc <| Za <| JLn (Pu.lss rfl rfl) <| Zb <| Zc <| Zg rfl (fun h11 => ?_) (fun h11 => ?_)
 ·replace h11 := dt h11
  have h11n : j < l.length := by omega
  have hlenl := hl.le
  refine Zm <| Zc <| Zo <| Zc <| Za <| JLM rfl <| JLA rfl <| Zb <| Zc <| ZL mixed #[0, 0, 0, 6, 14, 31] 5 [some 11, some 12, some 13, some 14, some 15] [] [] rfl (by kernel_rfl) rfl (by kernel_rfl) <| Dl Z3 (At.bx 0 rfl) (Zu rfl) <| Dm v <| DM (fun _ => rfl) ?_
  obtain ⟨b13, o13, cap13, row13, T13, fr13, hv13, hb13, hs13⟩ := RSms.at hl j (by first | assumption | omega | decide | simp)
  refine Dq (pp b13 (o13 + j * 32)) (fun _ => Pu.idx j Tryz.runUnderlying34 Z3 hv13 rfl rfl (by first | assumption | omega | decide | simp)) <| Dl Z3 (At.im hb13) hs13 <| ZZ (M' := [(BX b1 (sC s) 23)]) rfl ?_
  show JL _ _ _ [_] _ _ _
  refine JLn (eqS rfl rfl) <| Zb <| Zg rfl (fun h14 => ?_) (fun h14 => ?_)
  ·replace h14 := dt h14
   refine Zc <| Za <| JLM rfl <| JLA rfl <| Zb <| Zl <| ⟨iv ((j : Int)), [], Ret.one rfl (RV.tmp rfl), Sub.nil, ?_⟩
   refine ⟨_, rfl, rfl, ?_⟩
   exact ⟨fun _ => by rw [h14, getD_lt h11n]; exact List.getElem_mem _, fun _ => by omega⟩
  replace h14 := df h14
  refine Zm <| Za <| JLn (Pu.inc rfl rfl (by omega)) <| JLM rfl <| Zb <| ⟨_, ?_, (j + 1), rfl, rfl, rfl, rfl, rfl, (Sk Sub.nil), ?_, ?_, rfl⟩
  ·omega
  ·omega
  intro i hi e; by_cases hij : i = j; subst hij; exact h14 e.symm; exact hno i (by omega) e
 replace h11 := df h11
 have h11n : l.length ≤ j := by omega
 refine ZB _ rfl <| Zc <| Za <| JLA rfl <| Zb <| Zl <| ⟨iv (-1), [], Ret.one rfl (RV.tmp rfl), Sub.nil, ?_⟩
 refine ⟨_, rfl, rfl, ?_⟩
 refine ⟨fun q => absurd q (by decide), fun q => ?_⟩
 obtain ⟨i, hi, e⟩ := List.getElem_of_mem q
 exact absurd (by rw [getD_lt hi]; exact e) (hno i (by omega))
theorem containsM_ct (l : List Sm) (s : Sm) (v : Value) (H : Heap) (hl : Hs.rdS RSm 32 H v l) : CT Tryz.prog 23 ⟨[v, .agg ⟨sC s⟩]⟩ [] H (fun v N => v = .bool (decide (s ∈ l)) ∧ N = []) := by
 refine Zk Tryz.func23 rfl rfl <| Zc <| Za <| JLr (Zp (l := sC s) rfl rfl fun b1 => JLA rfl <| Zb <| Zc <| Za <| JLm v <| JLr (Zi Z3 rfl (At.bx 0 rfl) (Zu rfl) <| Jc Tryz.call72 rfl (fun hin => indexM_ct l s _ _ (RSms.mono (Hle.hu _ _) hl)) rfl ?_))
 rintro _ _ ⟨i2, rfl, rfl, hi2⟩
 refine JLn (Pu.geq rfl rfl) <| JLA rfl <| Zb <| Zl <| ⟨.bool (decide (0 ≤ i2)), [], Ret.one rfl (RV.tmp rfl), Sub.nil, ?_⟩
 exact ⟨congrArg Value.bool (decide_eq_decide.2 hi2), rfl⟩
theorem concatM_ct (a b c : List Sm) (va vb vc : Value) (bS : Nat) (H : Heap) (ha : Hs.rdS RSm 32 H va a) (hb : Hs.rdS RSm 32 H vb b) (hc : Hs.rdS RSm 32 H vc c) (hS : H bS = some (.cells ⟨[va, vb, vc]⟩ 34 (0, 0))) (hza : a.length ≤ 100000) (hzb : b.length ≤ 100000) (hzc : c.length ≤ 100000) : CT Tryz.prog 24 ⟨[.slice (some ⟨bS, 0, none⟩) 3 3]⟩ [] H (fun r N => ∃ k, N = [k] ∧ Own 23 32 r (sms (a ++ b ++ c)) k) := by
 refine Zk Tryz.func24 rfl rfl <| Zc <| Za <| JLA rfl <| Zb <| Zc <| Za <| JLA rfl <| Zb <| Zc <| Zc <| Za <| JLM rfl ?_
 refine JLn (Pu.lenSl Tryz.runUnderlying108 rfl) <| JLM rfl <| Zb <| Zo <| Ya 4 <| ZG <| Zc <| Za <| JLq (.bool true) (show Pu _ _ _ (.bool (decide ((0 : Int) < 3))) from Pu.lss rfl rfl) <| Zb <| Zc <| Zg (b := true) rfl (fun _ => ?_) (fun h => absurd h (by simp))
 refine Zm <| Zc <| Zo <| Zc <| Za <| JLq (pp bS 0) (Pu.idx 0 Tryz.runUnderlying108 Yx rfl rfl (by decide) (by decide)) <| JLr (Ze Yx rfl (At.im hS) rfl <| JLa va <| Zb <| Zc <| Za <| JLM rfl <| JLm va ?_)
 obtain ⟨a1, cap1, hv1⟩ := ha.sl
 have hle1 := ha.le
 refine JLn (Pu.lenSl Tryz.runUnderlying34 hv1) <| JLn (Pu.add64 rfl rfl (by first | omega | (constructor <;> omega))) <| JLA rfl <| Zb <| Zc <| Za <| JLM rfl <| JLn (Pu.lss rfl rfl) <| Zb <| Zg rfl (fun h2 => ?_) (fun h2 => ?_)
 ·replace h2 := dt h2
  exfalso; omega
 replace h2 := df h2
 refine Zm <| Za <| JLq (iv 1) (Pu.arith rfl rfl rfl) <| JLM rfl <| Zb <| ZG <| Zc <| Za <| JLq (.bool true) (show Pu _ _ _ (.bool (decide ((1 : Int) < 3))) from Pu.lss rfl rfl) <| Zb <| Zc <| Zg (b := true) rfl (fun _ => ?_) (fun h => absurd h (by simp))
 refine Zm <| Zc <| Zo <| Zc <| Za <| JLq (pp bS 1) (Pu.idx 1 Tryz.runUnderlying108 Yx rfl rfl (by decide) (by decide)) <| JLr (Ze Yx rfl (At.im hS) rfl <| JLa vb <| Zb <| Zc <| Za <| JLM rfl <| JLm vb ?_)
 obtain ⟨a3, cap3, hv3⟩ := hb.sl
 have hle3 := hb.le
 refine JLn (Pu.lenSl Tryz.runUnderlying34 hv3) <| JLn (Pu.add64 rfl rfl (by first | omega | (constructor <;> omega))) <| JLA rfl <| Zb <| Zc <| Za <| JLM rfl <| JLn (Pu.lss rfl rfl) <| Zb <| Zg rfl (fun h4 => ?_) (fun h4 => ?_)
 ·replace h4 := dt h4
  exfalso; omega
 replace h4 := df h4
 refine Zm <| Za <| JLq (iv 2) (Pu.arith rfl rfl rfl) <| JLM rfl <| Zb <| ZG <| Zc <| Za <| JLq (.bool true) (show Pu _ _ _ (.bool (decide ((2 : Int) < 3))) from Pu.lss rfl rfl) <| Zb <| Zc <| Zg (b := true) rfl (fun _ => ?_) (fun h => absurd h (by simp))
 refine Zm <| Zc <| Zo <| Zc <| Za <| JLq (pp bS 2) (Pu.idx 2 Tryz.runUnderlying108 Yx rfl rfl (by decide) (by decide)) <| JLr (Ze Yx rfl (At.im hS) rfl <| JLa vc <| Zb <| Zc <| Za <| JLM rfl <| JLm vc ?_)
 obtain ⟨a5, cap5, hv5⟩ := hc.sl
 have hle5 := hc.le
 refine JLn (Pu.lenSl Tryz.runUnderlying34 hv5) <| JLn (Pu.add64 rfl rfl (by first | omega | (constructor <;> omega))) <| JLA rfl <| Zb <| Zc <| Za <| JLM rfl <| JLn (Pu.lss rfl rfl) <| Zb <| Zg rfl (fun h6 => ?_) (fun h6 => ?_)
 ·replace h6 := dt h6
  exfalso; omega
 replace h6 := df h6
 refine Zm <| Za <| JLq (iv 3) (Pu.arith rfl rfl rfl) <| JLM rfl <| Zb <| ZG <| Zc <| Za <| JLq (.bool false) (show Pu _ _ _ (.bool (decide ((3 : Int) < 3))) from Pu.lss rfl rfl) <| Zb <| Zc <| Zg (b := false) rfl (fun h => absurd h (by simp)) (fun _ => ZB _ rfl ?_)
 refine Zc <| Za <| JLM rfl <| Jc Tryz.call73 rfl (fun hin => growS_ct (0 + ((a.length : Int)) + ((b.length : Int)) + ((c.length : Int))) _ (by omega) (by omega)) rfl ?_
 rintro v7 _ ⟨k7, rfl, ho7⟩
 refine JLa v7 <| Zb <| Zc <| Zc <| Za <| JLM rfl <| JLn (Pu.lenSl Tryz.runUnderlying108 rfl) <| JLM rfl <| Zb <| Zo <| Ya 4 <| ZG <| Zc ?_
 refine Za <| JLq (.bool true) (show Pu _ _ _ (.bool (decide ((0 : Int) < 3))) from Pu.lss rfl rfl) <| Zb <| Zc <| Zg (b := true) rfl (fun _ => ?_) (fun h => absurd h (by simp))
 refine Zm <| Zc <| Zo <| Zc <| Za <| JLq (pp bS 0) (Pu.idx 0 Tryz.runUnderlying108 Yx rfl rfl (by decide) (by decide)) <| JLr (Ze Yx rfl (At.im hS) rfl <| JLa va <| Zb <| Za <| JLm v7 <| JLm va <| JLr (ZJ (i := 0) (n := a.length) (es' := sms a) Tryz.runUnderlying34 Tryz.runUnderlying34 (Or.inl rfl) el23 rfl rfl rfl ho7 (fun F w m => sms_src ha w _ m) (ZU _) (YX _) (sms_ok _) (by decide) (by simp [ZU]; omega) fun v8 k8 ho8 => ?_))
 rw [← sms_app] at ho8
 refine JLa v8 <| Zb <| Za <| JLq (iv 1) (Pu.arith rfl rfl rfl) <| JLM rfl <| Zb <| ZG <| Zc <| Za <| JLq (.bool true) (show Pu _ _ _ (.bool (decide ((1 : Int) < 3))) from Pu.lss rfl rfl) <| Zb <| Zc <| Zg (b := true) rfl (fun _ => ?_) (fun h => absurd h (by simp))
 refine Zm <| Zc <| Zo <| Zc <| Za <| JLq (pp bS 1) (Pu.idx 1 Tryz.runUnderlying108 Yx rfl rfl (by decide) (by decide)) <| JLr (Ze Yx rfl (At.im hS) rfl <| JLa vb <| Zb <| Za <| JLm v8 <| JLm vb <| JLr (ZJ (i := 0) (n := b.length) (es' := sms b) Tryz.runUnderlying34 Tryz.runUnderlying34 (Or.inl rfl) el23 rfl rfl rfl ho8 (fun F w m => sms_src hb w _ m) (ZU _) (YX _) (sms_ok _) (by decide) (by simp [ZU]; omega) fun v9 k9 ho9 => ?_))
 rw [← sms_app] at ho9
 refine JLa v9 <| Zb <| Za <| JLq (iv 2) (Pu.arith rfl rfl rfl) <| JLM rfl <| Zb <| ZG <| Zc <| Za <| JLq (.bool true) (show Pu _ _ _ (.bool (decide ((2 : Int) < 3))) from Pu.lss rfl rfl) <| Zb <| Zc <| Zg (b := true) rfl (fun _ => ?_) (fun h => absurd h (by simp))
 refine Zm <| Zc <| Zo <| Zc <| Za <| JLq (pp bS 2) (Pu.idx 2 Tryz.runUnderlying108 Yx rfl rfl (by decide) (by decide)) <| JLr (Ze Yx rfl (At.im hS) rfl <| JLa vc <| Zb <| Za <| JLm v9 <| JLm vc <| JLr (ZJ (i := 0) (n := c.length) (es' := sms c) Tryz.runUnderlying34 Tryz.runUnderlying34 (Or.inl rfl) el23 rfl rfl rfl ho9 (fun F w m => sms_src hc w _ m) (ZU _) (YX _) (sms_ok _) (by decide) (by simp [ZU]; omega) fun v10 k10 ho10 => ?_))
 rw [← sms_app] at ho10
 refine JLa v10 <| Zb <| Za <| JLq (iv 3) (Pu.arith rfl rfl rfl) <| JLM rfl <| Zb <| ZG <| Zc <| Za <| JLq (.bool false) (show Pu _ _ _ (.bool (decide ((3 : Int) < 3))) from Pu.lss rfl rfl) <| Zb <| Zc <| Zg (b := false) rfl (fun h => absurd h (by simp)) (fun _ => ?_)
 refine ZB _ rfl <| Zc <| Za <| JLm v10 <| JLa v10 <| Zb <| Zl <| ⟨v10, [k10], Ret.one rfl (RV.tmp rfl), (Sk Sub.nil), ?_⟩
 exact ⟨_, rfl, by have z := ho10; rw [List.nil_append] at z; exact z⟩
theorem sizeE_ct (t : Tm) (cs : List Value) (H : Heap) (ht : RT H cs t) : CT Tryz.prog 25 ⟨[.agg ⟨cs⟩]⟩ [] H (fun v N => v = .tuple ⟨[iv (sizeE t).1, iv (sizeE t).2]⟩ ∧ N = []) := by
 refine Zk Tryz.func25 rfl rfl <| Zc <| Za <| JLr (Zp (l := cs) rfl rfl fun b1 => JLA rfl <| JLA rfl <| Zb <| Zc <| Zc <| Za <| JLr (Zi Zs rfl (At.bx 0 rfl) (Zu (Zv ht)) <| JLr (Zq (vs := [.agg ⟨cs⟩]) [cs] Tryz.runUnderlying24 el27 rfl rfl (by intro e he; simp only [List.mem_cons, List.not_mem_nil, or_false] at he; subst he; exact (Zv ht)) rfl (by decide) fun b2 k2 ho2 hk2 => Jc Tryz.call49 rfl (fun hin => int_r22 (right_ct [t] _ _ (Own.rd1 ho2 (hin 0 _ rfl) (RT.mono (Hle.hu _ _) ht))) (rightT_one _)) rfl ?_)))
 rintro _ _ ⟨rfl, rfl⟩
 refine JLA rfl <| Zb <| Zc <| Za <| JLM rfl <| JLn (Pu.neq rfl rfl) <| Zb <| Zg rfl (fun h3 => ?_) (fun h3 => ?_)
 ·replace h3 := nt h3
  replace h3 := df h3
  refine Zc <| Za <| JLM rfl <| JLA rfl <| JLA rfl <| Zb <| Zl <| ⟨.tuple ⟨[iv 0, iv (Yf 60 8 t)]⟩, [], Ret.two rfl (RV.tmp rfl) (RV.tmp rfl), Sub.nil, ?_⟩
  exact ⟨by rw [sizeE, if_neg (by assumption)], rfl⟩
 replace h3 := nf h3
 replace h3 := dt h3
 refine Zm <| Zc <| Za <| JLq (.agg ⟨[iv 0]⟩) (Pu.build (pv := []) (l := [iv 0]) rfl bld132_) <| JLr (Zp (l := [iv 0]) rfl rfl fun b4 => JLA rfl <| Zb <| Zc <| Za <| JLM rfl <| JLr (Zi Zs rfl (At.bx 2 rfl) (Zu (Zv ht)) <| Zr 0 rfl Tryz.call74 rfl rfl (fun hin => longT_ct _ _ _ _ _ _ (RT.mono (Hle.hu _ _) ht) (by omega) (by omega) (by omega) (by omega)) rfl ?_))
 rintro _ _ ⟨rfl, rfl⟩
 refine Zb <| Zc <| Za <| JLM rfl <| JLq (pp b4 0) (Pu.nilCheck rfl) <| JLq (pp b4 0) (fa132_0 rfl rfl) <| JLr (Ze ty3 rfl (At.bx 0 rfl) rfl <| JLA rfl <| JLA rfl <| Zb <| Zl <| ⟨.tuple ⟨[iv ((cnT stL 1 t 0).2), iv 0]⟩, [], Ret.two rfl (RV.tmp rfl) (RV.tmp rfl), Sub.nil, ?_⟩)
 exact ⟨by rw [sizeE, if_pos (by assumption), cnT_size t 1 0 (ZX (by rw [check_eq]; assumption : Yc 60 8 t = 0)).2.2.2]; simp, rfl⟩
end Go.Proofs.YtfdeibbpfgolcaaGreat.Hs
/-! The size of a right term. -/
namespace Go.Proofs.YtfdeibbpfgolcaaGreat.Hs
open Go Go.Proofs
theorem sizeK_ct (t : Tm) (cs : List Value) (H : Heap) (ht : RT H cs t) (hc : Yf 60 8 t = 0) : CT Tryz.prog 25 ⟨[.agg ⟨cs⟩]⟩ [] H (fun v N => v = .tuple ⟨[.int .i64 (sizeT t : Int), .int .i64 0]⟩ ∧ N = []) := by
  have hx : sizeE t = ((sizeT t : Int), 0) := by rw [sizeE, if_pos hc]
  have h := sizeE_ct t cs H ht
  rw [hx] at h
  exact h
end Go.Proofs.YtfdeibbpfgolcaaGreat.Hs
/-! Walks, printed by a program of this session's own (gen.py). -/
namespace Go.Proofs.YtfdeibbpfgolcaaGreat.Hs
open Go Go.Proofs
set_option maxRecDepth 100000
set_option linter.unusedVariables false
set_option linter.unusedSimpArgs false
attribute [local irreducible] JL J CT wlo DT
set_option maxHeartbeats 4000000 in
theorem replaced_law (v : Value) (l : List Int) (H : Heap) (hb : bytesR H v l) (hv : Hs.rdS RB 1 H v l) (p : Int) (hp : 0 ≤ p ∧ p ≤ 255) : CT Tryz.prog 5 ⟨[v, .int .u8 p]⟩ [] H (fun v N => v = .bool true ∧ N = []) := by
 refine Zk Tryz.func5 rfl rfl <| Zc <| Za <| JLA rfl <| Zb <| Zc <| Za <| JLm v <| Jc Tryz.call17 rfl (fun hin => of_ct _ _ _ (bytesR.mono (Hle.hu _ _) hb) (RBs.mono (Hle.hu _ _) hv)) rfl ?_
 rintro _ _ ⟨bS1, u1, k1, s1, l1, rfl, rfl, hu1, hr1⟩
 refine Zr 0 rfl Tryz.call18 rfl rfl (fun hin => drawn_ct _ _ _ _ _ _ (hr1 _ (hin 0 _ rfl)) (by omega) (by omega) _ _ (by omega) (by omega) (by omega) (by omega) (by omega)) rfl ?_
 rintro _ _ ⟨t2, cs2, k2, a2, s2, rfl, rfl, hO2, hg2, hw2, ha2⟩
 refine JLM rfl <| JLn (Pu.extract rfl rfl) <| JLn (Pu.extract rfl rfl) <| JLr (Zh (l := pkT 0 0 zS nS nS) Tryz.zeroValue27 rfl fun b3 => JLr (Zd 0 (vs := cs2) (l := cs2) Zs rfl rfl rfl rfl hO2.len hO2.ok (Zy (n := 36) rfl hO2.len) <| JLA rfl <| Zb <| Zc ?_))
 have hc0 : Yf 60 8 t2 = 0 := checkR_mono (by decide) (by decide) hg2
 have hs0 : sizeT t2 ≤ 100000 := by have := (checkR_ok hc0).1; omega
 have hto : ∀ h ∈ YC t2, h.2 ≠ toS := fun h hh => low_to (low_hds t2 hw2 h hh)
 have hlo : toS ∉ Yg t2 := fun q => by rcases allL_mem.1 q with q | q | q <;> exact hto _ q rfl
 refine Za <| JLr (Zi Zs rfl (At.bx 0 rfl) (Zu hO2.len) <| Jc Tryz.call12 rfl (fun hin => refsK_ct _ _ _ (hO2.rd (hin 2 _ rfl)) hc0) rfl ?_)
 rintro _ _ ⟨v4a, v4b, v4c, k4a, k4b, k4c, rfl, rfl, ho4a, ho4b, ho4c⟩
 have hrl4 := refL_len (t := t2) hs0
 have hrl := hrl4
 refine Zw (M' := [k4a, k4b, k4c, (BX b3 cs2 27), (BX bS1 [u1, iv a2, .int .u64 s2] 123), k2, k1]) (Sub.flat Sub.refl (by simp)) <| JLM rfl <| JLn (Pu.extract rfl rfl) <| JLn (Pu.extract rfl rfl) <| JLn (Pu.extract rfl rfl) <| JLn (Pu.extract rfl rfl) <| JLa v4a <| JLa v4b <| JLa v4c <| JLA rfl <| Zb <| Zc <| Za ?_
 refine JLm v4a <| JLm v4b <| JLm v4c <| JLr (Zq (vs := [v4a, v4b, v4c]) [[v4a], [v4b], [v4c]] Tryz.runUnderlying108 el34 rfl (congr (congrArg List.cons (ZE ho4a.one)) (congr (congrArg List.cons (ZE ho4b.one)) (congr (congrArg List.cons (ZE ho4c.one)) rfl))) (by intro e he; simp only [List.mem_cons, List.not_mem_nil, or_false] at he; rcases he with rfl | rfl | rfl <;> first | exact rfl | exact rfl | exact rfl) rfl (by decide) fun b5 k5 ho5 hk5 => Jc Tryz.call24 rfl (fun hin => concatM_ct ((Y1 t2).a) ((Y1 t2).b) ((Y1 t2).c) _ _ _ b5 _ (own_sms ho4a (by first | exact Nat.zero_le _ | (have := hrl; omega)) (hin 1 _ rfl)) (own_sms ho4b (by first | exact Nat.zero_le _ | (have := hrl; omega)) (hin 2 _ rfl)) (own_sms ho4c (by first | exact Nat.zero_le _ | (have := hrl; omega)) (hin 3 _ rfl)) (hin 0 _ rfl _ _ (by rw [hk5]; exact List.mem_cons_self)) (by omega) (by omega) (by omega)) rfl ?_)
 rintro v6 _ ⟨k6, rfl, ho6⟩
 change Own 23 32 v6 (sms (Yg t2)) k6 at ho6
 have hal6 : (Yg t2).length ≤ 300000 := by unfold Yg; simp only [List.length_append]; omega
 refine JLa v6 <| Zb <| Zc <| Zc <| Za <| JLM rfl <| JLq (.bool false) (show Pu _ _ _ (.bool (!true)) from Pu.not rfl) <| JLM rfl <| JLM rfl <| JLq (.bool false) (show Pu _ _ _ (.bool (!decide ((0 : Int) = 0))) from Pu.neq rfl rfl) <| JLq (.bool false) (Pu.pickF rfl rfl) <| Zb <| Zg (b := false) rfl (fun h => absurd h (by simp)) (fun _ => ?_)
 refine Zm <| Zc <| Za <| JLq (.agg ⟨sC frS⟩) (Pu.build (pv := [(0, .int .u8 200)]) (l := sC frS) rfl bldFr) <| JLq (.agg ⟨sC toS⟩) (Pu.build (pv := [(0, .int .u8 201), (1, .int .u8 7)]) (l := sC toS) rfl bldTo) <| JLr (Zh (l := sC zS) Tryz.zeroValue23 rfl fun b7 => JLr (Zh (l := sC zS) Tryz.zeroValue23 rfl fun b8 => JLr (Zd 1 (vs := sC frS) (l := sC frS) Z3 rfl rfl rfl rfl rfl (sC_ok _) (Zy rfl rfl) <| JLr (Zd 0 (vs := sC toS) (l := sC toS) Z3 rfl rfl rfl rfl rfl (sC_ok _) (Zy rfl rfl) <| Zb <| Zc <| Zc <| Za ?_))))
 refine JLm v6 ?_
 obtain ⟨a9, cap9, hv9⟩ := ho6.sl
 rw [ZU] at hv9
 refine JLn (Pu.lenSl Tryz.runUnderlying34 hv9) <| JLn (Pu.gtr rfl rfl) <| Zb <| J_weak (N := fun ρ M => ∃ (sf : Sm), (sf ≠ toS) ∧ (sf ∈ Yg t2 ∨ Yg t2 = []) ∧ ρ 4 = .bool false ∧ ρ 5 = pp b3 0 ∧ ρ 11 = v6 ∧ ρ 12 = pp b7 0 ∧ ρ 13 = pp b8 0 ∧ M = [(BX b8 (sC toS) 23), (BX b7 (sC sf) 23), k6, k5, k4a, k4b, k4c, (BX b3 cs2 27), (BX bS1 [u1, iv a2, .int .u64 s2] 123), k2, k1]) ?_ ?_
 ·refine Zg rfl (fun h10 => ?_) (fun h10 => ?_)
  ·replace h10 := dt h10
   refine Za <| JLm v6 <| JLM rfl <| JLq (iv p) (Pu.conv Tryz.runUnderlying5 Tryz.runUnderlying3 rfl (w64 (by omega))) <| JLm v6 ?_
   obtain ⟨a11, cap11, hv11⟩ := ho6.sl
   rw [ZU] at hv11
   refine JLn (Pu.lenSl Tryz.runUnderlying34 hv11) ?_
   have hrm12 : 0 ≤ p % (((Yg t2).length : Int)) ∧ p % (((Yg t2).length : Int)) < ((Yg t2).length : Int) := ⟨Int.emod_nonneg _ (by omega), Int.emod_lt_of_pos _ (by omega)⟩
   refine JLq (iv (p % (((Yg t2).length : Int)))) (Pu.rem rfl rfl (by omega) (Int.tmod_eq_emod_of_nonneg (by omega))) ?_
   have hrt22 : (p % (((Yg t2).length : Int))).toNat < (Yg t2).length := by have h : 0 ≤ p % (((Yg t2).length : Int)) ∧ p % (((Yg t2).length : Int)) < ((Yg t2).length : Int) := ⟨Int.emod_nonneg _ (by omega), Int.emod_lt_of_pos _ (by omega)⟩; generalize p % (((Yg t2).length : Int)) = z at h ⊢; omega
   obtain ⟨b13, cap13, row13, hv13, hm13, hs13⟩ := ho6.at (j := (p % (((Yg t2).length : Int))).toNat) (by rw [ZU]; first | assumption | omega)
   rw [sms_at (by first | assumption | omega)] at hs13
   refine JLq (pp b13 (0 + (p % (((Yg t2).length : Int))).toNat * 32)) (Pu.idx (p % (((Yg t2).length : Int))).toNat Tryz.runUnderlying34 Z3 hv13 rfl (by first | rfl | omega) (by rw [ZU]; first | assumption | omega)) <| JLr (Zi Z3 rfl (At.k 2 rfl hm13) hs13 <| JLr (Zd 1 (vs := sC ((Yg t2).getD (p % (((Yg t2).length : Int))).toNat zS)) (l := sC ((Yg t2).getD (p % (((Yg t2).length : Int))).toNat zS)) Z3 rfl rfl rfl rfl rfl (sC_ok _) (Zy rfl rfl) <| Zb ?_))
   exact ⟨((Yg t2).getD (p % (((Yg t2).length : Int))).toNat zS), (by have q := (getD_mem22 (by omega)); rcases allL_mem.1 q with q | q | q <;> exact low_to (low_hds _ hw2 _ q)), (.inl (getD_mem22 (by omega))), rfl, rfl, rfl, rfl, rfl, rfl⟩
  replace h10 := df h10
  refine Zm ?_
  exact ⟨frS, fr_to, (.inr (List.eq_nil_of_length_eq_zero (by omega))), rfl, rfl, rfl, rfl, rfl, rfl⟩
 rintro ρ14 _ ⟨sf, hsf, hsa, e15, e16, e17, e18, e19, rfl⟩
 obtain ⟨ρ20, rfl⟩ := Zn (uc e15 (uc e16 (uc e17 (uc e18 (uc e19 un)))))
 clear e15 e16 e17 e18 e19
 refine Zc <| Za <| JLr (Zi Zs rfl (At.bx 7 rfl) (Zu hO2.len) <| JLr (Zi Z3 rfl (At.bx 1 rfl) (Zu rfl) <| JLr (Zi Z3 rfl (At.bx 0 rfl) (Zu rfl) <| Jc Tryz.call13 rfl (fun hin => replK_ct _ _ _ _ _ (hO2.rd (hin 9 _ rfl)) hc0) rfl ?_)))
 rintro _ _ ⟨cs21, k21, rfl, rfl, hO21⟩
 refine JLM rfl <| JLn (Pu.extract rfl rfl) <| JLn (Pu.extract rfl rfl) <| JLr (Zh (l := pkT 0 0 zS nS nS) Tryz.zeroValue27 rfl fun b22 => JLr (Zd 0 (vs := cs21) (l := cs21) Zs rfl rfl rfl rfl hO21.len hO21.ok (Zy (n := 36) rfl hO21.len) <| JLA rfl <| Zb <| Zc <| Za <| JLr (Zi Zs rfl (At.bx 0 rfl) (Zu hO21.len) <| JLr (Zi Z3 rfl (At.bx 2 rfl) (Zu rfl) <| JLr (Zi Z3 rfl (At.bx 3 rfl) (Zu rfl) <| Jc Tryz.call13 rfl (fun hin => replK_ct _ _ _ _ _ (hO21.rd (hin 1 _ rfl)) ((checkR_rp _ _ _ _ _).trans hc0)) rfl ?_)))))
 rintro _ _ ⟨cs23, k23, rfl, rfl, hO23⟩
 refine JLM rfl <| JLn (Pu.extract rfl rfl) <| JLn (Pu.extract rfl rfl) <| JLr (Zh (l := pkT 0 0 zS nS nS) Tryz.zeroValue27 rfl fun b24 => JLr (Zd 0 (vs := cs23) (l := cs23) Zs rfl rfl rfl rfl hO23.len hO23.ok (Zy (n := 36) rfl hO23.len) <| JLA rfl <| Zb <| Zc <| Za <| JLr (Zi Zs rfl (At.bx 2 rfl) (Zu hO21.len) <| Jc Tryz.call12 rfl (fun hin => refsK_ct _ _ _ (hO21.rd (hin 3 _ rfl)) ((checkR_rp _ _ _ _ _).trans hc0)) rfl ?_)))
 rintro _ _ ⟨v25a, v25b, v25c, k25a, k25b, k25c, rfl, rfl, ho25a, ho25b, ho25c⟩
 have hrl25 := refL_len (t := (rpT sf toS t2)) (by rw [rpT_size]; exact hs0)
 replace hrl := hrl25
 refine Zw (M' := [k25a, k25b, k25c, (BX b24 cs23 27), k23, (BX b22 cs21 27), k21, (BX b8 (sC toS) 23), (BX b7 (sC sf) 23), k6, k5, k4a, k4b, k4c, (BX b3 cs2 27), (BX bS1 [u1, iv a2, .int .u64 s2] 123), k2, k1]) (Sub.flat Sub.refl (by simp)) <| JLM rfl <| JLn (Pu.extract rfl rfl) <| JLn (Pu.extract rfl rfl) <| JLn (Pu.extract rfl rfl) <| JLn (Pu.extract rfl rfl) <| JLa v25a <| JLa v25b <| JLa v25c <| JLA rfl <| Zb <| Zc <| Za ?_
 refine JLm v25a <| JLm v25b <| JLm v25c <| JLr (Zq (vs := [v25a, v25b, v25c]) [[v25a], [v25b], [v25c]] Tryz.runUnderlying108 el34 rfl (congr (congrArg List.cons (ZE ho25a.one)) (congr (congrArg List.cons (ZE ho25b.one)) (congr (congrArg List.cons (ZE ho25c.one)) rfl))) (by intro e he; simp only [List.mem_cons, List.not_mem_nil, or_false] at he; rcases he with rfl | rfl | rfl <;> first | exact rfl | exact rfl | exact rfl) rfl (by decide) fun b26 k26 ho26 hk26 => Jc Tryz.call24 rfl (fun hin => concatM_ct ((Y1 (rpT sf toS t2)).a) ((Y1 (rpT sf toS t2)).b) ((Y1 (rpT sf toS t2)).c) _ _ _ b26 _ (own_sms ho25a (by first | exact Nat.zero_le _ | (have := hrl; omega)) (hin 1 _ rfl)) (own_sms ho25b (by first | exact Nat.zero_le _ | (have := hrl; omega)) (hin 2 _ rfl)) (own_sms ho25c (by first | exact Nat.zero_le _ | (have := hrl; omega)) (hin 3 _ rfl)) (hin 0 _ rfl _ _ (by rw [hk26]; exact List.mem_cons_self)) (by omega) (by omega) (by omega)) rfl ?_)
 rintro v27 _ ⟨k27, rfl, ho27⟩
 change Own 23 32 v27 (sms (Yg (rpT sf toS t2))) k27 at ho27
 have hal27 : (Yg (rpT sf toS t2)).length ≤ 300000 := by unfold Yg; simp only [List.length_append]; omega
 refine JLa v27 <| Zb <| Zc <| Za <| JLr (Zi Zs rfl (At.bx 16 rfl) (Zu hO2.len) <| Jc Tryz.call25 rfl (fun hin => sizeK_ct _ _ _ (hO2.rd (hin 18 _ rfl)) hc0) rfl ?_)
 rintro _ _ ⟨rfl, rfl⟩
 refine JLM rfl <| JLn (Pu.extract rfl rfl) <| JLn (Pu.extract rfl rfl) <| JLA rfl <| JLA rfl <| Zb <| Zc <| Za <| JLr (Zi Zs rfl (At.bx 7 rfl) (Zu hO21.len) <| Jc Tryz.call25 rfl (fun hin => sizeK_ct _ _ _ (hO21.rd (hin 8 _ rfl)) ((checkR_rp _ _ _ _ _).trans hc0)) rfl ?_)
 rintro _ _ ⟨rfl, rfl⟩
 refine JLM rfl <| JLn (Pu.extract rfl rfl) <| JLn (Pu.extract rfl rfl) <| JLA rfl <| JLA rfl <| Zb <| Zc <| Za <| JLM rfl <| JLq (.bool true) (show Pu _ _ _ (.bool (decide ((0 : Int) = 0))) from Pu.eql rfl rfl) <| JLM rfl <| JLM rfl <| JLq (.bool true) (show Pu _ _ _ (.bool (decide ((0 : Int) = 0))) from Pu.eql rfl rfl) ?_
 refine JLq (.bool true) (Pu.pickT rfl rfl) <| JLM rfl <| JLM rfl <| JLq (.bool true) (show Pu _ _ _ (.bool (decide ((0 : Int) = 0))) from Pu.eql rfl rfl) <| JLq (.bool true) (Pu.pickT rfl rfl) <| JLM rfl <| JLM rfl <| JLq (.bool true) (show Pu _ _ _ (.bool (decide ((0 : Int) = 0))) from Pu.eql rfl rfl) <| JLq (.bool true) (Pu.pickT rfl rfl) <| JLM rfl <| JLM rfl <| JLq (.bool true) (show Pu _ _ _ (.bool (decide ((0 : Int) = 0))) from Pu.eql rfl rfl) <| JLq (.bool true) (Pu.pickT rfl rfl) ?_
 refine JLM rfl <| JLr (Zi Zs rfl (At.bx 5 rfl) (Zu hO23.len) <| JLr (Zi Zs rfl (At.bx 16 rfl) (Zu hO2.len) <| Jc Tryz.call16 rfl (fun hin => bool_r (r := true) (sameTerm_ct _ _ _ _ _ (hO23.rd (hin 6 _ rfl)) (hO2.rd (hin 18 _ rfl))) (decide_eq_true (rp_back _ hto))) rfl ?_))
 rintro _ _ ⟨rfl, rfl⟩
 refine JLq (.bool true) (Pu.pickT rfl rfl) <| JLM rfl <| JLm v27 <| JLr (Zi Z3 rfl (At.bx 10 rfl) (Zu rfl) <| Jc Tryz.call23 rfl (fun hin => bool_r (r := false) (containsM_ct (Yg (rpT sf toS t2)) sf _ _ (own_sms ho27 (by first | exact Nat.zero_le _ | (have := hrl; omega)) (hin 0 _ rfl))) (decide_eq_false (all_from hsf))) rfl ?_)
 rintro _ _ ⟨rfl, rfl⟩
 refine JLq (.bool true) (show Pu _ _ _ (.bool (!false)) from Pu.not rfl) <| JLq (.bool true) (Pu.pickT rfl rfl) <| JLM rfl <| JLm v27 <| JLr (Zi Z3 rfl (At.bx 9 rfl) (Zu rfl) <| Jc Tryz.call23 rfl (fun hin => containsM_ct (Yg (rpT sf toS t2)) toS _ _ (own_sms ho27 (by first | exact Nat.zero_le _ | (have := hrl; omega)) (hin 0 _ rfl))) rfl ?_)
 rintro _ _ ⟨rfl, rfl⟩
 refine JLm v6 ?_
 obtain ⟨a28, cap28, hv28⟩ := ho6.sl
 rw [ZU] at hv28
 refine JLn (Pu.lenSl Tryz.runUnderlying34 hv28) <| JLn (Pu.gtr rfl rfl) <| JLq (.bool true) (Pu.asB (Pu.eqlB Tryz.runUnderlying4 rfl rfl) (eq22 hlo hsa)) <| JLq (.bool true) (Pu.pickT rfl rfl) <| JLM rfl <| JLm v27 ?_
 obtain ⟨a29, cap29, hv29⟩ := ho27.sl
 rw [ZU] at hv29
 refine JLn (Pu.lenSl Tryz.runUnderlying34 hv29) <| JLm v6 ?_
 obtain ⟨a30, cap30, hv30⟩ := ho6.sl
 rw [ZU] at hv30
 refine JLn (Pu.lenSl Tryz.runUnderlying34 hv30) <| JLq (.bool true) (Pu.asB (Pu.eql rfl rfl) (decide_eq_true (by rw [all_len hto]))) <| JLq (.bool true) (Pu.pickT rfl rfl) <| JLM rfl <| JLM rfl <| JLM rfl <| JLq (.bool true) (Pu.asB (Pu.eql rfl rfl) (decide_eq_true (by rw [rpT_size]))) <| JLq (.bool true) (Pu.pickT rfl rfl) <| JLM rfl <| Jc Tryz.call7 rfl (fun hin => awake_ct _) rfl ?_
 rintro _ _ ⟨rfl, rfl⟩
 refine JLq (.bool true) (Pu.pickT rfl rfl) <| JLA rfl <| Zb <| Zl <| ⟨.bool true, [], Ret.one rfl (RV.tmp rfl), Sub.nil, ?_⟩
 exact ⟨rfl, rfl⟩
end Go.Proofs.YtfdeibbpfgolcaaGreat.Hs
