import Derived.Test.YtfdeibbpfgolcaaGreatReplm
import Derived.Lib.Bytealg
import Derived.Lib.BytesEntry
import Derived.Laws.Externs
/-! Digests byte by byte; slices of digests with their room; digests compared by the library's entry. -/
namespace Go.Proofs.YtfdeibbpfgolcaaGreat.Hs
open Go Go.Proofs
theorem Pu.asB {P : Program} {e : Operand → Value} {o : Oper} {b c : Bool} (h : Pu P e o (.bool b)) (q : b = c) : Pu P e o (.bool c) := q ▸ h
/-- an element of a slice of digests -/
theorem RSms.at {h : Heap} {v : Value} {l : List Sm} (q : Hs.rdS RSm 32 h v l) (i : Nat) (hi : i < l.length) : ∃ b o cap row T fr, v = .slice (some ⟨b, o, none⟩) l.length cap ∧ h b = some (.cells ⟨row⟩ T fr) ∧ sub row (o + i * 32) 32 = some (sC (l.getD i zS)) := by
  obtain ⟨b, o, cap, row, T, fr, cs, h1, h2, h3, h4⟩ := q.get i hi
  refine ⟨b, o, cap, row, T, fr, h1, h2, ?_⟩
  rw [h3, show cs = sC l[i] from h4, List.getD_eq_getElem?_getD, List.getElem?_eq_getElem hi]; rfl
theorem getD_lt {l : List Sm} {i : Nat} (hi : i < l.length) : l.getD i zS = l[i] := by rw [List.getD_eq_getElem?_getD, List.getElem?_eq_getElem hi]; rfl
/-- a slice of digests, with its room -/
def smR (H : Heap) (v : Value) (l : List Sm) : Prop := ∃ a cap, v = .slice a l.length cap ∧ l.length ≤ cap ∧ Hs.rdS RSm 32 H v l
theorem smR.rd {H : Heap} {v : Value} {l : List Sm} (h : smR H v l) : Hs.rdS RSm 32 H v l := by obtain ⟨_, _, _, _, h⟩ := h; exact h
theorem smR.mono {H H' : Heap} {v : Value} {l : List Sm} (hh : Hle H H') (h : smR H v l) : smR H' v l := by obtain ⟨a, cap, e, h1, h⟩ := h; exact ⟨a, cap, e, h1, RSms.mono hh h⟩
theorem smR.own {T : TypeId} {v : Value} {l : List Sm} {k : Zf} {h : Heap} (o : Own T 32 v (sms l) k) (hn : l.length ≤ 9223372036854775807) (hk : Has k h) : smR h v l := by
  have hr := own_sms o hn hk
  rcases id o.2 with ⟨rfl, h1, _⟩ | ⟨b, cap, sp, rfl, rfl, h3, h4⟩
  · have : l = [] := by cases l; rfl; simp [sms] at h1
    subst this; exact ⟨none, 0, rfl, by simp, hr⟩
  · refine ⟨_, cap, by rw [ZU], ?_, hr⟩
    rw [ZU] at h4; exact h4
theorem smR.drop {h : Heap} {a : Option Addr} {N cap : Nat} {l : List Sm} (r : smR h (.slice a N cap) l) (n : Nat) (hn : n ≤ l.length) : Hs.rdS RSm 32 h (.slice (if cap = n then a else a.map (·.add (n * 32))) (N - n) (cap - n)) (l.drop n) := by
  obtain ⟨a', c', e, h1, a2, c2, e2, h2, h0⟩ := r
  cases e; cases e2
  refine ⟨_, _, by rw [List.length_drop], by rw [List.length_drop]; omega, ?_⟩
  by_cases hz : (l.drop n).length = 0
  · exact .inl hz
  rw [List.length_drop] at hz
  rcases h0 with h0 | ⟨b, o, row, T, fr, e1, e2, e3⟩
  · omega
  · right
    have hc : ¬ cap = n := by omega
    refine ⟨b, o + n * 32, row, T, fr, by rw [if_neg hc, e1]; simp [Addr.add], e2, rows.mk fun i hi => ?_⟩
    rw [List.length_drop] at hi
    obtain ⟨cs, h2, h3⟩ := e3.get (n + i) (by omega)
    exact ⟨cs, by rw [← h2]; congr 1; omega, by rw [List.getElem_drop]; exact h3⟩
/-- What a slice of digests gives to append. -/
theorem sms_src {P : Program} {H : Heap} {v : Value} {l : List Sm} (h : Hs.rdS RSm 32 H v l) : ∀ w L, Mem w L H → Src P 32 w v l.length (sms l).flatten := by
  obtain ⟨es, e1, e2, e3, e4⟩ := rdS.src (P := P) h
  have : es = sms l := by
    apply List.ext_getElem
    · rw [e1, ZU]
    · intro i h1 h2
      have := e2 i h1 (by omega)
      rw [sms_get l i (by omega)]; exact this
  subst this
  intro w L m
  exact e4 w L H (Hle.refl _) m
section
variable {c : Cx} {H : Heap} {ρ : Nat → Value} {M : List Zf} {K : Value → List Zf → Prop} {d : Option Nat} {ot : TypeId} {pos : String} {af : Array Edge} {g : Option (Nat × Bool)} {x y : Operand}
theorem Pu.sliceA {P : Program} {e : Operand → Value} {T : TypeId} {n b : Nat} {elem : TypeId} (hT : ∀ w, (underlying T).run P w = .ok (.array n elem) w) (hsz : ∀ w, (sizeOf elem).run P w = .ok 1 w) (hx : e x = .pointer (some ⟨b, 0, none⟩)) : Pu P e ⟨d, .slice T x none none none, ot, pos, af, g⟩ (.slice (some ⟨b, 0, none⟩) n n) := fun w => by
  simp [execOp, Instr.sliceAt, Instr.sliceBounds, Instr.sureAddr, hx, hT, hsz, Result.andThen, Addr.add]
end
theorem among_len (l : List Sm) (s : Sm) : (among l s).length ≤ l.length + 1 := by
  induction l with
  | nil => simp [among]
  | cons x l ih => rw [among]; split; · simp only [List.length_cons]; omega
                   split <;> simp
theorem rP_len (p : Pt) : ∀ l, (rP p l).length ≤ l.length + sizeP p := by
  induction p using Pt.ind with
  | h k n r kids ih =>
    intro l
    have : ∀ (ps : List Pt), (∀ p ∈ ps, ∀ l, (rP p l).length ≤ l.length + sizeP p) → ∀ l, (rPs ps l).length ≤ l.length + ZH ps := by
      intro ps
      induction ps with
      | nil => intro _ l; simp [rPs]
      | cons p ps ihp => intro h l; rw [rPs, ZH]; have := ihp (fun q hq => h q (by simp [hq])) (rP p l); have := h p (by simp) l; omega
    rw [rP, sizeP]
    have h1 := this kids ih (if k = 3 then among l r else l)
    have h2 := among_len l r
    split at h1 <;> split <;> first | omega | contradiction
def len3 (l : L3) : Nat := max l.a.length (max l.b.length l.c.length)
theorem rH_len (k : Int) (r : Sm) (l : L3) : len3 (rH k r l) ≤ len3 l + 1 := by
  have h1 := among_len l.a r
  have h2 := among_len l.b r
  have h3 := among_len l.c r
  unfold len3 rH
  simp only
  split <;> split <;> split <;> omega
theorem rT_len (t : Tm) : ∀ l, len3 (rT t l) ≤ len3 l + sizeT t := by
  induction t using Tm.ind with
  | h k n r kids cases ih ih' =>
    intro l
    have h1 : ∀ (ts : List Tm), (∀ t ∈ ts, ∀ l, len3 (rT t l) ≤ len3 l + sizeT t) → ∀ l, len3 (rTs ts l) ≤ len3 l + sizeTs ts := by
      intro ts
      induction ts with
      | nil => intro _ l; simp [rTs]
      | cons p ps ihp => intro h l; rw [rTs, sizeTs]; have := ihp (fun q hq => h q (by simp [hq])) (rT p l); have := h p (by simp) l; omega
    have h2 : ∀ (ts : List (Pt × Tm)), (∀ c ∈ ts, ∀ l, len3 (rT c.2 l) ≤ len3 l + sizeT c.2) → ∀ l, len3 (rCs ts l) ≤ len3 l + sizeCs ts := by
      intro ts
      induction ts with
      | nil => intro _ l; simp [rCs]
      | cons c ps ihp =>
        obtain ⟨p, t⟩ := c
        intro h l
        rw [rCs, sizeCs]
        have e1 := ihp (fun q hq => h q (by simp [hq])) (rT t ⟨l.a, rP p l.b, l.c⟩)
        have e2 := h (p, t) (by simp) ⟨l.a, rP p l.b, l.c⟩
        have e3 := rP_len p l.b
        have e4 : len3 ⟨l.a, rP p l.b, l.c⟩ ≤ len3 l + sizeP p := by unfold len3; simp only; omega
        simp only at e2
        omega
    rw [rT, sizeT]
    have e1 := h2 cases ih' (rTs kids (rH k r l))
    have e2 := h1 kids ih (rH k r l)
    have e3 := rH_len k r l
    omega
/-! the library's comparing -/
def cmpS (r s : Sm) : Int := Lib.compareBytes r.toList s.toList
theorem cmpL_lt : ∀ {a b : List UInt8}, a.length = b.length → (Lib.compareBytes a b < 0 ↔ befL a b = true) := by
  intro a
  induction a with
  | nil => intro b h; cases b with
    | nil => simp [Lib.compareBytes, befL]
    | cons y b => cases h
  | cons x a ih =>
    intro b h
    cases b with
    | nil => cases h
    | cons y b =>
      rw [Lib.compareBytes, befL]
      by_cases e : x = y
      · subst e
        rw [if_neg (UInt8.lt_irrefl _), if_neg (UInt8.lt_irrefl _), if_pos rfl]
        exact ih (by simpa using h)
      · rw [if_neg e]
        by_cases e2 : x < y
        · simp [e2]
        · rw [if_neg e2]
          have : y < x := UInt8.lt_of_le_of_ne (UInt8.not_lt.1 e2) (Ne.symm e)
          simp [this, e2]
theorem cmpS_lt (r s : Sm) : decide (cmpS r s < 0) = bef r s := by
  rw [Bool.eq_iff_iff, decide_eq_true_iff]; exact cmpL_lt (by simp)
theorem run_bytesOf {P : Program} {w : World} {b cap : Nat} {r : Sm} {T : TypeId} {fr : Nat × Nat} (hb : w.heap[b]? = some (.cells ⟨sC r⟩ T fr)) : (Extern.Bytes.bytesOf (.slice (some ⟨b, 0, none⟩) 32 cap)).run P w = .ok ⟨r.toList.toArray⟩ w := by
  have h := Lib.run_loadBytesX (P := P) w (r.toList.map fun z => (z.toNat : Int)) ⟨b, 0, none⟩ .empty (fun j x hx => by
    rw [List.getElem?_map] at hx
    obtain ⟨z, hz, rfl⟩ := Option.map_eq_some_iff.1 hx
    have hj : j < 32 := by have := (List.getElem?_eq_some_iff.1 hz).1; simpa using this
    rw [addr_add, cell_of_row w b (0 + j) _ _ _ hb]
    have e := sC_get r j hj
    simp only [Nat.zero_add]
    have e2 : (⟨sC r⟩ : Array Value)[j]? = some (.int .u8 (r[j].toNat : Int)) := by simpa using e
    rw [e2]
    have e3 : r[j] = z := by
      rw [List.getElem?_eq_getElem (by simpa using hj)] at hz
      have := Option.some.inj hz
      simpa using this
    rw [e3])
  have hl : (r.toList.map fun z => (z.toNat : Int)).length = 32 := by simp
  rw [hl] at h
  have hbb : Lib.bytesOf (r.toList.map fun z => (z.toNat : Int)) = r.toList := by
    unfold Lib.bytesOf
    rw [List.map_map]
    conv => rhs; rw [← List.map_id r.toList]
    apply List.map_congr_left
    intro z _
    simp
  rw [hbb] at h
  show (Extern.Bytes.loadBytes ⟨b, 0, none⟩ 32 .empty).run P w = _
  rw [h]
  congr 1
  apply ByteArray.ext
  simp
section
variable {c : Cx} {H : Heap} {ρ : Nat → Value} {M : List Zf} {K : Value → List Zf → Prop} {d : Option Nat} {ot : TypeId} {pos : String} {af : Array Edge} {g : Option (Nat × Bool)} {x y : Operand}
/-- two boxed digests, compared by the library's entry -/
theorem Runs_cmp {f : FuncId} {fn : Func} {ats : Array TypeId} {a b cap cap' : Nat} {r s : Sm} {T T' : TypeId} {fr fr' : Nat × Nat} (hf : c.P.funcs[f]? = some fn) (hname : (fn.name == "runtime.NumGoroutine") = false)
    (hb : fn.body.isNone = true) (hn : Extern.findNext fn = none) (he : Extern.find fn = some Extern.BytealgCompare.compare)
    (hx : ev c.n ρ x = .slice (some ⟨a, 0, none⟩) 32 cap) (hy : ev c.n ρ y = .slice (some ⟨b, 0, none⟩) 32 cap') (h1 : At M H a (.cells ⟨sC r⟩ T fr)) (h2 : At M H b (.cells ⟨sC s⟩ T' fr')) (h : K (.int .i64 (cmpS r s)) M) :
    Runs c H ⟨d, .call { callee := .value (.func f), args := #[x, y], argTypes := ats }, ot, pos, af, g⟩ ρ M K := fun F w m => by
  refine ⟨_, w, M, .inl ?_, m, h⟩
  have e := run_callFunc_extern hf hname hb hn he #[.slice (some ⟨a, 0, none⟩) 32 cap, .slice (some ⟨b, 0, none⟩) 32 cap'] w
  have e2 : (Extern.BytealgCompare.compare #[.slice (some ⟨a, 0, none⟩) 32 cap, .slice (some ⟨b, 0, none⟩) 32 cap']).run c.P w = .ok (.int .i64 (cmpS r s)) w := by
    change Sem.run c.P (do pure (goInt (Extern.BytealgCompare.cmp (← Extern.Bytes.bytesOf (.slice (some ⟨a, 0, none⟩) 32 cap)) (← Extern.Bytes.bytesOf (.slice (some ⟨b, 0, none⟩) 32 cap'))))) w = _
    simp only [Sem.run_bind, run_bytesOf (h1.heap m), run_bytesOf (h2.heap m), Sem.run_pure, Result.andThen]
    rw [Lib.cmp_eq]
    rfl
  rw [e2] at e
  have hfn : ev c.n ρ (.func f) = .func (.func f) #[] #[] := rfl
  simp [execOp, resolve, hfn, Deferred.ofValue, invoke, hx, hy, e, Result.andThen]
end
end Go.Proofs.YtfdeibbpfgolcaaGreat.Hs
/-! Walks, printed by a program of this session's own (gen.py). -/
namespace Go.Proofs.YtfdeibbpfgolcaaGreat.Hs
open Go Go.Proofs
set_option maxRecDepth 100000
set_option linter.unusedVariables false
set_option linter.unusedSimpArgs false
attribute [local irreducible] JL J CT wlo DT
theorem bcmp_ct (a b : Sm) (ba bb : Nat) (H : Heap) (h1 : H ba = some (.cells ⟨sC a⟩ 23 (0, 0))) (h2 : H bb = some (.cells ⟨sC b⟩ 23 (0, 0))) : CT Tryz.prog 56 ⟨[.slice (some ⟨ba, 0, none⟩) 32 32, .slice (some ⟨bb, 0, none⟩) 32 32]⟩ [] H (fun v N => v = iv (cmpS a b) ∧ N = []) := by
 refine Zk Tryz.func56 rfl rfl <| Zc <| Za <| JLA rfl <| Zb <| Zc <| Za <| JLM rfl <| JLM rfl <| JLr (Runs_cmp Tryz.func100 (by kernel_rfl) (by kernel_rfl) (by kernel_rfl) (by kernel_rfl) rfl rfl (At.im h1) (At.im h2) <| JLA rfl <| Zb <| Zl ?_)
 refine ⟨iv (cmpS a b), [], Ret.one rfl (RV.tmp rfl), Sub.nil, ?_⟩
 exact ⟨rfl, rfl⟩
theorem cmpf_ct (a b : Sm) (H : Heap) : CT Tryz.prog 55 ⟨[.agg ⟨sC a⟩, .agg ⟨sC b⟩]⟩ [] H (fun v N => v = iv (cmpS a b) ∧ N = []) := by
 refine Zk Tryz.func55 rfl rfl <| Zc <| Za <| JLr (Zp (l := sC a) rfl rfl fun b1 => JLr (Zp (l := sC b) rfl rfl fun b2 => JLA rfl <| Zb <| Zc <| ZL mixed #[0, 0, 3, 7] 2 [some 5, some 6] [] [] rfl (by kernel_rfl) rfl (by kernel_rfl) <| Dq (.slice (some ⟨b1, 0, none⟩) 32 32) (fun _ => Pu.sliceA Tryz.runUnderlying23 Tryz.sizeOf5 rfl) <| Dq (.slice (some ⟨b2, 0, none⟩) 32 32) (fun _ => Pu.sliceA Tryz.runUnderlying23 Tryz.sizeOf5 rfl) <| ZZ (M' := [(BX b2 (sC b) 23), (BX b1 (sC a) 23)]) rfl ?_))
 show JL _ _ _ [_, _] _ _ _
 refine Jc Tryz.call56 rfl (fun hin => bcmp_ct a b _ _ _ (hin 1 _ rfl _ _ List.mem_cons_self) (hin 0 _ rfl _ _ List.mem_cons_self)) rfl ?_
 rintro _ _ ⟨rfl, rfl⟩
 refine JLA rfl <| Zb <| Zl <| ⟨iv (cmpS a b), [], Ret.one rfl (RV.tmp rfl), Sub.nil, ?_⟩
 exact ⟨rfl, rfl⟩
end Go.Proofs.YtfdeibbpfgolcaaGreat.Hs
/-! The program's lists of digests are the reference's. Plain. -/
namespace Go.Proofs.YtfdeibbpfgolcaaGreat.Hs
open Go Go.Proofs
def Y1 (t : Tm) : L3 := rT t ⟨[], [], []⟩
/-- what the program's Refs hands back -/
def refE (t : Tm) : L3 := if ZI [t] = 0 then Y1 t else ⟨[], [], []⟩
theorem ref_eq {t : Tm} {k : Int} {l m : List Sm} (hm : risS m) (hx : ∀ x, x ∈ m ↔ (k, x) ∈ YC t) (hp : l.Perm (sel k (gT t []))) (hs : l.Pairwise fun x y => bef y x = false) : l = m := by
  have hn : (sel k (gT t [])).Nodup := sel_nodup (gT_nodup t [] List.nodup_nil)
  refine ris_unique (sorted_ris (hp.symm.nodup hn) hs) hm fun x => ?_
  rw [hp.mem_iff, sel_mem, gT_mem, hx]; simp
theorem ref_a {t : Tm} {l : List Sm} (hp : l.Perm (sel 6 (gT t []))) (hs : l.Pairwise fun x y => bef y x = false) : l = (Y1 t).a := ref_eq (Y2 t).1 (Y2 t).2.2.2.1 hp hs
theorem ref_b {t : Tm} {l : List Sm} (hp : l.Perm (sel 8 (gT t []))) (hs : l.Pairwise fun x y => bef y x = false) : l = (Y1 t).b := ref_eq (Y2 t).2.1 (Y2 t).2.2.2.2.1 hp hs
theorem ref_c {t : Tm} {l : List Sm} (hp : l.Perm (sel 11 (gT t []))) (hs : l.Pairwise fun x y => bef y x = false) : l = (Y1 t).c := ref_eq (Y2 t).2.2.1 (Y2 t).2.2.2.2.2 hp hs
theorem refL_len {t : Tm} (h : sizeT t ≤ 100000) : (Y1 t).a.length ≤ 100000 ∧ (Y1 t).b.length ≤ 100000 ∧ (Y1 t).c.length ≤ 100000 := by
  have h1 := rT_len t ⟨[], [], []⟩
  have h2 : len3 ⟨[], [], []⟩ = 0 := rfl
  rw [h2] at h1
  unfold len3 at h1
  unfold Y1
  omega
end Go.Proofs.YtfdeibbpfgolcaaGreat.Hs
/-! Walks, printed by a program of this session's own (gen.py). -/
namespace Go.Proofs.YtfdeibbpfgolcaaGreat.Hs
open Go Go.Proofs
set_option maxRecDepth 100000
set_option linter.unusedVariables false
set_option linter.unusedSimpArgs false
attribute [local irreducible] JL J CT wlo DT
theorem put1_ct (s sf sg : Sm) (bF bG : Nat) (H : Heap) (hF : H bF = some (.cells ⟨sC sf⟩ 23 (0, 0))) (hG : H bG = some (.cells ⟨sC sg⟩ 23 (0, 0))) : CT Tryz.prog 57 ⟨[.agg ⟨sC s⟩, pp bF 0, pp bG 0]⟩ [] H (fun v N => v = .agg ⟨sC (if s = sf then sg else s)⟩ ∧ N = []) := by
 refine Zk Tryz.func57 rfl rfl <| Zc <| Za <| JLr (Zp (l := sC s) rfl rfl fun b1 => JLr (Zh (l := sC zS) Tryz.zeroValue23 rfl fun b2 => Zb <| Zc <| Zc <| Za <| JLr (Zi Z3 rfl (At.bx 1 rfl) (Zu rfl) <| JLr (Zi Z3 rfl (At.im hF) (Zu rfl) <| JLn (eqS rfl rfl) <| Zb ?_))))
 refine Zg rfl (fun h3 => ?_) (fun h3 => ?_)
 ·replace h3 := dt h3
  refine Zc <| Za <| JLr (Zi Z3 rfl (At.im hG) (Zu rfl) <| JLr (Zd 0 (vs := sC sg) (l := sC sg) Z3 rfl rfl rfl rfl rfl (sC_ok _) (Zy rfl rfl) <| Zb <| Zl <| ⟨.agg ⟨sC sg⟩, [], Ret.one rfl (RV.cell Z3 rfl (At.bx 0 rfl) (Zu rfl)), Sub.nil, ?_⟩))
  exact ⟨by rw [if_pos h3], rfl⟩
 replace h3 := df h3
 refine Zm <| Zc <| Za <| JLr (Zi Z3 rfl (At.bx 1 rfl) (Zu rfl) <| JLr (Zd 0 (vs := sC s) (l := sC s) Z3 rfl rfl rfl rfl rfl (sC_ok _) (Zy rfl rfl) <| Zb <| Zl <| ⟨.agg ⟨sC s⟩, [], Ret.one rfl (RV.cell Z3 rfl (At.bx 0 rfl) (Zu rfl)), Sub.nil, ?_⟩))
 exact ⟨by rw [if_neg h3], rfl⟩
set_option maxHeartbeats 2000000 in
theorem replP_ct : ∀ (sf sg : Sm) (bF bG bU bP bW : Nat) (p : Pt) (cs : List Value) (k : Zf) (H : Heap), OP p cs k → H bF = some (.cells ⟨sC sf⟩ 23 (0, 0)) → H bG = some (.cells ⟨sC sg⟩ 23 (0, 0)) → H bU = some (.cells ⟨[.func (.func 57) ⟨[]⟩ ⟨[pp bF 0, pp bG 0]⟩]⟩ 112 (0, 0)) → H bP = some (.cells ⟨[.func (.func 58) ⟨[]⟩ ⟨[pp bP 0, pp bU 0]⟩]⟩ 90 (0, 0)) → H bW = some (.cells ⟨[.func (.func 59) ⟨[]⟩ ⟨[pp bU 0, pp bW 0, pp bP 0]⟩]⟩ 30 (0, 0)) → CT Tryz.prog 58 ⟨[.agg ⟨cs⟩, pp bP 0, pp bU 0]⟩ [k] H (fun v N => ∃ cs k, v = .agg ⟨cs⟩ ∧ N = [k] ∧ OP (rpP sf sg p) cs k) := by
 intro sf sg bF bG bU bP bW p
 induction p using Pt.ind with
 | h kind num ref kids ih =>
 intro cs k H hO hF hG hU hP hW
 obtain ⟨ks, es, k1, k2, rfl, hk, hn, ho1, ho2, rfl, hlK⟩ := OP_mk.1 hO
 refine Zk Tryz.func58 rfl rfl <| ZS (M' := [k1, k2]) (Sub.flat Sub.refl (by simp)) <| Zc <| Za <| JLr (Zp (l := pkP kind num ref ks) rfl rfl fun b1 => JLr (Zh (l := pkP 0 0 zS nS) Tryz.zeroValue54 rfl fun b2 => Zb <| Zc <| Zc <| Za <| JLq (pp b1 34) (Yv rfl rfl) <| JLr (Ze ty52 rfl (At.bx 1 rfl) (YG ..) ?_)))
 obtain ⟨a3, cap3, hv3⟩ := ho1.sl
 rw [(OPs_len ho2)] at hv3
 refine JLn (Pu.lenSl Tryz.runUnderlying52 hv3) <| JLM rfl <| Zb <| Zo <| ZT (fun k ρ M => ∃ (j : Nat) (es5 : List (List Value)) (k5 ca5 c05 : Zf), ρ 1 = pp bP 0 ∧ ρ 2 = pp bU 0 ∧ ρ 3 = pp b1 0 ∧ ρ 4 = pp b2 0 ∧ ρ 8 = iv ((kids.length : Int)) ∧ ρ 9 = iv ((j : Int)) ∧ Sub [(BX b1 (pkP kind num ref ks) 54), k5, ca5, c05, (BX b2 (pkP 0 0 zS nS) 54)] M ∧ j ≤ kids.length ∧ Own 54 35 ks es5 k5 ∧ es5.length = kids.length ∧ OPs (rpPs sf sg (kids.take j)) (es5.take j) ca5 ∧ OPs (kids.drop j) (es5.drop j) c05 ∧ k = kids.length - j) _ ⟨0, es, k1, [], k2, rfl, rfl, rfl, rfl, rfl, rfl, (Sub.cons 1 rfl (Sub.cons 1 rfl (Sub.emp (Sub.cons 1 rfl (Sk Sub.nil))))), Nat.zero_le _, ho1, OPs_len ho2, (by simpa [rpPs] using OPs.nil), (by simpa using ho2), rfl⟩ ?_
 rintro _ ρ4 _ ⟨j, es5, k5, ca5, c05, e5, e6, e7, e8, e9, e10, hm11, hj, ho5, hl5, hd5, hr5, rfl⟩
 obtain ⟨ρ12, rfl⟩ := Zn (uc e5 (uc e6 (uc e7 (uc e8 (uc e9 (uc e10 un))))))
 clear e5 e6 e7 e8 e9 e10
 refine ZS hm11 <| Zc <| Za <| JLn (Pu.lss rfl rfl) <| Zb <| Zc <| Zg rfl (fun h13 => ?_) (fun h13 => ?_)
 ·replace h13 := dt h13
  have h13n : j < kids.length := by omega
  obtain ⟨e5, kc5, c5, hE5, hO5, rfl, hR5⟩ := OPs.take hr5 h13n
  refine ZS (M' := [(BX b1 (pkP kind num ref ks) 54), k5, ca5, kc5, c5, (BX b2 (pkP 0 0 zS nS) 54)]) (Sub.flat Sub.refl (by simp)) <| Zm <| Zc <| Zo <| Zc <| Za <| JLM rfl <| JLA rfl <| Zb <| ZL mixed #[0, 1, 0, 0, 0, 16, 0, 112, 240, 504, 1023, 2047] 10 [some 12, some 13, some 14, some 15, some 16, some 17, some 18, some 19, some 20, some 21] [(9, 13)] [(9, fun _ _ vw qw => ∃ cs k, vw = .agg ⟨cs⟩ ∧ qw = [k] ∧ OP (rpP sf sg (kids[j])) cs k)] rfl (by kernel_rfl) rfl (by kernel_rfl) <| Dq (pp b1 34) (fun _ => Yv rfl rfl) <| Dl1 ty52 (At.bx 0 rfl) (YG ..) <| DM (fun _ => rfl) ?_
  refine Dl1 ty90 (At.im hP) rfl <| Dq (pp b1 34) (fun _ => Yv rfl rfl) <| Dl1 ty52 (At.bx 0 rfl) (YG ..) <| DM (fun _ => rfl) ?_
  obtain ⟨b16, cap16, row16, hv16, hm16, hs16⟩ := ho5.at' hE5
  refine Dq (pp b16 (0 + j * 35)) (fun _ => Pu.idx j Tryz.runUnderlying52 ZQ hv16 rfl rfl (by rw [hl5]; exact h13n)) <| Dl ZQ (At.k 1 rfl hm16) hs16 <| DJ_call1 3 rfl rfl (fun _ => rfl) Tryz.call58 (fun _ => rfl) rfl (fun hin => ih _ (List.getElem_mem h13n) _ _ _ hO5 (Hle.hu _ _ _ _ hF) (Hle.hu _ _ _ _ hG) (Hle.hu _ _ _ _ hU) (Hle.hu _ _ _ _ hP) (Hle.hu _ _ _ _ hW)) (fun _ => rfl) ?_
  rintro _ _ ⟨cs17, k17, rfl, rfl, hO17⟩
  refine ZZ (M' := [k17, (BX b1 (pkP kind num ref ks) 54), k5, ca5, c5, (BX b2 (pkP 0 0 zS nS) 54)]) rfl ?_
  show JL _ _ _ [_, _] _ _ _
  obtain ⟨b18, cap18, row18, hv18, hm18, hs18⟩ := ho5.at' hE5
  refine JLq (pp b18 (0 + j * 35)) (Pu.idx j Tryz.runUnderlying52 ZQ hv18 rfl rfl (by rw [hl5]; exact h13n)) <| JLr (Runs_storeOwn (i := 2) (j := j) (b := b18) ZQ rfl ho5 ⟨_, _, hv18⟩ rfl (by rw [hl5]; exact h13n) rfl rfl hO17.len hO17.ok fun k19 ho19 => Zb <| Za <| JLn (Pu.inc rfl rfl (by omega)) <| JLM rfl <| Zb <| ⟨_, ?_, (j + 1), (es5.set j cs17), k19, (ca5 ++ k17), c5, rfl, rfl, rfl, rfl, rfl, rfl, (Sub.cons 1 rfl (Sub.cons 1 rfl (Sub.join (Sub.cons 1 rfl (Sk (Sk (Sk Sub.nil))))))), ?_, ?_, ?_, ?_, ?_, rfl⟩)
  ·omega
  ·omega
  ·exact ho19
  ·rw [List.length_set]; exact hl5
  ·rw [rpPs_take _ _ _ _ h13n, take_set hE5]; exact OPs.snoc hO17 hd5
  exact hR5 _
 replace h13 := df h13
 have h13n : kids.length ≤ j := by omega
 refine ZB _ rfl <| Zc <| Zc <| Za <| JLq (pp b1 0) (YI rfl rfl) <| JLr (Ze ty3 rfl (At.bx 0 rfl) (pkP_0 ..) <| JLn (Pu.eql rfl rfl) <| Zb <| Zg rfl (fun h20 => ?_) (fun h20 => ?_))
 ·replace h20 := dt h20
  refine Za <| JLr (Ze ty112 rfl (At.im hU) rfl <| JLq (pp b1 2) (fa54_2 rfl rfl) <| JLr (Zi Z3 rfl (At.bx 0 rfl) (pkP_2 ..) <| Jc Tryz.call57 rfl (fun hin => put1_ct _ sf sg _ _ _ (Hle.hu _ _ _ _ hF) (Hle.hu _ _ _ _ hG)) rfl ?_))
  rintro _ _ ⟨rfl, rfl⟩
  refine JLq (pp b1 2) (fa54_2 rfl rfl) <| JLr (Zd 0 (vs := sC (if ref = sf then sg else ref)) (l := pkP kind num (if ref = sf then sg else ref) ks) Z3 rfl rfl rfl rfl rfl (sC_ok _) (pkP_s2 ..) <| Zb <| Zc <| Za <| JLr (Zi ZQ rfl (At.bx 0 rfl) (pkP_a ..) <| JLr (Zd 4 (vs := pkP kind num (if ref = sf then sg else ref) ks) (l := pkP kind num (if ref = sf then sg else ref) ks) ZQ rfl rfl rfl rfl rfl (pkP_ok ho5.one) (pkP_s ..) <| Zb <| Zl <| ⟨.agg ⟨pkP kind num (if ref = sf then sg else ref) ks⟩, [k5 ++ ca5], Ret.one rfl (RV.cell ZQ rfl (At.bx 4 rfl) (pkP_a ..)), (Sub.join (Sd (Sk (Sk Sub.nil)))), ?_⟩)))
  rw [List.take_of_length_le h13n, List.take_of_length_le (by rw [hl5]; exact h13n)] at hd5
  have hz : rpP sf sg (.mk kind num ref kids) = .mk kind num (if ref = sf then sg else ref) (rpPs sf sg kids) := by rw [rpP, ← put_refP]; simp [h20]
  rw [hz]
  exact ⟨_, _, rfl, rfl, OP_mk.2 ⟨_, _, _, _, rfl, hk, hn, ho5, hd5, rfl, by rw [rpPs_len]; exact hlK⟩⟩
 replace h20 := df h20
 refine Zm <| Zc <| Za <| JLr (Zi ZQ rfl (At.bx 0 rfl) (pkP_a ..) <| JLr (Zd 4 (vs := pkP kind num ref ks) (l := pkP kind num ref ks) ZQ rfl rfl rfl rfl rfl (pkP_ok ho5.one) (pkP_s ..) <| Zb <| Zl <| ⟨.agg ⟨pkP kind num ref ks⟩, [k5 ++ ca5], Ret.one rfl (RV.cell ZQ rfl (At.bx 4 rfl) (pkP_a ..)), (Sub.join (Sd (Sk (Sk Sub.nil)))), ?_⟩))
 rw [List.take_of_length_le h13n, List.take_of_length_le (by rw [hl5]; exact h13n)] at hd5
 have hz : rpP sf sg (.mk kind num ref kids) = .mk kind num ref (rpPs sf sg kids) := by rw [rpP, ← put_refP]; simp [h20]
 rw [hz]
 exact ⟨_, _, rfl, rfl, OP_mk.2 ⟨_, _, _, _, rfl, hk, hn, ho5, hd5, rfl, by rw [rpPs_len]; exact hlK⟩⟩
end Go.Proofs.YtfdeibbpfgolcaaGreat.Hs
/-! Walks, printed by a program of this session's own (gen.py). -/
namespace Go.Proofs.YtfdeibbpfgolcaaGreat.Hs
open Go Go.Proofs
set_option maxRecDepth 100000
set_option linter.unusedVariables false
set_option linter.unusedSimpArgs false
attribute [local irreducible] JL J CT wlo DT
set_option maxHeartbeats 4000000 in
theorem replW_ct : ∀ (sf sg : Sm) (bF bG bU bP bW : Nat) (t : Tm) (cs : List Value) (k : Zf) (H : Heap), OT t cs k → H bF = some (.cells ⟨sC sf⟩ 23 (0, 0)) → H bG = some (.cells ⟨sC sg⟩ 23 (0, 0)) → H bU = some (.cells ⟨[.func (.func 57) ⟨[]⟩ ⟨[pp bF 0, pp bG 0]⟩]⟩ 112 (0, 0)) → H bP = some (.cells ⟨[.func (.func 58) ⟨[]⟩ ⟨[pp bP 0, pp bU 0]⟩]⟩ 90 (0, 0)) → H bW = some (.cells ⟨[.func (.func 59) ⟨[]⟩ ⟨[pp bU 0, pp bW 0, pp bP 0]⟩]⟩ 30 (0, 0)) → CT Tryz.prog 59 ⟨[.agg ⟨cs⟩, pp bU 0, pp bW 0, pp bP 0]⟩ [k] H (fun v N => ∃ cs k, v = .agg ⟨cs⟩ ∧ N = [k] ∧ OT (rpT sf sg t) cs k) := by
 intro sf sg bF bG bU bP bW t
 induction t using Tm.ind with
 | h kind num ref kids cases ih ih' =>
 intro cs k H hO hF hG hU hP hW
 obtain ⟨ks, cv, es, es', k1, k2, k3, k4, rfl, hk, hn, ho1, ho2, ho3, ho4, rfl, hlK, hlC⟩ := OT_mk.1 hO
 refine Zk Tryz.func59 rfl rfl <| ZS (M' := [k1, k2, k3, k4]) (Sub.flat Sub.refl (by simp)) <| Zc <| Za <| JLr (Zp (l := pkT kind num ref ks cv) rfl rfl fun b1 => JLr (Zh (l := pkT 0 0 zS nS nS) Tryz.zeroValue27 rfl fun b2 => Zb <| Zc <| Zc <| Za <| JLq (pp b1 0) (ZO rfl rfl) <| JLr (Ze ty3 rfl (At.bx 1 rfl) (Z5 ..) <| Jc Tryz.call60 rfl (fun hin => fields_ct _ _) rfl ?_)))
 rintro _ _ ⟨rfl, rfl⟩
 refine JLq (.bool (fR kind)) (Pu.idxV 1 Tryz.runUnderlying114 ty4 rfl rfl rfl (by decide) rfl) <| Zb <| J_weak (N := fun ρ M => ρ 2 = pp bW 0 ∧ ρ 3 = pp bP 0 ∧ ρ 4 = pp b1 0 ∧ ρ 5 = pp b2 0 ∧ M = [(BX b2 (pkT 0 0 zS nS nS) 27), (BX b1 (pkT kind num ((if ZF kind = true ∧ ref = sf then sg else ref)) ks cv) 27), k1, k2, k3, k4]) ?_ ?_
 ·refine Zg rfl (fun h3 => ?_) (fun h3 => ?_)
  ·refine Za <| JLr (Ze ty112 rfl (At.im hU) rfl <| JLq (pp b1 2) (fa27_2 rfl rfl) <| JLr (Zi Z3 rfl (At.bx 1 rfl) (pkT_2 ..) <| Jc Tryz.call57 rfl (fun hin => put1_ct _ sf sg _ _ _ (Hle.hu _ _ _ _ hF) (Hle.hu _ _ _ _ hG)) rfl ?_))
   rintro _ _ ⟨rfl, rfl⟩
   refine JLq (pp b1 2) (fa27_2 rfl rfl) <| JLr (Zd 1 (vs := sC (if ref = sf then sg else ref)) (l := pkT kind num (if ref = sf then sg else ref) ks cv) Z3 rfl rfl rfl rfl rfl (sC_ok _) (pkT_s2 ..) <| Zb ?_)
   rw [show (if ZF kind = true ∧ ref = sf then sg else ref) = if ref = sf then sg else ref from by rw [← put_ref]; simp [h3]]
   exact ⟨rfl, rfl, rfl, rfl, rfl⟩
  refine Zm ?_
  rw [show (if ZF kind = true ∧ ref = sf then sg else ref) = ref from by rw [← put_ref]; simp [h3]]
  exact ⟨rfl, rfl, rfl, rfl, rfl⟩
 rintro ρ4 _ ⟨e5, e6, e7, e8, rfl⟩
 obtain ⟨ρ9, rfl⟩ := Zn (uc e5 (uc e6 (uc e7 (uc e8 un))))
 clear e5 e6 e7 e8
 refine Zc <| Zc <| Za <| JLq (pp b1 34) (Yb rfl rfl) <| JLr (Ze ty24 rfl (At.bx 1 rfl) (Z9 ..) ?_)
 obtain ⟨a10, cap10, hv10⟩ := ho1.sl
 rw [(OTs_len ho2)] at hv10
 refine JLn (Pu.lenSl Tryz.runUnderlying24 hv10) <| JLM rfl <| Zb <| Zo <| ZT (fun k ρ M => ∃ (j : Nat) (es5 : List (List Value)) (k5 ca5 c05 : Zf), ρ 2 = pp bW 0 ∧ ρ 3 = pp bP 0 ∧ ρ 4 = pp b1 0 ∧ ρ 5 = pp b2 0 ∧ ρ 20 = iv ((kids.length : Int)) ∧ ρ 21 = iv ((j : Int)) ∧ Sub [(BX b1 (pkT kind num ((if ZF kind = true ∧ ref = sf then sg else ref)) ks cv) 27), k5, ca5, c05, (BX b2 (pkT 0 0 zS nS nS) 27), k3, k4] M ∧ j ≤ kids.length ∧ Own 27 36 ks es5 k5 ∧ es5.length = kids.length ∧ OTs (rpTs sf sg (kids.take j)) (es5.take j) ca5 ∧ OTs (kids.drop j) (es5.drop j) c05 ∧ k = kids.length - j) _ ⟨0, es, k1, [], k2, rfl, rfl, rfl, rfl, rfl, rfl, (Sub.cons 1 rfl (Sub.cons 1 rfl (Sub.emp (Sub.cons 1 rfl (Sk (Sk (Sk Sub.nil))))))), Nat.zero_le _, ho1, OTs_len ho2, (by simpa [rpTs] using OTs.nil), (by simpa using ho2), rfl⟩ ?_
 rintro _ ρ11 _ ⟨j, es5, k5, ca5, c05, e12, e13, e14, e15, e16, e17, hm18, hj, ho5, hl5, hd5, hr5, rfl⟩
 obtain ⟨ρ19, rfl⟩ := Zn (uc e12 (uc e13 (uc e14 (uc e15 (uc e16 (uc e17 un))))))
 clear e12 e13 e14 e15 e16 e17
 refine ZS hm18 <| Zc <| Za <| JLn (Pu.lss rfl rfl) <| Zb <| Zc <| Zg rfl (fun h20 => ?_) (fun h20 => ?_)
 ·replace h20 := dt h20
  have h20n : j < kids.length := by omega
  obtain ⟨e5, kc5, c5, hE5, hO5, rfl, hR5⟩ := OTs.take hr5 h20n
  refine ZS (M' := [(BX b1 (pkT kind num ((if ZF kind = true ∧ ref = sf then sg else ref)) ks cv) 27), k5, ca5, kc5, c5, (BX b2 (pkT 0 0 zS nS nS) 27), k3, k4]) (Sub.flat Sub.refl (by simp)) <| Zm <| Zc <| Zo <| Zc <| Za <| JLM rfl <| JLA rfl <| Zb <| ZL mixed #[0, 1, 0, 0, 0, 16, 0, 112, 240, 504, 1023, 2047] 10 [some 24, some 25, some 26, some 27, some 28, some 29, some 30, some 31, some 32, some 33] [(9, 13)] [(9, fun _ _ vw qw => ∃ cs k, vw = .agg ⟨cs⟩ ∧ qw = [k] ∧ OT (rpT sf sg (kids[j])) cs k)] rfl (by kernel_rfl) rfl (by kernel_rfl) <| Dq (pp b1 34) (fun _ => Yb rfl rfl) <| Dl1 ty24 (At.bx 0 rfl) (Z9 ..) <| DM (fun _ => rfl) ?_
  refine Dl1 ty30 (At.im hW) rfl <| Dq (pp b1 34) (fun _ => Yb rfl rfl) <| Dl1 ty24 (At.bx 0 rfl) (Z9 ..) <| DM (fun _ => rfl) ?_
  obtain ⟨b23, cap23, row23, hv23, hm23, hs23⟩ := ho5.at' hE5
  refine Dq (pp b23 (0 + j * 36)) (fun _ => Pu.idx j Tryz.runUnderlying24 Zs hv23 rfl rfl (by rw [hl5]; exact h20n)) <| Dl Zs (At.k 1 rfl hm23) hs23 <| DJ_call1 3 rfl rfl (fun _ => rfl) Tryz.call59 (fun _ => rfl) rfl (fun hin => ih _ (List.getElem_mem h20n) _ _ _ hO5 (Hle.hu _ _ _ _ hF) (Hle.hu _ _ _ _ hG) (Hle.hu _ _ _ _ hU) (Hle.hu _ _ _ _ hP) (Hle.hu _ _ _ _ hW)) (fun _ => rfl) ?_
  rintro _ _ ⟨cs24, k24, rfl, rfl, hO24⟩
  refine ZZ (M' := [k24, (BX b1 (pkT kind num ((if ZF kind = true ∧ ref = sf then sg else ref)) ks cv) 27), k5, ca5, c5, (BX b2 (pkT 0 0 zS nS nS) 27), k3, k4]) rfl ?_
  show JL _ _ _ [_, _] _ _ _
  obtain ⟨b25, cap25, row25, hv25, hm25, hs25⟩ := ho5.at' hE5
  refine JLq (pp b25 (0 + j * 36)) (Pu.idx j Tryz.runUnderlying24 Zs hv25 rfl rfl (by rw [hl5]; exact h20n)) <| JLr (Runs_storeOwn (i := 2) (j := j) (b := b25) Zs rfl ho5 ⟨_, _, hv25⟩ rfl (by rw [hl5]; exact h20n) rfl rfl hO24.len hO24.ok fun k26 ho26 => Zb <| Za <| JLn (Pu.inc rfl rfl (by omega)) <| JLM rfl <| Zb <| ⟨_, ?_, (j + 1), (es5.set j cs24), k26, (ca5 ++ k24), c5, rfl, rfl, rfl, rfl, rfl, rfl, (Sub.cons 1 rfl (Sub.cons 1 rfl (Sub.join (Sub.cons 1 rfl (Sk (Sk (Sk (Sk (Sk Sub.nil))))))))), ?_, ?_, ?_, ?_, ?_, rfl⟩)
  ·omega
  ·omega
  ·exact ho26
  ·rw [List.length_set]; exact hl5
  ·rw [rpTs_take _ _ _ _ h20n, take_set hE5]; exact OTs.snoc hO24 hd5
  exact hR5 _
 replace h20 := df h20
 have h20n : kids.length ≤ j := by omega
 refine ZB _ rfl <| Zc <| Zc <| Za <| JLq (pp b1 35) (Yw rfl rfl) <| JLr (Ze ty25 rfl (At.bx 0 rfl) (Yj ..) ?_)
 obtain ⟨a27, cap27, hv27⟩ := ho3.sl
 rw [(OCs_len ho4)] at hv27
 refine JLn (Pu.lenSl Tryz.runUnderlying25 hv27) <| JLM rfl <| Zb <| Zo ?_
 rw [List.take_of_length_le h20n, List.take_of_length_le (by rw [hl5]; exact h20n)] at hd5
 refine ZT (fun k ρ M => ∃ (j : Nat) (es7 : List (List Value)) (k7 ca7 c07 : Zf), ρ 2 = pp bW 0 ∧ ρ 3 = pp bP 0 ∧ ρ 4 = pp b1 0 ∧ ρ 5 = pp b2 0 ∧ ρ 37 = cv ∧ ρ 38 = iv ((cases.length : Int)) ∧ ρ 39 = iv ((j : Int)) ∧ Sub [(BX b1 (pkT kind num ((if ZF kind = true ∧ ref = sf then sg else ref)) ks cv) 27), k7, ca7, c07, k5, ca5, c05, (BX b2 (pkT 0 0 zS nS nS) 27)] M ∧ j ≤ cases.length ∧ Own 56 71 cv es7 k7 ∧ es7.length = cases.length ∧ OCs (rpCs sf sg (cases.take j)) (es7.take j) ca7 ∧ OCs (cases.drop j) (es7.drop j) c07 ∧ k = cases.length - j) _ ⟨0, es', k3, [], k4, rfl, rfl, rfl, rfl, rfl, rfl, rfl, (Sk (Sub.cons 4 rfl (Sub.emp (Sub.cons 4 rfl (Sk (Sk (Sk (Sk Sub.nil)))))))), Nat.zero_le _, ho3, OCs_len ho4, (by simpa [rpCs] using OCs.nil), (by simpa using ho4), rfl⟩ ?_
 rintro _ ρ28 _ ⟨j, es7, k7, ca7, c07, e29, e30, e31, e32, e33, e34, e35, hm36, hj, ho7, hl7, hd7, hr7, rfl⟩
 obtain ⟨ρ37, rfl⟩ := Zn (uc e29 (uc e30 (uc e31 (uc e32 (uc e33 (uc e34 (uc e35 un)))))))
 clear e29 e30 e31 e32 e33 e34 e35
 refine ZS hm36 <| Zc <| Za <| JLn (Pu.lss rfl rfl) <| Zb <| Zc <| Zg rfl (fun h38 => ?_) (fun h38 => ?_)
 ·replace h38 := dt h38
  have h38n : j < cases.length := by omega
  obtain ⟨ea7, eb7, ka7, kb7, c7, hE7, hA7, hB7, rfl, hR7⟩ := OCs.take2 hr7 h38n
  refine ZS (M' := [(BX b1 (pkT kind num ((if ZF kind = true ∧ ref = sf then sg else ref)) ks cv) 27), k7, ca7, ka7, kb7, c7, k5, ca5, c05, (BX b2 (pkT 0 0 zS nS nS) 27)]) (Sub.flat Sub.refl (by simp)) <| Zm <| Zc <| Zo <| Zc <| Za <| JLM rfl ?_
  obtain ⟨b39, cap39, row39, hv39, hm39, hs39⟩ := ho7.at' hE7
  refine JLq (pp b39 (0 + j * 71)) (Pu.idx j Tryz.runUnderlying25 YR hv39 rfl rfl (by rw [hl7]; exact h38n)) <| JLr (Zi YR rfl (At.k 1 rfl hm39) hs39 <| JLr (Zh (l := (pkP 0 0 zS nS) ++ (pkT 0 0 zS nS nS)) Tryz.zeroValue56 rfl fun b40 => JLA rfl <| JLr (Zd 0 (vs := ea7 ++ eb7) (l := ea7 ++ eb7) YR rfl rfl rfl rfl (ZR hA7.len hB7.len) (Z2 hA7.ok hB7.ok) (Zy (n := 71) rfl (ZR hA7.len hB7.len)) <| Zb <| ZL mixed #[0, 1, 0, 0, 0, 16, 56, 0, 0, 256, 1016, 2040, 4095, 8191] 12 [some 44, some 45, some 46, some 47, some 48, some 49, some 50, some 51, some 52, some 53, some 54, some 55] [(6, 16), (10, 17)] [(6, fun _ _ vw qw => ∃ cs k, vw = .agg ⟨cs⟩ ∧ qw = [k] ∧ OP (rpP sf sg (cases[j].1)) cs k), (10, fun _ _ vw qw => ∃ cs k, vw = .agg ⟨cs⟩ ∧ qw = [k] ∧ OT (rpT sf sg (cases[j].2)) cs k)] rfl (by kernel_rfl) rfl (by kernel_rfl) <| Dq (pp b1 35) (fun _ => Yw rfl rfl) <| Dl1 ty25 (At.bx 1 rfl) (Yj ..) <| DM (fun _ => rfl) <| Dl1 ty90 (At.im hP) rfl <| Dq (pp b40 0) (fun _ => fa56_0 rfl rfl) <| Dl ZQ (At.bx 0 rfl) (sub_l hA7.len) ?_)))
  refine DJ_call1 4 rfl rfl (fun _ => rfl) Tryz.call58 (fun _ => rfl) rfl (fun hin => replP_ct sf sg _ _ _ _ _ _ _ _ _ hA7 (Hle.hu _ _ _ _ hF) (Hle.hu _ _ _ _ hG) (Hle.hu _ _ _ _ hU) (Hle.hu _ _ _ _ hP) (Hle.hu _ _ _ _ hW)) (fun _ => rfl) ?_
  rintro _ _ ⟨cs43, k43, rfl, rfl, hO43⟩
  refine Dl1 ty30 (At.im hW) rfl <| Dq (pp b40 35) (fun _ => fa56_1 rfl rfl) <| Dl Zs (At.bx 0 rfl) (sub_r hA7.len hB7.len) <| DJ_call1 5 rfl rfl (fun _ => rfl) Tryz.call59 (fun _ => rfl) rfl (fun hin => ih' _ (List.getElem_mem h38n) _ _ _ hB7 (Hle.hu _ _ _ _ hF) (Hle.hu _ _ _ _ hG) (Hle.hu _ _ _ _ hU) (Hle.hu _ _ _ _ hP) (Hle.hu _ _ _ _ hW)) (fun _ => rfl) ?_
  rintro _ _ ⟨cs44, k44, rfl, rfl, hO44⟩
  refine Dq (.agg ⟨cs43 ++ cs44⟩) (fun _ => Pu.build (pv := [(0, .agg ⟨cs43⟩), (1, .agg ⟨cs44⟩)]) (l := cs43 ++ cs44) rfl (bld56_0_1 hO43.len hO44.len)) <| ZZ (M' := [k44, k43, (BX b40 (ea7 ++ eb7) 56), (BX b1 (pkT kind num ((if ZF kind = true ∧ ref = sf then sg else ref)) ks cv) 27), k7, ca7, c7, k5, ca5, c05, (BX b2 (pkT 0 0 zS nS nS) 27)]) rfl ?_
  show JL _ _ _ [_, _] _ _ _
  obtain ⟨b45, cap45, row45, hv45, hm45, hs45⟩ := ho7.at' hE7
  refine JLq (pp b45 (0 + j * 71)) (Pu.idx j Tryz.runUnderlying25 YR hv45 rfl rfl (by rw [hl7]; exact h38n)) <| JLr (Runs_storeOwn (i := 4) (j := j) (b := b45) YR rfl ho7 ⟨_, _, hv45⟩ rfl (by rw [hl7]; exact h38n) rfl rfl (ZR hO43.len hO44.len) (Z2 hO43.ok hO44.ok) fun k46 ho46 => Zb <| Za <| JLn (Pu.inc rfl rfl (by omega)) <| JLM rfl <| Zb <| ⟨_, ?_, (j + 1), (es7.set j (cs43 ++ cs44)), k46, (ca7 ++ (k43 ++ k44)), c7, rfl, rfl, rfl, rfl, rfl, rfl, rfl, (Sub.cons 3 rfl (Sub.cons 3 rfl (Sub.join3 (Sub.cons 3 rfl (Sub.cons 1 rfl (Sk (Sd (Sk (Sk (Sk (Sk (Sk Sub.nil)))))))))))), ?_, ?_, ?_, ?_, ?_, rfl⟩)
  ·omega
  ·omega
  ·exact ho46
  ·rw [List.length_set]; exact hl7
  ·rw [rpCs_take _ _ _ _ h38n, take_set hE7]; exact OCs.snoc hO43 hO44 hd7
  exact hR7 _
 replace h38 := df h38
 have h38n : cases.length ≤ j := by omega
 refine ZB _ rfl <| Zc <| Za <| JLr (Zi Zs rfl (At.bx 0 rfl) (ZY ..) <| JLr (Zd 7 (vs := pkT kind num ((if ZF kind = true ∧ ref = sf then sg else ref)) ks cv) (l := pkT kind num ((if ZF kind = true ∧ ref = sf then sg else ref)) ks cv) Zs rfl rfl rfl rfl rfl (Zz ho5.one ho7.one) (Z4 ..) <| Zb <| Zl <| ⟨.agg ⟨pkT kind num ((if ZF kind = true ∧ ref = sf then sg else ref)) ks cv⟩, [k5 ++ (ca5 ++ (k7 ++ ca7))], Ret.one rfl (RV.cell Zs rfl (At.bx 7 rfl) (ZY ..)), (Sub.join4 (Sd (Sub.cons 3 rfl (Sub.cons 3 rfl (Sk (Sk Sub.nil)))))), ?_⟩))
 rw [List.take_of_length_le h38n, List.take_of_length_le (by rw [hl7]; exact h38n)] at hd7
 rw [rpT]
 exact ⟨_, _, rfl, rfl, OT_mk.2 ⟨_, _, _, _, _, _, _, _, rfl, hk, hn, ho5, hd5, ho7, hd7, rfl, by rw [rpTs_len]; exact hlK, by rw [rpCs_len]; exact hlC⟩⟩
end Go.Proofs.YtfdeibbpfgolcaaGreat.Hs
/-! Walks, printed by a program of this session's own (gen.py). -/
namespace Go.Proofs.YtfdeibbpfgolcaaGreat.Hs
open Go Go.Proofs
set_option maxRecDepth 100000
set_option linter.unusedVariables false
set_option linter.unusedSimpArgs false
attribute [local irreducible] JL J CT wlo DT
theorem replE_ct (t : Tm) (sf sg : Sm) (cs : List Value) (H : Heap) (ht : RT H cs t) : CT Tryz.prog 13 ⟨[.agg ⟨cs⟩, .agg ⟨sC sf⟩, .agg ⟨sC sg⟩]⟩ [] H (fun v N => ∃ cs k, v = .tuple ⟨[.agg ⟨cs⟩, iv (rpE sf sg t).2]⟩ ∧ N = [k] ∧ OT (rpE sf sg t).1 cs k) := by
 refine Zk Tryz.func13 rfl rfl <| Zc <| Za <| JLr (Zp (l := cs) rfl rfl fun b1 => JLr (Zp (l := sC sf) rfl rfl fun b2 => JLr (Zp (l := sC sg) rfl rfl fun b3 => JLr (Zh (l := pkT 0 0 zS nS nS) Tryz.zeroValue27 rfl fun b4 => JLA rfl <| Zb <| Zc <| Zc <| Za <| JLr (Zi Zs rfl (At.bx 3 rfl) (Zu (Zv ht)) ?_)))))
 refine JLr (Zq (vs := [.agg ⟨cs⟩]) [cs] Tryz.runUnderlying24 el27 rfl rfl (by intro e he; simp only [List.mem_cons, List.not_mem_nil, or_false] at he; subst he; exact (Zv ht)) rfl (by decide) fun b5 k5 ho5 hk5 => Jc Tryz.call49 rfl (fun hin => right_ct _ _ _ (Own.rd1 ho5 (hin 0 _ rfl) (RT.mono (Hle.hu _ _) ht))) rfl ?_)
 rintro _ _ ⟨rfl, rfl⟩
 refine JLA rfl <| Zb <| Zc <| Za <| JLM rfl <| JLn (Pu.neq rfl rfl) <| Zb <| Zg rfl (fun h6 => ?_) (fun h6 => ?_)
 ·replace h6 := nt h6
  replace h6 := df h6
  refine Zc <| Za <| JLq (.agg ⟨pkT 0 0 zS nS nS⟩) (Pu.build (pv := []) (l := pkT 0 0 zS nS nS) rfl (bld27_ )) <| JLM rfl <| JLr (Zd 1 (vs := pkT 0 0 zS nS nS) (l := pkT 0 0 zS nS nS) Zs rfl rfl rfl rfl rfl (Zz rfl rfl) (Z4 ..) <| JLA rfl <| Zb <| Zl <| ⟨.tuple ⟨[.agg ⟨pkT 0 0 zS nS nS⟩, iv (ZI [t])]⟩, [[]], Ret.two rfl (RV.cell Zs rfl (At.bx 1 rfl) (ZY ..)) (RV.tmp rfl), (Sub.emp Sub.nil), ?_⟩)
  have hx2 : rpE sf sg t = (zT, ZI [t]) := by rw [rpE, if_neg (by assumption)]
  exact ⟨_, _, by rw [hx2], rfl, by rw [hx2]; exact OT_zero⟩
 replace h6 := nf h6
 replace h6 := dt h6
 refine Zm <| Zc ?_
 have hrt : ZI [t] = 0 := by assumption
 refine Za <| JLq (.func (.func 57) ⟨[]⟩ ⟨[pp b2 0, pp b3 0]⟩) (Pu.makeFunc rfl rfl) <| JLr (Zh (l := [.nilFunc]) Tryz.zeroValue112 rfl fun b7 => JLr (Zd 0 (vs := [.func (.func 57) ⟨[]⟩ ⟨[pp b2 0, pp b3 0]⟩]) (l := [.func (.func 57) ⟨[]⟩ ⟨[pp b2 0, pp b3 0]⟩]) ty112 rfl rfl rfl rfl rfl (Zj rfl Zt) rfl <| Zb <| Zc <| Za <| JLr (Zh (l := [.nilFunc]) Tryz.zeroValue90 rfl fun b8 => Zb <| Zc <| Za <| JLq (.func (.func 58) ⟨[]⟩ ⟨[pp b8 0, pp b7 0]⟩) (Pu.makeFunc rfl rfl) <| JLr (Zd 0 (vs := [.func (.func 58) ⟨[]⟩ ⟨[pp b8 0, pp b7 0]⟩]) (l := [.func (.func 58) ⟨[]⟩ ⟨[pp b8 0, pp b7 0]⟩]) ty90 rfl rfl rfl rfl rfl (Zj rfl Zt) rfl ?_))))
 refine Zb <| Zc <| Za <| JLr (Zh (l := [.nilFunc]) Tryz.zeroValue30 rfl fun b9 => Zb <| Zc <| Za <| JLq (.func (.func 59) ⟨[]⟩ ⟨[pp b7 0, pp b9 0, pp b8 0]⟩) (Pu.makeFunc rfl rfl) <| JLr (Zd 0 (vs := [.func (.func 59) ⟨[]⟩ ⟨[pp b7 0, pp b9 0, pp b8 0]⟩]) (l := [.func (.func 59) ⟨[]⟩ ⟨[pp b7 0, pp b9 0, pp b8 0]⟩]) ty30 rfl rfl rfl rfl rfl (Zj rfl Zt) rfl <| Zb <| Zc <| ZL mixed #[0, 0, 2, 7, 15, 31] 3 [some 22, some 23, some 24] [] [(2, fun _ _ vw qw => ∃ cs k, vw = .agg ⟨cs⟩ ∧ qw = [k] ∧ OT (ownQ t) cs k)] rfl (by kernel_rfl) rfl (by kernel_rfl) <| Dl1 ty30 (At.bx 0 rfl) rfl ?_))
 refine Dl Zs (At.bx 7 rfl) (Zu (Zv ht)) ?_
 refine Dc rfl Tryz.call61 (fun _ => rfl) (fun hin => ownQ_ct _ _ _ (RT.mono (Hle.hu _ _) ht) (by have := (ZX (YV hrt)).1; omega) (ZX (YV hrt)).2.1) ?_
 rintro _ _ ⟨cs11, k11, rfl, rfl, hO11⟩
 refine ZZ (M' := [k11, (BX b9 [.func (.func 59) ⟨[]⟩ ⟨[pp b7 0, pp b9 0, pp b8 0]⟩] 30), (BX b8 [.func (.func 58) ⟨[]⟩ ⟨[pp b8 0, pp b7 0]⟩] 90), (BX b7 [.func (.func 57) ⟨[]⟩ ⟨[pp b2 0, pp b3 0]⟩] 112), k5, (BX b4 (pkT 0 0 zS nS nS) 27), (BX b3 (sC sg) 23), (BX b2 (sC sf) 23), (BX b1 cs 27)]) rfl ?_
 show JL _ _ _ [_, _, _] _ _ _
 refine Zr 0 rfl Tryz.call59 rfl rfl (fun hin => replW_ct sf sg b2 b3 b7 b8 b9 _ _ _ _ hO11 (hin 6 _ rfl _ _ List.mem_cons_self) (hin 5 _ rfl _ _ List.mem_cons_self) (hin 2 _ rfl _ _ List.mem_cons_self) (hin 1 _ rfl _ _ List.mem_cons_self) (hin 0 _ rfl _ _ List.mem_cons_self)) rfl ?_
 rintro _ _ ⟨cs12, k12, rfl, rfl, hO12⟩
 refine JLr (Zd 5 (vs := cs12) (l := cs12) Zs rfl rfl rfl rfl hO12.len hO12.ok (Zy (n := 36) rfl hO12.len) <| JLA rfl <| Zb <| Zl <| ⟨.tuple ⟨[.agg ⟨cs12⟩, iv 0]⟩, [k12], Ret.two rfl (RV.cell Zs rfl (At.bx 5 rfl) (Zu hO12.len)) (RV.tmp rfl), (Sk Sub.nil), ?_⟩)
 have hx2 : rpE sf sg t = (rpT sf sg t, 0) := by rw [rpE, if_pos hrt]
 exact ⟨_, _, by rw [hx2], rfl, by rw [hx2]; have hO := hO12; rw [own_eq (ZX (YV hrt)).2.2.1] at hO; exact hO⟩
end Go.Proofs.YtfdeibbpfgolcaaGreat.Hs
/-! Digests that are drawn; a term with a digest exchanged: its errors, its digests. Plain. -/
namespace Go.Proofs.YtfdeibbpfgolcaaGreat.Hs
open Go Go.Proofs
set_option maxRecDepth 100000
theorem low_hdsP (p : Pt) : lowP p → ∀ h ∈ hdsP p, lowS h.2 := by
  induction p using Pt.ind with
  | h k n r kids ih =>
    intro hl h hh
    rw [lowP] at hl
    rw [hdsP, List.mem_append] at hh
    rcases hh with hh | hh
    · split at hh
      · rw [List.mem_singleton] at hh; subst hh; exact hl.1
      · cases hh
    · have hl2 := hl.2
      clear hl
      induction kids with
      | nil => rw [hdsPs] at hh; cases hh
      | cons q ps ihq =>
        rw [hdsPs, List.mem_append] at hh
        rw [lowPs] at hl2
        rcases hh with hh | hh
        · exact ih q (by simp) hl2.1 h hh
        · exact ihq (fun z hz => ih z (by simp [hz])) hh hl2.2
theorem low_hds (t : Tm) : YQ t → ∀ h ∈ YC t, lowS h.2 := by
  induction t using Tm.ind with
  | h k n r kids cases ih ih' =>
    intro hl h hh
    rw [YQ] at hl
    rw [YC, List.mem_append, List.mem_append] at hh
    rcases hh with hh | hh | hh
    · split at hh
      · cases hh
      · rw [List.mem_singleton] at hh; subst hh; exact hl.1
    · have hl2 := hl.2.1
      clear hl
      induction kids with
      | nil => rw [hdsTs] at hh; cases hh
      | cons q ps ihq =>
        rw [hdsTs, List.mem_append] at hh
        rw [lowTs] at hl2
        rcases hh with hh | hh
        · exact ih q (by simp) hl2.1 h hh
        · exact ihq (fun z hz => ih z (by simp [hz])) hh hl2.2
    · have hl2 := hl.2.2
      clear hl
      induction cases with
      | nil => rw [hdsCs] at hh; cases hh
      | cons q ps ihq =>
        obtain ⟨p, t⟩ := q
        rw [hdsCs, List.mem_append, List.mem_append] at hh
        rw [lowCs] at hl2
        rcases hh with hh | hh | hh
        · exact low_hdsP p hl2.1 h hh
        · exact ih' (p, t) (by simp) hl2.2.1 h hh
        · exact ihq (fun z hz => ih' z (by simp [hz])) hh hl2.2.2
/-- the digest that is put in the place of another one -/
def toS : Sm := (zS.set 0 201).set 1 7
def frS : Sm := zS.set 0 200
theorem toS0 : toS[0] = 201 := by decide
theorem low_to {r : Sm} (h : lowS r) : r ≠ toS := by
  obtain ⟨n, hn, rfl⟩ := h
  intro e
  have h0 : (zS.set 0 n)[0] = toS[0] := by rw [e]
  have e1 : (zS.set 0 n)[0] = n := by simp
  rw [e1, toS0] at h0
  subst h0
  exact absurd hn (by decide)
theorem fr_to : frS ≠ toS := by
  intro e
  have h0 : frS[0] = toS[0] := by rw [e]
  exact absurd h0 (by decide)
/-! a digest exchanged -/
theorem srt_has (k : Int) : ZF k = true ↔ srt k ≠ 0 := by
  unfold ZF srt
  simp only [Bool.or_eq_true, decide_eq_true_eq]
  constructor
  · intro h; (repeat' split) <;> first | decide | omega
  · intro h; by_cases h1 : k = 6 <;> by_cases h2 : k = 8 <;> by_cases h3 : k = 11 ∨ k = 12 <;> simp_all <;> omega
def xch (f g : Sm) (h : Hd) : Hd := (h.1, if h.2 = f then g else h.2)
theorem hdsP_rp (f g : Sm) (p : Pt) : hdsP (rpP f g p) = (hdsP p).map (xch f g) := by
  induction p using Pt.ind with
  | h k n r kids ih =>
    have : ∀ (ps : List Pt), (∀ p ∈ ps, hdsP (rpP f g p) = (hdsP p).map (xch f g)) → hdsPs (rpPs f g ps) = (hdsPs ps).map (xch f g) := by
      intro ps
      induction ps with
      | nil => intro _; rfl
      | cons p ps ihp => intro h; rw [rpPs, hdsPs, hdsPs, List.map_append, h p (by simp), ihp (fun q hq => h q (by simp [hq]))]
    rw [rpP, hdsP, hdsP, List.map_append, this kids ih]
    congr 1
    split
    · rename_i hk; simp [xch, hk]
    · rfl
theorem hdsT_rp (f g : Sm) (t : Tm) : YC (rpT f g t) = (YC t).map (xch f g) := by
  induction t using Tm.ind with
  | h k n r kids cases ih ih' =>
    have h1 : ∀ (ps : List Tm), (∀ p ∈ ps, YC (rpT f g p) = (YC p).map (xch f g)) → hdsTs (rpTs f g ps) = (hdsTs ps).map (xch f g) := by
      intro ps
      induction ps with
      | nil => intro _; rfl
      | cons p ps ihp => intro h; rw [rpTs, hdsTs, hdsTs, List.map_append, h p (by simp), ihp (fun q hq => h q (by simp [hq]))]
    have h2 : ∀ (ps : List (Pt × Tm)), (∀ p ∈ ps, YC (rpT f g p.2) = (YC p.2).map (xch f g)) → hdsCs (rpCs f g ps) = (hdsCs ps).map (xch f g) := by
      intro ps
      induction ps with
      | nil => intro _; rfl
      | cons c ps ihp => obtain ⟨p, t⟩ := c; intro h; rw [rpCs, hdsCs, hdsCs, List.map_append, List.map_append, hdsP_rp, h (p, t) (by simp), ihp (fun q hq => h q (by simp [hq]))]
    rw [rpT, YC, YC, List.map_append, List.map_append, h1 kids ih, h2 cases ih']
    congr 1
    by_cases hk : srt k = 0
    · rw [if_pos hk, if_pos hk]; rfl
    · rw [if_neg hk, if_neg hk]
      have := (srt_has k).2 hk
      simp [xch, this]
theorem rpP_back {f g : Sm} (p : Pt) : (∀ h ∈ hdsP p, h.2 ≠ g) → rpP g f (rpP f g p) = p := by
  induction p using Pt.ind with
  | h k n r kids ih =>
    intro hn
    rw [rpP, rpP]
    have h1 : ∀ (ps : List Pt), (∀ p ∈ ps, (∀ h ∈ hdsP p, h.2 ≠ g) → rpP g f (rpP f g p) = p) → (∀ h ∈ hdsPs ps, h.2 ≠ g) → rpPs g f (rpPs f g ps) = ps := by
      intro ps
      induction ps with
      | nil => intro _ _; rfl
      | cons p ps ihp =>
        intro h q
        rw [hdsPs] at q
        rw [rpPs, rpPs, h p (by simp) (fun x hx => q x (List.mem_append.2 (.inl hx))), ihp (fun q hq => h q (by simp [hq])) (fun x hx => q x (List.mem_append.2 (.inr hx)))]
    rw [hdsP] at hn
    rw [h1 kids ih (fun x hx => hn x (List.mem_append.2 (.inr hx)))]
    congr 1
    by_cases hk : k = 3
    · have hr : r ≠ g := hn (8, r) (List.mem_append.2 (.inl (by simp [hk])))
      by_cases hrf : r = f
      · simp [hk, hrf]
      · simp [hk, hrf, hr]
    · simp [hk]
theorem rp_back {f g : Sm} (t : Tm) : (∀ h ∈ YC t, h.2 ≠ g) → rpT g f (rpT f g t) = t := by
  induction t using Tm.ind with
  | h k n r kids cases ih ih' =>
    intro hn
    rw [rpT, rpT]
    have h1 : ∀ (ps : List Tm), (∀ p ∈ ps, (∀ h ∈ YC p, h.2 ≠ g) → rpT g f (rpT f g p) = p) → (∀ h ∈ hdsTs ps, h.2 ≠ g) → rpTs g f (rpTs f g ps) = ps := by
      intro ps
      induction ps with
      | nil => intro _ _; rfl
      | cons p ps ihp =>
        intro h q
        rw [hdsTs] at q
        rw [rpTs, rpTs, h p (by simp) (fun x hx => q x (List.mem_append.2 (.inl hx))), ihp (fun q hq => h q (by simp [hq])) (fun x hx => q x (List.mem_append.2 (.inr hx)))]
    have h2 : ∀ (ps : List (Pt × Tm)), (∀ p ∈ ps, (∀ h ∈ YC p.2, h.2 ≠ g) → rpT g f (rpT f g p.2) = p.2) → (∀ h ∈ hdsCs ps, h.2 ≠ g) → rpCs g f (rpCs f g ps) = ps := by
      intro ps
      induction ps with
      | nil => intro _ _; rfl
      | cons c ps ihp =>
        obtain ⟨p, t⟩ := c
        intro h q
        rw [hdsCs] at q
        rw [rpCs, rpCs, rpP_back p (fun x hx => q x (List.mem_append.2 (.inl hx))), h (p, t) (by simp) (fun x hx => q x (List.mem_append.2 (.inr (List.mem_append.2 (.inl hx))))), ihp (fun q hq => h q (by simp [hq])) (fun x hx => q x (List.mem_append.2 (.inr (List.mem_append.2 (.inr hx)))))]
    rw [YC] at hn
    rw [h1 kids ih (fun x hx => hn x (List.mem_append.2 (.inr (List.mem_append.2 (.inl hx))))), h2 cases ih' (fun x hx => hn x (List.mem_append.2 (.inr (List.mem_append.2 (.inr hx)))))]
    congr 1
    by_cases hk : srt k = 0
    · have : ZF k = false := by rw [← Bool.not_eq_true, srt_has]; simpa using hk
      simp [this]
    · have hr : r ≠ g := hn (srt k, r) (List.mem_append.2 (.inl (by simp [hk])))
      have := (srt_has k).2 hk
      by_cases hrf : r = f
      · simp [this, hrf]
      · simp [this, hrf, hr]
/-! the errors stay -/
theorem binds_rp (f g : Sm) (p : Pt) : binds (rpP f g p) = binds p := by
  induction p using Pt.ind with
  | h k n r kids ih =>
    rw [rpP, binds, binds]
    have : Yd (rpPs f g kids) = Yd kids := by
      induction kids with
      | nil => rfl
      | cons p ps ihp => rw [rpPs, Yd, Yd, ih p (by simp), ihp (fun q hq => ih q (by simp [hq]))]
    rw [this]
theorem pHead_rp (k n : Int) (r f g : Sm) (l : Nat) : pHead k n (if k = 3 ∧ r = f then g else r) l = pHead k n r l := by
  by_cases hk : k = 3
  · subst hk; simp [pHead]
  · rw [if_neg (fun h => hk h.1)]
theorem pErrR_rp (f g : Sm) (p : Pt) : Yy (rpP f g p) = Yy p := by
  induction p using Pt.ind with
  | h k n r kids ih =>
    rw [rpP, Yy, Yy, rpPs_len, pHead_rp]
    have : YA (rpPs f g kids) = YA kids := by
      induction kids with
      | nil => rfl
      | cons p ps ihp => rw [rpPs, YA, YA, ih p (by simp), ihp (fun q hq => ih q (by simp [hq]))]
    rw [this]
theorem pErrRC_rp (f g : Sm) (cs : List (Pt × Tm)) : YB (rpCs f g cs) = YB cs := by
  induction cs with
  | nil => rfl
  | cons c cs ih => obtain ⟨p, t⟩ := c; rw [rpCs, YB, YB, ih, pErrR_rp]
theorem nHead_rp (d m b k n : Int) (r f g : Sm) (l lc : Nat) : Yo d m b k n (if ZF k = true ∧ r = f then g else r) l lc = Yo d m b k n r l lc := by
  by_cases hk : ZF k = true
  · simp [Yo, hk]
  · rw [if_neg (fun h => hk h.1)]
theorem nErr_rp (f g : Sm) (d m : Int) (t : Tm) : ∀ b, ZM d m b (rpT f g t) = ZM d m b t := by
  induction t using Tm.ind with
  | h k n r kids cases ih ih' =>
    intro b
    have h1 : ∀ (ps : List Tm), (∀ p ∈ ps, ∀ b, ZM d m b (rpT f g p) = ZM d m b p) → ∀ i, Z0 d m b k i (rpTs f g ps) = Z0 d m b k i ps := by
      intro ps
      induction ps with
      | nil => intro _ i; rfl
      | cons p ps ihp => intro h i; rw [rpTs, Z0, Z0, h p (by simp), ihp (fun q hq => h q (by simp [hq]))]
    have h2 : ∀ (ps : List (Pt × Tm)), (∀ p ∈ ps, ∀ b, ZM d m b (rpT f g p.2) = ZM d m b p.2) → Yh d m b (rpCs f g ps) = Yh d m b ps := by
      intro ps
      induction ps with
      | nil => intro _; rfl
      | cons c ps ihp => obtain ⟨p, t⟩ := c; intro h; rw [rpCs, Yh, Yh, h (p, t) (by simp), ihp (fun q hq => h q (by simp [hq])), binds_rp]
    rw [rpT, ZM, ZM, rpTs_len, rpCs_len, nHead_rp, h1 kids ih 0, h2 cases ih', pErrRC_rp]
theorem extP_rp (f g : Sm) (p : Pt) : ∀ m, extP m (rpP f g p) = extP m p := by
  induction p using Pt.ind with
  | h k n r kids ih =>
    intro m
    have : ∀ (ps : List Pt), (∀ p ∈ ps, ∀ m, extP m (rpP f g p) = extP m p) → ∀ n d, extPs m (rpPs f g ps) n d = extPs m ps n d := by
      intro ps
      induction ps with
      | nil => intro _ n d; rfl
      | cons p ps ihp => intro h n d; rw [rpPs, extPs, extPs]; split; · rw [h p (by simp), ihp (fun q hq => h q (by simp [hq]))]
                         rfl
    rw [rpP, extP, extP, this kids ih]
theorem extT_rp (f g : Sm) (t : Tm) : ∀ m, YL m (rpT f g t) = YL m t := by
  induction t using Tm.ind with
  | h k n r kids cases ih ih' =>
    intro m
    have h1 : ∀ (ps : List Tm), (∀ p ∈ ps, ∀ m, YL m (rpT f g p) = YL m p) → ∀ n d, YN m (rpTs f g ps) n d = YN m ps n d := by
      intro ps
      induction ps with
      | nil => intro _ n d; rfl
      | cons p ps ihp => intro h n d; rw [rpTs, YN, YN]; split; · rw [h p (by simp), ihp (fun q hq => h q (by simp [hq]))]
                         rfl
    have h2 : ∀ (ps : List (Pt × Tm)), (∀ p ∈ ps, ∀ m, YL m (rpT f g p.2) = YL m p.2) → ∀ n d, extCs m (rpCs f g ps) n d = extCs m ps n d := by
      intro ps
      induction ps with
      | nil => intro _ n d; rfl
      | cons c ps ihp => obtain ⟨p, t⟩ := c; intro h n d; rw [rpCs, extCs, extCs]; split; · rw [h (p, t) (by simp), extP_rp, ihp (fun q hq => h q (by simp [hq]))]
                         rfl
    rw [rpT, YL, YL, h1 kids ih, h2 cases ih']
theorem checkR_rp (f g : Sm) (d m : Int) (t : Tm) : Yf d m (rpT f g t) = Yf d m t := by
  unfold Yf YU
  rw [extT_rp, nErr_rp]
/-! all digests of a term -/
def Yg (t : Tm) : List Sm := (Y1 t).a ++ (Y1 t).b ++ (Y1 t).c
theorem allL_mem {t : Tm} {x : Sm} : x ∈ Yg t ↔ (6, x) ∈ YC t ∨ (8, x) ∈ YC t ∨ (11, x) ∈ YC t := by
  have h := Y2 t
  unfold Yg Y1
  rw [List.mem_append, List.mem_append, h.2.2.2.1, h.2.2.2.2.1, h.2.2.2.2.2, or_assoc]
theorem ris_nodup {l : List Sm} (h : risS l) : l.Nodup := by
  unfold risS at h
  exact h.imp fun {a b} q e => by subst e; rw [bef_irr] at q; cases q
theorem xch_len {l m : List Sm} {f g : Sm} (hl : risS l) (hm : risS m) (hg : g ∉ l) (h : ∀ x, x ∈ m ↔ ∃ y ∈ l, x = if y = f then g else y) : m.length = l.length := by
  have h1 : (l.map fun y => if y = f then g else y).Nodup := by
    have hn := ris_nodup hl
    rw [List.Nodup, List.pairwise_map]
    refine List.Pairwise.imp_of_mem ?_ hn
    intro a b ha hb hab
    split <;> split
    · rename_i h1 h2; exact absurd (h1.trans h2.symm) hab
    · intro e; exact hg (e ▸ hb)
    · intro e; exact hg (e ▸ ha)
    · exact hab
  have h2 : m.Perm (l.map fun y => if y = f then g else y) := (List.perm_ext_iff_of_nodup (ris_nodup hm) h1).2 fun x => by
    rw [h, List.mem_map]
    constructor
    · rintro ⟨y, hy, e⟩; exact ⟨y, hy, e.symm⟩
    · rintro ⟨y, hy, e⟩; exact ⟨y, hy, e.symm⟩
  rw [h2.length_eq, List.length_map]
theorem hds_xch {f g : Sm} {t : Tm} {k : Int} {x : Sm} : (k, x) ∈ YC (rpT f g t) ↔ ∃ y, (k, y) ∈ YC t ∧ x = if y = f then g else y := by
  rw [hdsT_rp, List.mem_map]
  constructor
  · rintro ⟨⟨j, y⟩, h1, h2⟩
    simp only [xch, Prod.mk.injEq] at h2
    obtain ⟨rfl, rfl⟩ := h2
    exact ⟨y, h1, rfl⟩
  · rintro ⟨y, h1, rfl⟩; exact ⟨(k, y), h1, rfl⟩
theorem all_len {f g : Sm} {t : Tm} (hg : ∀ h ∈ YC t, h.2 ≠ g) : (Yg (rpT f g t)).length = (Yg t).length := by
  have h := Y2 t
  have h' := Y2 (rpT f g t)
  have e1 : (Y1 (rpT f g t)).a.length = (Y1 t).a.length := xch_len (f := f) (g := g) h.1 h'.1 (fun q => hg _ ((h.2.2.2.1 g).1 q) rfl) fun x => by
    refine (h'.2.2.2.1 x).trans (hds_xch.trans ?_); show _ ↔ ∃ y, y ∈ (rT t ⟨[], [], []⟩).a ∧ _; simp only [h.2.2.2.1]
  have e2 : (Y1 (rpT f g t)).b.length = (Y1 t).b.length := xch_len (f := f) (g := g) h.2.1 h'.2.1 (fun q => hg _ ((h.2.2.2.2.1 g).1 q) rfl) fun x => by
    refine (h'.2.2.2.2.1 x).trans (hds_xch.trans ?_); show _ ↔ ∃ y, y ∈ (rT t ⟨[], [], []⟩).b ∧ _; simp only [h.2.2.2.2.1]
  have e3 : (Y1 (rpT f g t)).c.length = (Y1 t).c.length := xch_len (f := f) (g := g) h.2.2.1 h'.2.2.1 (fun q => hg _ ((h.2.2.2.2.2 g).1 q) rfl) fun x => by
    refine (h'.2.2.2.2.2 x).trans (hds_xch.trans ?_); show _ ↔ ∃ y, y ∈ (rT t ⟨[], [], []⟩).c ∧ _; simp only [h.2.2.2.2.2]
  unfold Yg
  simp only [List.length_append, e1, e2, e3]
theorem all_xch {f g : Sm} {t : Tm} {x : Sm} : x ∈ Yg (rpT f g t) ↔ ∃ y ∈ Yg t, x = if y = f then g else y := by
  rw [allL_mem, hds_xch, hds_xch, hds_xch]
  simp only [allL_mem]
  constructor
  · rintro (⟨y, h, e⟩ | ⟨y, h, e⟩ | ⟨y, h, e⟩)
    · exact ⟨y, .inl h, e⟩
    · exact ⟨y, .inr (.inl h), e⟩
    · exact ⟨y, .inr (.inr h), e⟩
  · rintro ⟨y, h | h | h, e⟩
    · exact .inl ⟨y, h, e⟩
    · exact .inr (.inl ⟨y, h, e⟩)
    · exact .inr (.inr ⟨y, h, e⟩)
theorem all_from {f g : Sm} {t : Tm} (hfg : f ≠ g) : f ∉ Yg (rpT f g t) := by
  rw [all_xch]
  rintro ⟨y, _, e⟩
  split at e
  · exact hfg e
  · rename_i h; exact h e.symm
theorem all_to {f g : Sm} {t : Tm} (hg : g ∉ Yg t) : g ∈ Yg (rpT f g t) ↔ f ∈ Yg t := by
  rw [all_xch]
  constructor
  · rintro ⟨y, hy, e⟩
    split at e
    · rename_i h; rw [← h]; exact hy
    · exact absurd (e ▸ hy) hg
  · intro h; exact ⟨f, h, by simp⟩
end Go.Proofs.YtfdeibbpfgolcaaGreat.Hs
/-! What the program's Refs gathers: a map of heads, and three rows of digests. -/
namespace Go.Proofs.YtfdeibbpfgolcaaGreat.Hs
open Go
theorem sel_add {k : Int} {s : Sm} {l : List Hd} (h : ¬ (k, s) ∈ l) : sel k l ++ [s] = sel k (Ys l (k, s)) := by
  rw [Ys, if_neg h, sel_app, sel_one]
theorem sel_add_in {k : Int} {s : Sm} {l : List Hd} (h : (k, s) ∈ l) : sel k l = sel k (Ys l (k, s)) := by rw [Ys, if_pos h]
theorem addH_in {k : Int} {s : Sm} {l : List Hd} (h : (k, s) ∈ l) : l = Ys l (k, s) := by rw [Ys, if_pos h]
theorem ZV {j k : Int} (s : Sm) (l : List Hd) (h : k ≠ j) : sel j (Ys l (k, s)) = sel j l := by
  unfold Ys
  split
  · rfl
  · rw [sel_app, sel_other s h, List.append_nil]
theorem gP_other {j : Int} (h : (8 : Int) ≠ j) (p : Pt) : ∀ l, sel j (gP p l) = sel j l := by
  induction p using Pt.ind with
  | h k n r kids ih =>
    intro l
    have : ∀ (ps : List Pt), (∀ p ∈ ps, ∀ l, sel j (gP p l) = sel j l) → ∀ l, sel j (gPs ps l) = sel j l := by
      intro ps
      induction ps with
      | nil => intro _ l; rw [gPs]
      | cons p ps ihp => intro h l; rw [gPs, ihp (fun q hq => h q (by simp [hq])), h p (by simp)]
    rw [gP, this kids ih]
    split
    · exact ZV r l h
    · rfl
theorem Sub.join7 {a b c d e f g : Zf} {R M : List Zf} (h : Sub (a :: b :: c :: d :: e :: f :: g :: R) M) : Sub ((a ++ (b ++ (c ++ (d ++ (e ++ (f ++ g)))))) :: R) M := h.flat (by simp)
structure GS where
  l : List Hd
  v0 : Value
  v1 : Value
  v2 : Value
  k0 : Zf
  k1 : Zf
  k2 : Zf
def gsC (r b0 b1 b2 : Nat) (s : GS) : Zf := (hdC r s.l) ++ ([(b0, .cells ⟨[s.v0]⟩ 34 (0, 0))] ++ (s.k0 ++ ([(b1, .cells ⟨[s.v1]⟩ 34 (0, 0))] ++ (s.k1 ++ ([(b2, .cells ⟨[s.v2]⟩ 34 (0, 0))] ++ s.k2)))))
def gsI (s : GS) : Prop := Own 23 32 s.v0 (sms (sel 6 s.l)) s.k0 ∧ Own 23 32 s.v1 (sms (sel 8 s.l)) s.k1 ∧ Own 23 32 s.v2 (sms (sel 11 s.l)) s.k2
theorem gTs_fold (ts : List Tm) : ∀ l, gTs ts l = ts.foldl (fun l x => gT x l) l := by
  induction ts with
  | nil => intro l; rfl
  | cons t ts ih => intro l; rw [gTs, ih]; rfl
theorem gBs_fold (ts : List (Pt × Tm)) : ∀ l, gBs ts l = ts.foldl (fun l c => gT c.2 l) l := by
  induction ts with
  | nil => intro l; rfl
  | cons t ts ih => intro l; obtain ⟨p, t⟩ := t; rw [gBs, ih]; rfl
theorem gTs_len (ts : List Tm) : ∀ l, (gTs ts l).length ≤ l.length + sizeTs ts := by
  induction ts with
  | nil => intro l; simp [gTs]
  | cons p ps ih => intro l; rw [gTs, sizeTs]; have := ih (gT p l); have := gT_len p l; omega
theorem sizeTs_split (ts : List Tm) (j : Nat) (h : j < ts.length) : sizeTs (ts.take j) + sizeT ts[j] ≤ sizeTs ts := by
  induction ts generalizing j with
  | nil => cases h
  | cons t ts ih =>
    cases j with
    | zero => simp [sizeTs]
    | succ j => rw [List.take_succ_cons, sizeTs, sizeTs, List.getElem_cons_succ]; have := ih j (by simpa using h); omega
def sizeBs (cs : List (Pt × Tm)) : Nat := (cs.map fun c => sizeT c.2).sum
theorem gBs_len (ts : List (Pt × Tm)) : ∀ l, (gBs ts l).length ≤ l.length + sizeBs ts := by
  induction ts with
  | nil => intro l; simp [gBs]
  | cons p ps ih => obtain ⟨p, t⟩ := p; intro l; rw [gBs]; have := ih (gT t l); have := gT_len t l; simp only [sizeBs, List.map_cons, List.sum_cons] at *; omega
theorem sizeBs_split (ts : List (Pt × Tm)) (j : Nat) (h : j < ts.length) : sizeBs (ts.take j) + sizeT (ts[j]).2 ≤ sizeBs ts := by
  induction ts generalizing j with
  | nil => cases h
  | cons t ts ih =>
    cases j with
    | zero => simp [sizeBs]
    | succ j => rw [List.take_succ_cons]; simp only [sizeBs, List.map_cons, List.sum_cons, List.getElem_cons_succ] at *; have := ih j (by simpa using h); omega
theorem sizeBs_le (cs : List (Pt × Tm)) : sizeBs cs + (cs.map fun c => sizeP c.1).sum = sizeCs cs := by
  induction cs with
  | nil => rfl
  | cons c cs ih => obtain ⟨p, t⟩ := c; rw [sizeCs]; simp only [sizeBs, List.map_cons, List.sum_cons] at *; omega
theorem hd0_len (k : Int) (r : Sm) (l : List Hd) : (hd0 k r l).length ≤ l.length + 1 := by
  unfold hd0; split
  · omega
  · exact addH_len _ _
theorem hd0_eq {k : Int} (r : Sm) (l : List Hd) (h : srt k ≠ 0) : hd0 k r l = Ys l (srt k, r) := by rw [hd0, if_neg h]
end Go.Proofs.YtfdeibbpfgolcaaGreat.Hs
/-! Walks, printed by a program of this session's own (gen.py). -/
namespace Go.Proofs.YtfdeibbpfgolcaaGreat.Hs
open Go Go.Proofs
set_option maxRecDepth 100000
set_option linter.unusedVariables false
set_option linter.unusedSimpArgs false
attribute [local irreducible] JL J CT wlo DT
theorem parts1R_ct (kind num : Int) (ref : Sm) (ks cv : Value) (kids : List Tm) (cases : List (Pt × Tm)) (H : Heap) (bT : Nat) (hks : Hs.rdS RT 36 H ks kids) (hcv : Hs.rdS RC 71 H cv cases) (hT : H bT = some (.cells ⟨pkT kind num ref ks cv⟩ 27 (0, 0))) (hsz : ∀ c ∈ cases, binds c.1 ≤ 1000000) (hkl : kids.length ≤ 1000000) (hcl : cases.length ≤ 1000000) (l : Nat) {σ τ : Type} (yc : σ → Zf) (Inv : σ → Prop) (ab : σ → τ) (step : Tm → τ → τ) (Ok : Tm → τ → Prop) (s0 : σ) (h0 : Inv s0) (hKok : ∀ (j : Nat) (hj : j < kids.length), Ok kids[j] ((kids.take j).foldl (fun t x => step x t) (ab s0))) (hCok : ∀ (j : Nat) (hj : j < cases.length), Ok cases[j].2 ((cases.take j).foldl (fun t c => step c.2 t) (kids.foldl (fun t x => step x t) (ab s0)))) (hy : ∀ x s (i mo : Int) a h, Inv s → Ok x (ab s) → Hle H h → RT h a x → YT Tryz.prog l ⟨[iv i, .agg ⟨a ++ [iv mo]⟩]⟩ [yc s] h (fun v N => ∃ s2, v = .bool true ∧ N = [yc s2] ∧ Inv s2 ∧ ab s2 = step x (ab s))) : CT Tryz.prog 95 ⟨[.func (.yield l) ⟨[]⟩ ⟨[]⟩, pp bT 0]⟩ [yc s0] H (fun _ N => ∃ s, N = [yc s] ∧ Inv s ∧ ab s = cases.foldl (fun t c => step c.2 t) (kids.foldl (fun t x => step x t) (ab s0))) := by
 refine Zk Tryz.func95 rfl rfl <| Zc <| Zc <| Za <| JLq (pp bT 34) (Yb rfl rfl) <| JLr (Ze ty24 rfl (At.im hT) (Z9 ..) ?_)
 obtain ⟨a1, cap1, hv1⟩ := hks.sl
 have hle1 := hks.le
 refine JLn (Pu.lenSl Tryz.runUnderlying24 hv1) <| JLM rfl <| Zb <| Zo <| ZT (fun k ρ M => ∃ (j : Nat) (s : σ), ρ 0 = .func (.yield l) ⟨[]⟩ ⟨[]⟩ ∧ ρ 1 = pp bT 0 ∧ ρ 8 = ks ∧ ρ 9 = iv ((kids.length : Int)) ∧ ρ 10 = iv ((j : Int)) ∧ Sub [yc s] M ∧ j ≤ kids.length ∧ Inv s ∧ ab s = (kids.take j).foldl (fun t x => step x t) (ab s0) ∧ k = kids.length - j) _ ⟨0, s0, rfl, rfl, rfl, rfl, rfl, (Sk Sub.nil), Nat.zero_le _, h0, rfl, rfl⟩ ?_
 rintro _ ρ2 _ ⟨j, s, e3, e4, e5, e6, e7, hm8, hj, hs, hab, rfl⟩
 obtain ⟨ρ9, rfl⟩ := Zn (uc e3 (uc e4 (uc e5 (uc e6 (uc e7 un)))))
 clear e3 e4 e5 e6 e7
 refine ZS hm8 ?_
 have hlen := hks.le
 refine Zc <| Za <| JLn (Pu.lss rfl rfl) <| Zb <| Zc <| Zg rfl (fun h10 => ?_) (fun h10 => ?_)
 ·replace h10 := dt h10
  have h10n : j < kids.length := by omega
  refine Zm <| Zc <| Zo <| Zc <| Za <| JLM rfl ?_
  obtain ⟨b11, o11, cap11, row11, T11, fr11, cs11, hv11, hb11, hs11, hE11⟩ := hks.get j (by first | assumption | omega | decide | simp)
  refine JLq (pp b11 (o11 + j * 36)) (Pu.idx j Tryz.runUnderlying24 Zs hv11 rfl rfl (by first | assumption | omega | decide | simp)) <| JLr (Zi Zs rfl (At.im hb11) hs11 <| JLr (Zh (l := pkT 0 0 zS nS nS) Tryz.zeroValue27 rfl fun b12 => JLA rfl <| JLr (Zd 0 (vs := cs11) (l := cs11) Zs rfl rfl rfl rfl (Zv hE11) (Y5 hE11) (Zy (n := 36) rfl (Zv hE11)) <| Zb <| Zc <| ZL mixed #[0, 0, 0, 0, 8, 0, 56, 124, 255, 511] 8 [some 15, some 16, some 17, some 18, some 19, some 20, some 21, some 22] [] [(6, fun _ _ vw qw => vw = iv (more kind ((j : Int))) ∧ qw = [])] rfl (by kernel_rfl) rfl (by kernel_rfl) <| DM (fun _ => rfl) <| DM (fun _ => rfl) <| Dl Zs (At.bx 0 rfl) (Zu (Zv hE11)) <| Dq (pp bT 0) (fun _ => ZO rfl rfl) <| Dl1 ty3 (At.im hT) (Z5 ..) ?_)))
  refine DM (fun _ => rfl) <| Dc rfl Tryz.call96 (fun _ => rfl) (fun hin => more_ct _ _ _) ?_
  rintro _ _ ⟨rfl, rfl⟩
  refine Dq (.agg ⟨cs11 ++ ([iv (more kind ((j : Int)))] : List Value)⟩) (fun _ => Pu.build (pv := [(0, .agg ⟨cs11⟩), (1, iv (more kind ((j : Int))))]) (l := cs11 ++ ([iv (more kind ((j : Int)))] : List Value)) rfl (bld107_0_1 (Zv hE11))) <| ZZ (M' := [(BX b12 cs11 27), yc s]) rfl ?_
  show JL _ _ _ [_, _] _ _ _
  refine JL_yield1 1 rfl rfl rfl (fun hin => hy _ _ _ _ _ _ hs (by rw [hab]; exact hKok j h10n) (Hle.hu _ _) (RT.mono (Hle.hu _ _) hE11)) rfl ?_
  rintro _ _ ⟨s13, rfl, rfl, hs13, ha13⟩
  refine JLq (.bool false) (show Pu _ _ _ (.bool (!true)) from Pu.not rfl) <| Zb <| Zg (b := false) rfl (fun h => absurd h (by simp)) (fun _ => Zm <| Za <| JLn (Pu.inc rfl rfl (by omega)) <| JLM rfl <| Zb <| ⟨_, ?_, (j + 1), s13, rfl, rfl, rfl, rfl, rfl, (Sk Sub.nil), ?_, ?_, ?_, rfl⟩)
  ·omega
  ·omega
  ·exact hs13
  rw [ha13, List.take_succ_eq_append_getElem h10n, List.foldl_append, ← hab]; rfl
 replace h10 := df h10
 have h10n : kids.length ≤ j := by omega
 refine ZB _ rfl <| Zc <| Za <| JLq (pp bT 35) (Yw rfl rfl) <| JLr (Ze ty25 rfl (At.im hT) (Yj ..) ?_)
 obtain ⟨a14, cap14, hv14⟩ := hcv.sl
 have hle14 := hcv.le
 refine JLn (Pu.lenSl Tryz.runUnderlying25 hv14) <| JLM rfl <| Zb <| Zo <| ZT (fun k ρ M => ∃ (j : Nat) (s2 : σ), ρ 0 = .func (.yield l) ⟨[]⟩ ⟨[]⟩ ∧ ρ 1 = pp bT 0 ∧ ρ 27 = cv ∧ ρ 28 = iv ((cases.length : Int)) ∧ ρ 29 = iv ((j : Int)) ∧ Sub [yc s2] M ∧ j ≤ cases.length ∧ Inv s2 ∧ ab s2 = (cases.take j).foldl (fun t c => step c.2 t) (kids.foldl (fun t x => step x t) (ab s0)) ∧ k = cases.length - j) _ ⟨0, s, rfl, rfl, rfl, rfl, rfl, (Sk Sub.nil), Nat.zero_le _, hs, (by rw [hab, List.take_of_length_le h10n]; rfl), rfl⟩ ?_
 rintro _ ρ15 _ ⟨j, s2, e16, e17, e18, e19, e20, hm21, hj, hs, hab, rfl⟩
 obtain ⟨ρ22, rfl⟩ := Zn (uc e16 (uc e17 (uc e18 (uc e19 (uc e20 un)))))
 clear e16 e17 e18 e19 e20
 refine ZS hm21 ?_
 have hlen := hcv.le
 refine Zc <| Za <| JLn (Pu.lss rfl rfl) <| Zb <| Zc <| Zg rfl (fun h23 => ?_) (fun h23 => ?_)
 ·replace h23 := dt h23
  have h23n : j < cases.length := by omega
  have hbm := hsz _ (List.getElem_mem h23n)
  have hlenk := hks.le
  refine Zm <| Zc <| Zo <| Zc <| Za <| JLM rfl ?_
  obtain ⟨b24, o24, cap24, row24, T24, fr24, cs24, hv24, hb24, hs24, hE24⟩ := hcv.get j (by first | assumption | omega | decide | simp)
  obtain ⟨ca24, cb24, rfl, hA24, hB24⟩ := hE24
  refine JLq (pp b24 (o24 + j * 71)) (Pu.idx j Tryz.runUnderlying25 YR hv24 rfl rfl (by first | assumption | omega | decide | simp)) <| JLr (Zi YR rfl (At.im hb24) hs24 <| JLr (Zh (l := (pkP 0 0 zS nS) ++ (pkT 0 0 zS nS nS)) Tryz.zeroValue56 rfl fun b25 => JLA rfl <| JLr (Zd 0 (vs := ca24 ++ cb24) (l := ca24 ++ cb24) YR rfl rfl rfl rfl (ZR (ZA hA24) (Zv hB24)) (Z2 (RP_ok hA24) (Y5 hB24)) (Zy (n := 71) rfl (ZR (ZA hA24) (Zv hB24))) <| Zb <| Zc <| ZL mixed #[0, 0, 2, 6, 0, 30, 0, 64, 0, 256, 768, 1984, 4095, 8191] 12 [some 34, some 35, some 36, some 37, some 38, some 39, some 40, some 41, some 42, some 43, some 44, some 45] [] [(10, fun _ _ vw qw => vw = iv ((binds (cases[j].1) : Int)) ∧ qw = [])] rfl (by kernel_rfl) rfl (by kernel_rfl) <| DM (fun _ => rfl) <| Dq (pp bT 34) (fun _ => Yb rfl rfl) <| Dl1 ty24 (At.im hT) (Z9 ..) ?_)))
  obtain ⟨a27, cap27, hv27⟩ := hks.sl
  have hle27 := hks.le
  refine Dn (fun _ => Pu.lenSl Tryz.runUnderlying24 hv27) <| DM (fun _ => rfl) ?_
  refine Dn (fun _ => Pu.add64 rfl rfl (by first | omega | (constructor <;> omega))) <| Dq (pp b25 35) (fun _ => fa56_1 rfl rfl) <| Dl Zs (At.bx 0 rfl) (sub_r (ZA hA24) (Zv hB24)) <| Dq (pp b25 0) (fun _ => fa56_0 rfl rfl) <| Dl ZQ (At.bx 0 rfl) (sub_l (ZA hA24)) ?_
  refine Dc rfl Tryz.call97 (fun _ => rfl) (fun hin => binds_ct _ _ _ (RP.mono (Hle.hu _ _) hA24) (by omega)) ?_
  rintro _ _ ⟨rfl, rfl⟩
  refine Dq (.agg ⟨cb24 ++ ([iv ((binds (cases[j].1) : Int))] : List Value)⟩) (fun _ => Pu.build (pv := [(0, .agg ⟨cb24⟩), (1, iv ((binds (cases[j].1) : Int)))]) (l := cb24 ++ ([iv ((binds (cases[j].1) : Int))] : List Value)) rfl (bld107_0_1 (Zv hB24))) <| ZZ (M' := [(BX b25 (ca24 ++ cb24) 56), yc s2]) rfl ?_
  show JL _ _ _ [_, _] _ _ _
  refine JL_yield1 1 rfl rfl rfl (fun hin => hy _ _ _ _ _ _ hs (by rw [hab]; exact hCok j h23n) (Hle.hu _ _) (RT.mono (Hle.hu _ _) hB24)) rfl ?_
  rintro _ _ ⟨s28, rfl, rfl, hs28, ha28⟩
  refine JLq (.bool false) (show Pu _ _ _ (.bool (!true)) from Pu.not rfl) <| Zb <| Zg (b := false) rfl (fun h => absurd h (by simp)) (fun _ => Zm <| Za <| JLn (Pu.inc rfl rfl (by omega)) <| JLM rfl <| Zb <| ⟨_, ?_, (j + 1), s28, rfl, rfl, rfl, rfl, rfl, (Sk Sub.nil), ?_, ?_, ?_, rfl⟩)
  ·omega
  ·omega
  ·exact hs28
  rw [ha28, List.take_succ_eq_append_getElem h23n, List.foldl_append, ← hab]; rfl
 replace h23 := df h23
 have h23n : cases.length ≤ j := by omega
 refine ZB _ rfl <| ⟨.tuple ⟨[]⟩, [yc s2], Ret.none rfl, (Sk Sub.nil), ?_⟩
 exact ⟨_, rfl, hs, by rw [hab, List.take_of_length_le h23n]⟩
end Go.Proofs.YtfdeibbpfgolcaaGreat.Hs
/-! Walks, printed by a program of this session's own (gen.py). -/
namespace Go.Proofs.YtfdeibbpfgolcaaGreat.Hs
open Go Go.Proofs
set_option maxRecDepth 100000
set_option linter.unusedVariables false
set_option linter.unusedSimpArgs false
attribute [local irreducible] JL J CT wlo DT
theorem add_ct (b r bM : Nat) (ks : Int) (s : Sm) (l : List Hd) (v : Value) (k : Zf) (H : Heap) (hM : H bM = some (.cells ⟨[.map (some r)]⟩ 96 (0, 0))) (ho : Own 23 32 v (sms (sel ks l)) k) (hb : l.length ≤ 100000) : CT Tryz.prog 50 ⟨[pp b 0, iv ks, .agg ⟨sC s⟩, pp bM 0]⟩ [(hdC r l) ++ ((BX b [v] 34) ++ k)] H (fun _ N => ∃ v k, N = [(hdC r (Ys l (ks, s))) ++ ((BX b [v] 34) ++ k)] ∧ Own 23 32 v (sms (sel ks (Ys l (ks, s)))) k) := by
 have hsl := sel_len ks l
 refine Zk Tryz.func50 rfl rfl <| ZS (M' := [hdC r l, (BX b [v] 34), k]) (Sub.flat Sub.refl (by simp)) <| Zc <| Za <| JLr (Zp (l := sC s) rfl rfl fun b1 => Zb <| Zc <| Za <| JLM rfl <| JLr (Zi Z3 rfl (At.bx 0 rfl) (Zu rfl) <| JLq (.agg ⟨([iv ks]) ++ (sC s)⟩) (Pu.build (pv := [(0, iv ks), (1, .agg ⟨sC s⟩)]) (l := ([iv ks]) ++ (sC s)) rfl (bldHd _ _)) <| JLr (Zh (l := ([iv 0]) ++ (sC zS)) Tryz.zeroValue99 rfl fun b2 => JLr (Zd 0 (vs := ([iv ks]) ++ (sC s)) (l := ([iv ks]) ++ (sC s)) ty99 rfl rfl rfl rfl rfl (Z2 (Zj rfl Zt) (sC_ok _)) (Zy (n := 33) rfl rfl) ?_))))
 refine Zb <| Zc <| Za <| JLr (Ze ty96 rfl (At.im hM) rfl <| JLr (Zi ty99 rfl (At.bx 0 rfl) (Zu rfl) <| JLr (Runs_lookupHd (i := 2) (s := s) Tryz.underlying96 Tryz.zeroValue4 rfl rfl rfl <| JLn (Pu.not rfl) <| Zb <| Zg rfl (fun h3 => ?_) (fun h3 => ?_))))
 ·replace h3 := nt h3
  replace h3 := df h3
  refine Zc <| Za <| JLr (Ze ty96 rfl (At.im hM) rfl <| JLr (Zi ty99 rfl (At.bx 0 rfl) (Zu rfl) <| JLr (Runs_updateHd (i := 2) (s := s) Tryz.underlying96 rfl rfl rfl rfl <| Zb <| ZL mixed #[0, 0, 2, 6, 0, 16, 62, 127, 255] 7 [some 17, some 18, some 19, some 20, some 21, some 22, some 23] [(6, 11)] [(5, fun _ _ vw qw => ∃ b k, vw = .slice (some ⟨b, 0, none⟩) 1 1 ∧ qw = [k] ∧ Own 23 32 (.slice (some ⟨b, 0, none⟩) 1 1) [sC s] k ∧ k = (BX b (List.flatten [sC s]) 23)), (6, fun _ _ vw qw => ∃ k, qw = [k] ∧ Own 23 32 vw (sms (sel ks l) ++ [sC s]) k)] rfl (by kernel_rfl) rfl (by kernel_rfl) <| DM (fun _ => rfl) <| DM (fun _ => rfl) <| Dq (pp b 0) (fun _ => Pu.nilCheck rfl) <| Dl1 Yx (At.bx 3 rfl) rfl <| Dl Z3 (At.bx 1 rfl) (Zu rfl) ?_)))
  refine Dr rfl (fun _ => Zq (vs := [.agg ⟨sC s⟩]) [sC s] Tryz.runUnderlying34 el23 rfl rfl (by intro e he; simp only [List.mem_cons, List.not_mem_nil, or_false] at he; subst he; exact rfl) rfl (by decide) fun b k h1 h2 => ⟨[k], by rw [Yi rfl]; exact Sub.refl, b, k, rfl, rfl, h1, h2⟩) (fun _ _ ⟨b6, k6, e1, e2, ho6, hk6⟩ => ?_); subst e1 e2
  have hlens7 : ∀ e ∈ ([sC s] : List (List Value)), List.length e = 32 := by
   intro e he; simp only [List.mem_cons, List.not_mem_nil, or_false] at he
   rcases he with rfl
   ·exact rfl
  have hoks7 : ∀ e ∈ ([sC s] : List (List Value)), okc e := by
   intro e he; simp only [List.mem_cons, List.not_mem_nil, or_false] at he
   rcases he with rfl
   ·exact (sC_ok _)
  refine Dr rfl (fun _ => ZJ (i := 5) (n := 1) (es' := [sC s]) Tryz.runUnderlying34 Tryz.runUnderlying34 (Or.inl rfl) el23 rfl rfl rfl ho (fun F w m => Src.row (((At.k 0 rfl (by rw [hk6]; exact List.mem_cons_self))).heap m) (Zu (Zx hlens7))) rfl hlens7 hoks7 (by decide) (by rw [ZU]; omega) fun v k h1 => ⟨[k], keptE rfl rfl, k, rfl, h1⟩) ?_; rintro v7 _ ⟨k7, rfl, ho7⟩
  rw [← sms_snoc] at ho7
  refine ZZ (M' := [k7, k6, (BX b2 (([iv ks]) ++ (sC s)) 99), (BX b1 (sC s) 23), hdC r (Ys l (ks, s)), (BX b [v] 34)]) rfl ?_
  show JL _ _ _ [_, _] _ _ _
  refine JLq (pp b 0) (Pu.nilCheck rfl) <| JLr (Zd 5 (vs := [v7]) (l := [v7]) Yx rfl rfl rfl (ZE ho7.one) rfl (Zj ho7.one Zt) rfl <| Zb <| ⟨.tuple ⟨[]⟩, [(hdC r (Ys l (ks, s))) ++ (((BX b [v7] 34)) ++ k7)], Ret.none rfl, (Sub.join3 (Sub.cons 4 rfl (Sub.cons 4 rfl (Sk Sub.nil)))), ?_⟩)
  have z := ho7
  rw [sel_add h3] at z
  exact ⟨_, _, rfl, z⟩
 replace h3 := nf h3
 replace h3 := dt h3
 refine Zm <| ⟨.tuple ⟨[]⟩, [(hdC r l) ++ (((BX b [v] 34)) ++ k)], Ret.none rfl, (Sub.join3 (Sd (Sd (Sk (Sk (Sk Sub.nil)))))), ?_⟩
 have z := ho
 rw [sel_add_in h3] at z
 exact ⟨_, _, by rw [← addH_in h3], z⟩
end Go.Proofs.YtfdeibbpfgolcaaGreat.Hs
/-! Walks, printed by a program of this session's own (gen.py). -/
namespace Go.Proofs.YtfdeibbpfgolcaaGreat.Hs
open Go Go.Proofs
set_option maxRecDepth 100000
set_option linter.unusedVariables false
set_option linter.unusedSimpArgs false
attribute [local irreducible] JL J CT wlo DT
theorem pat_ct : ∀ (bd1 r bM bA bQ : Nat) (p : Pt) (cs : List Value) (l : List Hd) (v : Value) (k : Zf) (H : Heap), RP H cs p → Own 23 32 v (sms (sel 8 l)) k → l.length + sizeP p ≤ 100000 → H bM = some (.cells ⟨[.map (some r)]⟩ 96 (0, 0)) → H bA = some (.cells ⟨[.func (.func 50) ⟨[]⟩ ⟨[pp bM 0]⟩]⟩ 100 (0, 0)) → H bQ = some (.cells ⟨[.func (.func 51) ⟨[]⟩ ⟨[pp bA 0, pp bd1 0, pp bQ 0]⟩]⟩ 101 (0, 0)) → CT Tryz.prog 51 ⟨[.agg ⟨cs⟩, pp bA 0, pp bd1 0, pp bQ 0]⟩ [(hdC r l) ++ ((BX bd1 [v] 34) ++ k)] H (fun _ N => ∃ v k, N = [(hdC r (gP p l)) ++ ((BX bd1 [v] 34) ++ k)] ∧ Own 23 32 v (sms (sel 8 (gP p l))) k) := by
 intro bd1 r bM bA bQ p
 induction p using Pt.ind with
 | h kind num ref kids ih =>
 intro cs l v k H hp ho hb hM hA hQ
 obtain ⟨ks, rfl, hk, hn, hks⟩ := RP_mk.1 hp
 rw [sizeP] at hb
 have hle := hks.le
 refine Zk Tryz.func51 rfl rfl <| ZS (M' := [hdC r l, (BX bd1 [v] 34), k]) (Sub.flat Sub.refl (by simp)) <| Zc <| Za <| JLr (Zp (l := pkP kind num ref ks) rfl rfl fun b1 => Zb <| Zc <| Zc <| Za <| JLq (pp b1 0) (YI rfl rfl) <| JLr (Ze ty3 rfl (At.bx 0 rfl) (pkP_0 ..) <| JLn (Pu.eql rfl rfl) <| Zb ?_))
 refine Zg rfl (fun h2 => ?_) (fun h2 => ?_)
 ·replace h2 := dt h2
  refine Za <| JLr (Ze ty100 rfl (At.im hA) rfl <| JLq (pp b1 2) (fa54_2 rfl rfl) <| JLr (Zi Z3 rfl (At.bx 0 rfl) (pkP_2 ..) <| Zw (Sub.join3 (Sub.cons 1 rfl (Sub.cons 1 rfl (Sub.cons 1 rfl (Sk Sub.nil))))) <| Zr 0 rfl Tryz.call50 rfl rfl (fun hin => add_ct bd1 r bM 8 ref l _ _ _ (Hle.hu _ _ _ _ hM) ho (by omega)) rfl ?_))
  rintro _ _ ⟨v3, k3, rfl, ho3⟩
  refine Zw (M' := [hdC r (Ys l (8, ref)), (BX bd1 [v3] 34), k3, (BX b1 (pkP kind num ref ks) 54)]) (Sub.flat Sub.refl (by simp)) <| Zb <| Zc <| Za <| JLq (pp b1 34) (Yv rfl rfl) <| JLr (Ze ty52 rfl (At.bx 3 rfl) (YG ..) ?_)
  obtain ⟨a4, cap4, hv4⟩ := hks.sl
  have hle4 := hks.le
  refine JLn (Pu.lenSl Tryz.runUnderlying52 hv4) <| JLM rfl <| Zb <| Zo ?_
  have hl0 : (Ys l (8, ref)) = (if kind = 3 then Ys l (8, ref) else l) := by rw [if_pos (by assumption)]
  have hal := addH_len l (8, ref)
  have hll : ((Ys l (8, ref))).length ≤ l.length + 1 := by exact hal
  refine ZT (fun k ρ M => ∃ (j : Nat) (y : Value) (q1 : Zf) (lj : List Hd), ρ 3 = pp bQ 0 ∧ ρ 15 = ks ∧ ρ 16 = iv ((kids.length : Int)) ∧ ρ 17 = iv ((j : Int)) ∧ Sub [hdC r lj, (BX bd1 [y] 34), q1, (BX b1 (pkP kind num ref ks) 54)] M ∧ j ≤ kids.length ∧ gPs (kids.drop j) lj = gPs kids (if kind = 3 then Ys l (8, ref) else l) ∧ lj.length + ZH (kids.drop j) ≤ l.length + 1 + ZH kids ∧ Own 23 32 y (sms (sel 8 lj)) q1 ∧ k = kids.length - j) _ ⟨0, v3, k3, (Ys l (8, ref)), rfl, rfl, rfl, rfl, (Sk (Sk (Sk (Sk Sub.nil)))), Nat.zero_le _, (congrArg (gPs kids) hl0), (by simp only [List.drop_zero]; omega), ho3, rfl⟩ ?_
  rintro _ ρ5 _ ⟨j, y, q1, lj, e6, e7, e8, e9, hm10, hj, hinv, hlj, hown, rfl⟩
  obtain ⟨ρ11, rfl⟩ := Zn (uc e6 (uc e7 (uc e8 (uc e9 un))))
  clear e6 e7 e8 e9
  refine ZS hm10 <| Zc <| Za <| JLn (Pu.lss rfl rfl) <| Zb <| Zc <| Zg rfl (fun h12 => ?_) (fun h12 => ?_)
  ·replace h12 := dt h12
   have h12n : j < kids.length := by omega
   have hs2 : ZH (kids.drop j) = sizeP kids[j] + ZH (kids.drop (j + 1)) := by rw [Yr h12n, ZH]
   have hs3 := gP_len kids[j] lj
   refine Zm <| Zc <| Zo <| Zc <| Za ?_
   obtain ⟨b13, o13, cap13, row13, T13, fr13, cs13, hv13, hb13, hs13, hE13⟩ := hks.get j (by first | assumption | omega | decide | simp)
   refine JLq (pp b13 (o13 + j * 35)) (Pu.idx j Tryz.runUnderlying52 ZQ hv13 rfl rfl (by first | assumption | omega | decide | simp)) <| JLr (Zi ZQ rfl (At.im hb13) hs13 <| JLr (Zh (l := pkP 0 0 zS nS) Tryz.zeroValue54 rfl fun b14 => JLr (Zd 0 (vs := cs13) (l := cs13) ZQ rfl rfl rfl rfl (ZA hE13) (RP_ok hE13) (Zy (n := 35) rfl (ZA hE13)) <| Zb <| Za <| JLr (Ze ty101 rfl (At.im hQ) rfl <| JLr (Zi ZQ rfl (At.bx 0 rfl) (Zu (ZA hE13)) <| Zw (Sub.join3 (Sub.cons 1 rfl (Sub.cons 1 rfl (Sub.cons 1 rfl (Sk (Sk Sub.nil)))))) <| Zr 0 rfl Tryz.call51 rfl rfl (fun hin => ih _ (List.getElem_mem h12n) _ lj _ _ _ (RP.mono (Hle.hu _ _) hE13) hown (by omega) (Hle.hu _ _ _ _ hM) (Hle.hu _ _ _ _ hA) (Hle.hu _ _ _ _ hQ)) rfl ?_)))))
   rintro _ _ ⟨v15, k15, rfl, ho15⟩
   refine Zw (M' := [hdC r (gP (kids[j]) lj), (BX bd1 [v15] 34), k15, (BX b14 cs13 54), (BX b1 (pkP kind num ref ks) 54)]) (Sub.flat Sub.refl (by simp)) <| Zb <| Za <| JLn (Pu.inc rfl rfl (by omega)) <| JLM rfl <| Zb <| ⟨_, ?_, (j + 1), v15, k15, (gP (kids[j]) lj), rfl, rfl, rfl, rfl, (Sk (Sk (Sk (Sd (Sk Sub.nil))))), ?_, ?_, ?_, ?_, rfl⟩
   ·omega
   ·omega
   ·rw [Yr h12n, gPs] at hinv; exact hinv
   ·omega
   exact ho15
  replace h12 := df h12
  have h12n : kids.length ≤ j := by omega
  refine ZB _ rfl <| ⟨.tuple ⟨[]⟩, [(hdC r lj) ++ (((BX bd1 [y] 34)) ++ q1)], Ret.none rfl, (Sub.join3 (Sk (Sk (Sk Sub.nil)))), ?_⟩
  rw [dropn h12n, gPs] at hinv
  rw [gP, ← hinv]
  exact ⟨_, _, rfl, hown⟩
 replace h2 := df h2
 refine Zm <| Zc <| Za <| JLq (pp b1 34) (Yv rfl rfl) <| JLr (Ze ty52 rfl (At.bx 0 rfl) (YG ..) ?_)
 obtain ⟨a16, cap16, hv16⟩ := hks.sl
 have hle16 := hks.le
 refine JLn (Pu.lenSl Tryz.runUnderlying52 hv16) <| JLM rfl <| Zb <| Zo ?_
 have hl0 : l = (if kind = 3 then Ys l (8, ref) else l) := by rw [if_neg (by assumption)]
 have hal := addH_len l (8, ref)
 have hll : (l).length ≤ l.length + 1 := by omega
 refine ZT (fun k ρ M => ∃ (j : Nat) (y : Value) (q1 : Zf) (lj : List Hd), ρ 3 = pp bQ 0 ∧ ρ 15 = ks ∧ ρ 16 = iv ((kids.length : Int)) ∧ ρ 17 = iv ((j : Int)) ∧ Sub [hdC r lj, (BX bd1 [y] 34), q1, (BX b1 (pkP kind num ref ks) 54)] M ∧ j ≤ kids.length ∧ gPs (kids.drop j) lj = gPs kids (if kind = 3 then Ys l (8, ref) else l) ∧ lj.length + ZH (kids.drop j) ≤ l.length + 1 + ZH kids ∧ Own 23 32 y (sms (sel 8 lj)) q1 ∧ k = kids.length - j) _ ⟨0, v, k, l, rfl, rfl, rfl, rfl, (Sub.cons 1 rfl (Sub.cons 1 rfl (Sub.cons 1 rfl (Sk Sub.nil)))), Nat.zero_le _, (congrArg (gPs kids) hl0), (by simp only [List.drop_zero]; omega), ho, rfl⟩ ?_
 rintro _ ρ17 _ ⟨j, y, q1, lj, e18, e19, e20, e21, hm22, hj, hinv, hlj, hown, rfl⟩
 obtain ⟨ρ23, rfl⟩ := Zn (uc e18 (uc e19 (uc e20 (uc e21 un))))
 clear e18 e19 e20 e21
 refine ZS hm22 <| Zc <| Za <| JLn (Pu.lss rfl rfl) <| Zb <| Zc <| Zg rfl (fun h24 => ?_) (fun h24 => ?_)
 ·replace h24 := dt h24
  have h24n : j < kids.length := by omega
  have hs2 : ZH (kids.drop j) = sizeP kids[j] + ZH (kids.drop (j + 1)) := by rw [Yr h24n, ZH]
  have hs3 := gP_len kids[j] lj
  refine Zm <| Zc <| Zo <| Zc <| Za ?_
  obtain ⟨b25, o25, cap25, row25, T25, fr25, cs25, hv25, hb25, hs25, hE25⟩ := hks.get j (by first | assumption | omega | decide | simp)
  refine JLq (pp b25 (o25 + j * 35)) (Pu.idx j Tryz.runUnderlying52 ZQ hv25 rfl rfl (by first | assumption | omega | decide | simp)) <| JLr (Zi ZQ rfl (At.im hb25) hs25 <| JLr (Zh (l := pkP 0 0 zS nS) Tryz.zeroValue54 rfl fun b26 => JLr (Zd 0 (vs := cs25) (l := cs25) ZQ rfl rfl rfl rfl (ZA hE25) (RP_ok hE25) (Zy (n := 35) rfl (ZA hE25)) <| Zb <| Za <| JLr (Ze ty101 rfl (At.im hQ) rfl <| JLr (Zi ZQ rfl (At.bx 0 rfl) (Zu (ZA hE25)) <| Zw (Sub.join3 (Sub.cons 1 rfl (Sub.cons 1 rfl (Sub.cons 1 rfl (Sk (Sk Sub.nil)))))) <| Zr 0 rfl Tryz.call51 rfl rfl (fun hin => ih _ (List.getElem_mem h24n) _ lj _ _ _ (RP.mono (Hle.hu _ _) hE25) hown (by omega) (Hle.hu _ _ _ _ hM) (Hle.hu _ _ _ _ hA) (Hle.hu _ _ _ _ hQ)) rfl ?_)))))
  rintro _ _ ⟨v27, k27, rfl, ho27⟩
  refine Zw (M' := [hdC r (gP (kids[j]) lj), (BX bd1 [v27] 34), k27, (BX b26 cs25 54), (BX b1 (pkP kind num ref ks) 54)]) (Sub.flat Sub.refl (by simp)) <| Zb <| Za <| JLn (Pu.inc rfl rfl (by omega)) <| JLM rfl <| Zb <| ⟨_, ?_, (j + 1), v27, k27, (gP (kids[j]) lj), rfl, rfl, rfl, rfl, (Sk (Sk (Sk (Sd (Sk Sub.nil))))), ?_, ?_, ?_, ?_, rfl⟩
  ·omega
  ·omega
  ·rw [Yr h24n, gPs] at hinv; exact hinv
  ·omega
  exact ho27
 replace h24 := df h24
 have h24n : kids.length ≤ j := by omega
 refine ZB _ rfl <| ⟨.tuple ⟨[]⟩, [(hdC r lj) ++ (((BX bd1 [y] 34)) ++ q1)], Ret.none rfl, (Sub.join3 (Sk (Sk (Sk Sub.nil)))), ?_⟩
 rw [dropn h24n, gPs] at hinv
 rw [gP, ← hinv]
 exact ⟨_, _, rfl, hown⟩
end Go.Proofs.YtfdeibbpfgolcaaGreat.Hs
/-! Walks, printed by a program of this session's own (gen.py). -/
namespace Go.Proofs.YtfdeibbpfgolcaaGreat.Hs
open Go Go.Proofs
set_option maxRecDepth 100000
set_option linter.unusedVariables false
set_option linter.unusedSimpArgs false
attribute [local irreducible] JL J CT wlo DT
set_option maxHeartbeats 4000000 in
theorem wlk_ct : ∀ (r bd0 bd1 bd2 bM bA bQ bW : Nat) (t : Tm) (cs : List Value) (s : GS) (H : Heap), RT H cs t → gsI s → s.l.length + sizeT t ≤ 100000 → H bM = some (.cells ⟨[.map (some r)]⟩ 96 (0, 0)) → H bA = some (.cells ⟨[.func (.func 50) ⟨[]⟩ ⟨[pp bM 0]⟩]⟩ 100 (0, 0)) → H bQ = some (.cells ⟨[.func (.func 51) ⟨[]⟩ ⟨[pp bA 0, pp bd1 0, pp bQ 0]⟩]⟩ 101 (0, 0)) → H bW = some (.cells ⟨[.func (.func 52) ⟨[]⟩ ⟨[pp bA 0, pp bd0 0, pp bd1 0, pp bd2 0, pp bQ 0, pp bW 0]⟩]⟩ 102 (0, 0)) → CT Tryz.prog 52 ⟨[.agg ⟨cs⟩, pp bA 0, pp bd0 0, pp bd1 0, pp bd2 0, pp bQ 0, pp bW 0]⟩ [gsC r bd0 bd1 bd2 s] H (fun _ N => ∃ s2, N = [gsC r bd0 bd1 bd2 s2] ∧ gsI s2 ∧ s2.l = gT t s.l) := by
 intro r bd0 bd1 bd2 bM bA bQ bW t
 induction t using Tm.ind with
 | h kind num ref kids cases ih ih' =>
 intro cs s H ht hI hz hM hA hQ hW
 obtain ⟨ks, cv, rfl, hk, hn, hks, hcv⟩ := RT_mk.1 ht
 rw [sizeT] at hz
 have hle := hks.le
 have hzs0 := sizeBs_le cases
 have ihx : ∀ x, (fun (x : Tm) => (∃ (j : Nat) (hj : j < kids.length), x = kids[j]) ∨ ∃ (j : Nat) (hj : j < cases.length), x = cases[j].2) x → ∀ (cs : List Value) (s : GS) (H : Heap), RT H cs x → gsI s → s.l.length + sizeT x ≤ 100000 → H bM = some (.cells ⟨[.map (some r)]⟩ 96 (0, 0)) → H bA = some (.cells ⟨[.func (.func 50) ⟨[]⟩ ⟨[pp bM 0]⟩]⟩ 100 (0, 0)) → H bQ = some (.cells ⟨[.func (.func 51) ⟨[]⟩ ⟨[pp bA 0, pp bd1 0, pp bQ 0]⟩]⟩ 101 (0, 0)) → H bW = some (.cells ⟨[.func (.func 52) ⟨[]⟩ ⟨[pp bA 0, pp bd0 0, pp bd1 0, pp bd2 0, pp bQ 0, pp bW 0]⟩]⟩ 102 (0, 0)) → CT Tryz.prog 52 ⟨[.agg ⟨cs⟩, pp bA 0, pp bd0 0, pp bd1 0, pp bd2 0, pp bQ 0, pp bW 0]⟩ [gsC r bd0 bd1 bd2 s] H (fun _ N => ∃ s2, N = [gsC r bd0 bd1 bd2 s2] ∧ gsI s2 ∧ s2.l = gT x s.l) := by
  rintro x (⟨j, hj, rfl⟩ | ⟨j, hj, rfl⟩)
  ·exact ih _ (List.getElem_mem hj)
  ·exact ih' _ (List.getElem_mem hj)
 refine Zk Tryz.func52 rfl rfl <| ZS (M' := [hdC r (s.l), (BX bd0 [s.v0] 34), s.k0, (BX bd1 [s.v1] 34), s.k1, (BX bd2 [s.v2] 34), s.k2]) (Sub.flat Sub.refl (by simp [gsC])) <| Zc <| Za <| JLr (Zp (l := pkT kind num ref ks cv) rfl rfl fun b1 => Zb <| Zc <| Zc <| Za <| JLq (pp b1 0) (ZO rfl rfl) <| JLr (Ze ty3 rfl (At.bx 0 rfl) (Z5 ..) <| Zb <| Zo ?_))
 refine Zc <| Za <| JLn (Pu.eql rfl rfl) <| JLA rfl <| Zb <| J_weak (N := fun ρ M => ∃ (y0 y1 y2 : Value) (q0 q1 q2 : Zf), (Own 23 32 y0 (sms (sel 6 (hd0 kind ref s.l))) q0) ∧ (Own 23 32 y1 (sms (sel 8 (hd0 kind ref s.l))) q1) ∧ (Own 23 32 y2 (sms (sel 11 (hd0 kind ref s.l))) q2) ∧ ρ 5 = pp bQ 0 ∧ ρ 6 = pp bW 0 ∧ ρ 7 = pp b1 0 ∧ Sub [hdC r (hd0 kind ref s.l), (BX bd0 [y0] 34), q0, (BX bd1 [y1] 34), q1, (BX bd2 [y2] 34), q2, (BX b1 (pkT kind num ref ks cv) 27)] M) ?_ ?_
 ·refine Zg rfl (fun h2 => ?_) (fun h2 => ?_)
  ·replace h2 := dt h2
   refine Za <| JLr (Ze ty100 rfl (At.im hA) rfl <| JLq (pp b1 2) (fa27_2 rfl rfl) <| JLr (Zi Z3 rfl (At.bx 0 rfl) (pkT_2 ..) <| Zw (Sub.join3 (Sub.cons 1 rfl (Sub.cons 1 rfl (Sub.cons 1 rfl (Sk (Sk (Sk (Sk (Sk Sub.nil))))))))) <| Zr 0 rfl Tryz.call50 rfl rfl (fun hin => add_ct bd0 r bM 6 ref (s.l) _ _ _ (Hle.hu _ _ _ _ hM) hI.1 (by omega)) rfl ?_))
   rintro _ _ ⟨v3, k3, rfl, ho3⟩
   refine Zw (M' := [hdC r (Ys (s.l) (6, ref)), (BX bd0 [v3] 34), k3, (BX b1 (pkT kind num ref ks cv) 27), (BX bd1 [s.v1] 34), s.k1, (BX bd2 [s.v2] 34), s.k2]) (Sub.flat Sub.refl (by simp)) <| Zb ?_
   have hsr : srt kind = 6 := by unfold srt; repeat (first | rfl | rw [if_pos (by first | assumption | omega)] | rw [if_neg (by first | assumption | omega)])
   have hL : (hd0 kind ref s.l) = (Ys (s.l) (6, ref)) := by rw [hd0_eq _ _ (by rw [hsr]; decide), hsr]
   rw [hL]
   exact ⟨v3, s.v1, s.v2, k3, s.k1, s.k2, (by first | exact ho3 | (rw [ZV _ _ (by decide)]; exact ho3)), (by first | exact hI.2.1 | (rw [ZV _ _ (by decide)]; exact hI.2.1)), (by first | exact hI.2.2 | (rw [ZV _ _ (by decide)]; exact hI.2.2)), rfl, rfl, rfl, (Sk (Sk (Sk (Sub.cons 1 rfl (Sub.cons 1 rfl (Sub.cons 1 rfl (Sub.cons 1 rfl (Sk Sub.nil))))))))⟩
  replace h2 := df h2
  refine Zc <| Za <| JLn (Pu.eql rfl rfl) <| JLA rfl <| Zb <| Zg rfl (fun h4 => ?_) (fun h4 => ?_)
  ·replace h4 := dt h4
   refine Za <| JLr (Ze ty100 rfl (At.im hA) rfl <| JLq (pp b1 2) (fa27_2 rfl rfl) <| JLr (Zi Z3 rfl (At.bx 0 rfl) (pkT_2 ..) <| Zw (Sub.join3 (Sub.cons 1 rfl (Sub.cons 3 rfl (Sub.cons 3 rfl (Sk (Sk (Sk (Sk (Sk Sub.nil))))))))) <| Zr 0 rfl Tryz.call50 rfl rfl (fun hin => add_ct bd1 r bM 8 ref (s.l) _ _ _ (Hle.hu _ _ _ _ hM) hI.2.1 (by omega)) rfl ?_))
   rintro _ _ ⟨v5, k5, rfl, ho5⟩
   refine Zw (M' := [hdC r (Ys (s.l) (8, ref)), (BX bd1 [v5] 34), k5, (BX b1 (pkT kind num ref ks cv) 27), (BX bd0 [s.v0] 34), s.k0, (BX bd2 [s.v2] 34), s.k2]) (Sub.flat Sub.refl (by simp)) <| Zb ?_
   have hsr : srt kind = 8 := by unfold srt; repeat (first | rfl | rw [if_pos (by first | assumption | omega)] | rw [if_neg (by first | assumption | omega)])
   have hL : (hd0 kind ref s.l) = (Ys (s.l) (8, ref)) := by rw [hd0_eq _ _ (by rw [hsr]; decide), hsr]
   rw [hL]
   exact ⟨s.v0, v5, s.v2, s.k0, k5, s.k2, (by first | exact hI.1 | (rw [ZV _ _ (by decide)]; exact hI.1)), (by first | exact ho5 | (rw [ZV _ _ (by decide)]; exact ho5)), (by first | exact hI.2.2 | (rw [ZV _ _ (by decide)]; exact hI.2.2)), rfl, rfl, rfl, (Sk (Sub.cons 3 rfl (Sub.cons 3 rfl (Sk (Sk (Sub.cons 1 rfl (Sub.cons 1 rfl (Sk Sub.nil))))))))⟩
  replace h4 := df h4
  refine Zc <| Zc <| Za <| JLn (Pu.eql rfl rfl) <| JLA rfl <| Zb <| Zg rfl (fun h6 => ?_) (fun h6 => ?_)
  ·replace h6 := dt h6
   refine Zm <| Zg rfl (fun _ => ?_) (fun h7 => absurd h6 (df h7))
   refine Za <| JLr (Ze ty100 rfl (At.im hA) rfl <| JLq (pp b1 2) (fa27_2 rfl rfl) <| JLr (Zi Z3 rfl (At.bx 0 rfl) (pkT_2 ..) <| Zw (Sub.join3 (Sub.cons 1 rfl (Sub.cons 5 rfl (Sub.cons 5 rfl (Sk (Sk (Sk (Sk (Sk Sub.nil))))))))) <| Zr 0 rfl Tryz.call50 rfl rfl (fun hin => add_ct bd2 r bM 11 ref (s.l) _ _ _ (Hle.hu _ _ _ _ hM) hI.2.2 (by omega)) rfl ?_))
   rintro _ _ ⟨v8, k8, rfl, ho8⟩
   refine Zw (M' := [hdC r (Ys (s.l) (11, ref)), (BX bd2 [v8] 34), k8, (BX b1 (pkT kind num ref ks cv) 27), (BX bd0 [s.v0] 34), s.k0, (BX bd1 [s.v1] 34), s.k1]) (Sub.flat Sub.refl (by simp)) <| Zb ?_
   have hsr : srt kind = 11 := by unfold srt; repeat (first | rfl | rw [if_pos (by first | assumption | omega)] | rw [if_neg (by first | assumption | omega)])
   have hL : (hd0 kind ref s.l) = (Ys (s.l) (11, ref)) := by rw [hd0_eq _ _ (by rw [hsr]; decide), hsr]
   rw [hL]
   exact ⟨s.v0, s.v1, v8, s.k0, s.k1, k8, (by first | exact hI.1 | (rw [ZV _ _ (by decide)]; exact hI.1)), (by first | exact hI.2.1 | (rw [ZV _ _ (by decide)]; exact hI.2.1)), (by first | exact ho8 | (rw [ZV _ _ (by decide)]; exact ho8)), rfl, rfl, rfl, (Sk (Sub.cons 3 rfl (Sub.cons 3 rfl (Sub.cons 3 rfl (Sub.cons 3 rfl (Sk (Sk (Sk Sub.nil))))))))⟩
  replace h6 := df h6
  refine Za <| JLn (Pu.eql rfl rfl) <| JLA rfl <| Zb <| Zg rfl (fun h9 => ?_) (fun h9 => ?_)
  ·replace h9 := dt h9
   refine Za <| JLr (Ze ty100 rfl (At.im hA) rfl <| JLq (pp b1 2) (fa27_2 rfl rfl) <| JLr (Zi Z3 rfl (At.bx 0 rfl) (pkT_2 ..) <| Zw (Sub.join3 (Sub.cons 1 rfl (Sub.cons 5 rfl (Sub.cons 5 rfl (Sk (Sk (Sk (Sk (Sk Sub.nil))))))))) <| Zr 0 rfl Tryz.call50 rfl rfl (fun hin => add_ct bd2 r bM 11 ref (s.l) _ _ _ (Hle.hu _ _ _ _ hM) hI.2.2 (by omega)) rfl ?_))
   rintro _ _ ⟨v10, k10, rfl, ho10⟩
   refine Zw (M' := [hdC r (Ys (s.l) (11, ref)), (BX bd2 [v10] 34), k10, (BX b1 (pkT kind num ref ks cv) 27), (BX bd0 [s.v0] 34), s.k0, (BX bd1 [s.v1] 34), s.k1]) (Sub.flat Sub.refl (by simp)) <| Zb ?_
   have hsr : srt kind = 11 := by unfold srt; repeat (first | rfl | rw [if_pos (by first | assumption | omega)] | rw [if_neg (by first | assumption | omega)])
   have hL : (hd0 kind ref s.l) = (Ys (s.l) (11, ref)) := by rw [hd0_eq _ _ (by rw [hsr]; decide), hsr]
   rw [hL]
   exact ⟨s.v0, s.v1, v10, s.k0, s.k1, k10, (by first | exact hI.1 | (rw [ZV _ _ (by decide)]; exact hI.1)), (by first | exact hI.2.1 | (rw [ZV _ _ (by decide)]; exact hI.2.1)), (by first | exact ho10 | (rw [ZV _ _ (by decide)]; exact ho10)), rfl, rfl, rfl, (Sk (Sub.cons 3 rfl (Sub.cons 3 rfl (Sub.cons 3 rfl (Sub.cons 3 rfl (Sk (Sk (Sk Sub.nil))))))))⟩
  replace h9 := df h9
  refine Zm ?_
  have hsr : srt kind = 0 := by unfold srt; repeat (first | rfl | rw [if_neg (by first | assumption | omega)])
  have hL : (hd0 kind ref s.l) = (s.l) := by rw [hd0, if_pos hsr]
  rw [hL]
  exact ⟨s.v0, s.v1, s.v2, s.k0, s.k1, s.k2, (by first | exact hI.1 | (rw [ZV _ _ (by decide)]; exact hI.1)), (by first | exact hI.2.1 | (rw [ZV _ _ (by decide)]; exact hI.2.1)), (by first | exact hI.2.2 | (rw [ZV _ _ (by decide)]; exact hI.2.2)), rfl, rfl, rfl, (Sub.cons 1 rfl (Sub.cons 1 rfl (Sub.cons 1 rfl (Sub.cons 1 rfl (Sub.cons 1 rfl (Sub.cons 1 rfl (Sub.cons 1 rfl (Sk Sub.nil))))))))⟩
 rintro ρ11 _ ⟨y0, y1, y2, q0, q1, q2, hj0, hj1, hj2, e12, e13, e14, hm15⟩
 obtain ⟨ρ16, rfl⟩ := Zn (uc e12 (uc e13 (uc e14 un)))
 clear e12 e13 e14
 refine ZS hm15 <| Zc <| Zc <| Za <| JLq (pp b1 35) (Yw rfl rfl) <| JLr (Ze ty25 rfl (At.bx 7 rfl) (Yj ..) ?_)
 obtain ⟨a17, cap17, hv17⟩ := hcv.sl
 have hle17 := hcv.le
 refine JLn (Pu.lenSl Tryz.runUnderlying25 hv17) <| JLM rfl <| Zb <| Zo <| ZT (fun k ρ M => ∃ (j : Nat) (y : Value) (qq : Zf) (lj : List Hd), ρ 5 = pp bQ 0 ∧ ρ 6 = pp bW 0 ∧ ρ 7 = pp b1 0 ∧ ρ 34 = cv ∧ ρ 35 = iv ((cases.length : Int)) ∧ ρ 36 = iv ((j : Int)) ∧ Sub [hdC r lj, (BX bd0 [y0] 34), q0, (BX bd1 [y] 34), qq, (BX bd2 [y2] 34), q2, (BX b1 (pkT kind num ref ks cv) 27)] M ∧ j ≤ cases.length ∧ gCp (cases.drop j) lj = gCp cases (hd0 kind ref s.l) ∧ lj.length + ((cases.drop j).map fun c => sizeP c.1).sum ≤ s.l.length + 1 + (cases.map fun c => sizeP c.1).sum ∧ Own 23 32 y (sms (sel 8 lj)) qq ∧ Own 23 32 y0 (sms (sel 6 lj)) q0 ∧ Own 23 32 y2 (sms (sel 11 lj)) q2 ∧ k = cases.length - j) _ ⟨0, y1, q1, (hd0 kind ref s.l), rfl, rfl, rfl, rfl, rfl, rfl, (Sk (Sk (Sk (Sk (Sk (Sk (Sk (Sk Sub.nil)))))))), Nat.zero_le _, rfl, (by have := hd0_len kind ref s.l; simp only [List.drop_zero]; omega), hj1, hj0, hj2, rfl⟩ ?_
 rintro _ ρ18 _ ⟨j, y, qq, lj, e19, e20, e21, e22, e23, e24, hm25, hj, hinv, hlj, hown, how0, how2, rfl⟩
 obtain ⟨ρ26, rfl⟩ := Zn (uc e19 (uc e20 (uc e21 (uc e22 (uc e23 (uc e24 un))))))
 clear e19 e20 e21 e22 e23 e24
 refine ZS hm25 <| Zc <| Za <| JLn (Pu.lss rfl rfl) <| Zb <| Zc <| Zg rfl (fun h27 => ?_) (fun h27 => ?_)
 ·replace h27 := dt h27
  have h27n : j < cases.length := by omega
  have hs2 : ((cases.drop j).map fun c => sizeP c.1).sum = sizeP cases[j].1 + ((cases.drop (j + 1)).map fun c => sizeP c.1).sum := by rw [Yr h27n, List.map_cons, List.sum_cons]
  have hs3 := gP_len cases[j].1 lj
  have hs4 := sizeCs_mem _ (List.getElem_mem h27n)
  refine Zm <| Zc <| Zo <| Zc <| Za ?_
  obtain ⟨b28, o28, cap28, row28, T28, fr28, cs28, hv28, hb28, hs28, hE28⟩ := hcv.get j (by first | assumption | omega | decide | simp)
  obtain ⟨ca28, cb28, rfl, hA28, hB28⟩ := hE28
  refine JLq (pp b28 (o28 + j * 71)) (Pu.idx j Tryz.runUnderlying25 YR hv28 rfl rfl (by first | assumption | omega | decide | simp)) <| JLr (Zi YR rfl (At.im hb28) hs28 <| JLr (Zh (l := (pkP 0 0 zS nS) ++ (pkT 0 0 zS nS nS)) Tryz.zeroValue56 rfl fun b29 => JLr (Zd 0 (vs := ca28 ++ cb28) (l := ca28 ++ cb28) YR rfl rfl rfl rfl (ZR (ZA hA28) (Zv hB28)) (Z2 (RP_ok hA28) (Y5 hB28)) (Zy (n := 71) rfl (ZR (ZA hA28) (Zv hB28))) <| Zb <| Za <| JLr (Ze ty101 rfl (At.im hQ) rfl <| JLq (pp b29 0) (fa56_0 rfl rfl) <| JLr (Zi ZQ rfl (At.bx 0 rfl) (sub_l (ZA hA28)) <| Zw (Sub.join3 (Sub.cons 1 rfl (Sub.cons 3 rfl (Sub.cons 3 rfl (Sk (Sk (Sk (Sk (Sk (Sk Sub.nil)))))))))) <| Zr 0 rfl Tryz.call51 rfl rfl (fun hin => pat_ct bd1 r bM bA bQ _ _ lj _ _ _ (RP.mono (Hle.hu _ _) hA28) hown (by omega) (Hle.hu _ _ _ _ hM) (Hle.hu _ _ _ _ hA) (Hle.hu _ _ _ _ hQ)) rfl ?_)))))
  rintro _ _ ⟨v30, k30, rfl, ho30⟩
  refine Zw (M' := [hdC r (gP (cases[j].1) lj), (BX bd1 [v30] 34), k30, (BX b29 (ca28 ++ cb28) 56), (BX bd0 [y0] 34), q0, (BX bd2 [y2] 34), q2, (BX b1 (pkT kind num ref ks cv) 27)]) (Sub.flat Sub.refl (by simp)) <| Zb <| Za <| JLn (Pu.inc rfl rfl (by omega)) <| JLM rfl <| Zb <| ⟨_, ?_, (j + 1), v30, k30, (gP (cases[j].1) lj), rfl, rfl, rfl, rfl, rfl, rfl, (Sk (Sub.cons 3 rfl (Sub.cons 3 rfl (Sk (Sk (Sd (Sk (Sk (Sk Sub.nil))))))))), ?_, ?_, ?_, ?_, ?_, ?_, rfl⟩
  ·omega
  ·omega
  ·rw [Yr h27n, gCp] at hinv; exact hinv
  ·omega
  ·exact ho30
  ·rw [gP_other (by decide)]; exact how0
  rw [gP_other (by decide)]; exact how2
 replace h27 := df h27
 have h27n : cases.length ≤ j := by omega
 refine ZB _ rfl <| Zc <| Za <| JLr (Zi Zs rfl (At.bx 7 rfl) (ZY ..) <| Jc Tryz.call53 rfl (fun hin => parts_ct _ _ rfl) rfl ?_)
 rintro _ _ ⟨bT31, rfl, rfl⟩
 rw [dropn h27n, gCp] at hinv
 have hI1 : gsI (⟨lj, y0, y, y2, q0, qq, q2⟩ : GS) := ⟨how0, hown, how2⟩
 refine Zw (Sub.join7 (Sub.cons 1 rfl (Sub.cons 1 rfl (Sub.cons 1 rfl (Sub.cons 1 rfl (Sub.cons 1 rfl (Sub.cons 1 rfl (Sub.cons 1 rfl (Sk (Sk Sub.nil)))))))))) <| Zb <| Zo <| J_range (L := [(BX bT31 (pkT kind num ref ks cv) 27), (BX b1 (pkT kind num ref ks cv) 27)]) (fun e : GS => [gsC r bd0 bd1 bd2 e]) (fun _ => false) (⟨lj, y0, y, y2, q0, qq, q2⟩ : GS) (fun s2 => gsI s2 ∧ s2.l = gBs cases (gTs kids lj)) rfl rfl Tryz.call95 (flatten_pick (i := 0) rfl) ?_ ?_ ?_
 ·intro l yc hY hin
  have hzs := sizeBs_le cases
  refine CT.mono (parts1R_ct kind num ref ks cv kids cases _ bT31 (RTs.mono (Hle.hu _ _) hks) (RCs.mono (Hle.hu _ _) hcv) (hin 0 _ rfl _ _ List.mem_cons_self) (fun c hc => by have := sizeCs_mem c hc; have := binds_le c.1; omega) (by have := len_sizeTs kids; omega) (by have := len_sizeCs cases; omega) l yc gsI GS.l gT (fun x l => (fun (x : Tm) => (∃ (j : Nat) (hj : j < kids.length), x = kids[j]) ∨ ∃ (j : Nat) (hj : j < cases.length), x = cases[j].2) x ∧ l.length + sizeT x ≤ 100000) (⟨lj, y0, y, y2, q0, qq, q2⟩ : GS) hI1 ?_ ?_ ?_) (fun v N ⟨s, h1, h2, h3⟩ => ⟨s, h1, h2, by rw [gBs_fold, gTs_fold]; exact h3⟩)
  ·intro j hj; have e1 := gTs_len (kids.take j) lj; have e2 := sizeTs_split kids j hj; rw [gTs_fold] at e1; refine ⟨.inl ⟨j, hj, rfl⟩, ?_⟩; show (List.foldl (fun l x => gT x l) lj (kids.take j)).length + sizeT kids[j] ≤ 100000; omega
  ·intro j hj; have e1 := gBs_len (cases.take j) (gTs kids lj); have e2 := sizeBs_split cases j hj; have e3 := gTs_len kids lj; rw [gBs_fold, gTs_fold] at e1; rw [gTs_fold] at e3; refine ⟨.inr ⟨j, hj, rfl⟩, ?_⟩; show (List.foldl (fun l c => gT c.2 l) (List.foldl (fun l x => gT x l) lj kids) (cases.take j)).length + sizeT (cases[j]).2 ≤ 100000; omega
  intro x s2 i mo a h hgs hok hh ra
  refine YT.mono (hY s2 [_, _] h (fun s3 => gsI s3 ∧ s3.l = gT x s2.l) rfl rfl (RoundOk.mk ?_)) ?_
  ·show J _ _ _ _ [gsC r bd0 bd1 bd2 s2] _
   refine Za <| JLr (Zh (l := (pkT 0 0 zS nS nS) ++ ([iv 0] : List Value)) Tryz.zeroValue107 rfl fun b32 => JLr (Zd 0 (vs := a ++ ([iv mo] : List Value)) (l := a ++ ([iv mo] : List Value)) ty107 rfl rfl rfl rfl (ZR (Zv ra) rfl) (Z2 (Y5 ra) (Zj rfl Zt)) (Zy (n := 37) rfl (ZR (Zv ra) rfl)) <| Zb <| Zo <| Za <| JLr (Ze ty102 rfl (At.im (hh _ _ (Hle.hu _ _ _ _ hW))) rfl <| JLq (pp b32 0) (fa107_0 rfl rfl) <| JLr (Zi Zs rfl (At.bx 0 rfl) (sub_l (Zv ra)) <| Zr 1 rfl Tryz.call52 rfl rfl (fun hin => ihx _ hok.1 _ _ _ (RT.mono (Hle.hu _ _) ra) hgs hok.2 (Hle.hu _ _ _ _ (hh _ _ (Hle.hu _ _ _ _ hM))) (Hle.hu _ _ _ _ (hh _ _ (Hle.hu _ _ _ _ hA))) (Hle.hu _ _ _ _ (hh _ _ (Hle.hu _ _ _ _ hQ))) (Hle.hu _ _ _ _ (hh _ _ (Hle.hu _ _ _ _ hW)))) rfl ?_))))
   rintro _ _ ⟨s33, rfl, hI33, hl33⟩
   refine Zb ?_
   exact ⟨s33, rfl, (Sk Sub.nil), hI33, hl33⟩
  rintro v N ⟨s3, rfl, rfl, h1, h2⟩; exact ⟨s3, rfl, rfl, h1, h2⟩
 ·rintro ef ⟨hef, hel⟩ hp
  refine ⟨.tuple ⟨[]⟩, [gsC r bd0 bd1 bd2 ef], Ret.none rfl, (Sk Sub.nil), ?_⟩
  exact ⟨ef, rfl, hef, by rw [gT, hel, hinv]⟩
 intro s _ hp; cases hp
end Go.Proofs.YtfdeibbpfgolcaaGreat.Hs
