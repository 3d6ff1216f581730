import Derived.Test.YtjhenmdcnbaobaaGreatCodedk
/-! What the walks of FromItem use. -/
namespace Go.Proofs.YtjhenmdcnbaobaaGreat.Hs
open Go Go.Proofs
theorem wr30_inI (k : Int) : inI (wr30 k) := by
  unfold wr30 inI
  rw [show IntKind.i64.wrap (k - 30) = (k - 30 + 9223372036854775808) % 18446744073709551616 - 9223372036854775808 from by
    simp [IntKind.wrap, IntKind.bits, IntKind.signed]; split <;> omega]
  omega
section
variable {k m d n : Int} {t : ByteArray} {kids : List It} {w : Bool}
theorem ptG_far (h : (w || decide (600 < n + 1) || decide (62 < d)) = true) : ptG (.mk k m t kids) d (n, w) = (zPt, (n + 1, true)) := by
  rw [ptG, if_pos (by unfold farG; exact h)]
theorem ptG_near (h : (w || decide (600 < n + 1) || decide (62 < d)) = false) : ptG (.mk k m t kids) d (n, w) = (.mk (wr30 k) m (Yl (decide (k = 33)) t) (ptGs kids (d + 1) (n + 1, YS (decide (k = 33)) t)).1, (ptGs kids (d + 1) (n + 1, YS (decide (k = 33)) t)).2) := by
  rw [ptG, if_neg (by unfold farG; simp only; rw [h]; decide)]
theorem tmG_far (h : (w || decide (600 < n + 1) || decide (62 < d)) = true) : tmG (.mk k m t kids) d (n, w) = (zT, (n + 1, true)) := by
  rw [tmG, if_pos (by unfold farG; exact h)]
theorem tmG_near (h : (w || decide (600 < n + 1) || decide (62 < d)) = false) : tmG (.mk k m t kids) d (n, w) = (.mk k m (Yl (ZW k) t) (Y1 kids (d + 1) [] [] (n + 1, YS (ZW k) t)).1.1 (Y1 kids (d + 1) [] [] (n + 1, YS (ZW k) t)).1.2, (Y1 kids (d + 1) [] [] (n + 1, YS (ZW k) t)).2) := by
  rw [tmG, if_neg (by unfold farG; simp only; rw [h]; decide)]
theorem fR_has (k : Int) : fR k = ZW k := by
  unfold fR ZW
  rw [Bool.eq_iff_iff]
  simp
  omega
end
theorem szIs_two {l : List It} (h : l.length = 2) : Z5 l = szI l[0] + szI l[1] := by
  match l, h with
  | [a, b], _ => rw [Z5, Z5, Z5]; rfl
end Go.Proofs.YtjhenmdcnbaobaaGreat.Hs
/-! What the walks of FromItem and Decode use. -/
namespace Go.Proofs.YtjhenmdcnbaobaaGreat.Hs
open Go Go.Proofs
section
variable {x : It}
theorem fromP_w (h : (tmG x 1 (0, false)).2.2 = true) : fromP x = (zT, 4) := by unfold fromP; rw [if_pos (.inl h)]
theorem fromP_r (h : ¬ ZP [(tmG x 1 (0, false)).1] = 0) : fromP x = (zT, 4) := by unfold fromP; rw [if_pos (.inr (by rw [← rightT_one]; exact h))]
theorem fromP_ok (h : (tmG x 1 (0, false)).2.2 = false) (h1 : ZP [(tmG x 1 (0, false)).1] = 0) : fromP x = ((tmG x 1 (0, false)).1, 0) := by
  unfold fromP; rw [if_neg]; rintro (q | q)
  · rw [h] at q; cases q
  · rw [← rightT_one] at q; exact q h1
end
/-! what is decoded is not great -/
theorem kids_sz {g : Nat → Nat → DR (It × Nat)} (hg : ∀ a c x k b, g a c = .ok (x, k) b → szI x + c ≤ k) : ∀ (m a c : Nat) (x : List It) (k b : Nat), Yq g m a c = .ok (x, k) b → Z5 x + c ≤ k := by
  intro m
  induction m with
  | zero => intro a c x k b h; rw [Yq] at h; cases h; rw [Z5]; omega
  | succ m ih =>
    intro a c x k b h
    rw [Yq] at h
    split at h
    · cases h
    · rename_i y c' b' hy
      have h1 := hg _ _ _ _ _ hy
      split at h
      · cases h
      · rename_i ks c'' d hk
        have := ih _ _ _ _ _ hk
        cases h
        rw [Z5]; omega
theorem itemD_sz {l : List Int} : ∀ (f a c : Nat) (x : It) (k b : Nat), ZM l f a c = .ok (x, k) b → szI x + c ≤ k := by
  intro f
  induction f with
  | zero => intro a c x k b h; rw [ZM] at h; split at h <;> cases h
  | succ f ih =>
    intro a c x k b h
    rw [ZM] at h
    split at h
    · cases h
    · split at h
      · cases h
      · split at h
        · cases h
        · split at h
          · cases h
          · split at h
            · cases h
            · split at h
              · cases h
              · rename_i ks c' z hm
                cases h
                rw [szI]
                unfold manyD at hm
                split at hm
                · split at hm
                  · cases hm
                  · have := kids_sz ih _ _ _ _ _ _ hm; omega
                · cases hm; rw [Z5]; omega
theorem kids_okI {g : Nat → Nat → DR (It × Nat)} (hg : ∀ a c x k b, g a c = .ok (x, k) b → okI x) : ∀ (m a c : Nat) (x : List It) (k b : Nat), Yq g m a c = .ok (x, k) b → okIs x := by
  intro m
  induction m with
  | zero => intro a c x k b h; rw [Yq] at h; cases h; rw [okIs]; trivial
  | succ m ih =>
    intro a c x k b h
    rw [Yq] at h
    split at h
    · cases h
    · rename_i y c' b' hy
      have h1 := hg _ _ _ _ _ hy
      split at h
      · cases h
      · rename_i ks c'' d hk
        have := ih _ _ _ _ _ hk
        cases h
        rw [okIs]; exact ⟨h1, this⟩
theorem itemD_okI {l : List Int} : ∀ (f a c : Nat) (x : It) (k b : Nat), ZM l f a c = .ok (x, k) b → okI x := by
  intro f
  induction f with
  | zero => intro a c x k b h; rw [ZM] at h; split at h <;> cases h
  | succ f ih =>
    intro a c x k b h
    rw [ZM] at h
    split at h
    · cases h
    · split at h
      · cases h
      · split at h
        · cases h
        · split at h
          · cases h
          · split at h
            · cases h
            · split at h
              · cases h
              · rename_i ks c' z hm
                cases h
                rw [okI]
                refine ⟨by omega, ?_⟩
                unfold manyD at hm
                split at hm
                · split at hm
                  · cases hm
                  · exact kids_okI ih _ _ _ _ _ _ hm
                · cases hm; rw [okIs]; trivial
theorem dec_good (l : List Int) : okI (ZI l).1 ∧ szI (ZI l).1 ≤ 5000 := by
  have hz : okI zI ∧ szI zI ≤ 5000 := by
    refine ⟨?_, ?_⟩
    · unfold zI; rw [okI, okIs]; exact ⟨by omega, trivial⟩
    · unfold zI; rw [szI, Z5]; omega
  unfold ZI
  split
  · exact hz
  · split
    · exact hz
    · rename_i x c a h
      split
      · exact hz
      · exact ⟨itemD_okI _ _ _ _ _ _ h, by have := itemD_sz _ _ _ _ _ _ h; have := itemD_c _ _ _ _ _ _ (by omega) h; simp only; omega⟩
/-- what Decode answers: a term, an index, an error -/
noncomputable def decT (l : List Int) : Tm × Int × Int := if ¬ (ZI l).2.2 = 0 then (zT, (ZI l).2.1, (ZI l).2.2) else ((fromP (ZI l).1).1, 0, (fromP (ZI l).1).2)
theorem decT_err {l : List Int} (h : ¬ (ZI l).2.2 = 0) : decT l = (zT, (ZI l).2.1, (ZI l).2.2) := by unfold decT; rw [if_pos h]
theorem decT_ok {l : List Int} (h : (ZI l).2.2 = 0) : decT l = ((fromP (ZI l).1).1, 0, (fromP (ZI l).1).2) := by unfold decT; rw [if_neg (fun q => q h)]
end Go.Proofs.YtjhenmdcnbaobaaGreat.Hs
/-! Items written as bytes; items of right terms. -/
namespace Go.Proofs.YtjhenmdcnbaobaaGreat.Hs
open Go Go.Proofs
/-- a number as bytes -/
def YB (n : Nat) : List Int := if n < 128 then [(n : Int)] else ((n % 128 + 128 : Nat) : Int) :: YB (n / 128)
theorem numE_lt {n : Nat} (h : n < 128) : YB n = [(n : Int)] := by rw [YB, if_pos h]
theorem numE_ge {n : Nat} (h : ¬ n < 128) : YB n = ((n % 128 + 128 : Nat) : Int) :: YB (n / 128) := by rw [YB, if_neg h]
theorem numE_len (k : Nat) : ∀ n : Nat, n < 128 ^ (k + 1) → 1 ≤ (YB n).length ∧ (YB n).length ≤ k + 1 := by
  induction k with
  | zero => intro n h; rw [numE_lt (by simpa using h)]; simp
  | succ k ih =>
    intro n h
    by_cases hn : n < 128
    · rw [numE_lt hn]; simp
    · rw [numE_ge hn, List.length_cons]
      have h2 : n / 128 < 128 ^ (k + 1) := by
        rw [Nat.pow_succ] at h
        exact Nat.div_lt_of_lt_mul (by rw [Nat.mul_comm]; exact h)
      have := ih (n / 128) h2
      omega
theorem numE_6 {n : Nat} (h : n ≤ 1099511627776) : 1 ≤ (YB n).length ∧ (YB n).length ≤ 6 := numE_len 5 n (by omega)
theorem numE_8 : ∀ (n : Nat), ∀ x ∈ YB n, 0 ≤ x ∧ x ≤ 255 := by
  intro n
  induction n using Nat.strongRecOn with
  | _ n ih =>
    intro x hx
    by_cases hn : n < 128
    · rw [numE_lt hn] at hx; simp only [List.mem_singleton] at hx; omega
    · rw [numE_ge hn] at hx
      rcases List.mem_cons.1 hx with rfl | hx
      · omega
      · exact ih (n / 128) (by omega) x hx
def txE (t : ByteArray) : List Int := if t = ⟨#[]⟩ then [] else YB t.size ++ sB t
def hdE (k : Int) (t : ByteArray) (m : Nat) : Int := k + (if t = ⟨#[]⟩ then 0 else 64) + (if m = 0 then 0 else 128)
mutual
/-- an item as bytes -/
def Ya : It → List Int
  | .mk k n t kids => hdE k t kids.length :: (YB n.toNat ++ (txE t ++ (if kids.length = 0 then [] else YB kids.length ++ Yd kids)))
def Yd : List It → List Int
  | [] => []
  | x :: l => Ya x ++ Yd l
end
theorem encIs_snoc {l : List It} {j : Nat} (h : j < l.length) : Yd (l.take (j + 1)) = Yd (l.take j) ++ Ya l[j] := by
  induction l generalizing j with
  | nil => simp at h
  | cons x l ih =>
    cases j with
    | zero => simp [Yd]
    | succ j =>
      rw [List.take_succ_cons, List.take_succ_cons, Yd, Yd, ih (by simpa using h), List.append_assoc]
      rfl
theorem encIs_take (l : List It) (j : Nat) : (Yd (l.take j)).length ≤ (Yd l).length := by
  induction l generalizing j with
  | nil => simp [Yd]
  | cons x l ih =>
    cases j with
    | zero => simp [Yd]
    | succ j => rw [List.take_succ_cons, Yd, Yd, List.length_append, List.length_append]; have := ih j; omega
theorem encIs_take1 {l : List It} {j : Nat} (h : j < l.length) : (Yd (l.take j)).length + (Ya l[j]).length ≤ (Yd l).length := by
  have h1 := encIs_take l (j + 1)
  rw [encIs_snoc h, List.length_append] at h1
  exact h1
mutual
/-- an item whose fields are as they may be -/
def gdI : It → Prop
  | .mk k n t kids => (1 ≤ k ∧ k ≤ 63) ∧ (0 ≤ n ∧ n ≤ 1099511627776) ∧ t.size ≤ 32 ∧ Yt kids
def Yt : List It → Prop
  | [] => True
  | x :: l => gdI x ∧ Yt l
end
theorem gdIs_mem {l : List It} (h : Yt l) : ∀ x ∈ l, gdI x := by
  induction l with
  | nil => intro x hx; cases hx
  | cons y l ih =>
    rw [Yt] at h
    intro x hx
    rcases List.mem_cons.1 hx with rfl | hx
    · exact h.1
    · exact ih h.2 x hx
theorem gdIs_app {a b : List It} (ha : Yt a) (hb : Yt b) : Yt (a ++ b) := by
  induction a with
  | nil => exact hb
  | cons x a ih => rw [Yt] at ha; rw [List.cons_append, Yt]; exact ⟨ha.1, ih ha.2⟩
theorem txE_len {t : ByteArray} (h : t.size ≤ 32) : (txE t).length ≤ 38 := by
  unfold txE
  split
  · simp
  · rw [List.length_append, Ys]; have := numE_6 (n := t.size) (by omega); omega
theorem enc_len (x : It) : gdI x → szI x ≤ 1000000 → 2 ≤ (Ya x).length ∧ (Ya x).length ≤ 51 * szI x := by
  induction x using It.ind with
  | h k n t kids ih =>
    intro h hz
    rw [gdI] at h
    rw [Ya, szI]
    rw [szI] at hz
    have hK : ∀ l : List It, (∀ x ∈ l, gdI x → szI x ≤ 1000000 → 2 ≤ (Ya x).length ∧ (Ya x).length ≤ 51 * szI x) → Yt l → Z5 l ≤ 1000000 → (Yd l).length ≤ 51 * Z5 l := by
      intro l
      induction l with
      | nil => intro _ _ _; rw [Yd]; simp
      | cons x l ihl =>
        intro hl hg hz
        rw [Yt] at hg
        rw [Z5] at hz ⊢
        rw [Yd, List.length_append]
        have h1 := hl x (by simp) hg.1 (by omega)
        have h2 := ihl (fun y hy => hl y (by simp [hy])) hg.2 (by omega)
        omega
    have h1 := hK kids ih h.2.2.2 (by omega)
    have h2 := numE_6 (n := n.toNat) (by omega)
    have h3 := txE_len h.2.2.1
    have h5 := szIs_len kids
    rw [List.length_cons, List.length_append, List.length_append]
    split
    · simp; omega
    · have h4 := numE_6 (n := kids.length) (by omega)
      rw [List.length_append]; omega
theorem encI_pos (x : It) : 1 ≤ (Ya x).length := by cases x; rw [Ya]; simp
theorem encIs_lenk {l : List It} (_ : Yt l) : l.length ≤ (Yd l).length := by
  induction l with
  | nil => simp
  | cons x l ih =>
    rename_i h
    rw [Yt] at h
    rw [Yd, List.length_append, List.length_cons]
    have := encI_pos x
    have := ih h.2
    omega
/-! the items of right terms -/
theorem txP_size (b : Prop) [Decidable b] (r : Sm) : (if b then txS r else (⟨#[]⟩ : ByteArray)).size ≤ 32 := by
  split
  · rw [txS_size]; omega
  · exact Nat.zero_le _
theorem pt_gd (p : Pt) : YA p = 0 → gdI (itP p) := by
  induction p using Pt.ind with
  | h k n r kids ih =>
    intro h
    rw [YA] at h
    split at h
    · rename_i hh
      have hK : ∀ (l : List Pt), (∀ x ∈ l, YA x = 0 → gdI (itP x)) → YM l = 0 → Yt (itPs l) := by
        intro l
        induction l with
        | nil => intro _ _; rw [itPs, Yt]; trivial
        | cons x l ihl =>
          intro hl h
          rw [YM] at h
          split at h
          · rename_i hx
            rw [itPs, Yt]
            exact ⟨hl x (by simp) hx, ihl (fun y hy => hl y (by simp [hy])) h⟩
          · rename_i hx; exact absurd h hx
      rw [itP, gdI]
      unfold pHead at hh
      split at hh
      · cases hh
      · split at hh
        · cases hh
        · split at hh
          · cases hh
          · split at hh
            · cases hh
            · rename_i q1 q2 q3 q4
              refine ⟨by omega, by omega, txP_size _ r, hK kids ih h⟩
    · rename_i hh; exact absurd h hh
theorem tm_gd {D M : Int} (hM : M ≤ 1000000) (t : Tm) : ∀ b : Int, ZT D M b t = 0 → vOK t → gdI (itT t) := by
  induction t using Tm.ind with
  | h k n r kids cases ih ih' =>
    intro b h hv
    obtain ⟨h1, h2, h3, h4⟩ := nErr_iff.1 h
    rw [vOK] at hv
    obtain ⟨v1, v2, v3⟩ := hv
    have hK : ∀ (l : List Tm) (i : Nat), (∀ x ∈ l, ∀ b : Int, ZT D M b x = 0 → vOK x → gdI (itT x)) → Z7 D M b k i l = 0 → vOKs l → Yt (itTs l) := by
      intro l
      induction l with
      | nil => intro i _ _ _; rw [itTs, Yt]; trivial
      | cons x l ihl =>
        intro i hl h hv
        rw [Z7] at h
        rw [vOKs] at hv
        split at h
        · rename_i hx
          rw [itTs, Yt]
          exact ⟨hl x (by simp) _ hx hv.1, ihl (i + 1) (fun y hy => hl y (by simp [hy])) h hv.2⟩
        · rename_i hx; exact absurd h hx
    have hC : ∀ (l : List (Pt × Tm)), (∀ c ∈ l, ∀ b : Int, ZT D M b c.2 = 0 → vOK c.2 → gdI (itT c.2)) → YN l = 0 → Yp D M b l = 0 → vOKc l → Yt (itCs l) := by
      intro l
      induction l with
      | nil => intro _ _ _ _; rw [itCs, Yt]; trivial
      | cons c l ihl =>
        intro hl hp h hv
        obtain ⟨p, x⟩ := c
        rw [Yp] at h
        rw [YN] at hp
        rw [vOKc] at hv
        split at hp
        · rename_i hpx
          split at h
          · rename_i hx
            rw [itCs, Yt, gdI, Yt, Yt, Yt]
            refine ⟨⟨by omega, by omega, by decide, pt_gd p hpx, hl (p, x) (by simp) _ hx hv.1, trivial⟩, ihl (fun y hy => hl y (by simp [hy])) hp h hv.2⟩
          · rename_i hx; exact absurd h hx
        · rename_i hpx; exact absurd hp hpx
    rw [itT, gdI]
    unfold YD at h1
    split at h1
    · cases h1
    · split at h1
      · cases h1
      · split at h1
        · cases h1
        · split at h1
          · cases h1
          · split at h1
            · cases h1
            · rename_i q1 q2 q3 q4 q5
              have hn : 0 ≤ n ∧ n ≤ 1099511627776 := by
                by_cases hb : Yk k = true
                · have hk : k = 1 ∨ k = 2 ∨ k = 7 ∨ k = 8 ∨ k = 10 ∨ k = 11 := by
                    unfold Yk at hb; simp at hb; omega
                  rcases hk with rfl | rfl | rfl | rfl | rfl | rfl
                  · have := v1 rfl; omega
                  · omega
                  · omega
                  · omega
                  · omega
                  · omega
                · have : n = 0 := Classical.byContradiction fun z => q2 (.inl (.inl ⟨by simpa using hb, z⟩))
                  omega
              refine ⟨by omega, hn, txP_size _ r, gdIs_app (hK kids 0 ih h3 v2) (hC cases ih' h2 h4 v3)⟩
theorem Yy {t : Tm} (h : ZZ 60 8 t = 0) : gdI (itT t) ∧ szI (itT t) ≤ 600 ∧ dpI (itT t) ≤ 120 ∧ (Ya (itT t)).length ≤ 31000 := by
  obtain ⟨h1, h2⟩ := checkR_iff.1 h
  have h3 : ¬ (300 < sizeT t ∨ 60 < depT t) := fun z => by rw [(longB_eq t).2 z] at h1; cases h1
  have h4 := szT_it t
  have h5 := tm_gd (by omega) t 0 h2 (checkR_ok h).2.1
  have h6 := enc_len _ h5 (by omega)
  exact ⟨h5, by omega, by omega, by omega⟩
end Go.Proofs.YtjhenmdcnbaobaaGreat.Hs
/-! Strings of bytes that are owned. -/
namespace Go.Proofs.YtjhenmdcnbaobaaGreat.Hs
open Go Go.Proofs
set_option maxRecDepth 100000
theorem bstr_of (s : ByteArray) : Xj (sB s) = s := by
  unfold Xj sB
  rw [List.map_map]
  apply ByteArray.ext
  apply Array.ext'
  simp only
  have : ((fun n : Int => UInt8.ofNat n.toNat) ∘ fun b : UInt8 => (b.toNat : Int)) = id := by funext b; simp
  rw [this]
  simp
theorem bstr_inj {a b : List Int} (ha : ∀ x ∈ a, 0 ≤ x ∧ x ≤ 255) (hb : ∀ x ∈ b, 0 ≤ x ∧ x ≤ 255) (h : Xj a = Xj b) : a = b := by
  have key : ∀ l : List Int, (∀ x ∈ l, 0 ≤ x ∧ x ≤ 255) → l = sB (Xj l) := by
    intro l h
    unfold sB Xj
    rw [List.map_map]
    apply List.ext_getElem
    · rw [List.length_map]
    · intro i h1 h2
      rw [List.getElem_map]
      have := h _ (List.getElem_mem h1)
      simp only [Function.comp]
      rw [UInt8.toNat_ofNat']
      omega
  rw [key a ha, key b hb, h]
theorem byts_app (a b : List Int) : YK (a ++ b) = YK a ++ YK b := by unfold YK; rw [List.map_append]
theorem byts_one (a : List Int) (x : Int) : YK a ++ [[.int .u8 x]] = YK (a ++ [x]) := by unfold YK; rw [List.map_append]; rfl
theorem sC_getB {r : Sm} {l : List Int} (hl : l = sB (txS r)) {j : Nat} (h : j < l.length) : (sC r)[0 + j * 1]? = some (.int .u8 l[j]) := by
  subst hl
  rw [Ys, txS_size] at h
  rw [show 0 + j * 1 = j from by omega, sC_get r j h]
  have : (sB (txS r))[j]'(by rw [Ys, txS_size]; exact h) = ((r[j]).toNat : Int) := by simp [sB, txS]
  rw [this]
/-- what is owned as a heap -/
theorem hasK {M : List Zh} {F : Zh} {H : Heap} {w : World} (mm : Mem w (M.flatten ++ F) H) {i : Nat} {k : Zh} (hi : M[i]? = some k) : Has k (hu M.flatten H) := fun b o hb => by
  have hmem : (b, o) ∈ M.flatten := List.mem_flatten.2 ⟨k, List.mem_of_getElem? hi, hb⟩
  rw [Xc, mm.left.sep b o hmem]; exact Xb mm.left.nd hmem
section
variable {c : Cx} {H : Heap} {ρ : Nat → Value} {M : List Zh} {K : Value → List Zh → Prop} {d : Option Nat} {ot : TypeId} {pos : String} {af : Array Edge} {g : Option (Nat × Bool)} {x y z : Operand}
theorem Runs_toStrO {T T' el E : TypeId} {v : Value} {l : List Int} {k : Zh} (i : Nat) (hi : M[i]? = some k) (ho : Own E 1 v (YK l) k) (hn : l.length ≤ 9223372036854775807) (hT : ∀ w, (underlying T).run c.P w = .ok (.slice el) w) (hel : ∀ w, (underlying el).run c.P w = .ok (.int .u8) w) (hT' : ∀ w, (underlying T').run c.P w = .ok .string w) (hx : ev c.n ρ x = v)
    (h : K (.string (Xj l)) M) : Runs c H ⟨d, .convert T T' x, ot, pos, af, g⟩ ρ M K := fun F w mm => by
  refine ⟨_, w, M, .inl ?_, mm, h⟩
  simp only [execOp, hx]
  simp [run_toStr mm.hu (YU ho hn (hasK mm hi)) hT hel hT']
theorem Runs_toStrB {T T' el E : TypeId} {r : Sm} {b : Nat} (i : Nat) (hi : M[i]? = some [(b, .cells ⟨sC r⟩ E (0, 0))]) (hT : ∀ w, (underlying T).run c.P w = .ok (.slice el) w) (hel : ∀ w, (underlying el).run c.P w = .ok (.int .u8) w) (hT' : ∀ w, (underlying T').run c.P w = .ok .string w) (hx : ev c.n ρ x = .slice (some ⟨b, 0, none⟩) 32 32)
    (h : K (.string (txS r)) M) : Runs c H ⟨d, .convert T T' x, ot, pos, af, g⟩ ρ M K := fun F w mm => by
  refine ⟨_, w, M, .inl ?_, mm, h⟩
  have hb : hu M.flatten H b = some (.cells ⟨sC r⟩ E (0, 0)) := hasK mm hi b _ (by simp)
  have hlen : (sB (txS r)).length = 32 := by rw [Ys, txS_size]
  have hr : Hs.rdS RB 1 (hu M.flatten H) (.slice (some ⟨b, 0, none⟩) 32 32) (sB (txS r)) := by
    refine ⟨some ⟨b, 0, none⟩, 32, by rw [hlen], by rw [hlen]; omega, .inr ⟨b, 0, sC r, E, (0, 0), rfl, hb, rows.mk fun i hi => ⟨[.int .u8 (sB (txS r))[i]], ?_, rfl⟩⟩⟩
    have h1 := sC_getB (r := r) rfl hi
    obtain ⟨h2, h3⟩ := List.getElem?_eq_some_iff.1 h1
    rw [sub_mk (by omega)]
    congr 1
    rw [List.drop_eq_getElem_cons h2, List.take_succ_cons, List.take_zero, h3]
  have := run_toStr mm.hu hr hT hel hT'
  rw [bstr_of] at this
  simp only [execOp, hx]
  simp [this]
end
end Go.Proofs.YtjhenmdcnbaobaaGreat.Hs
/-! Items that are made of terms. -/
namespace Go.Proofs.YtjhenmdcnbaobaaGreat.Hs
open Go Go.Proofs
set_option maxRecDepth 100000
theorem bld40_0_1_2 (k n : Int) (t : ByteArray) : ∀ w, (Instr.build 40 ⟨[(0, .int .i64 k), (1, .int .i64 n), (2, .string t)]⟩).run Tryz.prog w = .ok (.agg ⟨[.int .i64 k, .int .i64 n, .string t, .slice none 0 0]⟩) w := ZF Tryz.zeroValue40 Tryz.runUnderlying40 pl40 (by kernel_rfl)
theorem bld40_0_3 (k : Int) (a : Option Addr) (n c : Nat) : ∀ w, (Instr.build 40 ⟨[(0, .int .i64 k), (3, .slice a n c)]⟩).run Tryz.prog w = .ok (.agg ⟨[.int .i64 k, .int .i64 0, .string ⟨#[]⟩, .slice a n c]⟩) w := ZF Tryz.zeroValue40 Tryz.runUnderlying40 pl40 (by kernel_rfl)
theorem itPs_snoc {l : List Pt} {j : Nat} (h : j < l.length) : itPs (l.take (j + 1)) = itPs (l.take j) ++ [itP l[j]] := by
  induction l generalizing j with
  | nil => simp at h
  | cons x l ih =>
    cases j with
    | zero => simp [itPs]
    | succ j => rw [List.take_succ_cons, List.take_succ_cons, itPs, itPs, ih (by simpa using h)]; rfl
theorem itTs_snoc {l : List Tm} {j : Nat} (h : j < l.length) : itTs (l.take (j + 1)) = itTs (l.take j) ++ [itT l[j]] := by
  induction l generalizing j with
  | nil => simp at h
  | cons x l ih =>
    cases j with
    | zero => simp [itTs]
    | succ j => rw [List.take_succ_cons, List.take_succ_cons, itTs, itTs, ih (by simpa using h)]; rfl
theorem itCs_snoc {l : List (Pt × Tm)} {j : Nat} (h : j < l.length) : itCs (l.take (j + 1)) = itCs (l.take j) ++ [.mk 20 0 ⟨#[]⟩ [itP l[j].1, itT l[j].2]] := by
  induction l generalizing j with
  | nil => simp at h
  | cons x l ih =>
    obtain ⟨p, t⟩ := x
    cases j with
    | zero => simp [itCs]
    | succ j => rw [List.take_succ_cons, List.take_succ_cons, itCs, itCs, ih (by simpa using h)]; rfl
theorem itPs_len (l : List Pt) : (itPs l).length = l.length := by
  induction l with
  | nil => rw [itPs]; rfl
  | cons x l ih => rw [itPs, List.length_cons, ih, List.length_cons]
theorem itTs_len (l : List Tm) : (itTs l).length = l.length := by
  induction l with
  | nil => rw [itTs]; rfl
  | cons x l ih => rw [itTs, List.length_cons, ih, List.length_cons]
theorem itCs_len (l : List (Pt × Tm)) : (itCs l).length = l.length := by
  induction l with
  | nil => rw [itCs]; rfl
  | cons x l ih => obtain ⟨p, t⟩ := x; rw [itCs, List.length_cons, ih, List.length_cons]
theorem itPs_mem {l : List Pt} (h : Yt (itPs l)) {j : Nat} (hj : j < l.length) : gdI (itP l[j]) := by
  induction l generalizing j with
  | nil => simp at hj
  | cons x l ih =>
    rw [itPs, Yt] at h
    cases j with
    | zero => exact h.1
    | succ j => exact ih h.2 (by simpa using hj)
theorem gdIs_left {a b : List It} (h : Yt (a ++ b)) : Yt a ∧ Yt b := by
  induction a with
  | nil => exact ⟨by rw [Yt]; trivial, h⟩
  | cons x a ih => rw [List.cons_append, Yt] at h; rw [Yt]; have := ih h.2; exact ⟨⟨h.1, this.1⟩, this.2⟩
theorem itTs_mem {l : List Tm} (h : Yt (itTs l)) {j : Nat} (hj : j < l.length) : gdI (itT l[j]) := by
  induction l generalizing j with
  | nil => simp at hj
  | cons x l ih =>
    rw [itTs, Yt] at h
    cases j with
    | zero => exact h.1
    | succ j => exact ih h.2 (by simpa using hj)
theorem itCs_mem {l : List (Pt × Tm)} (h : Yt (itCs l)) {j : Nat} (hj : j < l.length) : gdI (itP l[j].1) ∧ gdI (itT l[j].2) := by
  induction l generalizing j with
  | nil => simp at hj
  | cons x l ih =>
    obtain ⟨p, t⟩ := x
    rw [itCs, Yt, gdI, Yt, Yt] at h
    cases j with
    | zero => exact ⟨h.1.2.2.2.1, h.1.2.2.2.2.1⟩
    | succ j => exact ih h.2 (by simpa using hj)
theorem OIt_case {a b : It} {v : Value} {c1 c2 : List Value} {kr k1 k2 : Zh} (ho : Own 40 4 v [c1, c2] kr) (h1 : OIt a c1 k1) (h2 : OIt b c2 k2) : OIt (.mk 20 0 ⟨#[]⟩ [a, b]) (pkI 20 0 ⟨#[]⟩ v) (kr ++ (k1 ++ k2)) := by
  refine OIt_mk.2 ⟨v, [c1, c2], kr, k1 ++ k2, rfl, by unfold inI; omega, by unfold inI; omega, ho, ?_, rfl, by simp⟩
  have := OIts.snoc h2 (OIts.snoc h1 OIts.nil)
  simpa using this
theorem dpIs_mem {l : List It} : ∀ {x : It}, x ∈ l → dpI x ≤ dpIs l := by
  induction l with
  | nil => intro x hx; cases hx
  | cons y l ih =>
    intro x hx
    rw [dpIs]
    rcases List.mem_cons.1 hx with rfl | hx
    · omega
    · have := ih hx; omega
theorem tx_cond (b : Bool) (s : ByteArray) : cond b s (⟨#[]⟩ : ByteArray) = if b = true then s else ⟨#[]⟩ := by cases b <;> rfl
theorem tx_dec (p : Prop) [Decidable p] (s : ByteArray) : cond (decide p) s (⟨#[]⟩ : ByteArray) = if p then s else ⟨#[]⟩ := by by_cases h : p <;> simp [h]
end Go.Proofs.YtjhenmdcnbaobaaGreat.Hs
/-! What is written is read again; with bytes behind it, or without its last one, it is not. -/
namespace Go.Proofs.YtjhenmdcnbaobaaGreat.Hs
open Go Go.Proofs
theorem drop_hd {l : List Int} {a : Nat} {x : Int} {r : List Int} (h : l.drop a = x :: r) : a < l.length ∧ l.getD a 0 = x ∧ l.drop (a + 1) = r := by
  have h1 : a < l.length := by
    apply Classical.byContradiction; intro z
    rw [List.drop_of_length_le (by omega)] at h; cases h
  refine ⟨h1, ?_, ?_⟩
  · rw [List.drop_eq_getElem_cons h1] at h
    rw [getDi h1]; exact (List.cons.inj h).1
  · rw [← List.drop_drop, h]; rfl
theorem drop_to {l A B : List Int} {a : Nat} (h : l.drop a = A ++ B) : l.drop (a + A.length) = B := by
  rw [← List.drop_drop, h, List.drop_left]
theorem drop_le {l A B : List Int} {a : Nat} (h : l.drop a = A ++ B) (hA : 0 < A.length) : a + A.length ≤ l.length := by
  have := congrArg List.length h
  rw [List.length_drop, List.length_append] at this
  omega
theorem numD_rt {l : List Int} {most : Int} {first : Nat} (m : Nat) : ∀ (f k : Nat) (n u : Int) (a : Nat) (post : List Int), l.drop a = YB m ++ post → (YB m).length ≤ f → (0 < k → 0 < m) → n + m * u ≤ most → Xa l most first f k n u a = .ok (n + m * u) (a + (YB m).length) := by
  induction m using Nat.strongRecOn with
  | _ m ih =>
    intro f k n u a post hd hf hk hm
    by_cases h : m < 128
    · rw [numE_lt h] at hd hf ⊢
      obtain ⟨h1, h2, _⟩ := drop_hd hd
      cases f with
      | zero => simp at hf
      | succ f =>
        rw [Xa, if_neg (by omega), h2, if_neg (by omega), if_neg (by omega), show (m : Int) % 128 = m from by omega, if_neg (by omega)]
        rfl
    · rw [numE_ge h] at hd hf ⊢
      obtain ⟨h1, h2, h3⟩ := drop_hd hd
      cases f with
      | zero => simp at hf
      | succ f =>
        have e : ((m % 128 + 128 : Nat) : Int) % 128 = ((m % 128 : Nat) : Int) := by omega
        have hq : (m : Int) * u = 128 * (((m / 128 : Nat) : Int) * u) + ((m % 128 : Nat) : Int) * u := by
          have : (m : Int) = 128 * ((m / 128 : Nat) : Int) + ((m % 128 : Nat) : Int) := by omega
          conv => lhs; rw [this]
          rw [Int.add_mul, Int.mul_assoc]
        have hq2 : ((m / 128 : Nat) : Int) * (u * 128) = 128 * (((m / 128 : Nat) : Int) * u) := by rw [← Int.mul_assoc, Int.mul_comm]
        rw [Xa, if_neg (by omega), h2, if_pos (by omega), e, ih (m / 128) (by omega) f (k + 1) _ _ (a + 1) post h3 (by simpa using hf) (by omega) (by rw [hq2]; omega), hq2]
        congr 1
        · omega
        · rw [List.length_cons]; omega
theorem num0_rt {l : List Int} {most : Int} {m a : Nat} {post : List Int} (hd : l.drop a = YB m ++ post) (hm : (m : Int) ≤ most) (h6 : m ≤ 1099511627776) : num0 l most a = .ok m (a + (YB m).length) := by
  unfold num0
  rw [numD_rt m 6 0 0 1 a post hd (numE_6 h6).2 (by omega) (by omega)]
  simp
theorem someD_rt {l : List Int} {most : Int} {m a : Nat} {post : List Int} (hd : l.drop a = YB m ++ post) (hm : (m : Int) ≤ most) (h6 : m ≤ 1099511627776) (h0 : 0 < m) : Y3 l most a = .ok m (a + (YB m).length) := by
  unfold Y3
  rw [num0_rt hd hm h6]
  simp only
  rw [if_neg (by omega)]
theorem tx_size {t : ByteArray} (h : ¬ t = ⟨#[]⟩) : 0 < t.size := by
  apply Classical.byContradiction; intro z
  apply h
  apply ByteArray.ext
  apply Array.eq_empty_of_size_eq_zero
  have : t.size = t.data.size := rfl
  omega
theorem textD_rt {l : List Int} {t : ByteArray} {h : Int} {a : Nat} {post : List Int} (hd : l.drop a = txE t ++ post) (ht : t.size ≤ 32) (hh : h / 64 % 2 = if t = ⟨#[]⟩ then 0 else 1) : textD l h a = .ok t (a + (txE t).length) := by
  unfold textD
  by_cases h0 : t = ⟨#[]⟩
  · rw [if_pos h0] at hh
    rw [if_neg (by omega)]
    unfold txE
    rw [if_pos h0, h0]
    rfl
  · rw [if_neg h0] at hh
    unfold txE at hd ⊢
    rw [if_neg h0] at hd ⊢
    rw [List.append_assoc] at hd
    have hs := tx_size h0
    rw [if_pos hh, someD_rt hd (by omega) (by omega) hs]
    have hd2 := drop_to hd
    have hl := drop_le hd2 (by rw [Ys]; exact hs)
    rw [Ys] at hl
    simp only
    rw [if_neg (by omega), hd2, Int.toNat_natCast, List.take_append_of_le_length (by rw [Ys]; omega), List.take_of_length_le (by rw [Ys]; omega), bstr_of, List.length_append, Ys, Nat.add_assoc]
theorem kidsD_rt {l : List Int} {f : Nat} (ks : List It) : ∀ (a c : Nat) (post : List Int), (∀ x ∈ ks, ∀ (a c : Nat) (post : List Int), l.drop a = Ya x ++ post → gdI x → dpI x ≤ f → c + szI x ≤ 5000 → ZM l f a c = .ok (x, c + szI x) (a + (Ya x).length)) →
    Yt ks → dpIs ks ≤ f → c + Z5 ks ≤ 5000 → l.drop a = Yd ks ++ post → Yq (ZM l f) ks.length a c = .ok (ks, c + Z5 ks) (a + (Yd ks).length) := by
  induction ks with
  | nil => intro a c post _ _ _ _ _; rw [List.length_nil, Yq, Z5, Yd]; rfl
  | cons x ks ih =>
    intro a c post hx hg hdp hz hd
    rw [Yt] at hg
    rw [dpIs] at hdp
    rw [Z5] at hz
    rw [Yd, List.append_assoc] at hd
    rw [List.length_cons, Yq, hx x (by simp) a c _ hd hg.1 (by omega) (by omega)]
    simp only
    rw [ih _ _ post (fun y hy => hx y (by simp [hy])) hg.2 (by omega) (by omega) (drop_to hd)]
    simp only
    rw [Z5, Yd, List.length_append, Nat.add_assoc, Nat.add_assoc]
theorem itemD_rt {l : List Int} (x : It) : ∀ (f a c : Nat) (post : List Int), l.drop a = Ya x ++ post → gdI x → dpI x ≤ f → c + szI x ≤ 5000 → ZM l f a c = .ok (x, c + szI x) (a + (Ya x).length) := by
  induction x using It.ind with
  | h k n t kids ih =>
    intro f a c post hd hg hdp hz
    rw [gdI] at hg
    rw [dpI] at hdp
    rw [szI] at hz
    have hdn := dpIs_nn kids
    have hlk := szIs_len kids
    rw [Ya, List.cons_append, List.append_assoc, List.append_assoc] at hd
    obtain ⟨h1, h2, h3⟩ := drop_hd hd
    cases f with
    | zero => omega
    | succ f =>
      have hH : hdE k t kids.length % 64 = k ∧ hdE k t kids.length / 64 % 2 = (if t = ⟨#[]⟩ then 0 else 1) ∧ (128 ≤ hdE k t kids.length ↔ ¬ kids.length = 0) := by
        unfold hdE
        by_cases e1 : t = ⟨#[]⟩ <;> by_cases e2 : kids.length = 0
        · rw [if_pos e1, if_pos e2, if_pos e1]; omega
        · rw [if_pos e1, if_neg e2, if_pos e1]; omega
        · rw [if_neg e1, if_pos e2, if_neg e1]; omega
        · rw [if_neg e1, if_neg e2, if_neg e1]; omega
      have hn : ((n.toNat : Nat) : Int) = n := Int.toNat_of_nonneg hg.2.1.1
      have q1 := num0_rt (most := 1099511627776) h3 (by omega) (by omega)
      have hd4 := drop_to h3
      have q2 := textD_rt (h := hdE k t kids.length) hd4 hg.2.2.1 hH.2.1
      have hd5 := drop_to hd4
      have q3 : manyD l (ZM l f) (hdE k t kids.length) (a + 1 + (YB n.toNat).length + (txE t).length) (c + 1) = .ok (kids, c + 1 + Z5 kids) (a + 1 + (YB n.toNat).length + (txE t).length + (if kids.length = 0 then [] else YB kids.length ++ Yd kids).length) := by
        unfold manyD
        by_cases e2 : kids.length = 0
        · rw [if_neg (by rw [hH.2.2]; exact fun z => z e2), if_pos e2]
          obtain rfl := List.eq_nil_of_length_eq_zero e2
          rw [Z5]; rfl
        · rw [if_pos (hH.2.2.2 e2), if_neg e2]
          rw [if_neg e2, List.append_assoc] at hd5
          rw [someD_rt hd5 (by omega) (by omega) (by omega)]
          simp only
          rw [Int.toNat_natCast, kidsD_rt kids _ _ post (fun x hx a c post => ih x hx f a c post) hg.2.2.2 (by omega) (by omega) (drop_to hd5), List.length_append]
          congr 1; omega
      rw [ZM, if_neg (by omega), if_neg (by omega), h2, hH.1, if_neg (by omega), q1]
      simp only
      rw [q2]
      simp only
      rw [q3]
      simp only
      rw [hn, szI, Ya, List.length_cons, List.length_append, List.length_append]
      congr 1
      · rw [Nat.add_assoc]
      · omega
theorem decode_rt {x : It} (hg : gdI x) (hd : dpI x ≤ 250) (hz : szI x ≤ 5000) (hl : (Ya x).length ≤ 65536) : ZI (Ya x) = (x, 0, 0) := by
  unfold ZI
  rw [if_neg (by omega), itemD_rt x 250 0 0 [] (by simp) hg hd (by omega)]
  simp only
  rw [if_neg (by omega)]
theorem decode_more {x : It} {q : List Int} (hq : 0 < q.length) (hg : gdI x) (hd : dpI x ≤ 250) (hz : szI x ≤ 5000) : ¬ (ZI (Ya x ++ q)).2.2 = 0 := by
  unfold ZI
  split
  · decide
  · rw [itemD_rt x 250 0 0 q (by simp) hg hd (by omega)]
    simp only
    rw [if_pos (by rw [List.length_append]; omega)]
    intro z; cases z
/-! what is read does not look at what is behind it -/
section
variable {l q : List Int}
theorem getD_app {a : Nat} (h : a < l.length) : (l ++ q).getD a 0 = l.getD a 0 := by
  rw [getDi h, getDi (by rw [List.length_append]; omega), List.getElem_append_left h]
theorem numD_app {most : Int} {first : Nat} : ∀ (f k : Nat) (n u : Int) (a : Nat) {m : Int} {b : Nat}, a ≤ l.length → Xa l most first f k n u a = .ok m b → Xa (l ++ q) most first f k n u a = .ok m b := by
  intro f
  induction f with
  | zero => intro k n u a m b _ h; rw [Xa] at h; cases h
  | succ f ih =>
    intro k n u a m b ha h
    rw [Xa] at h ⊢
    split at h
    · cases h
    · rename_i h1
      rw [if_neg (by rw [List.length_append]; omega), getD_app (by omega)]
      split at h
      · rename_i h2
        rw [if_pos h2]; exact ih _ _ _ _ (by omega) h
      · rename_i h2
        rw [if_neg h2]
        split at h
        · cases h
        · rename_i h3
          rw [if_neg h3]; exact h
theorem num0_app {most : Int} {a : Nat} {m : Int} {b : Nat} (ha : a ≤ l.length) (h : num0 l most a = .ok m b) : num0 (l ++ q) most a = .ok m b := numD_app _ _ _ _ _ ha h
theorem someD_app {most : Int} {a : Nat} {m : Int} {b : Nat} (ha : a ≤ l.length) (h : Y3 l most a = .ok m b) : Y3 (l ++ q) most a = .ok m b := by
  unfold Y3 at h ⊢
  cases hd : num0 l most a with
  | err c i => rw [hd] at h; cases h
  | ok n b' => rw [hd] at h; rw [num0_app ha hd]; exact h
theorem textD_app {h0 : Int} {a : Nat} {t : ByteArray} {b : Nat} (ha : a ≤ l.length) (h : textD l h0 a = .ok t b) : textD (l ++ q) h0 a = .ok t b ∧ b ≤ l.length := by
  unfold textD at h ⊢
  split at h
  · rename_i h1
    rw [if_pos h1]
    cases hd : Y3 l 4096 a with
    | err c i => rw [hd] at h; cases h
    | ok n b' =>
      rw [hd] at h
      have hb := some_ok ha hd
      rw [someD_app ha hd]
      simp only at h ⊢
      split at h
      · cases h
      · rename_i h2
        cases h
        rw [if_neg (by rw [List.length_append]; omega), List.drop_append_of_le_length (by omega), List.take_append_of_le_length (by rw [List.length_drop]; omega)]
        exact ⟨rfl, by omega⟩
  · rename_i h1
    rw [if_neg h1]; cases h; exact ⟨rfl, ha⟩
theorem kidsD_app {g g' : Nat → Nat → DR (It × Nat)} (hg : ∀ a c r b, a ≤ l.length → g a c = .ok r b → g' a c = .ok r b ∧ b ≤ l.length) : ∀ (m a c : Nat) {r : List It × Nat} {b : Nat}, a ≤ l.length → Yq g m a c = .ok r b → Yq g' m a c = .ok r b ∧ b ≤ l.length := by
  intro m
  induction m with
  | zero => intro a c r b ha h; rw [Yq] at h ⊢; cases h; exact ⟨rfl, ha⟩
  | succ m ih =>
    intro a c r b ha h
    rw [Yq] at h ⊢
    split at h
    · cases h
    · rename_i y c' b' hy
      obtain ⟨e1, e2⟩ := hg _ _ _ _ ha hy
      rw [e1]
      simp only
      split at h
      · cases h
      · rename_i ks c'' d hk
        obtain ⟨e3, e4⟩ := ih _ _ e2 hk
        rw [e3]
        simp only
        cases h
        exact ⟨rfl, e4⟩
theorem itemD_app : ∀ (f a c : Nat) (r : It × Nat) (b : Nat), a ≤ l.length → ZM l f a c = .ok r b → ZM (l ++ q) f a c = .ok r b ∧ b ≤ l.length := by
  intro f
  induction f with
  | zero => intro a c r b _ h; rw [ZM] at h; split at h <;> cases h
  | succ f ih =>
    intro a c r b ha h
    rw [ZM] at h ⊢
    split at h
    · cases h
    · rename_i h1
      rw [if_neg (by rw [List.length_append]; omega)]
      split at h
      · cases h
      · rename_i h2
        rw [if_neg h2, getD_app (by omega)]
        split at h
        · cases h
        · rename_i h3
          rw [if_neg h3]
          split at h
          · cases h
          · rename_i n b1 hn
            have hb1 := num0_ok (by omega) hn
            rw [num0_app (by omega) hn]
            simp only
            split at h
            · cases h
            · rename_i t d ht
              obtain ⟨e1, e2⟩ := textD_app (q := q) hb1.2.1 ht
              rw [e1]
              simp only
              split at h
              · cases h
              · rename_i ks c' z hm
                cases h
                have key : manyD (l ++ q) (ZM (l ++ q) f) (l.getD a 0) d (c + 1) = .ok (ks, c') b ∧ b ≤ l.length := by
                  unfold manyD at hm ⊢
                  split at hm
                  · rename_i h4
                    rw [if_pos h4]
                    split at hm
                    · cases hm
                    · rename_i m b2 hs
                      rw [someD_app e2 hs]
                      exact kidsD_app ih _ _ _ (some_ok e2 hs).2.1 hm
                  · rename_i h4
                    rw [if_neg h4]; cases hm; exact ⟨rfl, e2⟩
                rw [key.1]
                exact ⟨rfl, key.2⟩
end
theorem kidsD_ne {g : Nat → Nat → DR (It × Nat)} (hg : ∀ a c e i, g a c = .err e i → ¬ e = 0) : ∀ (m a c : Nat) (e : Int) (i : Nat), Yq g m a c = .err e i → ¬ e = 0 := by
  intro m
  induction m with
  | zero => intro a c e i h; rw [Yq] at h; cases h
  | succ m ih =>
    intro a c e i h
    rw [Yq] at h
    split at h
    · rename_i hy; cases h; exact hg _ _ _ _ hy
    · split at h
      · rename_i hk; cases h; exact ih _ _ _ _ hk
      · cases h
theorem itemD_ne {l : List Int} : ∀ (f a c : Nat) (e : Int) (i : Nat), ZM l f a c = .err e i → ¬ e = 0 := by
  intro f
  induction f with
  | zero => intro a c e i h; rw [ZM] at h; split at h <;> cases h <;> decide
  | succ f ih =>
    intro a c e i h
    rw [ZM] at h
    split at h
    · cases h; decide
    · split at h
      · cases h; decide
      · split at h
        · cases h; decide
        · split at h
          · rename_i hn; cases h; exact num0_ne _ _ hn
          · split at h
            · rename_i ht; cases h; exact text_err ht
            · split at h
              · rename_i hm
                cases h
                unfold manyD at hm
                split at hm
                · split at hm
                  · rename_i hs; cases hm; exact some_ne _ _ hs
                  · exact kidsD_ne ih _ _ _ _ _ hm
                · cases hm
              · cases h
theorem decode_few {x : It} {p : List Int} {z : Int} (he : Ya x = p ++ [z]) (hg : gdI x) (hd : dpI x ≤ 250) (hz : szI x ≤ 5000) : ¬ (ZI p).2.2 = 0 := by
  intro h
  unfold ZI at h
  split at h
  · cases h
  · split at h
    · rename_i e i hi
      -- an error is not none
      exact itemD_ne _ _ _ _ _ hi h
    · rename_i y c a hi
      split at h
      · cases h
      · rename_i hl
        obtain ⟨e1, e2⟩ := itemD_app (q := [z]) 250 0 0 _ _ (by omega) hi
        rw [← he, itemD_rt x 250 0 0 [] (by simp) hg hd (by omega)] at e1
        have := congrArg List.length he
        rw [List.length_append] at this
        simp only [DR.ok.injEq] at e1
        have := e1.2
        simp at *
        omega
end Go.Proofs.YtjhenmdcnbaobaaGreat.Hs
/-! What the law of codes uses. -/
namespace Go.Proofs.YtjhenmdcnbaobaaGreat.Hs
open Go Go.Proofs
theorem enc_8 (x : It) : gdI x → ∀ y ∈ Ya x, 0 ≤ y ∧ y ≤ 255 := by
  induction x using It.ind with
  | h k n t kids ih =>
    intro h
    rw [gdI] at h
    have hK : ∀ l : List It, (∀ x ∈ l, gdI x → ∀ y ∈ Ya x, 0 ≤ y ∧ y ≤ 255) → Yt l → ∀ y ∈ Yd l, 0 ≤ y ∧ y ≤ 255 := by
      intro l
      induction l with
      | nil => intro _ _ y hy; rw [Yd] at hy; cases hy
      | cons x l ihl =>
        intro hl hg y hy
        rw [Yt] at hg
        rw [Yd] at hy
        rcases List.mem_append.1 hy with hy | hy
        · exact hl x (by simp) hg.1 y hy
        · exact ihl (fun z hz => hl z (by simp [hz])) hg.2 y hy
    intro y hy
    rw [Ya] at hy
    rcases List.mem_cons.1 hy with rfl | hy
    · unfold hdE
      split <;> split <;> omega
    · rcases List.mem_append.1 hy with hy | hy
      · exact numE_8 _ y hy
      · rcases List.mem_append.1 hy with hy | hy
        · unfold txE at hy
          split at hy
          · cases hy
          · rcases List.mem_append.1 hy with hy | hy
            · exact numE_8 _ y hy
            · unfold sB at hy
              obtain ⟨b, _, rfl⟩ := List.mem_map.1 hy
              have := b.toNat_lt
              omega
        · split at hy
          · cases hy
          · rcases List.mem_append.1 hy with hy | hy
            · exact numE_8 _ y hy
            · exact hK kids ih h.2.2.2 y hy
/-- a right term is read from its bytes -/
theorem decT_right {t : Tm} (h : ZZ 60 8 t = 0) : decT (Ya (itT t)) = (t, 0, 0) := by
  obtain ⟨h1, h2, h3, h4⟩ := Yy h
  have e := decode_rt h1 (by omega) (by omega) (by omega)
  rw [decT_ok (by rw [e]), e, from_right h]
/-- unlike terms have unlike bytes -/
theorem enc_inj {t u : Tm} (h : ZZ 60 8 t = 0) (hu : ZZ 60 8 u = 0) (e : Ya (itT t) = Ya (itT u)) : t = u := by
  have h1 := decT_right h
  rw [e, decT_right hu] at h1
  exact (congrArg (fun x : Tm × Int × Int => x.1) h1).symm
theorem coded_same {t u : Tm} (h : ZZ 60 8 t = 0) (hu : ZZ 60 8 u = 0) : decide (Xj (Ya (itT t)) = Xj (Ya (itT u))) = decide (t = u) := by
  apply decide_eq_decide.2
  constructor
  · intro e; exact enc_inj h hu (bstr_inj (enc_8 _ (Yy h).1) (enc_8 _ (Yy hu).1) e)
  · intro e; rw [e]
theorem coded_len {t : Tm} (h : ZZ 60 8 t = 0) : 2 ≤ (Ya (itT t)).length ∧ (Ya (itT t)).length ≤ 31000 := by
  obtain ⟨h1, h2, h3, h4⟩ := Yy h
  exact ⟨(enc_len _ h1 (by omega)).1, h4⟩
theorem decT_more {t : Tm} (h : ZZ 60 8 t = 0) (z : Int) : ¬ (decT (Ya (itT t) ++ [z])).2.2 = 0 := by
  obtain ⟨h1, h2, h3, h4⟩ := Yy h
  have e := decode_more (q := [z]) (by simp) h1 (by omega) (by omega)
  rw [decT_err e]; exact e
theorem decT_few {t : Tm} (h : ZZ 60 8 t = 0) {n : Nat} (hn : n + 1 = (Ya (itT t)).length) : ¬ (decT ((Ya (itT t)).take n)).2.2 = 0 := by
  obtain ⟨h1, h2, h3, h4⟩ := Yy h
  have hl : n < (Ya (itT t)).length := by omega
  have e := decode_few (x := itT t) (p := (Ya (itT t)).take n) (z := (Ya (itT t))[n]) (by
    rw [← List.take_succ_eq_append_getElem hl, List.take_of_length_le (by omega)]) h1 (by omega) (by omega)
  rw [decT_err e]; exact e
end Go.Proofs.YtjhenmdcnbaobaaGreat.Hs
/-! Walks, printed by a program of this session's own (gen.py). -/
namespace Go.Proofs.YtjhenmdcnbaobaaGreat.Hs
open Go Go.Proofs
set_option maxRecDepth 100000
set_option linter.unusedVariables false
set_option linter.unusedSimpArgs false
attribute [local irreducible] JL J CT wlo DT
theorem refText_ct (has : Bool) (s : Sm) (H : Heap) : CT Tryz.prog 66 ⟨[.bool has, .agg ⟨sC s⟩]⟩ [] H (fun r N => r = .string (cond has (txS s) ⟨#[]⟩) ∧ N = []) := by
 refine Zk Tryz.func66 rfl rfl <| Zc <| Za <| JLr (Zr (l := sC s) rfl rfl fun b1 => JLA rfl <| Zb <| Zc <| Zc <| Za <| JLM rfl <| JLn (Pu.not rfl) <| Zb <| Zg rfl (fun h2 => ?_) (fun h2 => ?_))
 ·replace h2 := nt h2
  refine Zc <| Za <| JLA rfl <| Zb <| Zj <| ⟨.string (⟨#[]⟩), [], Ret.one rfl (RV.tmp rfl), Sub.nil, ?_⟩
  exact ⟨by rw [h2]; rfl, rfl⟩
 replace h2 := nf h2
 refine Zm <| Zc <| Za <| JLq (.slice (some ⟨b1, 0, none⟩) 32 32) (Pu.sliceArr Tryz.runUnderlying24 Tryz.sizeOf5 rfl) <| JLr (Runs_toStrB 0 rfl Tryz.runUnderlying22 Tryz.runUnderlying5 Tryz.runUnderlying9 rfl <| JLA rfl <| Zb <| Zj <| ⟨.string (txS s), [], Ret.one rfl (RV.tmp rfl), Sub.nil, ?_⟩)
 exact ⟨by rw [h2]; rfl, rfl⟩
end Go.Proofs.YtjhenmdcnbaobaaGreat.Hs
/-! Walks, printed by a program of this session's own (gen.py). -/
namespace Go.Proofs.YtjhenmdcnbaobaaGreat.Hs
open Go Go.Proofs
set_option maxRecDepth 100000
set_option linter.unusedVariables false
set_option linter.unusedSimpArgs false
attribute [local irreducible] JL J CT wlo DT
set_option maxHeartbeats 2000000 in
theorem pItem_ct : ∀ (p : Pt) (cs : List Value) (H : Heap), RP H cs p → sizeP p ≤ 1000000 → gdI (itP p) → CT Tryz.prog 68 ⟨[.agg ⟨cs⟩]⟩ [] H (fun r N => ∃ cs k, r = .agg ⟨cs⟩ ∧ N = [k] ∧ OIt (itP p) cs k) := by
 intro p
 induction p using Pt.ind with
 | h kind num ref kids ih =>
 intro cs H hp hz hg
 obtain ⟨ks, rfl, hk, hn, hks⟩ := RP_mk.1 hp
 rw [sizeP] at hz
 rw [itP, gdI] at hg
 have hle := hks.le
 have hkl := len_sizePs kids
 refine Zk Tryz.func68 rfl rfl <| Zc <| Za <| JLr (Zr (l := pkP kind num ref ks) rfl rfl fun b1 => JLr (Zi (l := [iv 0, iv 0, .string (⟨#[]⟩), nS]) Tryz.zeroValue40 rfl fun b2 => Zb <| Zc <| Zy mixed #[0, 1, 3, 0, 8, 0, 32, 96, 0, 256, 992, 2047, 0, 8191] 13 [some 6, some 7, some 8, some 9, some 10, some 11, some 12, some 13, some 14, some 15, some 16, some 17, some 3] [] [(10, fun _ _ vw qw => vw = .string (cond (decide (kind = 3)) (txS ref) ⟨#[]⟩) ∧ qw = []), (12, newP 40 ([iv 0, iv 0, .string (⟨#[]⟩), nS]))] rfl (by kernel_rfl) rfl (by kernel_rfl) <| Dq (pp b1 0) (fun _ => YZ rfl rfl) <| Dl1 ty3 (At.bx 1 rfl) (pkP_0 ..) ?_))
 refine Dn (fun _ => Pu.add64 rfl rfl (by first | omega | (constructor <;> omega))) <| Dq (pp b1 1) (fun _ => fa85_1 rfl rfl) <| Dl1 ty3 (At.bx 1 rfl) (pkP_1 ..) <| Dq (pp b1 0) (fun _ => YZ rfl rfl) <| Dl1 ty3 (At.bx 1 rfl) (pkP_0 ..) <| Dn (fun _ => Pu.eql rfl rfl) <| Dq (pp b1 2) (fun _ => fa85_2 rfl rfl) <| Dl Y4 (At.bx 1 rfl) (pkP_2 ..) <| Dc rfl Tryz.call66 (fun _ => rfl) (fun hin => refText_ct _ _ _) ?_
 rintro _ _ ⟨rfl, rfl⟩
 refine Dq (.agg ⟨[iv (30 + kind), iv num, .string (cond (decide (kind = 3)) (txS ref) ⟨#[]⟩), nS]⟩) (fun _ => Pu.build (pv := [(0, iv (30 + kind)), (1, iv num), (2, .string (cond (decide (kind = 3)) (txS ref) ⟨#[]⟩))]) (l := [iv (30 + kind), iv num, .string (cond (decide (kind = 3)) (txS ref) ⟨#[]⟩), nS]) rfl (bld40_0_1_2 _ _ _)) <| Da Tryz.zeroValue40 rfl fun b4 => ZG (M' := [(BX b4 [iv 0, iv 0, .string (⟨#[]⟩), nS] 40), (BX b2 [iv 0, iv 0, .string (⟨#[]⟩), nS] 40), (BX b1 (pkP kind num ref ks) 85)]) rfl ?_
 show JL _ _ _ [_] _ _ _
 refine JLr (Zd 0 (vs := [iv (30 + kind), iv num, .string (cond (decide (kind = 3)) (txS ref) ⟨#[]⟩), nS]) (l := [iv (30 + kind), iv num, .string (cond (decide (kind = 3)) (txS ref) ⟨#[]⟩), nS]) ZO rfl rfl rfl rfl rfl (Zf rfl (Zf rfl (Zf rfl (Zf rfl Zn)))) rfl <| Zb <| Zc <| Zc <| Za <| JLq (pp b1 34) (YY rfl rfl) <| JLr (Ze ty83 rfl (At.bx 2 rfl) (Xm ..) ?_))
 obtain ⟨a5, cap5, hv5⟩ := hks.sl
 have hle5 := hks.le
 refine JLn (Pu.lenSl Tryz.runUnderlying83 hv5) <| JLM rfl <| Zb <| Zq <| ZS (fun k ρ M => ∃ (j : Nat) (y1y : Value) (es1s : List (List Value)) (q1a q1b : Zh), ρ 2 = pp b2 0 ∧ ρ 3 = pp b4 0 ∧ ρ 19 = ks ∧ ρ 20 = iv ((kids.length : Int)) ∧ ρ 21 = iv ((j : Int)) ∧ Sub [(BX b4 [iv (30 + kind), iv num, .string (cond (decide (kind = 3)) (txS ref) ⟨#[]⟩), y1y] 40), q1a, q1b, (BX b2 [iv 0, iv 0, .string (⟨#[]⟩), nS] 40), (BX b1 (pkP kind num ref ks) 85)] M ∧ j ≤ kids.length ∧ Own 40 4 y1y es1s q1a ∧ OIts (itPs (kids.take j)) es1s q1b ∧ k = kids.length - j) _ ⟨0, nS, [], [], [], rfl, rfl, rfl, rfl, rfl, (Sk (Sub.emp (Sub.emp (Sk (Sk Sub.nil))))), Nat.zero_le _, Own.nil, (by simpa [itPs, itTs] using OIts.nil), rfl⟩ ?_
 rintro _ ρ6 _ ⟨j, y1y, es1s, q1a, q1b, e7, e8, e9, e10, e11, hm12, hj, how1w, hop1p, rfl⟩
 obtain ⟨ρ13, rfl⟩ := Zo (uc e7 (uc e8 (uc e9 (uc e10 (uc e11 un)))))
 clear e7 e8 e9 e10 e11
 refine ZY hm12 <| Zc <| Za <| JLn (Pu.lss rfl rfl) <| Zb <| Zc <| Zg rfl (fun h14 => ?_) (fun h14 => ?_)
 ·replace h14 := dt h14
  have h14n : j < kids.length := by omega
  have hs1 := sizePs_mem _ (List.getElem_mem h14n)
  have hel := OIts_len hop1p
  have hgj := itPs_mem hg.2.2.2 h14n
  rw [itPs_len, List.length_take, Nat.min_eq_left (by omega)] at hel
  refine Zm <| Zc <| Zq <| Zc <| Za ?_
  obtain ⟨b15, o15, cap15, row15, T15, fr15, cs15, hv15, hb15, hs15, hE15⟩ := hks.get j (by first | assumption | omega | decide | simp)
  refine JLq (pp b15 (o15 + j * 35)) (Pu.idx j Tryz.runUnderlying83 Z1 hv15 rfl rfl (by first | assumption | omega | decide | simp)) <| JLr (Zl Z1 rfl (At.im hb15) hs15 <| JLr (Zi (l := pkP 0 0 zS nS) Tryz.zeroValue85 rfl fun b16 => JLr (Zd 0 (vs := cs15) (l := cs15) Z1 rfl rfl rfl rfl (ZJ hE15) (RP_ok hE15) (ZD (n := 35) rfl (ZJ hE15)) <| Zb <| Zy mixed #[0, 1, 0, 4, 12, 31, 63, 127] 5 [some 25, some 26, some 27, some 28, some 29] [] [(3, fun _ _ vw qw => ∃ cs k, vw = .agg ⟨cs⟩ ∧ qw = [k] ∧ OIt (itP (kids[j])) cs k), (4, fun r _ vw qw => ∃ b k, vw = .slice (some ⟨b, 0, none⟩) 1 1 ∧ qw = [k] ∧ Own 40 4 (.slice (some ⟨b, 0, none⟩) 1 1) [(cel (r 3))] k ∧ k = (BX b (List.flatten [(cel (r 3))]) 40))] rfl (by kernel_rfl) rfl (by kernel_rfl) <| Dq (pp b4 3) (fun _ => Y0 rfl rfl) <| Dl1 ty38 (At.bx 1 rfl) rfl <| Dl Z1 (At.bx 0 rfl) (Zu (ZJ hE15)) ?_)))
  refine Dc rfl Tryz.call68 (fun _ => rfl) (fun hin => ih _ (List.getElem_mem h14n) _ _ (RP.mono (Hle.hu _ _) hE15) (by omega) hgj) ?_
  rintro _ _ ⟨cs19, k19, rfl, rfl, hO19⟩
  refine Dr rfl (fun _ => Zp (vs := [.agg ⟨cs19⟩]) [cs19] Tryz.runUnderlying38 el40 rfl rfl (by intro e he; simp only [List.mem_cons, List.not_mem_nil, or_false] at he; subst he; exact hO19.len) rfl (by decide) fun b k h1 h2 => ⟨[k], by rw [ZX rfl]; exact Sub.refl, b, k, rfl, rfl, h1, h2⟩) (fun _ _ ⟨b20, k20, e1, e2, ho20, hk20⟩ => ?_); subst e1 e2
  refine ZG (M' := [k20, k19, (BX b16 cs15 85), (BX b4 [iv (30 + kind), iv num, .string (cond (decide (kind = 3)) (txS ref) ⟨#[]⟩), y1y] 40), q1a, q1b, (BX b2 [iv 0, iv 0, .string (⟨#[]⟩), nS] 40), (BX b1 (pkP kind num ref ks) 85)]) rfl ?_
  show JL _ _ _ [_, _, _] _ _ _
  have hlens21 : ∀ e ∈ ([cs19] : List (List Value)), List.length e = 4 := by
   intro e he; simp only [List.mem_cons, List.not_mem_nil, or_false] at he
   rcases he with rfl
   ·exact hO19.len
  have hoks21 : ∀ e ∈ ([cs19] : List (List Value)), okc e := by
   intro e he; simp only [List.mem_cons, List.not_mem_nil, or_false] at he
   rcases he with rfl
   ·exact hO19.ok
  refine JLr (Zz (i := 4) (n := 1) (es' := [cs19]) Tryz.runUnderlying38 Tryz.runUnderlying38 (Or.inl rfl) el40 rfl rfl rfl how1w (fun F w m => Src.row (((At.k 0 rfl (by rw [hk20]; exact List.mem_cons_self))).heap m) (Zu (Zx hlens21))) rfl hlens21 hoks21 (by decide) (by omega) fun v21 k21 ho21 => JLq (pp b4 3) (Y0 rfl rfl) <| JLr (Zd 3 (vs := [v21]) (l := [iv (30 + kind), iv num, .string (cond (decide (kind = 3)) (txS ref) ⟨#[]⟩), v21]) ty38 rfl rfl rfl (ZK ho21.one) rfl (Zf ho21.one Zn) rfl <| Zb <| Za <| JLn (Pu.inc rfl rfl (by omega)) <| JLM rfl <| Zb <| ⟨_, ?_, (j + 1), v21, (es1s ++ [cs19]), k21, (q1b ++ k19), rfl, rfl, rfl, rfl, rfl, (Sd (Sub.cons 2 rfl (Sub.cons 2 rfl (Sub.join (Sub.cons 2 rfl (Sk (Sd (Sk (Sk Sub.nil))))))))), ?_, ?_, ?_, rfl⟩))
  ·omega
  ·omega
  ·exact ho21
  rw [itPs_snoc h14n]; exact OIts.snoc hO19 hop1p
 replace h14 := df h14
 have h14n : kids.length ≤ j := by omega
 refine ZB _ rfl <| Zc <| Za <| JLr (Zl ZO rfl (At.bx 0 rfl) rfl <| JLr (Zd 3 (vs := [iv (30 + kind), iv num, .string (cond (decide (kind = 3)) (txS ref) ⟨#[]⟩), y1y]) (l := [iv (30 + kind), iv num, .string (cond (decide (kind = 3)) (txS ref) ⟨#[]⟩), y1y]) ZO rfl rfl rfl rfl rfl (Zf rfl (Zf rfl (Zf rfl (Zf how1w.one Zn)))) rfl <| Zb <| Zj <| ⟨.agg ⟨[iv (30 + kind), iv num, .string (cond (decide (kind = 3)) (txS ref) ⟨#[]⟩), y1y]⟩, [q1a ++ q1b], Ret.one rfl (RV.cell ZO rfl (At.bx 3 rfl) rfl), (Sub.join (Sd (Sk (Sk Sub.nil)))), ?_⟩))
 rw [List.take_of_length_le h14n] at hop1p
 exact ⟨_, _, rfl, rfl, by rw [itP]; (first | rw [← tx_dec] | skip); exact OIt_mk.2 ⟨_, _, _, _, rfl, by unfold inI; omega, hn, how1w, hop1p, rfl, by rw [itPs_len]; omega⟩⟩
end Go.Proofs.YtjhenmdcnbaobaaGreat.Hs
/-! Walks, printed by a program of this session's own (gen.py). -/
namespace Go.Proofs.YtjhenmdcnbaobaaGreat.Hs
open Go Go.Proofs
set_option maxRecDepth 100000
set_option linter.unusedVariables false
set_option linter.unusedSimpArgs false
attribute [local irreducible] JL J CT wlo DT
set_option maxHeartbeats 4000000 in
theorem tItem_ct : ∀ (t : Tm) (cs : List Value) (H : Heap), RT H cs t → sizeT t ≤ 1000000 → gdI (itT t) → CT Tryz.prog 31 ⟨[.agg ⟨cs⟩]⟩ [] H (fun r N => ∃ cs k, r = .agg ⟨cs⟩ ∧ N = [k] ∧ OIt (itT t) cs k) := by
 intro t
 induction t using Tm.ind with
 | h kind num ref kids cases ih ih' =>
 intro cs H hp hz hg
 obtain ⟨ks, cv, rfl, hk, hn, hks, hcv⟩ := RT_mk.1 hp
 rw [sizeT] at hz
 rw [itT, gdI] at hg
 obtain ⟨hg1, hg2⟩ := gdIs_left hg.2.2.2
 have hle := hks.le
 have hle2 := hcv.le
 have hkl := len_sizeTs kids
 have hcl := len_sizeCs cases
 refine Zk Tryz.func31 rfl rfl <| Zc <| Za <| JLr (Zr (l := pkT kind num ref ks cv) rfl rfl fun b1 => JLr (Zi (l := [iv 0, iv 0, .string (⟨#[]⟩), nS]) Tryz.zeroValue40 rfl fun b2 => Zb <| Zc <| Zy mixed #[0, 1, 0, 4, 0, 16, 48, 112, 0, 256, 1008, 2047, 0, 8191] 13 [some 8, some 9, some 10, some 11, some 12, some 13, some 14, some 15, some 16, some 17, some 18, some 19, some 3] [] [(6, fun _ _ vw qw => vw = .agg ⟨[.bool (fN kind), .bool (fR kind), .bool (fC kind)]⟩ ∧ qw = []), (10, fun _ _ vw qw => vw = .string (cond (fR kind) (txS ref) ⟨#[]⟩) ∧ qw = []), (12, newP 40 ([iv 0, iv 0, .string (⟨#[]⟩), nS]))] rfl (by kernel_rfl) rfl (by kernel_rfl) <| Dq (pp b1 0) (fun _ => ZV rfl rfl) <| Dl1 ty3 (At.bx 1 rfl) (Yb ..) <| Dq (pp b1 1) (fun _ => Yu rfl rfl) <| Dl1 ty3 (At.bx 1 rfl) (Y9 ..) <| Dq (pp b1 0) (fun _ => ZV rfl rfl) ?_))
 refine Dl1 ty3 (At.bx 1 rfl) (Yb ..) <| Dc rfl Tryz.call67 (fun _ => rfl) (fun hin => fields_ct _ _) ?_
 rintro _ _ ⟨rfl, rfl⟩
 refine Dq (.bool (fR kind)) (fun _ => Pu.idxV 1 Tryz.runUnderlying137 ty4 rfl rfl rfl (by decide) rfl) <| Dq (pp b1 2) (fun _ => fa28_2 rfl rfl) <| Dl Y4 (At.bx 1 rfl) (pkT_2 ..) <| Dc rfl Tryz.call66 (fun _ => rfl) (fun hin => refText_ct _ _ _) ?_
 rintro _ _ ⟨rfl, rfl⟩
 refine Dq (.agg ⟨[iv kind, iv num, .string (cond (fR kind) (txS ref) ⟨#[]⟩), nS]⟩) (fun _ => Pu.build (pv := [(0, iv kind), (1, iv num), (2, .string (cond (fR kind) (txS ref) ⟨#[]⟩))]) (l := [iv kind, iv num, .string (cond (fR kind) (txS ref) ⟨#[]⟩), nS]) rfl (bld40_0_1_2 _ _ _)) <| Da Tryz.zeroValue40 rfl fun b4 => ZG (M' := [(BX b4 [iv 0, iv 0, .string (⟨#[]⟩), nS] 40), (BX b2 [iv 0, iv 0, .string (⟨#[]⟩), nS] 40), (BX b1 (pkT kind num ref ks cv) 28)]) rfl ?_
 show JL _ _ _ [_] _ _ _
 refine JLr (Zd 0 (vs := [iv kind, iv num, .string (cond (fR kind) (txS ref) ⟨#[]⟩), nS]) (l := [iv kind, iv num, .string (cond (fR kind) (txS ref) ⟨#[]⟩), nS]) ZO rfl rfl rfl rfl rfl (Zf rfl (Zf rfl (Zf rfl (Zf rfl Zn)))) rfl <| Zb <| Zc <| Zc <| Za <| JLq (pp b1 34) (Yn rfl rfl) <| JLr (Ze ty25 rfl (At.bx 2 rfl) (Ym ..) ?_))
 obtain ⟨a5, cap5, hv5⟩ := hks.sl
 have hle5 := hks.le
 refine JLn (Pu.lenSl Tryz.runUnderlying25 hv5) <| JLM rfl <| Zb <| Zq <| ZS (fun k ρ M => ∃ (j : Nat) (y1y : Value) (es1s : List (List Value)) (q1a q1b : Zh), ρ 1 = pp b1 0 ∧ ρ 2 = pp b2 0 ∧ ρ 3 = pp b4 0 ∧ ρ 21 = ks ∧ ρ 22 = iv ((kids.length : Int)) ∧ ρ 23 = iv ((j : Int)) ∧ Sub [(BX b4 [iv kind, iv num, .string (cond (fR kind) (txS ref) ⟨#[]⟩), y1y] 40), q1a, q1b, (BX b2 [iv 0, iv 0, .string (⟨#[]⟩), nS] 40), (BX b1 (pkT kind num ref ks cv) 28)] M ∧ j ≤ kids.length ∧ Own 40 4 y1y es1s q1a ∧ OIts (itTs (kids.take j)) es1s q1b ∧ k = kids.length - j) _ ⟨0, nS, [], [], [], rfl, rfl, rfl, rfl, rfl, rfl, (Sk (Sub.emp (Sub.emp (Sk (Sk Sub.nil))))), Nat.zero_le _, Own.nil, (by simpa [itPs, itTs] using OIts.nil), rfl⟩ ?_
 rintro _ ρ6 _ ⟨j, y1y, es1s, q1a, q1b, e7, e8, e9, e10, e11, e12, hm13, hj, how1w, hop1p, rfl⟩
 obtain ⟨ρ14, rfl⟩ := Zo (uc e7 (uc e8 (uc e9 (uc e10 (uc e11 (uc e12 un))))))
 clear e7 e8 e9 e10 e11 e12
 refine ZY hm13 <| Zc <| Za <| JLn (Pu.lss rfl rfl) <| Zb <| Zc <| Zg rfl (fun h15 => ?_) (fun h15 => ?_)
 ·replace h15 := dt h15
  have h15n : j < kids.length := by omega
  have hs1 := sizeTs_mem _ (List.getElem_mem h15n)
  have hel := OIts_len hop1p
  have hgj := itTs_mem hg1 h15n
  rw [itTs_len, List.length_take, Nat.min_eq_left (by omega)] at hel
  refine Zm <| Zc <| Zq <| Zc <| Za ?_
  obtain ⟨b16, o16, cap16, row16, T16, fr16, cs16, hv16, hb16, hs16, hE16⟩ := hks.get j (by first | assumption | omega | decide | simp)
  refine JLq (pp b16 (o16 + j * 36)) (Pu.idx j Tryz.runUnderlying25 Zt hv16 rfl rfl (by first | assumption | omega | decide | simp)) <| JLr (Zl Zt rfl (At.im hb16) hs16 <| JLr (Zi (l := pkT 0 0 zS nS nS) Tryz.zeroValue28 rfl fun b17 => JLr (Zd 0 (vs := cs16) (l := cs16) Zt rfl rfl rfl rfl (Zv hE16) (RT_ok hE16) (ZD (n := 36) rfl (Zv hE16)) <| Zb <| Zy mixed #[0, 1, 0, 4, 12, 31, 63, 127] 5 [some 27, some 28, some 29, some 30, some 31] [] [(3, fun _ _ vw qw => ∃ cs k, vw = .agg ⟨cs⟩ ∧ qw = [k] ∧ OIt (itT (kids[j])) cs k), (4, fun r _ vw qw => ∃ b k, vw = .slice (some ⟨b, 0, none⟩) 1 1 ∧ qw = [k] ∧ Own 40 4 (.slice (some ⟨b, 0, none⟩) 1 1) [(cel (r 3))] k ∧ k = (BX b (List.flatten [(cel (r 3))]) 40))] rfl (by kernel_rfl) rfl (by kernel_rfl) <| Dq (pp b4 3) (fun _ => Y0 rfl rfl) <| Dl1 ty38 (At.bx 1 rfl) rfl <| Dl Zt (At.bx 0 rfl) (Zu (Zv hE16)) ?_)))
  refine Dc rfl Tryz.call31 (fun _ => rfl) (fun hin => ih _ (List.getElem_mem h15n) _ _ (RT.mono (Hle.hu _ _) hE16) (by omega) hgj) ?_
  rintro _ _ ⟨cs20, k20, rfl, rfl, hO20⟩
  refine Dr rfl (fun _ => Zp (vs := [.agg ⟨cs20⟩]) [cs20] Tryz.runUnderlying38 el40 rfl rfl (by intro e he; simp only [List.mem_cons, List.not_mem_nil, or_false] at he; subst he; exact hO20.len) rfl (by decide) fun b k h1 h2 => ⟨[k], by rw [ZX rfl]; exact Sub.refl, b, k, rfl, rfl, h1, h2⟩) (fun _ _ ⟨b21, k21, e1, e2, ho21, hk21⟩ => ?_); subst e1 e2
  refine ZG (M' := [k21, k20, (BX b17 cs16 28), (BX b4 [iv kind, iv num, .string (cond (fR kind) (txS ref) ⟨#[]⟩), y1y] 40), q1a, q1b, (BX b2 [iv 0, iv 0, .string (⟨#[]⟩), nS] 40), (BX b1 (pkT kind num ref ks cv) 28)]) rfl ?_
  show JL _ _ _ [_, _, _] _ _ _
  have hlens22 : ∀ e ∈ ([cs20] : List (List Value)), List.length e = 4 := by
   intro e he; simp only [List.mem_cons, List.not_mem_nil, or_false] at he
   rcases he with rfl
   ·exact hO20.len
  have hoks22 : ∀ e ∈ ([cs20] : List (List Value)), okc e := by
   intro e he; simp only [List.mem_cons, List.not_mem_nil, or_false] at he
   rcases he with rfl
   ·exact hO20.ok
  refine JLr (Zz (i := 4) (n := 1) (es' := [cs20]) Tryz.runUnderlying38 Tryz.runUnderlying38 (Or.inl rfl) el40 rfl rfl rfl how1w (fun F w m => Src.row (((At.k 0 rfl (by rw [hk21]; exact List.mem_cons_self))).heap m) (Zu (Zx hlens22))) rfl hlens22 hoks22 (by decide) (by omega) fun v22 k22 ho22 => JLq (pp b4 3) (Y0 rfl rfl) <| JLr (Zd 3 (vs := [v22]) (l := [iv kind, iv num, .string (cond (fR kind) (txS ref) ⟨#[]⟩), v22]) ty38 rfl rfl rfl (ZK ho22.one) rfl (Zf ho22.one Zn) rfl <| Zb <| Za <| JLn (Pu.inc rfl rfl (by omega)) <| JLM rfl <| Zb <| ⟨_, ?_, (j + 1), v22, (es1s ++ [cs20]), k22, (q1b ++ k20), rfl, rfl, rfl, rfl, rfl, rfl, (Sd (Sub.cons 2 rfl (Sub.cons 2 rfl (Sub.join (Sub.cons 2 rfl (Sk (Sd (Sk (Sk Sub.nil))))))))), ?_, ?_, ?_, rfl⟩))
  ·omega
  ·omega
  ·exact ho22
  rw [itTs_snoc h15n]; exact OIts.snoc hO20 hop1p
 replace h15 := df h15
 have h15n : kids.length ≤ j := by omega
 refine ZB _ rfl <| Zc <| Zc <| Za <| JLq (pp b1 35) (YI rfl rfl) <| JLr (Ze ty26 rfl (At.bx 4 rfl) (Yz ..) ?_)
 obtain ⟨a23, cap23, hv23⟩ := hcv.sl
 have hle23 := hcv.le
 refine JLn (Pu.lenSl Tryz.runUnderlying26 hv23) <| JLM rfl <| Zb <| Zq <| ZS (fun k ρ M => ∃ (j : Nat) (y2y : Value) (es2s : List (List Value)) (q2a q2b : Zh), ρ 2 = pp b2 0 ∧ ρ 3 = pp b4 0 ∧ ρ 36 = cv ∧ ρ 37 = iv ((cases.length : Int)) ∧ ρ 38 = iv ((j : Int)) ∧ Sub [(BX b4 [iv kind, iv num, .string (cond (fR kind) (txS ref) ⟨#[]⟩), y2y] 40), q2a, q2b, (BX b2 [iv 0, iv 0, .string (⟨#[]⟩), nS] 40), (BX b1 (pkT kind num ref ks cv) 28)] M ∧ j ≤ cases.length ∧ Own 40 4 y2y es2s q2a ∧ OIts (itTs kids ++ itCs (cases.take j)) es2s q2b ∧ k = cases.length - j) _ ⟨0, y1y, es1s, q1a, q1b, rfl, rfl, rfl, rfl, rfl, (Sk (Sk (Sk (Sk (Sk Sub.nil))))), Nat.zero_le _, how1w, (by rw [List.take_of_length_le h15n] at hop1p; simpa [itCs] using hop1p), rfl⟩ ?_
 rintro _ ρ24 _ ⟨j, y2y, es2s, q2a, q2b, e25, e26, e27, e28, e29, hm30, hj, how2w, hop2p, rfl⟩
 obtain ⟨ρ31, rfl⟩ := Zo (uc e25 (uc e26 (uc e27 (uc e28 (uc e29 un)))))
 clear e25 e26 e27 e28 e29
 refine ZY hm30 <| Zc <| Za <| JLn (Pu.lss rfl rfl) <| Zb <| Zc <| Zg rfl (fun h32 => ?_) (fun h32 => ?_)
 ·replace h32 := dt h32
  have h32n : j < cases.length := by omega
  have hs1 := sizeCs_mem _ (List.getElem_mem h32n)
  have hel := OIts_len hop2p
  have hgj := itCs_mem hg2 h32n
  rw [List.length_append, itTs_len, itCs_len, List.length_take, Nat.min_eq_left (by omega)] at hel
  refine Zm <| Zc <| Zq <| Zc <| Za ?_
  obtain ⟨b33, o33, cap33, row33, T33, fr33, cs33, hv33, hb33, hs33, hE33⟩ := hcv.get j (by first | assumption | omega | decide | simp)
  obtain ⟨ca33, cb33, rfl, hA33, hB33⟩ := hE33
  refine JLq (pp b33 (o33 + j * 71)) (Pu.idx j Tryz.runUnderlying26 ty87 hv33 rfl rfl (by first | assumption | omega | decide | simp)) <| JLr (Zl ty87 rfl (At.im hb33) hs33 <| JLr (Zi (l := (pkP 0 0 zS nS) ++ (pkT 0 0 zS nS nS)) Tryz.zeroValue87 rfl fun b34 => JLr (Zd 0 (vs := ca33 ++ cb33) (l := ca33 ++ cb33) ty87 rfl rfl rfl rfl (Z6 (ZJ hA33) (Zv hB33)) (Yf (RP_ok hA33) (RT_ok hB33)) (ZD (n := 71) rfl (Z6 (ZJ hA33) (Zv hB33))) <| Zb <| Zy mixed #[0, 1, 0, 4, 12, 0, 32, 124, 252, 508, 1020, 2047, 4095, 8191] 11 [some 42, some 43, some 44, some 45, some 46, some 47, some 48, some 49, some 50, some 51, some 52] [] [(4, fun _ _ vw qw => ∃ cs k, vw = .agg ⟨cs⟩ ∧ qw = [k] ∧ OIt (itP (cases[j].1)) cs k), (7, fun _ _ vw qw => ∃ cs k, vw = .agg ⟨cs⟩ ∧ qw = [k] ∧ OIt (itT (cases[j].2)) cs k), (8, fun r _ vw qw => ∃ b k, vw = .slice (some ⟨b, 0, none⟩) 2 2 ∧ qw = [k] ∧ Own 40 4 (.slice (some ⟨b, 0, none⟩) 2 2) [(cel (r 4)), (cel (r 7))] k ∧ k = (BX b (List.flatten [(cel (r 4)), (cel (r 7))]) 40)), (10, fun r _ vw qw => ∃ b k, vw = .slice (some ⟨b, 0, none⟩) 1 1 ∧ qw = [k] ∧ Own 40 4 (.slice (some ⟨b, 0, none⟩) 1 1) [[iv 20, iv 0, .string (⟨#[]⟩), .slice (some ⟨(Xg (r 8)), 0, none⟩) 2 2]] k ∧ k = (BX b (List.flatten [[iv 20, iv 0, .string (⟨#[]⟩), .slice (some ⟨(Xg (r 8)), 0, none⟩) 2 2]]) 40))] rfl (by kernel_rfl) rfl (by kernel_rfl) <| Dq (pp b4 3) (fun _ => Y0 rfl rfl) <| Dl1 ty38 (At.bx 1 rfl) rfl <| Dq (pp b34 0) (fun _ => fa87_0 rfl rfl) <| Dl Z1 (At.bx 0 rfl) (sub_l (ZJ hA33)) ?_)))
  refine Dc rfl Tryz.call68 (fun _ => rfl) (fun hin => pItem_ct _ _ _ (RP.mono (Hle.hu _ _) hA33) (by omega) hgj.1) ?_
  rintro _ _ ⟨cs39, k39, rfl, rfl, hO39⟩
  refine Dq (pp b34 35) (fun _ => fa87_1 rfl rfl) <| Dl Zt (At.bx 0 rfl) (sub_r (ZJ hA33) (Zv hB33)) ?_
  refine Dc rfl Tryz.call31 (fun _ => rfl) (fun hin => ih' _ (List.getElem_mem h32n) _ _ (RT.mono (Hle.hu _ _) hB33) (by omega) hgj.2) ?_
  rintro _ _ ⟨cs40, k40, rfl, rfl, hO40⟩
  refine Dr rfl (fun _ => Zp (vs := [.agg ⟨cs39⟩, .agg ⟨cs40⟩]) [cs39, cs40] Tryz.runUnderlying38 el40 rfl rfl (by intro e he; simp only [List.mem_cons, List.not_mem_nil, or_false] at he; rcases he with rfl | rfl <;> first | exact hO39.len | exact hO40.len) rfl (by decide) fun b k h1 h2 => ⟨[k], by rw [ZX rfl]; exact Sub.refl, b, k, rfl, rfl, h1, h2⟩) (fun _ _ ⟨b41, k41, e1, e2, ho41, hk41⟩ => ?_); subst e1 e2
  refine Dq (.agg ⟨[iv 20, iv 0, .string (⟨#[]⟩), .slice (some ⟨b41, 0, none⟩) 2 2]⟩) (fun _ => Pu.build (pv := [(0, iv 20), (3, .slice (some ⟨b41, 0, none⟩) 2 2)]) (l := [iv 20, iv 0, .string (⟨#[]⟩), .slice (some ⟨b41, 0, none⟩) 2 2]) rfl (bld40_0_3 _ _ _ _)) <| Dr rfl (fun _ => Zp (vs := [.agg ⟨[iv 20, iv 0, .string (⟨#[]⟩), .slice (some ⟨b41, 0, none⟩) 2 2]⟩]) [[iv 20, iv 0, .string (⟨#[]⟩), .slice (some ⟨b41, 0, none⟩) 2 2]] Tryz.runUnderlying38 el40 rfl rfl (by intro e he; simp only [List.mem_cons, List.not_mem_nil, or_false] at he; subst he; exact rfl) rfl (by decide) fun b k h1 h2 => ⟨[k], by rw [ZX rfl]; exact Sub.refl, b, k, rfl, rfl, h1, h2⟩) (fun _ _ ⟨b42, k42, e1, e2, ho42, hk42⟩ => ?_); subst e1 e2
  refine ZG (M' := [k42, k41, k40, k39, (BX b34 (ca33 ++ cb33) 87), (BX b4 [iv kind, iv num, .string (cond (fR kind) (txS ref) ⟨#[]⟩), y2y] 40), q2a, q2b, (BX b2 [iv 0, iv 0, .string (⟨#[]⟩), nS] 40), (BX b1 (pkT kind num ref ks cv) 28)]) rfl ?_
  show JL _ _ _ [_, _, _] _ _ _
  have hlens43 : ∀ e ∈ ([[iv 20, iv 0, .string (⟨#[]⟩), .slice (some ⟨b41, 0, none⟩) 2 2]] : List (List Value)), List.length e = 4 := by
   intro e he; simp only [List.mem_cons, List.not_mem_nil, or_false] at he
   rcases he with rfl
   ·exact rfl
  have hoks43 : ∀ e ∈ ([[iv 20, iv 0, .string (⟨#[]⟩), .slice (some ⟨b41, 0, none⟩) 2 2]] : List (List Value)), okc e := by
   intro e he; simp only [List.mem_cons, List.not_mem_nil, or_false] at he
   rcases he with rfl
   ·exact (Zf rfl (Zf rfl (Zf rfl (Zf rfl Zn))))
  refine JLr (Zz (i := 6) (n := 1) (es' := [[iv 20, iv 0, .string (⟨#[]⟩), .slice (some ⟨b41, 0, none⟩) 2 2]]) Tryz.runUnderlying38 Tryz.runUnderlying38 (Or.inl rfl) el40 rfl rfl rfl how2w (fun F w m => Src.row (((At.k 0 rfl (by rw [hk42]; exact List.mem_cons_self))).heap m) (Zu (Zx hlens43))) rfl hlens43 hoks43 (by decide) (by omega) fun v43 k43 ho43 => JLq (pp b4 3) (Y0 rfl rfl) <| JLr (Zd 5 (vs := [v43]) (l := [iv kind, iv num, .string (cond (fR kind) (txS ref) ⟨#[]⟩), v43]) ty38 rfl rfl rfl (ZK ho43.one) rfl (Zf ho43.one Zn) rfl <| Zb <| Za <| JLn (Pu.inc rfl rfl (by omega)) <| JLM rfl <| Zb <| ⟨_, ?_, (j + 1), v43, (es2s ++ [[iv 20, iv 0, .string (⟨#[]⟩), .slice (some ⟨b41, 0, none⟩) 2 2]]), k43, (q2b ++ (k41 ++ (k39 ++ k40))), rfl, rfl, rfl, rfl, rfl, (Sd (Sub.cons 4 rfl (Sub.cons 4 rfl (Sub.join4 (Sub.cons 4 rfl (Sk (Sub.cons 1 rfl (Sk (Sd (Sk (Sk Sub.nil))))))))))), ?_, ?_, ?_, rfl⟩))
  ·omega
  ·omega
  ·exact ho43
  rw [itCs_snoc h32n, ← List.append_assoc]; exact OIts.snoc (OIt_case ho41 hO39 hO40) hop2p
 replace h32 := df h32
 have h32n : cases.length ≤ j := by omega
 refine ZB _ rfl <| Zc <| Za <| JLr (Zl ZO rfl (At.bx 0 rfl) rfl <| JLr (Zd 3 (vs := [iv kind, iv num, .string (cond (fR kind) (txS ref) ⟨#[]⟩), y2y]) (l := [iv kind, iv num, .string (cond (fR kind) (txS ref) ⟨#[]⟩), y2y]) ZO rfl rfl rfl rfl rfl (Zf rfl (Zf rfl (Zf rfl (Zf how2w.one Zn)))) rfl <| Zb <| Zj <| ⟨.agg ⟨[iv kind, iv num, .string (cond (fR kind) (txS ref) ⟨#[]⟩), y2y]⟩, [q2a ++ q2b], Ret.one rfl (RV.cell ZO rfl (At.bx 3 rfl) rfl), (Sub.join (Sd (Sk (Sk Sub.nil)))), ?_⟩))
 rw [List.take_of_length_le h32n] at hop2p
 exact ⟨_, _, rfl, rfl, by rw [itT, ← fR_has, ← tx_cond]; exact OIt_mk.2 ⟨_, _, _, _, rfl, hk, hn, how2w, hop2p, rfl, by rw [List.length_append, itTs_len, itCs_len]; omega⟩⟩
end Go.Proofs.YtjhenmdcnbaobaaGreat.Hs
/-! Walks, printed by a program of this session's own (gen.py). -/
namespace Go.Proofs.YtjhenmdcnbaobaaGreat.Hs
open Go Go.Proofs
set_option maxRecDepth 100000
set_option linter.unusedVariables false
set_option linter.unusedSimpArgs false
attribute [local irreducible] JL J CT wlo DT
theorem itemE_ct (t : Tm) (cs : List Value) (H : Heap) (ht : RT H cs t) : CT Tryz.prog 9 ⟨[.agg ⟨cs⟩]⟩ [] H (fun r N => ∃ cs k, r = .tuple ⟨[.agg ⟨cs⟩, iv (ZP [t])]⟩ ∧ N = [k] ∧ OIt (if ZP [t] = 0 then itT t else zI) cs k) := by
 refine Zk Tryz.func9 rfl rfl <| Zc <| Za <| JLr (Zr (l := cs) rfl rfl fun b1 => JLr (Zi (l := [iv 0, iv 0, .string (⟨#[]⟩), nS]) Tryz.zeroValue40 rfl fun b2 => JLA rfl <| Zb <| Zc <| Zc <| Za <| JLr (Zl Zt rfl (At.bx 1 rfl) (Zu (Zv ht)) <| JLr (Zp (vs := [.agg ⟨cs⟩]) [cs] Tryz.runUnderlying25 el28 rfl rfl (by intro e he; simp only [List.mem_cons, List.not_mem_nil, or_false] at he; subst he; exact (Zv ht)) rfl (by decide) fun b3 k3 ho3 hk3 => Jc Tryz.call30 rfl (fun hin => right_ct _ _ _ (Own.rd1 ho3 (hin 0 _ rfl) (RT.mono (Hle.hu _ _) ht))) rfl ?_))))
 rintro _ _ ⟨rfl, rfl⟩
 refine JLA rfl <| Zb <| Zc <| Za <| JLM rfl <| JLn (Pu.neq rfl rfl) <| Zb <| Zg rfl (fun h4 => ?_) (fun h4 => ?_)
 ·replace h4 := nt h4
  replace h4 := df h4
  refine Zc <| Za <| JLq (.agg ⟨[iv 0, iv 0, .string (⟨#[]⟩), nS]⟩) (Pu.build (pv := []) (l := [iv 0, iv 0, .string (⟨#[]⟩), nS]) rfl bld40_) <| JLM rfl <| JLr (Zd 1 (vs := [iv 0, iv 0, .string (⟨#[]⟩), nS]) (l := [iv 0, iv 0, .string (⟨#[]⟩), nS]) ZO rfl rfl rfl rfl rfl (Zf rfl (Zf rfl (Zf rfl (Zf rfl Zn)))) rfl <| JLA rfl <| Zb <| Zj <| ⟨.tuple ⟨[.agg ⟨[iv 0, iv 0, .string (⟨#[]⟩), nS]⟩, iv (ZP [t])]⟩, [[]], Ret.two rfl (RV.cell ZO rfl (At.bx 1 rfl) rfl) (RV.tmp rfl), (Sub.emp Sub.nil), ?_⟩)
  exact ⟨_, _, rfl, rfl, by rw [if_neg (by omega)]; exact Xe⟩
 replace h4 := nf h4
 replace h4 := dt h4
 refine Zm <| Zc ?_
 have hr0 : ZP [t] = 0 := by omega
 have hck : ZZ 60 8 t = 0 := by rw [← rightT_one]; exact hr0
 have hsz := (checkR_ok hck).1
 refine Za <| JLr (Zl Zt rfl (At.bx 2 rfl) (Zu (Zv ht)) <| Jc Tryz.call31 rfl (fun hin => tItem_ct _ _ _ (RT.mono (Hle.hu _ _) ht) (by omega) (Yy hck).1) rfl ?_)
 rintro _ _ ⟨cs5, k5, rfl, rfl, hO5⟩
 refine JLr (Zd 2 (vs := cs5) (l := cs5) ZO rfl rfl rfl rfl hO5.len hO5.ok (ZD (n := 4) rfl hO5.len) <| JLA rfl <| Zb <| Zj <| ⟨.tuple ⟨[.agg ⟨cs5⟩, iv 0]⟩, [k5], Ret.two rfl (RV.cell ZO rfl (At.bx 2 rfl) (Zu hO5.len)) (RV.tmp rfl), (Sk Sub.nil), ?_⟩)
 exact ⟨_, _, by rw [hr0], rfl, by rw [if_pos hr0]; exact hO5⟩
end Go.Proofs.YtjhenmdcnbaobaaGreat.Hs
/-! Walks, printed by a program of this session's own (gen.py). -/
namespace Go.Proofs.YtjhenmdcnbaobaaGreat.Hs
open Go Go.Proofs
set_option maxRecDepth 100000
set_option linter.unusedVariables false
set_option linter.unusedSimpArgs false
attribute [local irreducible] JL J CT wlo DT
theorem ref_ct (t : ByteArray) (has : Bool) (H : Heap) (bG : Nat) (n : Int) : CT Tryz.prog 70 ⟨[pp bG 0, .bool has, .string t]⟩ [(BX bG [iv n, .bool false] 79)] H (fun r N => r = .agg ⟨sC (Yl has t)⟩ ∧ N = [(BX bG [iv n, .bool (YS has t)] 79)]) := by
 refine Zk Tryz.func70 rfl rfl <| Zc <| Za <| JLr (Zi (l := sC zS) Tryz.zeroValue24 rfl fun b1 => Zb <| Zc <| Za <| JLr (Zi (l := sC zS) Tryz.zeroValue24 rfl fun b2 => Zb <| Zc <| Zc <| Za <| JLM rfl ?_))
 refine JLM rfl <| JLq (pp bG 0) (Pu.nilCheck rfl) <| JLq (pp bG 1) (Xo rfl rfl) <| JLr (Ze ty4 rfl (At.bx 2 rfl) rfl <| JLM rfl <| JLM rfl <| JLM rfl <| ZA 3 [16, 17, 18] [(18, cond has (.bool (!decide ((t.size : Int) = 32))) undef)] ?_ fun f4 => ?_)
 ·cases h3 : has with
  | true =>
   refine JLM rfl <| JLn (Pu.lenS Tryz.runUnderlying9 rfl) <| JLn (Pu.neq rfl rfl) ?_
   exact Zb ⟨⟨rfl, trivial⟩, rfl⟩
  | false =>
   exact ZL rfl ⟨rfl, trivial⟩
 refine JLn (Pu.pickAnd rfl rfl rfl) <| JLq (.bool (has && (!decide ((t.size : Int) = 32)))) (Pu.pickF rfl rfl) <| JLM rfl <| ZA 6 [22, 23, 24, 25, 26, 27] [(27, cond (has && (!decide ((t.size : Int) = 32))) undef (.bool ((!(has)) && (!decide (t = ⟨#[]⟩)))))] ?_ fun f8 => ?_
 ·cases h5 : (has && (!decide ((t.size : Int) = 32))) with
  | false =>
   refine JLM rfl <| JLn (Pu.not rfl) <| JLM rfl <| ZA 2 [25, 26] [(26, cond (!(has)) (.bool (!decide (t = ⟨#[]⟩))) undef)] ?_ fun f7 => ?_
   ·cases h6 : (!(has)) with
    | true =>
     replace h6 := nt h6
     refine JLM rfl <| JLn (Pu.neqS rfl rfl) ?_
     exact Zb ⟨⟨rfl, trivial⟩, rfl⟩
    | false =>
     exact ZL rfl ⟨rfl, trivial⟩
   refine JLn (Pu.pickAnd rfl rfl rfl) ?_
   exact Zb ⟨⟨rfl, trivial⟩, rfl⟩
  | true =>
   exact ZL rfl ⟨rfl, trivial⟩
 refine JLn (Pu.pickOr rfl rfl rfl) <| JLq (pp bG 0) (Pu.nilCheck rfl) <| JLq (pp bG 1) (Xo rfl rfl) <| JLr (Zd 2 (vs := [.bool ((has && (!decide ((t.size : Int) = 32))) || ((!(has)) && (!decide (t = ⟨#[]⟩))))]) (l := [iv n, .bool ((has && (!decide ((t.size : Int) = 32))) || ((!(has)) && (!decide (t = ⟨#[]⟩))))]) ty4 rfl rfl rfl rfl rfl (Zf rfl Zn) rfl <| Zb <| Zc <| Za <| JLM rfl <| JLq (pp bG 0) (Pu.nilCheck rfl) <| JLq (pp bG 1) (Xo rfl rfl) <| JLr (Ze ty4 rfl (At.bx 2 rfl) rfl <| JLn (Pu.not rfl) <| Zb ?_))
 refine Zg rfl (fun h9 => ?_) (fun h9 => ?_)
 ·replace h9 := nt h9
  obtain ⟨h9a, h9b⟩ := orF h9
  have hrw : YS has t = false := (refW_eq has t).symm.trans h9
  refine Za <| JLq (.slice (some ⟨b2, 0, none⟩) 32 32) (Pu.sliceArr Tryz.runUnderlying24 Tryz.sizeOf5 rfl) <| JLM rfl <| JLr (Runs_copyStr (i := 0) Tryz.runUnderlying22 Tryz.sizeOf5 rfl rfl rfl (refV_ok hrw).1 (refV_ok hrw).2 <| Zb <| Zc <| Za <| JLr (Zl Y4 rfl (At.bx 0 rfl) (Zu rfl) <| JLr (Zd 1 (vs := sC (Yl has t)) (l := sC (Yl has t)) Y4 rfl rfl rfl rfl rfl (sC_ok _) (ZD rfl rfl) <| Zb <| Zj <| ⟨.agg ⟨sC (Yl has t)⟩, [(BX bG [iv n, .bool ((has && (!decide ((t.size : Int) = 32))) || ((!(has)) && (!decide (t = ⟨#[]⟩))))] 79)], Ret.one rfl (RV.cell Y4 rfl (At.bx 1 rfl) (Zu rfl)), (Sd (Sd (Sk Sub.nil))), ?_⟩)))
  rw [refW_eq]
  exact ⟨rfl, rfl⟩
 replace h9 := nf h9
 refine Zm <| Zc <| Za <| JLr (Zl Y4 rfl (At.bx 0 rfl) (Zu rfl) <| JLr (Zd 1 (vs := sC zS) (l := sC zS) Y4 rfl rfl rfl rfl rfl (sC_ok _) (ZD rfl rfl) <| Zb <| Zj <| ⟨.agg ⟨sC zS⟩, [(BX bG [iv n, .bool ((has && (!decide ((t.size : Int) = 32))) || ((!(has)) && (!decide (t = ⟨#[]⟩))))] 79)], Ret.one rfl (RV.cell Y4 rfl (At.bx 1 rfl) (Zu rfl)), (Sd (Sd (Sk Sub.nil))), ?_⟩))
 have hrw : YS has t = true := (refW_eq has t).symm.trans h9
 rw [refW_eq, refV_w hrw]
 exact ⟨rfl, rfl⟩
end Go.Proofs.YtjhenmdcnbaobaaGreat.Hs
/-! Walks, printed by a program of this session's own (gen.py). -/
namespace Go.Proofs.YtjhenmdcnbaobaaGreat.Hs
open Go Go.Proofs
set_option maxRecDepth 100000
set_option linter.unusedVariables false
set_option linter.unusedSimpArgs false
attribute [local irreducible] JL J CT wlo DT
set_option maxHeartbeats 2000000 in
theorem ptG_ct : ∀ (x : It) (cs : List Value) (H : Heap) (bG : Nat) (d n : Int) (w : Bool), RIt H cs x → 0 ≤ n → n + szI x ≤ 1000000 → 0 ≤ d → d + szI x ≤ 1000000 → CT Tryz.prog 71 ⟨[pp bG 0, .agg ⟨cs⟩, iv d]⟩ [(BX bG [iv n, .bool w] 79)] H (fun r N => ∃ cs k, r = .agg ⟨cs⟩ ∧ N = [(BX bG [iv ((ptG x d (n, w)).2.1), .bool ((ptG x d (n, w)).2.2)] 79), k] ∧ OP (ptG x d (n, w)).1 cs k) := by
 intro x
 induction x using It.ind with
 | h kd nm tx kids ih =>
 intro cs H bG d n w ht hn hnz hd hdz
 obtain ⟨kv, rfl, hk, hm, hks⟩ := RIt_mk.1 ht
 rw [szI] at hnz hdz
 have hle := hks.le
 refine Zk Tryz.func71 rfl rfl <| Zc <| Za <| JLr (Zr (l := [iv kd, iv nm, .string tx, kv]) rfl rfl fun b1 => JLr (Zi (l := pkP 0 0 zS nS) Tryz.zeroValue85 rfl fun b2 => Zb <| Zc <| Zc <| Za <| JLM rfl <| JLM rfl <| Zs 2 rfl Tryz.call69 rfl rfl (fun hin => far_ct _ _ n d w (by omega) (by omega)) rfl ?_))
 rintro _ _ ⟨rfl, rfl⟩
 refine Zb <| Zg rfl (fun h3 => ?_) (fun h3 => ?_)
 ·refine Zc <| Za <| JLq (.agg ⟨pkP 0 0 zS nS⟩) (Pu.build (pv := []) (l := pkP 0 0 zS nS) rfl (bld85_ )) <| JLr (Zd 1 (vs := pkP 0 0 zS nS) (l := pkP 0 0 zS nS) Z1 rfl rfl rfl rfl rfl (Xl rfl) (pkP_s ..) <| Zb <| Zj <| ⟨.agg ⟨pkP 0 0 zS nS⟩, [(BX bG [iv (n + 1), .bool ((w || decide (600 < n + 1)) || decide (62 < d))] 79), []], Ret.one rfl (RV.cell Z1 rfl (At.bx 1 rfl) (pkP_a ..)), (Sk (Sub.emp Sub.nil)), ?_⟩)
  have hx := ptG_far (k := kd) (m := nm) (t := tx) (kids := kids) h3
  exact ⟨_, _, rfl, by rw [hx, show ((w || decide (600 < n + 1)) || decide (62 < d)) = true from h3], by rw [hx]; exact OP_leaf (by unfold inI; omega) (by unfold inI; omega)⟩
 obtain ⟨h3a, h3b⟩ := orF h3
 replace h3b := df h3b
 refine Zm <| Zc <| ZY (M' := [(BX bG [iv (n + 1), .bool false] 79), (BX b2 (pkP 0 0 zS nS) 85), (BX b1 [iv kd, iv nm, .string tx, kv] 40)]) (by rw [show ((w || decide (600 < n + 1)) || decide (62 < d)) = false from h3]; exact Sub.refl) <| Zy mixed #[0, 1, 3, 0, 8, 0, 0, 64, 192, 0, 512, 2016, 4095, 0, 16383] 14 [some 14, some 15, some 16, some 17, some 18, some 19, some 20, some 21, some 22, some 23, some 24, some 25, some 26, some 7] [(11, 14)] [(11, fun _ _ vw qw => vw = .agg ⟨sC (Yl (decide (kd = 33)) tx)⟩ ∧ qw = [(BX bG [iv (n + 1), .bool (YS (decide (kd = 33)) tx)] 79)]), (13, newP 85 (pkP 0 0 zS nS))] rfl (by kernel_rfl) rfl (by kernel_rfl) <| Dq (pp b1 0) (fun _ => fa40_0 rfl rfl) <| Dl1 ty3 (At.bx 1 rfl) rfl <| Dq (iv (wr30 kd)) (fun _ => Pu.arithS rfl rfl rfl) <| Dq (pp b1 1) (fun _ => fa40_1 rfl rfl) <| Dl1 ty3 (At.bx 1 rfl) rfl <| DM (fun _ => rfl) <| Dq (pp b1 0) (fun _ => fa40_0 rfl rfl) <| Dl1 ty3 (At.bx 2 rfl) rfl <| Dn (fun _ => Pu.eql rfl rfl) ?_
 refine Dq (pp b1 2) (fun _ => fa40_2 rfl rfl) <| Dl1 ty9 (At.bx 2 rfl) rfl <| Xf 0 rfl rfl (fun _ => rfl) Tryz.call70 (fun _ => rfl) rfl (fun hin => ref_ct tx (decide (kd = 33)) _ _ _) (fun _ => rfl) ?_
 rintro _ _ ⟨rfl, rfl⟩
 refine Dq (.agg ⟨pkP (wr30 kd) nm (Yl (decide (kd = 33)) tx) nS⟩) (fun _ => Pu.build (pv := [(0, iv (wr30 kd)), (1, iv nm), (2, .agg ⟨sC (Yl (decide (kd = 33)) tx)⟩)]) (l := pkP (wr30 kd) nm (Yl (decide (kd = 33)) tx) nS) rfl (bld85_0_1_2 _ _ _)) <| Da Tryz.zeroValue85 rfl fun b5 => ZG (M' := [(BX b5 (pkP 0 0 zS nS) 85), (BX bG [iv (n + 1), .bool (YS (decide (kd = 33)) tx)] 79), (BX b2 (pkP 0 0 zS nS) 85), (BX b1 [iv kd, iv nm, .string tx, kv] 40)]) rfl ?_
 show JL _ _ _ [_] _ _ _
 refine JLr (Zd 0 (vs := pkP (wr30 kd) nm (Yl (decide (kd = 33)) tx) nS) (l := pkP (wr30 kd) nm (Yl (decide (kd = 33)) tx) nS) Z1 rfl rfl rfl rfl rfl (Xl rfl) (pkP_s ..) <| Zb <| Zc <| Zc <| Za <| JLq (pp b1 3) (Y0 rfl rfl) <| JLr (Ze ty38 rfl (At.bx 3 rfl) rfl ?_))
 obtain ⟨a6, cap6, hv6⟩ := hks.sl
 have hle6 := hks.le
 refine JLn (Pu.lenSl Tryz.runUnderlying38 hv6) <| JLM rfl <| Zb <| Zq <| ZS (fun k ρ M => ∃ (j : Nat) (ps : List Pt) (y : Value) (es : List (List Value)) (q1 q2 : Zh) (nn : Int) (ww : Bool), ρ 0 = pp bG 0 ∧ ρ 2 = iv d ∧ ρ 6 = pp b2 0 ∧ ρ 7 = pp b5 0 ∧ ρ 28 = kv ∧ ρ 29 = iv ((kids.length : Int)) ∧ ρ 30 = iv ((j : Int)) ∧ Sub [(BX b5 (pkP (wr30 kd) nm (Yl (decide (kd = 33)) tx) y) 85), q1, q2, (BX bG [iv nn, .bool ww] 79), (BX b2 (pkP 0 0 zS nS) 85), (BX b1 [iv kd, iv nm, .string tx, kv] 40)] M ∧ j ≤ kids.length ∧ Own 85 35 y es q1 ∧ OPs ps es q2 ∧ ptGs kids (d + 1) (n + 1, YS (decide (kd = 33)) tx) = (ps ++ (ptGs (kids.drop j) (d + 1) (nn, ww)).1, (ptGs (kids.drop j) (d + 1) (nn, ww)).2) ∧ 0 ≤ nn ∧ nn + Z5 (kids.drop j) ≤ n + 1 + Z5 kids ∧ ps.length = j ∧ k = kids.length - j) _ ⟨0, [], nS, [], [], [], n + 1, (YS (decide (kd = 33)) tx), rfl, rfl, rfl, rfl, rfl, rfl, rfl, (Sk (Sub.emp (Sub.emp (Sk (Sk (Sk Sub.nil)))))), Nat.zero_le _, Own.nil, OPs.nil, rfl, (by omega), (by simp), rfl, rfl⟩ ?_
 rintro _ ρ7 _ ⟨j, ps, y, es, q1, q2, nn, ww, e8, e9, e10, e11, e12, e13, e14, hm15, hj, hown, hop, hinv, hnn, hnl, hpl, rfl⟩
 obtain ⟨ρ16, rfl⟩ := Zo (uc e8 (uc e9 (uc e10 (uc e11 (uc e12 (uc e13 (uc e14 un)))))))
 clear e8 e9 e10 e11 e12 e13 e14
 refine ZY hm15 <| Zc <| Za <| JLn (Pu.lss rfl rfl) <| Zb <| Zc <| Zg rfl (fun h17 => ?_) (fun h17 => ?_)
 ·replace h17 := dt h17
  have h17n : j < kids.length := by omega
  have hz1 := szIs_mem (List.getElem_mem h17n)
  have hsd := szIs_drop h17n
  have hct := ptG_cnt (kids[j]) (d + 1) (nn, ww)
  have hlk := szIs_len kids
  have hel := OPs_len hop
  simp only at hct
  refine Zm <| Zc <| Zq <| Zc <| Za ?_
  obtain ⟨b18, o18, cap18, row18, T18, fr18, cs18, hv18, hb18, hs18, hE18⟩ := hks.get j (by first | assumption | omega | decide | simp)
  obtain ⟨ki18, rfl, hik18, hin18, hks18⟩ := RIt_open hE18
  refine JLq (pp b18 (o18 + j * 4)) (Pu.idx j Tryz.runUnderlying38 ZO hv18 rfl rfl (by first | assumption | omega | decide | simp)) <| JLr (Zl ZO rfl (At.im hb18) hs18 <| JLr (Zi (l := [iv 0, iv 0, .string (⟨#[]⟩), nS]) Tryz.zeroValue40 rfl fun b19 => JLr (Zd 0 (vs := [iv ((kids[j]).kind), iv ((kids[j]).num), .string ((kids[j]).text), ki18]) (l := [iv ((kids[j]).kind), iv ((kids[j]).num), .string ((kids[j]).text), ki18]) ZO rfl rfl rfl rfl rfl (Zf rfl (Zf rfl (Zf rfl (Zf hks18.one Zn)))) rfl <| Zb <| Zy mixed #[0, 1, 0, 0, 0, 16, 60, 124, 255, 511, 1023] 8 [some 34, some 35, some 36, some 37, some 38, some 39, some 40, some 41] [(6, 12)] [(6, fun _ _ vw qw => ∃ cs k, vw = .agg ⟨cs⟩ ∧ qw = [(BX bG [iv ((ptG (kids[j]) (d + 1) (nn, ww)).2.1), .bool ((ptG (kids[j]) (d + 1) (nn, ww)).2.2)] 79), k] ∧ OP (ptG (kids[j]) (d + 1) (nn, ww)).1 cs k), (7, fun r _ vw qw => ∃ b k, vw = .slice (some ⟨b, 0, none⟩) 1 1 ∧ qw = [k] ∧ Own 85 35 (.slice (some ⟨b, 0, none⟩) 1 1) [(cel (r 6))] k ∧ k = (BX b (List.flatten [(cel (r 6))]) 85))] rfl (by kernel_rfl) rfl (by kernel_rfl) <| Dq (pp b5 34) (fun _ => YY rfl rfl) <| Dl1 ty83 (At.bx 1 rfl) (Xm ..) <| DM (fun _ => rfl) <| Dl ZO (At.bx 0 rfl) rfl <| DM (fun _ => rfl) ?_)))
  refine Dn (fun _ => Pu.add64 rfl rfl (by first | omega | (constructor <;> omega))) ?_
  refine Xf 4 rfl rfl (fun _ => rfl) Tryz.call71 (fun _ => rfl) rfl (fun hin => ih _ (List.getElem_mem h17n) _ _ _ _ _ _ (RIt.mono (Hle.hu _ _) (RIt_shut hik18 hin18 hks18)) (by omega) (by omega) (by omega) (by omega)) (fun _ => rfl) ?_
  rintro _ _ ⟨cs22, k22, rfl, rfl, hO22⟩
  refine Dr rfl (fun _ => Zp (vs := [.agg ⟨cs22⟩]) [cs22] Tryz.runUnderlying83 el85 rfl rfl (by intro e he; simp only [List.mem_cons, List.not_mem_nil, or_false] at he; subst he; exact hO22.len) rfl (by decide) fun b k h1 h2 => ⟨[k], by rw [ZX rfl]; exact Sub.refl, b, k, rfl, rfl, h1, h2⟩) (fun _ _ ⟨b23, k23, e1, e2, ho23, hk23⟩ => ?_); subst e1 e2
  refine ZG (M' := [k23, (BX bG [iv ((ptG (kids[j]) (d + 1) (nn, ww)).2.1), .bool ((ptG (kids[j]) (d + 1) (nn, ww)).2.2)] 79), k22, (BX b19 [iv ((kids[j]).kind), iv ((kids[j]).num), .string ((kids[j]).text), ki18] 40), (BX b5 (pkP (wr30 kd) nm (Yl (decide (kd = 33)) tx) y) 85), q1, q2, (BX b2 (pkP 0 0 zS nS) 85), (BX b1 [iv kd, iv nm, .string tx, kv] 40)]) rfl ?_
  show JL _ _ _ [_, _, _] _ _ _
  have hlens24 : ∀ e ∈ ([cs22] : List (List Value)), List.length e = 35 := by
   intro e he; simp only [List.mem_cons, List.not_mem_nil, or_false] at he
   rcases he with rfl
   ·exact hO22.len
  have hoks24 : ∀ e ∈ ([cs22] : List (List Value)), okc e := by
   intro e he; simp only [List.mem_cons, List.not_mem_nil, or_false] at he
   rcases he with rfl
   ·exact hO22.ok
  refine JLr (Zz (i := 5) (n := 1) (es' := [cs22]) Tryz.runUnderlying83 Tryz.runUnderlying83 (Or.inl rfl) el85 rfl rfl rfl hown (fun F w m => Src.row (((At.k 0 rfl (by rw [hk23]; exact List.mem_cons_self))).heap m) (Zu (Zx hlens24))) rfl hlens24 hoks24 (by decide) (by omega) fun v24 k24 ho24 => JLq (pp b5 34) (YY rfl rfl) <| JLr (Zd 4 (vs := [v24]) (l := pkP (wr30 kd) nm (Yl (decide (kd = 33)) tx) v24) ty83 rfl rfl rfl (ZK ho24.one) rfl (Zf ho24.one Zn) (pkP_s34 ..) <| Zb <| Za <| JLn (Pu.inc rfl rfl (by omega)) <| JLM rfl <| Zb <| ⟨_, ?_, (j + 1), (ps ++ [(ptG (kids[j]) (d + 1) (nn, ww)).1]), v24, (es ++ [cs22]), k24, (q2 ++ k22), (ptG (kids[j]) (d + 1) (nn, ww)).2.1, ((ptG (kids[j]) (d + 1) (nn, ww)).2.2), rfl, rfl, rfl, rfl, rfl, rfl, rfl, (Sd (Sub.cons 3 rfl (Sub.cons 3 rfl (Sub.join (Sub.cons 3 rfl (Sub.cons 1 rfl (Sk (Sd (Sk (Sk Sub.nil)))))))))), ?_, ?_, ?_, ?_, ?_, ?_, ?_, rfl⟩))
  ·omega
  ·omega
  ·exact ho24
  ·exact OPs.snoc hO22 hop
  ·rw [ptGs_cons h17n] at hinv; rw [hinv]; simp
  ·omega
  ·omega
  simp [hpl]
 replace h17 := df h17
 have h17n : kids.length ≤ j := by omega
 refine ZB _ rfl <| Zc <| Za <| JLr (Zl Z1 rfl (At.bx 0 rfl) (pkP_a ..) <| JLr (Zd 4 (vs := pkP (wr30 kd) nm (Yl (decide (kd = 33)) tx) y) (l := pkP (wr30 kd) nm (Yl (decide (kd = 33)) tx) y) Z1 rfl rfl rfl rfl rfl (Xl hown.one) (pkP_s ..) <| Zb <| Zj <| ⟨.agg ⟨pkP (wr30 kd) nm (Yl (decide (kd = 33)) tx) y⟩, [(BX bG [iv nn, .bool ww] 79), q1 ++ q2], Ret.one rfl (RV.cell Z1 rfl (At.bx 4 rfl) (pkP_a ..)), (Sd (Sub.cons 2 rfl (Sub.join (Sk (Sk Sub.nil))))), ?_⟩))
 have hx := ptG_near (k := kd) (m := nm) (t := tx) (kids := kids) h3
 rw [dropn h17n, ptGs, List.append_nil] at hinv
 rw [hinv] at hx
 exact ⟨_, _, rfl, by rw [hx], by rw [hx]; exact OP_mk.2 ⟨_, _, _, _, rfl, wr30_inI _, hm, hown, hop, rfl, (show ps.length ≤ 9223372036854775807 by have := szIs_len kids; omega)⟩⟩
end Go.Proofs.YtjhenmdcnbaobaaGreat.Hs
/-! Walks, printed by a program of this session's own (gen.py). -/
namespace Go.Proofs.YtjhenmdcnbaobaaGreat.Hs
open Go Go.Proofs
set_option maxRecDepth 100000
set_option linter.unusedVariables false
set_option linter.unusedSimpArgs false
attribute [local irreducible] JL J CT wlo DT
set_option maxHeartbeats 4000000 in
theorem tmG0_ct : ∀ (x : It), (∀ (cs : List Value) (H : Heap) (bG : Nat) (d n : Int) (w : Bool), RIt H cs x → 0 ≤ n → n + szI x ≤ 1000000 → 0 ≤ d → d + szI x ≤ 1000000 → CT Tryz.prog 32 ⟨[pp bG 0, .agg ⟨cs⟩, iv d]⟩ [(BX bG [iv n, .bool w] 79)] H (fun r N => ∃ cs k, r = .agg ⟨cs⟩ ∧ N = [(BX bG [iv ((tmG x d (n, w)).2.1), .bool ((tmG x d (n, w)).2.2)] 79), k] ∧ OT (tmG x d (n, w)).1 cs k)) ∧ ∀ y ∈ x.kids, (∀ (cs : List Value) (H : Heap) (bG : Nat) (d n : Int) (w : Bool), RIt H cs y → 0 ≤ n → n + szI y ≤ 1000000 → 0 ≤ d → d + szI y ≤ 1000000 → CT Tryz.prog 32 ⟨[pp bG 0, .agg ⟨cs⟩, iv d]⟩ [(BX bG [iv n, .bool w] 79)] H (fun r N => ∃ cs k, r = .agg ⟨cs⟩ ∧ N = [(BX bG [iv ((tmG y d (n, w)).2.1), .bool ((tmG y d (n, w)).2.2)] 79), k] ∧ OT (tmG y d (n, w)).1 cs k)) := by
 intro x
 induction x using It.ind with
 | h kd nm tx kids ih =>
 refine ⟨?_, fun y hy => (ih y hy).1⟩
 intro cs H bG d n w ht hn hnz hd hdz
 obtain ⟨kv, rfl, hk, hm, hks⟩ := RIt_mk.1 ht
 rw [szI] at hnz hdz
 have hle := hks.le
 refine Zk Tryz.func32 rfl rfl <| Zc <| Za <| JLr (Zr (l := [iv kd, iv nm, .string tx, kv]) rfl rfl fun b1 => JLr (Zi (l := pkT 0 0 zS nS nS) Tryz.zeroValue28 rfl fun b2 => Zb <| Zc <| Zc <| Za <| JLM rfl <| JLM rfl <| Zs 2 rfl Tryz.call69 rfl rfl (fun hin => far_ct _ _ n d w (by omega) (by omega)) rfl ?_))
 rintro _ _ ⟨rfl, rfl⟩
 refine Zb <| Zg rfl (fun h3 => ?_) (fun h3 => ?_)
 ·refine Zc <| Za <| JLq (.agg ⟨pkT 0 0 zS nS nS⟩) (Pu.build (pv := []) (l := pkT 0 0 zS nS nS) rfl (bld28_ )) <| JLr (Zd 1 (vs := pkT 0 0 zS nS nS) (l := pkT 0 0 zS nS nS) Zt rfl rfl rfl rfl rfl (ZC rfl rfl) (Z4 ..) <| Zb <| Zj <| ⟨.agg ⟨pkT 0 0 zS nS nS⟩, [(BX bG [iv (n + 1), .bool ((w || decide (600 < n + 1)) || decide (62 < d))] 79), []], Ret.one rfl (RV.cell Zt rfl (At.bx 1 rfl) (Z0 ..)), (Sk (Sub.emp Sub.nil)), ?_⟩)
  have hx := tmG_far (k := kd) (m := nm) (t := tx) (kids := kids) h3
  exact ⟨_, _, rfl, by rw [hx, show ((w || decide (600 < n + 1)) || decide (62 < d)) = true from h3], by rw [hx]; exact OT_zero⟩
 obtain ⟨h3a, h3b⟩ := orF h3
 replace h3b := df h3b
 refine Zm <| Zc <| ZY (M' := [(BX bG [iv (n + 1), .bool false] 79), (BX b2 (pkT 0 0 zS nS nS) 28), (BX b1 [iv kd, iv nm, .string tx, kv] 40)]) (by rw [show ((w || decide (600 < n + 1)) || decide (62 < d)) = false from h3]; exact Sub.refl) <| Zy mixed #[0, 1, 0, 4, 0, 0, 32, 96, 224, 0, 512, 2032, 4095, 0, 16383] 14 [some 14, some 15, some 16, some 17, some 18, some 19, some 20, some 21, some 22, some 23, some 24, some 25, some 26, some 7] [(11, 14)] [(7, fun _ _ vw qw => vw = .agg ⟨[.bool (fN kd), .bool (fR kd), .bool (fC kd)]⟩ ∧ qw = []), (11, fun _ _ vw qw => vw = .agg ⟨sC (Yl (fR kd) tx)⟩ ∧ qw = [(BX bG [iv (n + 1), .bool (YS (fR kd) tx)] 79)]), (13, newP 28 (pkT 0 0 zS nS nS))] rfl (by kernel_rfl) rfl (by kernel_rfl) <| Dq (pp b1 0) (fun _ => fa40_0 rfl rfl) <| Dl1 ty3 (At.bx 1 rfl) rfl <| Dq (pp b1 1) (fun _ => fa40_1 rfl rfl) <| Dl1 ty3 (At.bx 1 rfl) rfl <| DM (fun _ => rfl) <| Dq (pp b1 0) (fun _ => fa40_0 rfl rfl) <| Dl1 ty3 (At.bx 2 rfl) rfl <| Dc rfl Tryz.call67 (fun _ => rfl) (fun hin => fields_ct _ _) ?_
 rintro _ _ ⟨rfl, rfl⟩
 refine Dq (.bool (fR kd)) (fun _ => Pu.idxV 1 Tryz.runUnderlying137 ty4 rfl rfl rfl (by decide) rfl) <| Dq (pp b1 2) (fun _ => fa40_2 rfl rfl) <| Dl1 ty9 (At.bx 2 rfl) rfl <| Xf 0 rfl rfl (fun _ => rfl) Tryz.call70 (fun _ => rfl) rfl (fun hin => ref_ct tx (fR kd) _ _ _) (fun _ => rfl) ?_
 rintro _ _ ⟨rfl, rfl⟩
 refine Dq (.agg ⟨pkT kd nm (Yl (fR kd) tx) nS nS⟩) (fun _ => Pu.build (pv := [(0, iv kd), (1, iv nm), (2, .agg ⟨sC (Yl (fR kd) tx)⟩)]) (l := pkT kd nm (Yl (fR kd) tx) nS nS) rfl (bld28_0_1_2 _ _ _)) <| Da Tryz.zeroValue28 rfl fun b5 => ZG (M' := [(BX b5 (pkT 0 0 zS nS nS) 28), (BX bG [iv (n + 1), .bool (YS (fR kd) tx)] 79), (BX b2 (pkT 0 0 zS nS nS) 28), (BX b1 [iv kd, iv nm, .string tx, kv] 40)]) rfl ?_
 show JL _ _ _ [_] _ _ _
 refine JLr (Zd 0 (vs := pkT kd nm (Yl (fR kd) tx) nS nS) (l := pkT kd nm (Yl (fR kd) tx) nS nS) Zt rfl rfl rfl rfl rfl (ZC rfl rfl) (Z4 ..) <| Zb <| Zc <| Zc <| Za <| JLq (pp b1 3) (Y0 rfl rfl) <| JLr (Ze ty38 rfl (At.bx 3 rfl) rfl ?_))
 obtain ⟨a6, cap6, hv6⟩ := hks.sl
 have hle6 := hks.le
 refine JLn (Pu.lenSl Tryz.runUnderlying38 hv6) <| JLM rfl <| Zb <| Zq <| ZS (fun k ρ M => ∃ (j : Nat) (ts : List Tm) (us : List (Pt × Tm)) (y : Value) (es : List (List Value)) (q1 q2 : Zh) (z : Value) (fs : List (List Value)) (q3 q4 : Zh) (nn : Int) (ww : Bool), ρ 0 = pp bG 0 ∧ ρ 2 = iv d ∧ ρ 6 = pp b2 0 ∧ ρ 7 = pp b5 0 ∧ ρ 28 = kv ∧ ρ 29 = iv ((kids.length : Int)) ∧ ρ 30 = iv ((j : Int)) ∧ Sub [(BX b5 (pkT kd nm (Yl (fR kd) tx) y z) 28), q1, q2, q3, q4, (BX bG [iv nn, .bool ww] 79), (BX b2 (pkT 0 0 zS nS nS) 28), (BX b1 [iv kd, iv nm, .string tx, kv] 40)] M ∧ j ≤ kids.length ∧ Own 28 36 y es q1 ∧ OTs ts es q2 ∧ Own 87 71 z fs q3 ∧ OCs us fs q4 ∧ Y1 kids (d + 1) [] [] (n + 1, YS (fR kd) tx) = Y1 (kids.drop j) (d + 1) ts us (nn, ww) ∧ 0 ≤ nn ∧ nn + Z5 (kids.drop j) ≤ n + 1 + Z5 kids ∧ ts.length + us.length ≤ j ∧ k = kids.length - j) _ ⟨0, [], [], nS, [], [], [], nS, [], [], [], n + 1, (YS (fR kd) tx), rfl, rfl, rfl, rfl, rfl, rfl, rfl, (Sk (Sub.emp (Sub.emp (Sub.emp (Sub.emp (Sk (Sk (Sk Sub.nil)))))))), Nat.zero_le _, Own.nil, OTs.nil, Own.nil, OCs.nil, rfl, (by omega), (by simp), (by simp), rfl⟩ ?_
 rintro _ ρ7 _ ⟨j, ts, us, y, es, q1, q2, z, fs, q3, q4, nn, ww, e8, e9, e10, e11, e12, e13, e14, hm15, hj, hown, hop, hown2, hop2, hinv, hnn, hnl, hpl, rfl⟩
 obtain ⟨ρ16, rfl⟩ := Zo (uc e8 (uc e9 (uc e10 (uc e11 (uc e12 (uc e13 (uc e14 un)))))))
 clear e8 e9 e10 e11 e12 e13 e14
 refine ZY hm15 <| Zc <| Za <| JLn (Pu.lss rfl rfl) <| Zb <| Zc <| Zg rfl (fun h17 => ?_) (fun h17 => ?_)
 ·replace h17 := dt h17
  have h17n : j < kids.length := by omega
  have hz1 := szIs_mem (List.getElem_mem h17n)
  have hsd := szIs_drop h17n
  have hct := (tmG_cnt (kids[j])).1 (d + 1)
  have hlk := szIs_len kids
  have hel := OTs_len hop
  have hel2 := OCs_len hop2
  have hszk : szI kids[j] = 1 + Z5 kids[j].kids := by cases kids[j]; rw [szI]; rfl
  refine Zm <| Zc <| Zq <| Zc <| Za ?_
  obtain ⟨b18, o18, cap18, row18, T18, fr18, cs18, hv18, hb18, hs18, hE18⟩ := hks.get j (by first | assumption | omega | decide | simp)
  obtain ⟨ki18, rfl, hik18, hin18, hks18⟩ := RIt_open hE18
  refine JLq (pp b18 (o18 + j * 4)) (Pu.idx j Tryz.runUnderlying38 ZO hv18 rfl rfl (by first | assumption | omega | decide | simp)) <| JLr (Zl ZO rfl (At.im hb18) hs18 <| JLr (Zi (l := [iv 0, iv 0, .string (⟨#[]⟩), nS]) Tryz.zeroValue40 rfl fun b19 => JLr (Zd 0 (vs := [iv ((kids[j]).kind), iv ((kids[j]).num), .string ((kids[j]).text), ki18]) (l := [iv ((kids[j]).kind), iv ((kids[j]).num), .string ((kids[j]).text), ki18]) ZO rfl rfl rfl rfl rfl (Zf rfl (Zf rfl (Zf rfl (Zf hks18.one Zn)))) rfl <| Zb <| Zq <| Zc <| Za <| JLq (pp b19 0) (fa40_0 rfl rfl) <| JLr (Ze ty3 rfl (At.bx 0 rfl) rfl <| JLn (Pu.neq rfl rfl) <| JLA rfl <| Zb ?_))))
  refine Zg rfl (fun h20 => ?_) (fun h20 => ?_)
  ·replace h20 := nt h20
   replace h20 := df h20
   refine Zc <| Za <| JLM rfl <| JLM rfl <| JLq (pp bG 0) (Pu.nilCheck rfl) <| JLq (pp bG 1) (Xo rfl rfl) <| JLr (Ze ty4 rfl (At.bx 6 rfl) rfl <| JLM rfl <| ZA 4 [66, 67, 68, 69] [(69, cond ww undef (.bool (decide (0 < (us.length : Int)))))] ?_ fun f23 => ?_)
   ·cases h21 : ww with
    | false =>
     refine JLq (pp b5 35) (YI rfl rfl) <| JLr (Ze ty26 rfl (At.bx 1 rfl) (Yz ..) ?_)
     obtain ⟨a22, cap22, hv22⟩ := hown2.sl
     rw [hel2] at hv22
     refine JLn (Pu.lenSl Tryz.runUnderlying26 hv22) <| JLn (Pu.gtr rfl rfl) ?_
     exact Zb ⟨⟨rfl, trivial⟩, rfl⟩
    | true =>
     exact ZL rfl ⟨rfl, trivial⟩
   refine JLn (Pu.pickOr rfl rfl rfl) <| JLq (pp bG 0) (Pu.nilCheck rfl) <| JLq (pp bG 1) (Xo rfl rfl) <| JLr (Zd 6 (vs := [.bool (ww || (decide (0 < (us.length : Int))))]) (l := [iv nn, .bool (ww || (decide (0 < (us.length : Int))))]) ty4 rfl rfl rfl rfl rfl (Zf rfl Zn) rfl <| Zb <| Zy mixed #[0, 1, 0, 0, 0, 16, 60, 124, 255, 511, 1023] 8 [some 73, some 74, some 75, some 76, some 77, some 78, some 79, some 80] [(6, 14)] [(6, fun _ _ vw qw => ∃ cs k, vw = .agg ⟨cs⟩ ∧ qw = [(BX bG [iv ((tmG (kids[j]) (d + 1) (nn, ww || (decide (0 < (us.length : Int))))).2.1), .bool ((tmG (kids[j]) (d + 1) (nn, ww || (decide (0 < (us.length : Int))))).2.2)] 79), k] ∧ OT (tmG (kids[j]) (d + 1) (nn, ww || (decide (0 < (us.length : Int))))).1 cs k), (7, fun r _ vw qw => ∃ b k, vw = .slice (some ⟨b, 0, none⟩) 1 1 ∧ qw = [k] ∧ Own 28 36 (.slice (some ⟨b, 0, none⟩) 1 1) [(cel (r 6))] k ∧ k = (BX b (List.flatten [(cel (r 6))]) 28))] rfl (by kernel_rfl) rfl (by kernel_rfl) <| Dq (pp b5 34) (fun _ => Yn rfl rfl) <| Dl1 ty25 (At.bx 1 rfl) (Ym ..) <| DM (fun _ => rfl) <| Dl ZO (At.bx 0 rfl) rfl <| DM (fun _ => rfl) ?_)
   refine Dn (fun _ => Pu.add64 rfl rfl (by first | omega | (constructor <;> omega))) ?_
   refine Xf 6 rfl rfl (fun _ => rfl) Tryz.call32 (fun _ => rfl) rfl (fun hin => (ih _ (List.getElem_mem h17n)).1 _ _ _ _ _ _ (RIt.mono (Hle.hu _ _) (RIt_shut hik18 hin18 hks18)) (by omega) (by omega) (by omega) (by omega)) (fun _ => rfl) ?_
   rintro _ _ ⟨cs26, k26, rfl, rfl, hO26⟩
   refine Dr rfl (fun _ => Zp (vs := [.agg ⟨cs26⟩]) [cs26] Tryz.runUnderlying25 el28 rfl rfl (by intro e he; simp only [List.mem_cons, List.not_mem_nil, or_false] at he; subst he; exact hO26.len) rfl (by decide) fun b k h1 h2 => ⟨[k], by rw [ZX rfl]; exact Sub.refl, b, k, rfl, rfl, h1, h2⟩) (fun _ _ ⟨b27, k27, e1, e2, ho27, hk27⟩ => ?_); subst e1 e2
   refine ZG (M' := [k27, (BX bG [iv ((tmG (kids[j]) (d + 1) (nn, ww || (decide (0 < (us.length : Int))))).2.1), .bool ((tmG (kids[j]) (d + 1) (nn, ww || (decide (0 < (us.length : Int))))).2.2)] 79), k26, (BX b19 [iv ((kids[j]).kind), iv ((kids[j]).num), .string ((kids[j]).text), ki18] 40), (BX b5 (pkT kd nm (Yl (fR kd) tx) y z) 28), q1, q2, q3, q4, (BX b2 (pkT 0 0 zS nS nS) 28), (BX b1 [iv kd, iv nm, .string tx, kv] 40)]) rfl ?_
   show JL _ _ _ [_, _, _] _ _ _
   have hlens28 : ∀ e ∈ ([cs26] : List (List Value)), List.length e = 36 := by
    intro e he; simp only [List.mem_cons, List.not_mem_nil, or_false] at he
    rcases he with rfl
    ·exact hO26.len
   have hoks28 : ∀ e ∈ ([cs26] : List (List Value)), okc e := by
    intro e he; simp only [List.mem_cons, List.not_mem_nil, or_false] at he
    rcases he with rfl
    ·exact hO26.ok
   refine JLr (Zz (i := 5) (n := 1) (es' := [cs26]) Tryz.runUnderlying25 Tryz.runUnderlying25 (Or.inl rfl) el28 rfl rfl rfl hown (fun F w m => Src.row (((At.k 0 rfl (by rw [hk27]; exact List.mem_cons_self))).heap m) (Zu (Zx hlens28))) rfl hlens28 hoks28 (by decide) (by omega) fun v28 k28 ho28 => JLq (pp b5 34) (Yn rfl rfl) <| JLr (Zd 4 (vs := [v28]) (l := pkT kd nm (Yl (fR kd) tx) v28 z) ty25 rfl rfl rfl (ZK ho28.one) rfl (Zf ho28.one Zn) (pkT_s34 ..) <| Zb <| Za <| JLn (Pu.inc rfl rfl (by omega)) <| JLM rfl <| Zb <| ⟨_, ?_, (j + 1), (ts ++ [(tmG (kids[j]) (d + 1) (nn, ww || (decide (0 < (us.length : Int))))).1]), us, v28, (es ++ [cs26]), k28, (q2 ++ k26), z, fs, q3, q4, (tmG (kids[j]) (d + 1) (nn, ww || (decide (0 < (us.length : Int))))).2.1, ((tmG (kids[j]) (d + 1) (nn, ww || (decide (0 < (us.length : Int))))).2.2), rfl, rfl, rfl, rfl, rfl, rfl, rfl, (Sd (Sub.cons 3 rfl (Sub.cons 3 rfl (Sub.join (Sub.cons 3 rfl (Sub.cons 1 rfl (Sub.cons 2 rfl (Sub.cons 2 rfl (Sk (Sd (Sk (Sk Sub.nil)))))))))))), ?_, ?_, ?_, ?_, ?_, ?_, ?_, ?_, ?_, rfl⟩))
   ·omega
   ·omega
   ·exact ho28
   ·exact OTs.snoc hO26 hop
   ·exact hown2
   ·exact hop2
   ·rw [YE h17n, tmGs_k h20] at hinv; rw [hinv]; congr 1 <;> first | rfl | (rw [show (decide (0 < (us.length : Nat))) = decide ((0 : Int) < (us.length : Int)) from by apply decide_eq_decide.2; omega])
   ·have hk1 := (tmG_cnt (kids[j])).1 (d + 1) (nn, ww || (decide (0 < (us.length : Int)))); simp only at hk1; omega
   ·have hk1 := (tmG_cnt (kids[j])).1 (d + 1) (nn, ww || (decide (0 < (us.length : Int)))); simp only at hk1; omega
   simp; omega
  replace h20 := nf h20
  replace h20 := dt h20
  refine Zc <| Za <| JLq (pp b19 1) (fa40_1 rfl rfl) <| JLr (Ze ty3 rfl (At.bx 0 rfl) rfl <| JLn (Pu.neq rfl rfl) <| JLM rfl <| ZA 3 [88, 89, 90] [(90, cond (!decide ((kids[j]).num = 0)) undef (.bool (!decide ((kids[j]).text = ⟨#[]⟩))))] ?_ fun f30 => ?_)
  ·cases h29 : (!decide ((kids[j]).num = 0)) with
   | false =>
    replace h29 := nf h29
    replace h29 := dt h29
    refine JLq (pp b19 2) (fa40_2 rfl rfl) <| JLr (Ze ty9 rfl (At.bx 0 rfl) rfl <| JLn (Pu.neqS rfl rfl) ?_)
    exact Zb ⟨⟨rfl, trivial⟩, rfl⟩
   | true =>
    exact ZL rfl ⟨rfl, trivial⟩
  refine JLn (Pu.pickOr rfl rfl rfl) <| JLM rfl <| ZA 4 [93, 94, 95, 96] [(96, cond ((!decide ((kids[j]).num = 0)) || (!decide ((kids[j]).text = ⟨#[]⟩))) undef (.bool (!decide ((((kids[j]).kids).length : Int) = 2))))] ?_ fun f33 => ?_
  ·cases h31 : ((!decide ((kids[j]).num = 0)) || (!decide ((kids[j]).text = ⟨#[]⟩))) with
   | false =>
    obtain ⟨h31a, h31b⟩ := orF h31
    replace h31a := nf h31a
    replace h31a := dt h31a
    replace h31b := nf h31b
    replace h31b := dt h31b
    refine JLq (pp b19 3) (Y0 rfl rfl) <| JLr (Ze ty38 rfl (At.bx 0 rfl) rfl ?_)
    obtain ⟨a32, cap32, hv32⟩ := hks18.sl
    have hle32 := hks18.le
    refine JLn (Pu.lenSl Tryz.runUnderlying38 hv32) <| JLn (Pu.neq rfl rfl) ?_
    exact Zb ⟨⟨rfl, trivial⟩, rfl⟩
   | true =>
    exact ZL rfl ⟨rfl, trivial⟩
  refine JLn (Pu.pickOr rfl rfl rfl) <| JLA rfl <| Zb <| Zg rfl (fun h34 => ?_) (fun h34 => ?_)
  ·refine Za <| JLM rfl <| JLq (pp bG 0) (Pu.nilCheck rfl) <| JLq (pp bG 1) (Xo rfl rfl) <| JLr (Zd 6 (vs := [.bool true]) (l := [iv nn, .bool true]) ty4 rfl rfl rfl rfl rfl (Zf rfl Zn) rfl <| Zb <| Za <| JLn (Pu.inc rfl rfl (by omega)) <| JLM rfl <| Zb <| ⟨_, ?_, (j + 1), ts, us, y, es, q1, q2, z, fs, q3, q4, nn, true, rfl, rfl, rfl, rfl, rfl, rfl, rfl, (Sd (Sk (Sk (Sk (Sk (Sk (Sk (Sk (Sk Sub.nil))))))))), ?_, ?_, ?_, ?_, ?_, ?_, ?_, ?_, ?_, rfl⟩)
   ·omega
   ·omega
   ·exact hown
   ·exact hop
   ·exact hown2
   ·exact hop2
   ·rw [YE h17n, tmGs_w (by have z := h20; simpa using z) (fun q => by have z := h34; simp [q.1, q.2.1, q.2.2] at z)] at hinv; exact hinv
   ·omega
   ·omega
   omega
  obtain ⟨h34a, h34b⟩ := orF h34
  obtain ⟨h34aa, h34ab⟩ := orF h34a
  replace h34aa := nf h34aa
  replace h34aa := dt h34aa
  replace h34ab := nf h34ab
  replace h34ab := dt h34ab
  replace h34b := nf h34b
  replace h34b := dt h34b
  have hy2 : ((kids[j]).kids).length = 2 := by omega
  have hs2 := szIs_two hy2
  have hp0 := ptG_cnt (((kids[j]).kids)[0]) (d + 1) (nn, ww)
  have ht1 := (tmG_cnt (kids[j])).2 (((kids[j]).kids)[1]) (List.getElem_mem (by omega)) (d + 1) ((ptG (((kids[j]).kids)[0]) (d + 1) (nn, ww)).2.1, (ptG (((kids[j]).kids)[0]) (d + 1) (nn, ww)).2.2)
  simp only at hp0 ht1
  refine Zy mixed #[0, 1, 0, 0, 8, 24, 56, 0, 128, 508, 0, 0, 2048, 6144, 14336, 0, 32768, 131068, 262140, 524284, 1048575, 2097151, 4194303] 20 [some 34, some 35, some 36, some 37, some 38, some 39, some 40, some 41, some 42, some 43, some 44, some 45, some 46, some 47, some 48, some 49, some 50, some 51, some 52, some 53] [(9, 26), (17, 9)] [(9, fun _ _ vw qw => ∃ cs k, vw = .agg ⟨cs⟩ ∧ qw = [((BX bG [iv ((ptG (((kids[j]).kids)[0]) (d + 1) (nn, ww)).2.1), .bool ((ptG (((kids[j]).kids)[0]) (d + 1) (nn, ww)).2.2)] 79)) ++ k] ∧ OP (ptG (((kids[j]).kids)[0]) (d + 1) (nn, ww)).1 cs k), (17, fun r _ vw qw => ∃ cs k k2, vw = .agg ⟨cs⟩ ∧ qw = [((BX bG [iv ((tmG (((kids[j]).kids)[1]) (d + 1) ((ptG (((kids[j]).kids)[0]) (d + 1) (nn, ww)).2.1, (ptG (((kids[j]).kids)[0]) (d + 1) (nn, ww)).2.2)).2.1), .bool ((tmG (((kids[j]).kids)[1]) (d + 1) ((ptG (((kids[j]).kids)[0]) (d + 1) (nn, ww)).2.1, (ptG (((kids[j]).kids)[0]) (d + 1) (nn, ww)).2.2)).2.2)] 79) ++ k) ++ k2] ∧ OT (tmG (((kids[j]).kids)[1]) (d + 1) ((ptG (((kids[j]).kids)[0]) (d + 1) (nn, ww)).2.1, (ptG (((kids[j]).kids)[0]) (d + 1) (nn, ww)).2.2)).1 cs k ∧ OP ((ptG (((kids[j]).kids)[0]) (d + 1) (nn, ww)).1) (cel (r 9)) k2), (19, fun r _ vw qw => ∃ b k, vw = .slice (some ⟨b, 0, none⟩) 1 1 ∧ qw = [k] ∧ Own 87 71 (.slice (some ⟨b, 0, none⟩) 1 1) [((cel (r 9))) ++ ((cel (r 17)))] k ∧ k = (BX b (List.flatten [((cel (r 9))) ++ ((cel (r 17)))]) 87))] rfl (by kernel_rfl) rfl (by kernel_rfl) <| Dq (pp b5 35) (fun _ => YI rfl rfl) <| Dl1 ty26 (At.bx 1 rfl) (Yz ..) <| DM (fun _ => rfl) <| Dq (pp b19 3) (fun _ => Y0 rfl rfl) <| Dl1 ty38 (At.bx 0 rfl) rfl ?_
  obtain ⟨b41, o41, cap41, row41, T41, fr41, cs41, hv41, hb41, hs41, hE41⟩ := hks18.get 0 (by first | assumption | omega | decide | simp)
  obtain ⟨ki41, rfl, hik41, hin41, hks41⟩ := RIt_open hE41
  refine Dq (pp b41 (o41 + 0 * 4)) (fun _ => Pu.idx 0 Tryz.runUnderlying38 ZO hv41 rfl rfl (by first | assumption | omega | decide | simp)) <| Dl ZO (At.im hb41) hs41 <| DM (fun _ => rfl) ?_
  refine Dn (fun _ => Pu.add64 rfl rfl (by first | omega | (constructor <;> omega))) ?_
  refine Xf 6 rfl rfl (fun _ => rfl) Tryz.call71 (fun _ => rfl) rfl (fun hin => (CT_join (ptG_ct _ _ _ _ _ _ _ (RIt.mono (Hle.hu _ _) (RIt_shut hik41 hin41 hks41)) (by omega) (by omega) (by omega) (by omega))).mono fun v N ⟨N2, hp2, e2⟩ => by obtain ⟨c2, k2, e3, e4, h5⟩ := hp2; subst e2 e4; exact ⟨c2, k2, e3, by simp, h5⟩) (fun _ => rfl) ?_
  rintro _ _ ⟨cs42, k42, rfl, rfl, hO42⟩
  refine DM (fun _ => rfl) <| Dq (pp b19 3) (fun _ => Y0 rfl rfl) <| Dl1 ty38 (At.bx 0 rfl) rfl ?_
  obtain ⟨b43, o43, cap43, row43, T43, fr43, cs43, hv43, hb43, hs43, hE43⟩ := hks18.get 1 (by first | assumption | omega | decide | simp)
  obtain ⟨ki43, rfl, hik43, hin43, hks43⟩ := RIt_open hE43
  refine Dq (pp b43 (o43 + 1 * 4)) (fun _ => Pu.idx 1 Tryz.runUnderlying38 ZO hv43 rfl rfl (by first | assumption | omega | decide | simp)) <| Dl ZO (At.im hb43) hs43 <| DM (fun _ => rfl) ?_
  refine Dn (fun _ => Pu.add64 rfl rfl (by first | omega | (constructor <;> omega))) ?_
  refine Xf 0 rfl rfl (fun _ => rfl) Tryz.call32 (fun _ => rfl) rfl (fun hin => (CT_fr ((ih _ (List.getElem_mem h17n)).2 _ (List.getElem_mem (by omega)) _ _ _ _ _ _ (RIt.mono (Hle.hu _ _) (RIt_shut hik43 hin43 hks43)) (by omega) (by omega) (by omega) (by omega))).mono fun v N ⟨N2, hp2, e2⟩ => by obtain ⟨c2, k2, e3, e4, h5⟩ := hp2; subst e2 e4; exact ⟨c2, k2, _, e3, by simp, h5, hO42⟩) (fun _ => rfl) ?_
  rintro _ _ ⟨cs44, k44, k45, rfl, rfl, hO44, hO45⟩
  refine Dq (.agg ⟨cs42 ++ cs44⟩) (fun _ => Pu.build (pv := [(0, .agg ⟨cs42⟩), (1, .agg ⟨cs44⟩)]) (l := cs42 ++ cs44) rfl (bld87_0_1 hO45.len hO44.len)) <| Dr rfl (fun _ => Zp (vs := [.agg ⟨cs42 ++ cs44⟩]) [cs42 ++ cs44] Tryz.runUnderlying26 el87 rfl rfl (by intro e he; simp only [List.mem_cons, List.not_mem_nil, or_false] at he; subst he; exact (Z6 hO45.len hO44.len)) rfl (by decide) fun b k h1 h2 => ⟨[k], by rw [ZX rfl]; exact Sub.refl, b, k, rfl, rfl, h1, h2⟩) (fun _ _ ⟨b46, k46, e1, e2, ho46, hk46⟩ => ?_); subst e1 e2
  refine ZG (M' := [k46, (((BX bG [iv ((tmG (((kids[j]).kids)[1]) (d + 1) ((ptG (((kids[j]).kids)[0]) (d + 1) (nn, ww)).2.1, (ptG (((kids[j]).kids)[0]) (d + 1) (nn, ww)).2.2)).2.1), .bool ((tmG (((kids[j]).kids)[1]) (d + 1) ((ptG (((kids[j]).kids)[0]) (d + 1) (nn, ww)).2.1, (ptG (((kids[j]).kids)[0]) (d + 1) (nn, ww)).2.2)).2.2)] 79)) ++ k44) ++ k45, (BX b19 [iv ((kids[j]).kind), iv ((kids[j]).num), .string ((kids[j]).text), ki18] 40), (BX b5 (pkT kd nm (Yl (fR kd) tx) y z) 28), q1, q2, q3, q4, (BX b2 (pkT 0 0 zS nS nS) 28), (BX b1 [iv kd, iv nm, .string tx, kv] 40)]) rfl ?_
  show JL _ _ _ [_, _, _] _ _ _
  have hlens47 : ∀ e ∈ ([cs42 ++ cs44] : List (List Value)), List.length e = 71 := by
   intro e he; simp only [List.mem_cons, List.not_mem_nil, or_false] at he
   rcases he with rfl
   ·exact (Z6 hO45.len hO44.len)
  have hoks47 : ∀ e ∈ ([cs42 ++ cs44] : List (List Value)), okc e := by
   intro e he; simp only [List.mem_cons, List.not_mem_nil, or_false] at he
   rcases he with rfl
   ·exact (Yf hO45.ok hO44.ok)
  refine JLr (Zz (i := 6) (n := 1) (es' := [cs42 ++ cs44]) Tryz.runUnderlying26 Tryz.runUnderlying26 (Or.inl rfl) el87 rfl rfl rfl hown2 (fun F w m => Src.row (((At.k 0 rfl (by rw [hk46]; exact List.mem_cons_self))).heap m) (Zu (Zx hlens47))) rfl hlens47 hoks47 (by decide) (by omega) fun v47 k47 ho47 => JLq (pp b5 35) (YI rfl rfl) <| JLr (Zd 3 (vs := [v47]) (l := pkT kd nm (Yl (fR kd) tx) y v47) ty26 rfl rfl rfl (ZK ho47.one) rfl (Zf ho47.one Zn) (pkT_s35 ..) <| Zb <| ZY (M' := [k46, (BX bG [iv ((tmG (((kids[j]).kids)[1]) (d + 1) ((ptG (((kids[j]).kids)[0]) (d + 1) (nn, ww)).2.1, (ptG (((kids[j]).kids)[0]) (d + 1) (nn, ww)).2.2)).2.1), .bool ((tmG (((kids[j]).kids)[1]) (d + 1) ((ptG (((kids[j]).kids)[0]) (d + 1) (nn, ww)).2.1, (ptG (((kids[j]).kids)[0]) (d + 1) (nn, ww)).2.2)).2.2)] 79), k44, k45, (BX b19 [iv ((kids[j]).kind), iv ((kids[j]).num), .string ((kids[j]).text), ki18] 40), (BX b5 (pkT kd nm (Yl (fR kd) tx) y v47) 28), q1, q2, k47, q4, (BX b2 (pkT 0 0 zS nS nS) 28), (BX b1 [iv kd, iv nm, .string tx, kv] 40)]) (Sub.flat Sub.refl (by simp)) <| Za <| JLn (Pu.inc rfl rfl (by omega)) <| JLM rfl <| Zb <| ⟨_, ?_, (j + 1), ts, (us ++ [((ptG (((kids[j]).kids)[0]) (d + 1) (nn, ww)).1, (tmG (((kids[j]).kids)[1]) (d + 1) ((ptG (((kids[j]).kids)[0]) (d + 1) (nn, ww)).2.1, (ptG (((kids[j]).kids)[0]) (d + 1) (nn, ww)).2.2)).1)]), y, es, q1, q2, v47, (fs ++ [cs42 ++ cs44]), k47, (q4 ++ (k45 ++ k44)), (tmG (((kids[j]).kids)[1]) (d + 1) ((ptG (((kids[j]).kids)[0]) (d + 1) (nn, ww)).2.1, (ptG (((kids[j]).kids)[0]) (d + 1) (nn, ww)).2.2)).2.1, ((tmG (((kids[j]).kids)[1]) (d + 1) ((ptG (((kids[j]).kids)[0]) (d + 1) (nn, ww)).2.1, (ptG (((kids[j]).kids)[0]) (d + 1) (nn, ww)).2.2)).2.2), rfl, rfl, rfl, rfl, rfl, rfl, rfl, (Sd (Sub.cons 4 rfl (Sub.cons 4 rfl (Sub.cons 4 rfl (Sub.cons 4 rfl (Sub.join3 (Sub.cons 4 rfl (Sub.cons 2 rfl (Sub.cons 1 rfl (Sk (Sd (Sk (Sk Sub.nil))))))))))))), ?_, ?_, ?_, ?_, ?_, ?_, ?_, ?_, ?_, rfl⟩))
  ·omega
  ·omega
  ·exact hown
  ·exact hop
  ·exact ho47
  ·exact OCs.snoc hO45 hO44 hop2
  ·rw [YE h17n, tmGs_c (by have z := h20; simpa using z) (by omega) (by have z := h34; simp at z; exact z.1.2) (by omega)] at hinv; exact hinv
  ·omega
  ·omega
  simp; omega
 replace h17 := df h17
 have h17n : kids.length ≤ j := by omega
 refine ZB _ rfl <| Zc <| Za <| JLr (Zl Zt rfl (At.bx 0 rfl) (Z0 ..) <| JLr (Zd 6 (vs := pkT kd nm (Yl (fR kd) tx) y z) (l := pkT kd nm (Yl (fR kd) tx) y z) Zt rfl rfl rfl rfl rfl (ZC hown.one hown2.one) (Z4 ..) <| Zb <| Zj <| ⟨.agg ⟨pkT kd nm (Yl (fR kd) tx) y z⟩, [(BX bG [iv nn, .bool ww] 79), q1 ++ (q2 ++ (q3 ++ q4))], Ret.one rfl (RV.cell Zt rfl (At.bx 6 rfl) (Z0 ..)), (Sd (Sub.cons 4 rfl (Sub.join4 (Sk (Sk (Sk (Sk Sub.nil))))))), ?_⟩))
 have hx := tmG_near (k := kd) (m := nm) (t := tx) (kids := kids) h3
 rw [dropn h17n, Y1] at hinv
 rw [← fR_has] at hx
 rw [hinv] at hx
 have hlk := szIs_len kids
 exact ⟨_, _, rfl, by rw [hx], by rw [hx]; exact OT_mk.2 ⟨_, _, _, _, _, _, _, _, rfl, hk, hm, hown, hop, hown2, hop2, rfl, (show ts.length ≤ 9223372036854775807 by omega), (show us.length ≤ 9223372036854775807 by omega)⟩⟩
end Go.Proofs.YtjhenmdcnbaobaaGreat.Hs
/-! Walks, printed by a program of this session's own (gen.py). -/
namespace Go.Proofs.YtjhenmdcnbaobaaGreat.Hs
open Go Go.Proofs
set_option maxRecDepth 100000
set_option linter.unusedVariables false
set_option linter.unusedSimpArgs false
attribute [local irreducible] JL J CT wlo DT
theorem fromP_ct (x : It) (cs : List Value) (H : Heap) (ht : RIt H cs x) (hz : szI x ≤ 10000) : CT Tryz.prog 10 ⟨[.agg ⟨cs⟩]⟩ [] H (fun r N => ∃ cs k, r = .tuple ⟨[.agg ⟨cs⟩, iv (fromP x).2]⟩ ∧ N = [k] ∧ OT (fromP x).1 cs k) := by
 refine Zk Tryz.func10 rfl rfl <| Zc <| Za <| JLr (Zr (l := cs) rfl rfl fun b1 => JLr (Zi (l := pkT 0 0 zS nS nS) Tryz.zeroValue28 rfl fun b2 => JLA rfl <| Zb <| Zc <| Za <| JLq (.agg ⟨[iv 0, .bool false]⟩) (Pu.build (pv := []) (l := [iv 0, .bool false]) rfl bld79_) <| JLr (Zr (l := [iv 0, .bool false]) rfl rfl fun b3 => JLA rfl <| Zb ?_)))
 refine Zc <| Za <| JLM rfl <| JLr (Zl ZO rfl (At.bx 2 rfl) (Zu (RIt_len ht)) <| Zs 0 rfl Tryz.call32 rfl rfl (fun hin => (tmG0_ct x).1 _ _ _ _ _ _ (RIt.mono (Hle.hu _ _) ht) (by omega) (by omega) (by omega) (by omega)) rfl ?_)
 rintro _ _ ⟨cs4, k4, rfl, rfl, hO4⟩
 refine JLr (Zi (l := pkT 0 0 zS nS nS) Tryz.zeroValue28 rfl fun b5 => JLr (Zd 0 (vs := cs4) (l := cs4) Zt rfl rfl rfl rfl hO4.len hO4.ok (ZD (n := 36) rfl hO4.len) <| Zb <| Zc <| Zc <| Za <| JLM rfl <| JLq (pp b3 0) (Pu.nilCheck rfl) <| JLq (pp b3 1) (Xo rfl rfl) <| JLr (Ze ty4 rfl (At.bx 1 rfl) rfl <| JLM rfl ?_)))
 cases h6 : ((tmG x 1 (0, false)).2.2) with
 | true =>
  iterate 4 refine YJ rfl ?_
  refine JLq (.bool true) (Pu.pickT rfl rfl) <| Zb <| Zg (b := true) rfl (fun _ => ?_) (fun h => absurd h (by simp))
  refine Zc <| Za <| JLq (.agg ⟨pkT 0 0 zS nS nS⟩) (Pu.build (pv := []) (l := pkT 0 0 zS nS nS) rfl (bld28_ )) <| JLr (Zd 3 (vs := pkT 0 0 zS nS nS) (l := pkT 0 0 zS nS nS) Zt rfl rfl rfl rfl rfl (ZC rfl rfl) (Z4 ..) <| JLA rfl <| Zb <| Zj <| ⟨.tuple ⟨[.agg ⟨pkT 0 0 zS nS nS⟩, iv 4]⟩, [[]], Ret.two rfl (RV.cell Zt rfl (At.bx 3 rfl) (Z0 ..)) (RV.tmp rfl), (Sub.emp Sub.nil), ?_⟩)
  have hx : fromP x = (zT, 4) := by first | exact fromP_w (by assumption) | exact fromP_r (by assumption)
  exact ⟨_, _, by rw [hx], rfl, by rw [hx]; exact OT_zero⟩
 | false =>
  refine JLr (Zl Zt rfl (At.bx 0 rfl) (Zu hO4.len) <| JLr (Zp (vs := [.agg ⟨cs4⟩]) [cs4] Tryz.runUnderlying25 el28 rfl rfl (by intro e he; simp only [List.mem_cons, List.not_mem_nil, or_false] at he; subst he; exact hO4.len) rfl (by decide) fun b7 k7 ho7 hk7 => Jc Tryz.call30 rfl (fun hin => right_ct _ _ _ (Own.rd1 ho7 (hin 0 _ rfl) (hO4.rd (hin 3 _ rfl)))) rfl ?_))
  rintro _ _ ⟨rfl, rfl⟩
  refine JLn (Pu.neq rfl rfl) <| JLq (.bool (!decide (ZP [(tmG x 1 (0, false)).1] = 0))) (Pu.pickF rfl rfl) <| Zb <| Zg rfl (fun h8 => ?_) (fun h8 => ?_)
  ·replace h8 := nt h8
   replace h8 := df h8
   refine Zc <| Za <| JLq (.agg ⟨pkT 0 0 zS nS nS⟩) (Pu.build (pv := []) (l := pkT 0 0 zS nS nS) rfl (bld28_ )) <| JLr (Zd 4 (vs := pkT 0 0 zS nS nS) (l := pkT 0 0 zS nS nS) Zt rfl rfl rfl rfl rfl (ZC rfl rfl) (Z4 ..) <| JLA rfl <| Zb <| Zj <| ⟨.tuple ⟨[.agg ⟨pkT 0 0 zS nS nS⟩, iv 4]⟩, [[]], Ret.two rfl (RV.cell Zt rfl (At.bx 4 rfl) (Z0 ..)) (RV.tmp rfl), (Sub.emp Sub.nil), ?_⟩)
   have hx : fromP x = (zT, 4) := by first | exact fromP_w (by assumption) | exact fromP_r (by assumption)
   exact ⟨_, _, by rw [hx], rfl, by rw [hx]; exact OT_zero⟩
  replace h8 := nf h8
  replace h8 := dt h8
  refine Zm <| Zc <| Za <| JLr (Zl Zt rfl (At.bx 1 rfl) (Zu hO4.len) <| JLr (Zd 4 (vs := cs4) (l := cs4) Zt rfl rfl rfl rfl hO4.len hO4.ok (ZD (n := 36) rfl hO4.len) <| JLA rfl <| Zb <| Zj <| ⟨.tuple ⟨[.agg ⟨cs4⟩, iv 0]⟩, [k4], Ret.two rfl (RV.cell Zt rfl (At.bx 4 rfl) (Zu hO4.len)) (RV.tmp rfl), (Sd (Sd (Sd (Sk Sub.nil)))), ?_⟩))
  have hx := fromP_ok (by assumption) (by assumption)
  exact ⟨_, _, by rw [hx], rfl, by rw [hx]; exact hO4⟩
end Go.Proofs.YtjhenmdcnbaobaaGreat.Hs
/-! Walks, printed by a program of this session's own (gen.py). -/
namespace Go.Proofs.YtjhenmdcnbaobaaGreat.Hs
open Go Go.Proofs
set_option maxRecDepth 100000
set_option linter.unusedVariables false
set_option linter.unusedSimpArgs false
attribute [local irreducible] JL J CT wlo DT
theorem decP_ct (l : List Int) (v : Value) (H : Heap) (hv : Hs.rdS RB 1 H v l) (hby8 : ∀ x ∈ l, 0 ≤ x ∧ x ≤ 255) (hl : l.length ≤ 1000000) : CT Tryz.prog 8 ⟨[v]⟩ [] H (fun r N => ∃ cs k, r = .tuple ⟨[.agg ⟨cs⟩, iv (decT l).2.1, iv (decT l).2.2]⟩ ∧ N = [k] ∧ OT (decT l).1 cs k) := by
 have hdg := dec_good l
 refine Zk Tryz.func8 rfl rfl <| Zc <| Za <| JLr (Zi (l := pkT 0 0 zS nS nS) Tryz.zeroValue28 rfl fun b1 => JLA rfl <| JLA rfl <| Zb <| Zc <| Za <| JLm v <| Jc Tryz.call29 rfl (fun hin => decodeW_ct l _ _ (RBs.mono (Hle.hu _ _) hv) hby8 hl) rfl ?_)
 rintro _ _ ⟨cs2, k2, rfl, rfl, hO2⟩
 refine JLM rfl <| JLn (Pu.extract rfl rfl) <| JLn (Pu.extract rfl rfl) <| JLn (Pu.extract rfl rfl) <| JLr (Zi (l := [iv 0, iv 0, .string (⟨#[]⟩), nS]) Tryz.zeroValue40 rfl fun b3 => JLr (Zd 0 (vs := cs2) (l := cs2) ZO rfl rfl rfl rfl hO2.len hO2.ok (ZD (n := 4) rfl hO2.len) <| JLA rfl <| JLA rfl <| Zb <| Zc <| Zc <| Za <| JLM rfl ?_))
 refine JLn (Pu.neq rfl rfl) <| Zb <| Zg rfl (fun h4 => ?_) (fun h4 => ?_)
 ·replace h4 := nt h4
  replace h4 := df h4
  refine Zc <| Za <| JLq (.agg ⟨pkT 0 0 zS nS nS⟩) (Pu.build (pv := []) (l := pkT 0 0 zS nS nS) rfl (bld28_ )) <| JLM rfl <| JLM rfl <| JLr (Zd 2 (vs := pkT 0 0 zS nS nS) (l := pkT 0 0 zS nS nS) Zt rfl rfl rfl rfl rfl (ZC rfl rfl) (Z4 ..) <| JLA rfl <| JLA rfl <| Zb <| Zj <| ⟨.tuple ⟨[.agg ⟨pkT 0 0 zS nS nS⟩, iv ((ZI l).2.1), iv ((ZI l).2.2)]⟩, [[]], Ret.three rfl (RV.cell Zt rfl (At.bx 2 rfl) (Z0 ..)) (RV.tmp rfl) (RV.tmp rfl), (Sub.emp Sub.nil), ?_⟩)
  have hx := decT_err (l := l) (by omega)
  exact ⟨_, _, by rw [hx], rfl, by rw [hx]; exact OT_zero⟩
 replace h4 := nf h4
 replace h4 := dt h4
 refine Zm <| Zc <| Za <| JLr (Zl ZO rfl (At.bx 0 rfl) (Zu hO2.len) <| Jc Tryz.call10 rfl (fun hin => fromP_ct _ _ _ (hO2.rd (hin 1 _ rfl)) (by omega)) rfl ?_)
 rintro _ _ ⟨cs5, k5, rfl, rfl, hO5⟩
 refine JLM rfl <| JLn (Pu.extract rfl rfl) <| JLn (Pu.extract rfl rfl) <| JLr (Zi (l := pkT 0 0 zS nS nS) Tryz.zeroValue28 rfl fun b6 => JLr (Zd 0 (vs := cs5) (l := cs5) Zt rfl rfl rfl rfl hO5.len hO5.ok (ZD (n := 36) rfl hO5.len) <| JLA rfl <| Zb <| Zc <| Za <| JLr (Zl Zt rfl (At.bx 0 rfl) (Zu hO5.len) <| JLM rfl <| JLr (Zd 4 (vs := cs5) (l := cs5) Zt rfl rfl rfl rfl hO5.len hO5.ok (ZD (n := 36) rfl hO5.len) <| JLA rfl ?_))))
 refine JLA rfl <| Zb <| Zj <| ⟨.tuple ⟨[.agg ⟨cs5⟩, iv 0, iv ((fromP ((ZI l).1)).2)]⟩, [k5], Ret.three rfl (RV.cell Zt rfl (At.bx 4 rfl) (Zu hO5.len)) (RV.tmp rfl) (RV.tmp rfl), (Sd (Sk Sub.nil)), ?_⟩
 have hx := decT_ok (l := l) (by omega)
 exact ⟨_, _, by rw [hx], rfl, by rw [hx]; exact hO5⟩
end Go.Proofs.YtjhenmdcnbaobaaGreat.Hs
