import Derived.Test.YtjdjmjgleadcfaaGreatDoorCodeze
set_option linter.unusedVariables false
set_option linter.unusedSimpArgs false
set_option maxRecDepth 100000
open Go.Proofs.Tryz
open List (getElem_mem replicate mem_cons_self mem_cons append_assoc take_of_length_le range length_append getD_eq_getElem?_getD getElem?_eq_getElem mem_append length_take take_succ_eq_append_getElem length_cons length_map length_set flatten_cons mem_map mem_range map_append flatten map_cons length_replicate flatten_append append_nil all_eq_true eq_nil_of_length_eq_zero mem_flatten getElem?_map ext_getElem mem_cons_of_mem getElem_map drop_eq_getElem_cons mem_singleton getElem?_eq_none nodup_cons flatten_nil mem_filter map_congr_left take_append_drop getElem?_replicate getElem_range any_eq_true nodup_append set_cons_succ range_succ filter_append filter_cons getElem_append_left length_filter_le length_range)
namespace Go.Proofs.YtjdjmjgleadcfaaGreatDoor.Hs
section
def XJ:List Bool→Nat
  | []=>0
  | b::l=>(if b then 0 else 1)+XJ l
theorem Rk {l:List Bool}:∀ {k:Nat},k<l.length→l.getD k false=false→XJ (l.set k true)+1=XJ l:=by
  induction l with
  | nil=>intro k h;exact absurd h (by simp)
  | cons b l ih=>
    intro k h e
    cases k with
    | zero=>simp at e;subst e;simp [XJ];omega
    | succ k=>
      have:=ih (k:=k) (by simpa using h) (by simpa using e)
      simp only [set_cons_succ,XJ];omega
section
variable (c:Nat→List Int)
def wkF:Nat→Nat→List Bool→List Bool
  | 0,_,fl=>fl
  | f+1,n,fl=>(c n).foldl (fun fl k=>if fl.getD k.toNat false=true then fl else wkF f k.toNat (fl.set k.toNat true)) fl
def wkS (f:Nat) (ks:List Int) (fl:List Bool):List Bool:=ks.foldl (fun fl k=>if fl.getD k.toNat false=true then fl else wkF c f k.toNat (fl.set k.toNat true)) fl
end
variable {c:Nat→List Int}
theorem HX (f n:Nat) (fl:List Bool):wkF c (f+1) n fl=wkS c f (c n) fl:=rfl
theorem Mq (f:Nat) (x:Int) (ks:List Int) (fl:List Bool):wkS c f (x::ks) fl=wkS c f ks (if fl.getD x.toNat false=true then fl else wkF c f x.toNat (fl.set x.toNat true)):=rfl
theorem Mp (f:Nat) (ks:List Int) (fl:List Bool) {j:Nat} (h:j<ks.length):wkS c f (ks.take (j+1)) fl=if (wkS c f (ks.take j) fl).getD (ks[j]).toNat false=true then wkS c f (ks.take j) fl else wkF c f (ks[j]).toNat ((wkS c f (ks.take j) fl).set (ks[j]).toNat true):=by
  unfold wkS;rw [take_succ_eq_append_getElem h,List.foldl_append];rfl
structure WkP (c:Nat→List Int) (src:Nat→Prop) (todo:List Int) (fl fl':List Bool):Prop where
  len:fl'.length=fl.length
  mono:∀ k,fl.getD k false=true→fl'.getD k false=true
  un:XJ fl'≤XJ fl
  snd:∀ k,fl'.getD k false=true→fl.getD k false=true∨src k
  all:∀ x∈todo,fl'.getD x.toNat false=true
  cl:∀ k,fl'.getD k false=true→fl.getD k false=false→∀ x∈c k,fl'.getD x.toNat false=true
theorem VV {l:List Bool} {k:Nat} (h:k<l.length) (a:Nat):(l.set k true).getD a false=if a=k then true else l.getD a false:=by
  rw [getD_eq_getElem?_getD,List.getElem?_set]
  by_cases e:k=a
  · subst e;rw [if_pos rfl,if_pos rfl,if_pos h];rfl
  · rw [if_neg e,if_neg (fun x=>e x.symm),getD_eq_getElem?_getD]
theorem B2 {N :Nat} {R:Nat→Nat→Prop} (hc:∀ n,∀ x∈c n,0≤x∧x.toNat<N) (h1:∀ i,∀ x∈c i,R i x.toNat) (h2:∀ i j k,R i j→R j k→R i k):∀ (f:Nat),
    (∀ (n:Nat) (fl:List Bool),fl.length=N→XJ fl<f→WkP c (R n) (c n) fl (wkF c f n fl))∧
    (∀ (n:Nat) (ks:List Int) (fl:List Bool),(∀ x∈ks,x∈c n)→fl.length=N→XJ fl≤f→WkP c (R n) ks fl (wkS c f ks fl)):=by
  intro f
  induction f with
  | zero =>
    refine ⟨fun n fl _ h=>absurd h (by omega),fun n ks fl hks hl hu=>?_⟩
    have full:∀ (l:List Bool),XJ l≤0→∀ k,k<l.length→l.getD k false=true:=by
      intro l
      induction l with
      | nil=>intro _ k hk;exact absurd hk (by simp)
      | cons b l ih=>
        intro hu k hk
        unfold XJ at hu
        cases b with
        | false=>exact absurd hu (by simp)
        | true=>
          cases k with
          | zero=>rfl
          | succ k=>simpa using ih (by simpa using hu) k (by simpa using hk)
    have e:∀ (ks:List Int),(∀ x∈ks,x∈c n)→wkS c 0 ks fl=fl:=by
      intro ks
      induction ks with
      | nil=>intro _;rfl
      | cons x ks ih=>
        intro hks
        rw [Mq,if_pos (full fl hu _ (by rw [hl];exact (hc n x (hks x mem_cons_self)).2))]
        exact ih fun y hy=>hks y (mem_cons_of_mem _ hy)
    rw [e ks hks]
    exact ⟨rfl,fun _ h=>h,Nat.le_refl _,fun _ h=>.inl h,fun x hx=>full fl hu _ (by rw [hl];exact (hc n x (hks x hx)).2),fun k h h'=>by rw [h] at h';cases h'⟩
  | succ f ih =>
    have A:∀ (n:Nat) (fl:List Bool),fl.length=N→XJ fl<f+1→WkP c (R n) (c n) fl (wkF c (f+1) n fl):=fun n fl hl hu=>by
      rw [HX];exact ih.2 n (c n) fl (fun _ h=>h) hl (by omega)
    refine ⟨A,fun n ks=>?_⟩
    induction ks with
    | nil=>intro fl _ _ _;exact ⟨rfl,fun _ h=>h,Nat.le_refl _,fun _ h=>.inl h,fun x hx=>absurd hx (by simp),fun k h h'=>by rw [show wkS c (f+1) [] fl=fl from rfl,h'] at h;cases h⟩
    | cons x ks ihk=>
      intro fl hks hl hu
      have hx:=hc n x (hks x mem_cons_self)
      have hks':∀ y∈ks,y∈c n:=fun y hy=>hks y (mem_cons_of_mem _ hy)
      rw [Mq]
      by_cases e:fl.getD x.toNat false=true
      · rw [if_pos e]
        have r:=ihk fl hks' hl hu
        refine ⟨r.len,r.mono,r.un,r.snd,fun y hy=>?_,r.cl⟩
        rcases mem_cons.1 hy with rfl | hy
        · exact r.mono _ e
        · exact r.all y hy
      · rw [if_neg e]
        have e':fl.getD x.toNat false=false:=by simpa using e
        have hus:=Rk (by rw [hl];exact hx.2) e'
        have hg:=VV (l:=fl) (k:=x.toNat) (by rw [hl];exact hx.2)
        have a:=A x.toNat (fl.set x.toNat true) (by rw [length_set];exact hl) (by omega)
        have r:=ihk (wkF c (f+1) x.toNat (fl.set x.toNat true)) hks' (by rw [a.len,length_set];exact hl) (by have:=a.un;omega)
        have ax:(wkF c (f+1) x.toNat (fl.set x.toNat true)).getD x.toNat false=true:=a.mono _ (by rw [hg,if_pos rfl])
        refine ⟨by rw [r.len,a.len,length_set],fun k hk=>r.mono k (a.mono k (by rw [hg];split;rfl;exact hk)),by have:=r.un;have:=a.un;omega,fun k hk=>?_,fun y hy=>?_,fun k hk hk' y hy=>?_⟩
        · rcases r.snd k hk with h | h
          · rcases a.snd k h with h | h
            · rw [hg] at h
              by_cases q:k=x.toNat
              · exact .inr (q▸h1 n x (hks x mem_cons_self))
              · rw [if_neg q] at h;exact .inl h
            · exact .inr (h2 _ _ _ (h1 n x (hks x mem_cons_self)) h)
          · exact .inr h
        · rcases mem_cons.1 hy with rfl | hy
          · exact r.mono _ ax
          · exact r.all y hy
        · by_cases q:(wkF c (f+1) x.toNat (fl.set x.toNat true)).getD k false=true
          · refine r.mono _ ?_
            by_cases q2:k=x.toNat
            · subst q2;exact a.all y hy
            · exact a.cl k q (by rw [hg,if_neg q2];exact hk') y hy
          · exact r.cl k hk (by simpa using q) y hy
def clG (m:List Tm) (i:Nat):List Int:=(XQ m).getD i []
theorem Zaw {m:List Tm} {i:Nat} (h:i<m.length):clG m i=clP m[i]:=by
  unfold clG XQ;rw [getD_eq_getElem?_getD,getElem?_map,getElem?_eq_getElem h];rfl
theorem Zav {m:List Tm} {i:Nat} (h:m.length≤i):clG m i=[]:=by
  unfold clG XQ;rw [getD_eq_getElem?_getD,getElem?_map,getElem?_eq_none h];rfl
theorem QK {m:List Tm} (h:okG m) {i:Nat} {x:Int}:x∈clG m i↔x∈sfR (atL m i):=by
  rcases Nat.lt_or_ge i m.length with hi | hi
  · rw [Zaw hi,Bm,Y9 hi,Ny (h.ck _ (getElem_mem hi))]
  · rw [Zav hi,P4 hi];simp [dT,sfR,Y0,Y4]
theorem Sg {m:List Tm} (h:okG m) {i:Nat} {x:Int} (hx:x∈clG m i):0≤x∧x<(m.length:Int):=h.ok.at i x ((QK h).1 hx)
theorem PV {m:List Tm} (h:okG m) {i j:Nat}:j∈cdG (cdL m) i↔(j:Int)∈clG m i:=by
  rw [QK h]
  have key:∀ t:Tm,(∀ x∈sfR t,0≤x)→(j∈sfN t↔(j:Int)∈sfR t):=fun t ht=>by
    unfold sfN
    rw [mem_map]
    constructor
    · rintro ⟨y,hy,rfl⟩
      have:=ht y hy
      rwa [Int.toNat_of_nonneg this]
    · intro hj;exact ⟨_,hj,by simp⟩
  rcases Nat.lt_or_ge i m.length with hi | hi
  · rw [Ti hi,Y9 hi]
    exact key _ fun x hx=>(h.ok _ (getElem_mem hi) x hx).1
  · have:cdG (cdL m) i=[]:=by unfold cdG cdL;rw [getD_eq_getElem?_getD,getElem?_map,getElem?_eq_none hi];rfl
    rw [this,P4 hi];simp [dT,sfR,Y0,Y4]
def rcF (m:List Tm) (n:Nat):List Bool:=(range 8).map fun k=>rcB (cdL m) m.length n k
theorem X5 (m:List Tm) (n:Nat):(rcF m n).length=8:=by simp [rcF]
theorem Tp {m:List Tm} {n k:Nat} (h:k<8):(rcF m n).getD k false=rcB (cdL m) m.length n k:=by
  unfold rcF;rw [getD_eq_getElem?_getD,getElem?_map,List.getElem?_range h];rfl
theorem QS {m:List Tm} (h:okG m) (n:Nat):wkF (clG m) 9 n (replicate 8 false)=rcF m n:=by
  have r:=(B2 (c:=clG m) (N:=8) (R:=fun i j=>rcB (cdL m) m.length i j=true) (fun n x hx=>by have:=Sg h hx;have:=h.hi;omega)
    (fun i x hx=>Wh ((PV h).2 (by have:=Sg h hx;rwa [Int.toNat_of_nonneg this.1]))) (fun i j k a b=>Yp (Wr h.ok) a b) 9).1 n (replicate 8 false) (by simp) (by decide)
  have hl:=r.len
  rw [length_replicate] at hl
  have g:∀ k,k<8→(wkF (clG m) 9 n (replicate 8 false)).getD k false=(rcF m n).getD k false:=fun k hk=>by
    rw [Tp hk,Bool.eq_iff_iff]
    have hf:∀ a,(replicate 8 false).getD a false=false:=fun a=>by rw [getD_eq_getElem?_getD,getElem?_replicate];split <;> rfl
    constructor
    · intro e
      rcases r.snd k e with q | q
      · rw [hf] at q;cases q
      · exact q
    · intro e
      have:=WC (R:=fun i j=>j∈cdG (cdL m) i) (T:=fun i j=>(i=n∨(wkF (clG m) 9 n (replicate 8 false)).getD i false=true)→(wkF (clG m) 9 n (replicate 8 false)).getD j false=true)
        (fun i j hij hi=>by
          have hij:=(PV h).1 hij
          rcases hi with rfl | hi
          · simpa using r.all _ hij
          · simpa using r.cl i hi (hf i) _ hij) (fun i j k a b hi=>b (.inr (a hi))) (rcB_iff.1 e)
      exact this (.inl rfl)
  refine ext_getElem (by rw [hl,X5]) fun k h1 h2=>?_
  have hk:k<8:=by rw [hl] at h1;exact h1
  have:=g k hk
  rwa [getD_eq_getElem?_getD,getElem?_eq_getElem h1,getD_eq_getElem?_getD,getElem?_eq_getElem h2,Option.getD_some,Option.getD_some] at this
theorem DB {f n:Nat} {fl:List Bool} (h:0<f):wkF c f n fl=wkS c (f-1) (c n) fl:=by
  obtain ⟨f,rfl⟩:∃ g,f=g+1:=⟨f-1,by omega⟩
  rfl
theorem Ar {m:List Tm} (h:okG m) (f:Nat):(∀ (n:Nat) (fl:List Bool),fl.length=8→XJ fl<f→WkP (clG m) (fun j=>rcB (cdL m) m.length n j=true) (clG m n) fl (wkF (clG m) f n fl))∧
    (∀ (n:Nat) (ks:List Int) (fl:List Bool),(∀ x∈ks,x∈clG m n)→fl.length=8→XJ fl≤f→WkP (clG m) (fun j=>rcB (cdL m) m.length n j=true) ks fl (wkS (clG m) f ks fl)):=
  B2 (c:=clG m) (N:=8) (R:=fun i j=>rcB (cdL m) m.length i j=true) (fun n x hx=>by have:=Sg h hx;have:=h.hi;omega)
    (fun i x hx=>Wh ((PV h).2 (by have:=Sg h hx;rwa [Int.toNat_of_nonneg this.1]))) (fun i j k a b=>Yp (Wr h.ok) a b) f
theorem CO {m:List Tm} (h:okG m) {i:Nat} (hi:i<m.length):((XQ m)[i]'(by rw [WX];exact hi)).length≤1000000:=by
  rw [J8 hi]
  have a:=J9 m[i]
  have b:=Qw m[i]
  have c:=h.sz (getElem_mem hi)
  omega
def tgB (m:List Tm) (a b:Nat):Bool:=decide (a=b)||(decide (rcF m a=rcF m b)&&(rcF m a).getD a false&&(rcF m a).getD b false)
noncomputable def ptTo (l:List Tm) (n j:Nat):List Int:=((range j).filter fun k=>decide (firstN l k=k)&&tgB (mkL l) n k).map Int.ofNat
noncomputable def ptI (l:List Tm) (n:Nat):List Int:=ptTo l n l.length
theorem Tq (l:List Tm) (n j:Nat):ptTo l n (j+1)=ptTo l n j++(if decide (firstN l j=j)&&tgB (mkL l) n j then [(j:Int)] else []):=by
  unfold ptTo
  rw [range_succ,filter_append,map_append,filter_cons]
  congr 1
  split <;> simp
theorem Pj (l:List Tm) (n j:Nat):(ptTo l n j).length≤j:=by
  unfold ptTo
  rw [length_map]
  have:=length_filter_le (fun k=>decide (firstN l k=k)&&tgB (mkL l) n k) (range j)
  rwa [length_range] at this
theorem Uz {l:List Tm} {n:Nat} {x:Int}:x∈ptI l n↔0≤x∧x<(l.length:Int)∧firstN l x.toNat=x.toNat∧tgB (mkL l) n x.toNat=true:=by
  unfold ptI ptTo
  rw [mem_map]
  constructor
  · rintro ⟨k,hk,rfl⟩
    rw [mem_filter,mem_range] at hk
    simp only [Bool.and_eq_true,decide_eq_true_eq] at hk
    exact ⟨by simp,by simpa using hk.1,by simpa using hk.2.1,by simpa using hk.2.2⟩
  · rintro ⟨h0,h1,h2,h3⟩
    exact ⟨x.toNat,by rw [mem_filter,mem_range];exact ⟨by omega,by simp [h2,h3]⟩,by simp [Int.toNat_of_nonneg h0]⟩
end
theorem E3 (l:List Bool):okc (bls l):=fun v hv=>by
  unfold bls at hv
  obtain ⟨x,_,rfl⟩:=mem_map.1 hv
  rfl
theorem E4 {l:List Bool} {i:Nat} (h:i<l.length):(bls l)[i]?=some (.bool (l.getD i false)):=by
  have:=YA h
  rwa [Nat.zero_add,Nat.mul_one] at this
theorem Hw {n:Nat} {xs ys:List Bool} (hx:xs.length=n) (hy:ys.length=n):((List.range' 0 n).all fun i=>xs.getD i false==ys.getD i false)=decide (xs=ys):=by
  rw [← List.range_eq_range',Bool.eq_iff_iff,all_eq_true,decide_eq_true_eq]
  constructor
  · intro h
    refine ext_getElem (by omega) fun i h1 h2=>?_
    have:=h i (mem_range.2 (by omega))
    rw [getD_eq_getElem?_getD,getElem?_eq_getElem h1,getD_eq_getElem?_getD,getElem?_eq_getElem h2] at this
    simpa using this
  · rintro rfl i _;simp
theorem Qq {P:Program} {T E:TypeId} {n:Nat} (d:Nat) (w:World) (hT:P.underlying T=some (.array n E)) (hE:P.underlying E=some .bool) (hsz:∀ w,(Go.sizeOf E).run P w=.ok 1 w) {xs ys:List Bool} (hx:xs.length=n) (hy:ys.length=n):
    (Op.equalIn (d+2) T (.agg ⟨bls xs⟩) (.agg ⟨bls ys⟩)).run P w=.ok (decide (xs=ys)) w:=by
  have QA:∀ (l:List Bool) (i:Nat),i<l.length→(part E ⟨bls l⟩ (i*1)).run P w=.ok (.bool (l.getD i false)) w:=fun l i hi=>by
    have:=YA hi
    rw [Nat.zero_add,Nat.mul_one] at this
    have e:(⟨bls l⟩:Array Value)[i]?=some (.bool (l.getD i false)):=by simpa using this
    simp only [part,isAgg,run_underlying hE,Sem.run_bind,Result.andThen_ok,Nat.mul_one]
    simp [e]
  have eq_at:∀ x y:Bool,(Op.equalIn (d+1) E (.bool x) (.bool y)).run P w=.ok (x==y) w:=fun x y=>V4 d w (fun _=>run_underlying hE _)
  rw [← Hw hx hy,Op.equalIn]
  simp only [Sem.run_bind,run_underlying hT,Result.andThen_ok,hsz,Std.Legacy.Range.forIn_eq_forIn_range',Std.Legacy.Range.size,Nat.sub_zero,Nat.add_sub_cancel,Nat.div_one]
  have small:∀ i∈List.range' 0 n 1,i<n:=fun i hi=>by have:=(List.mem_range'_1.1 hi).2;omega
  generalize List.range' 0 n 1=is at small ⊢
  induction is with
  | nil=>simp
  | cons i is ih=>
    have hi:=small i mem_cons_self
    simp only [List.forIn_cons,Sem.run_bind,QA xs i (by omega),QA ys i (by omega),eq_at,Result.andThen_ok,List.all_cons]
    by_cases q:xs.getD i false=ys.getD i false
    · rw [q]
      simp only [beq_self_eq_true,Bool.not_true,Bool.false_eq_true,if_false,Sem.run_pure,Result.andThen_ok,Bool.true_and]
      exact ih fun j hj=>small j (mem_cons_of_mem _ hj)
    · have:(xs.getD i false==ys.getD i false)=false:=by simpa using q
      rw [this];simp
theorem HN {P:Program} {e:Operand→Value} {d:Option Nat} {ot:TypeId} {pos:String} {af:Array Edge} {g:Option (Nat×Bool)} {T T' E:TypeId} {x y:Operand} {n:Nat} (hm:P.eqGuardType P.depth T=false) (hT:P.underlying T=some (.array n E)) (hE:P.underlying E=some .bool) (hsz:∀ w,(Go.sizeOf E).run P w=.ok 1 w)
    {xs ys:List Bool} (hx:e x=.agg ⟨bls xs⟩) (hy:e y=.agg ⟨bls ys⟩) (h1:xs.length=n) (h2:ys.length=n):Pu P e ⟨d,.binOp .eql T x y T',ot,pos,af,g⟩ (.bool (decide (xs=ys))):=fun w=>by
  have hg:=run_eqGuard_agg (P:=P) w .eql T x y ⟨bls xs⟩ ⟨bls ys⟩ hm
  simp only [execOp,hx,hy,Sem.run_bind]
  rw [hg,Result.andThen_ok,run_eql_struct,Qq 9998 w hT hE hsz h1 h2]
  rfl
def ixI (l:List Int) (x:Int):Int:=if x∈l then (l.idxOf x:Int) else -1
theorem Zac {l:List Int} {x:Int} {j:Nat} (hj:j<l.length) (h:l[j]=x) (hm:∀ i,i<j→l.getD i 0≠x):ixI l x=(j:Int):=by
  have hx:x∈l:=h▸getElem_mem hj
  unfold ixI
  rw [if_pos hx]
  have h1:=List.idxOf_lt_length_of_mem hx
  have h2:l[l.idxOf x]=x:=List.getElem_idxOf h1
  have a:¬ l.idxOf x<j:=fun q=>hm _ q (by rw [Xf h1];exact h2)
  have b:¬ j<l.idxOf x:=fun q=>by
    have:=List.not_of_lt_findIdx (p:=(· ==x)) (xs:=l) (i:=j) q
    simp [h] at this
  have:l.idxOf x=j:=by omega
  rw [this]
theorem F2 {l:List Int} {x:Int} (hm:∀ i,i<l.length→l.getD i 0≠x):x∉l:=fun h=>by
  obtain ⟨i,hi,e⟩:=List.getElem_of_mem h
  exact hm i hi (by rw [Xf hi];exact e)
theorem F3 {l:List Int} {x:Int} (h:x∉l):ixI l x= -1:=by unfold ixI;rw [if_neg h]
theorem NX {l:List Int} {x:Int}:decide (0≤ixI l x)=decide (x∈l):=by
  unfold ixI;split <;> rename_i h
  · simp [h]
  · simp [h]
theorem F9 {α:Type} (p:α→Bool) (l:List α) (z:α):(!decide (0≤Xd (fun j=> !p (l.getD j z)) l.length))=l.all p:=by
  cases h:l.all p with
  | true=>
    rw [WJ fun i hi=>by
      have:=all_eq_true.1 h l[i] (getElem_mem hi)
      rw [getD_eq_getElem?_getD,getElem?_eq_getElem hi];simpa using this]
    rfl
  | false=>
    have:∃ i,i<l.length∧(!p (l.getD i z))=true:=by
      rw [← Bool.not_eq_true,all_eq_true] at h
      by_cases c:∃ i,i<l.length∧(!p (l.getD i z))=true
      · exact c
      · refine absurd (fun x hx=>?_) h
        obtain ⟨i,hi,e⟩:=List.getElem_of_mem hx
        cases q:p x with
        | true=>rfl
        | false=>exact absurd ⟨i,hi,by rw [getD_eq_getElem?_getD,getElem?_eq_getElem hi];simp [e,q]⟩ c
    obtain ⟨i,hi,hp⟩:=this
    obtain ⟨k,e,_⟩:=Xw (p:=fun j=> !p (l.getD j z)) hi hp
    rw [e];simp
def TN (tk:List Bool) (ks:List Int):List Bool:=ks.foldl (fun tk k=>tk.set k.toNat true) tk
theorem IJ (tk:List Bool) (ks:List Int) {j:Nat} (h:j<ks.length):TN tk (ks.take (j+1))=(TN tk (ks.take j)).set (ks[j]).toNat true:=by
  unfold TN;rw [take_succ_eq_append_getElem h,List.foldl_append];rfl
theorem Q6 (ks:List Int):∀ tk:List Bool,(TN tk ks).length=tk.length:=by
  induction ks with
  | nil=>intro _;rfl
  | cons k ks ih=>intro tk;show (TN (tk.set k.toNat true) ks).length=_;rw [ih,length_set]
theorem Q7 (ks:List Int):∀ (tk:List Bool) (a:Nat),(∀ k∈ks,k.toNat<tk.length)→(TN tk ks).getD a false=(tk.getD a false||decide (a∈ks.map Int.toNat)):=by
  induction ks with
  | nil=>intro tk a _;simp [TN]
  | cons k ks ih=>
    intro tk a h
    show (TN (tk.set k.toNat true) ks).getD a false=_
    rw [ih _ a (by intro x hx;rw [length_set];exact h x (mem_cons_of_mem _ hx)),VV (h k mem_cons_self),map_cons]
    by_cases e:a=k.toNat
    · subst e;simp
    · rw [if_neg e];simp [e]
theorem Gb {l:List Bool}:∀ {m:List Bool},l.length=m.length→(∀ a,l.getD a false=true→m.getD a false=true)→XJ m≤XJ l:=by
  induction l with
  | nil=>intro m h _;have:m=[]:=eq_nil_of_length_eq_zero h.symm;subst this;exact Nat.le_refl _
  | cons b l ih=>
    intro m h hm
    cases m with
    | nil=>simp at h
    | cons c m=>
      have:=ih (m:=m) (by simpa using h) fun a ha=>by simpa using hm (a+1) (by simpa using ha)
      have h0:=hm 0
      simp only [List.getD_cons_zero] at h0
      unfold XJ
      cases b <;> cases c <;> simp at h0 ⊢ <;> omega
theorem Ga {l m:List Bool} {k:Nat} (h:l.length=m.length) (hm:∀ a,l.getD a false=true→m.getD a false=true) (hk:k<l.length) (h1:l.getD k false=false) (h2:m.getD k false=true):XJ m<XJ l:=by
  have a:=Rk hk h1
  have b:=Gb (l:=l.set k true) (m:=m) (by rw [length_set];exact h) fun x hx=>by
    rw [VV hk] at hx
    by_cases e:x=k
    · subst e;exact h2
    · rw [if_neg e] at hx;exact hm x hx
  omega
noncomputable def pkB (l:List Tm) (tk:List Bool) (n:Nat):Bool:=(ptI l n).all fun k=>(clG (mkL l) k.toNat).all fun c=>tk.getD c.toNat false||decide (c∈ptI l n)
noncomputable def goodB (l:List Tm) (tk:List Bool) (n:Nat):Bool:=decide (firstN l n=n)&& !tk.getD n false&&pkB l tk n
noncomputable def stepP (l:List Tm) (s:List Bool×List (List Int)):List Bool×List (List Int):=
  if 0≤Xd (goodB l s.1) l.length then (TN s.1 (ptI l (Xd (goodB l s.1) l.length).toNat),s.2++[ptI l (Xd (goodB l s.1) l.length).toNat]) else s
noncomputable def runP (l:List Tm):Nat→List Bool×List (List Int)
  | 0=>(replicate 8 false,[])
  | i+1=>stepP l (runP l i)
noncomputable def paL (l:List Tm):List (List Int):=(runP l 8).2
theorem V1 {l:List Tm} {s:List Bool×List (List Int)} {j:Nat} (hj:j<l.length) (h:goodB l s.1 j=true) (hm:∀ i,i<j→goodB l s.1 i=false):stepP l s=(TN s.1 (ptI l j),s.2++[ptI l j]):=by
  unfold stepP;rw [SR hj h hm,if_pos (by omega)];rfl
theorem U1 {l:List Tm} {s:List Bool×List (List Int)} (hm:∀ i,i<l.length→goodB l s.1 i=false):stepP l s=s:=by
  unfold stepP;rw [WJ hm,if_neg (by omega)]
theorem L0 {l:List Tm} {n:Nat} (h:n<l.length) (hf:firstN l n=n):(n:Int)∈ptI l n:=by
  rw [Uz];refine ⟨by omega,by omega,by simpa using hf,?_⟩
  unfold tgB;simp
theorem Sx {l:List Tm} {n:Nat} {x:Int} (h:x∈ptI l n):0≤x∧x<(l.length:Int):=by rw [Uz] at h;exact ⟨h.1,h.2.1⟩
theorem Iz {l:List Tm} (s:List Bool×List (List Int)):(stepP l s).1.length=s.1.length:=by
  unfold stepP;split
  · exact Q6 _ _
  · rfl
theorem U8 (l:List Tm):∀ i,(runP l i).1.length=8
  | 0=>by simp [runP]
  | i+1=>by rw [runP,Iz,U8 l i]
theorem goodB_iff {l:List Tm} {tk:List Bool} {n:Nat}:goodB l tk n=true↔firstN l n=n∧tk.getD n false=false∧pkB l tk n=true:=by
  unfold goodB;simp only [Bool.and_eq_true,decide_eq_true_eq,Bool.not_eq_true'];exact ⟨fun h=>⟨h.1.1,h.1.2,h.2⟩,fun h=>⟨⟨h.1,h.2.1⟩,h.2.2⟩⟩
theorem QZ {l:List Tm} (hl:l.length≤8) {s:List Bool×List (List Int)} (h8:s.1.length=8) {j:Nat} (hj:j<l.length) (h:goodB l s.1 j=true):XJ (TN s.1 (ptI l j))<XJ s.1:=by
  have hg:=goodB_iff.1 h
  have hk:∀ k∈ptI l j,k.toNat<s.1.length:=fun k hk=>by have:=Sx hk;omega
  refine Ga (k:=j) (Q6 _ _).symm (fun a ha=>by rw [Q7 _ _ _ hk,ha];rfl) (by omega) hg.2.1 ?_
  rw [Q7 _ _ _ hk]
  have:j∈(ptI l j).map Int.toNat:=mem_map.2 ⟨_,L0 hj hg.1,by simp⟩
  simp [this]
theorem Ji {l:List Tm} (hl:l.length≤8):∀ i,XJ (runP l i).1+i≤8∨stepP l (runP l i)=runP l i
  | 0=>.inl (by simp [runP];decide)
  | i + 1=>by
    by_cases c:∃ j,j<l.length∧goodB l (runP l i).1 j=true
    · obtain ⟨j0,hj0,hg0⟩:=c
      obtain ⟨j,e,hj,hg,hm⟩:=Xw hj0 hg0
      have hu:=QZ hl (U8 l i) hj hg
      have es:=V1 hj hg hm
      left
      rcases Ji hl i with h | h
      · rw [runP,es];simp only;omega
      · rw [es] at h
        have:=congrArg Prod.fst h
        simp only at this
        rw [this] at hu;omega
    · right
      have no:stepP l (runP l i)=runP l i:=U1 fun j hj=>by
        cases q:goodB l (runP l i).1 j with
        | false=>rfl
        | true=>exact absurd ⟨j,hj,q⟩ c
      rw [runP,no,no]
theorem Rv {l:List Tm} {i:Nat} (h:stepP l (runP l i)=runP l i):∀ m,i≤m→runP l m=runP l i:=by
  intro m hm
  induction m with
  | zero => obtain rfl:i=0:=by omega
            rfl
  | succ m ih=>
    rcases Nat.lt_or_ge i (m+1) with q | q
    · rw [runP,ih (by omega),h]
    · obtain rfl:i=m+1:=by omega
      rfl
theorem TW {l:List Tm} (hl:l.length≤8):stepP l (runP l 8)=runP l 8:=by
  rcases Ji hl 8 with h | h
  · refine U1 fun j hj=>?_
    cases q:goodB l (runP l 8).1 j with
    | false=>rfl
    | true=>have:=QZ hl (U8 l 8) hj q;omega
  · exact h
theorem Fe {l:List Tm} (hl:l.length≤8) {i:Nat} (h:stepP l (runP l i)=runP l i):paL l=(runP l i).2:=by
  unfold paL
  rcases Nat.le_total i 8 with q | q
  · rw [Rv h 8 q]
  · rw [Rv (TW hl) i q]
theorem Za5 {m:List Tm} {a b:Int} (ha:0≤a) (hb:0≤b):(decide (a=b)||((decide (rcF m a.toNat=rcF m b.toNat)&&(rcF m a.toNat).getD a.toNat false)&&(rcF m a.toNat).getD b.toNat false))=tgB m a.toNat b.toNat:=by
  unfold tgB
  have:decide (a=b)=decide (a.toNat=b.toNat):=by rw [Bool.eq_iff_iff,decide_eq_true_eq,decide_eq_true_eq];omega
  rw [this]
theorem G4 {l:List Tm} {n j:Nat} (hj:j<l.length) (h1:(j:Int)=(frI l)[j]'(by rw [Yw];exact hj)) (h2:tgB (mkL l) n ((j:Int)).toNat=true):ptTo l n (j+1)=ptTo l n j++[(j:Int)]:=by
  rw [XU hj] at h1
  rw [Tq,if_pos]
  rw [Bool.and_eq_true,decide_eq_true_eq]
  exact ⟨by omega,by simpa using h2⟩
theorem Cm {l:List Tm} {n j:Nat} (hj:j<l.length) (h:(decide ((j:Int)=(frI l)[j]'(by rw [Yw];exact hj))&&tgB (mkL l) n ((j:Int)).toNat)=false):ptTo l n (j+1)=ptTo l n j:=by
  simp only [XU hj] at h
  rw [Tq,if_neg,append_nil]
  intro q
  rw [Bool.and_eq_true,decide_eq_true_eq] at q
  rw [Int.toNat_natCast,q.2,Bool.and_true,decide_eq_false_iff_not] at h
  exact h (by omega)
theorem I4 {l:List Tm} (h:okG l) {y x:Int} (hx:x∈sfI (mkL l) y):firstN l x.toNat=x.toNat:=by
  unfold sfI at hx
  rcases Nat.lt_or_ge y.toNat (mkL l).length with hy | hy
  · rw [Y9 hy] at hx
    rw [Z0] at hy
    have e:(mkL l)[y.toNat]'(by rw [Z0];exact hy)=Yy (frI l) [] l[y.toNat]:=by simp [mkL]
    rw [e,Nx _ (fun z hz=>(RQ (h.ok _ (getElem_mem hy) z hz).1 (h.ok _ (getElem_mem hy) z hz).2).1)] at hx
    obtain ⟨z,hz,rfl⟩:=mem_map.1 hx
    have b:=h.ok _ (getElem_mem hy) z hz
    simp only [XO b.1 b.2,Int.toNat_natCast]
    exact XP h.ok (by omega)
  · rw [P4 hy] at hx;simp [dT,sfR,Y0,Y4] at hx
theorem K1 {l:List Tm} (h:okG l) {i x:Nat} (hi:i<l.length) (hx:x<l.length) (hne:x≠i):tgB (mkL l) i x=prB (mkL l) i x:=by
  have hm:=h.mkL
  have hl:=Z0 l
  have h8:=h.hi
  have ok:=Wr hm.ok
  unfold tgB prB
  rw [decide_eq_false (fun e=>hne e.symm),Bool.false_or,Tp (by omega),Tp (by omega),Int.toNat_natCast,Int.toNat_natCast,Bool.eq_iff_iff]
  simp only [Bool.and_eq_true,decide_eq_true_eq]
  constructor
  · rintro ⟨⟨e,a⟩,b⟩
    refine ⟨b,?_⟩
    have:=congrArg (fun r=>r.getD i false) e
    simp only [Tp (m:=mkL l) (n:=i) (show i<8 by omega),Tp (m:=mkL l) (n:=x) (show i<8 by omega)] at this
    rw [← this];exact a
  · rintro ⟨a,b⟩
    refine ⟨⟨?_,Yp ok a b⟩,a⟩
    unfold rcF
    apply map_congr_left
    intro k _
    rw [Bool.eq_iff_iff]
    exact ⟨fun q=>Yp ok b q,fun q=>Yp ok a q⟩
theorem Zbc {l:List Tm} (h:okG l) {i x y:Int} (hi0:0≤i) (hi:i<(l.length:Int)) (hx:x∈sfI (mkL l) y) (hne:x≠i):decide (x∈ptI l i.toNat)=prB (mkL l) i x:=by
  have b:=h.mkL.ok.at y.toNat x hx
  rw [Z0] at b
  have e:=I4 h hx
  have t:=K1 h (i:=i.toNat) (x:=x.toNat) (by omega) (by omega) (by omega)
  have e2:prB (mkL l) i.toNat x.toNat=prB (mkL l) i x:=by unfold prB;simp [Int.toNat_of_nonneg hi0,Int.toNat_of_nonneg b.1]
  rw [Bool.eq_iff_iff,decide_eq_true_eq,Uz,← e2,← t]
  exact ⟨fun q=>q.2.2.2,fun q=>⟨b.1,b.2,e,q⟩⟩
theorem Gw {P P':Int→Bool} {i:Int} {c:List Int} (h:∀ x∈c,x≠i→P x=P' x):∀ {out:List Int},i∈out→stO P c out=stO P' c out∧i∈stO P' c out:=by
  induction c with
  | nil=>intro out hi;exact ⟨rfl,hi⟩
  | cons x c ih=>
    intro out hi
    have ih:=fun {o}=>@ih (fun y hy=>h y (mem_cons_of_mem _ hy)) o
    show stO P c (if P x=true∧x∉out then out++[x] else out)=stO P' c (if P' x=true∧x∉out then out++[x] else out)∧i∈stO P' c (if P' x=true∧x∉out then out++[x] else out)
    have e:(if P x=true∧x∉out then out++[x] else out)=if P' x=true∧x∉out then out++[x] else out:=by
      by_cases q:x=i
      · subst q;rw [if_neg (fun a=>a.2 hi),if_neg (fun a=>a.2 hi)]
      · rw [h x mem_cons_self q]
    rw [e]
    exact ih (by split;exact mem_append.2 (.inl hi);exact hi)
theorem OO {P P':Int→Bool} {s:Int→List Int} {i:Int} (h:∀ y,∀ x∈s y,x≠i→P x=P' x):∀ (f a:Nat) {out:List Int},i∈out→W6 P s f a out=W6 P' s f a out
  | 0,_,_,_=>rfl
  | f+1,a,out,hi=>by
    have:=Gw (h (out.getD a 0)) hi
    rw [W6,W6,this.1,OO h f (a+1) this.2]
theorem Fk {l:List Tm} (h:okG l) {i:Int} (hi0:0≤i) (hi:i<(l.length:Int)):W6 (fun x=>decide (x∈ptI l i.toNat)) (sfI (mkL l)) (mkL l).length 0 [i]=Wd (mkL l) i:=
  OO (fun y x hx hne=>Zbc h hi0 hi hx hne) _ _ (mem_singleton.2 rfl)
section
variable {b:List Int} {s s':List Sm}
mutual
theorem TX:∀ t:Tm,(∀ x∈sfR t,b.getD x.toNat 0<0→s.getD x.toNat zS=s'.getD x.toNat zS)→Yy b s t=Yy b s' t
  | .mk k n r kids cases,h=>by
    rw [Yy,Yy]
    by_cases c:k=7
    · rw [if_pos c,if_pos c]
      by_cases d:b.getD n.toNat 0<0
      · rw [if_pos d,if_pos d,h n (by rw [sfR,if_pos c];simp) d]
      · rw [if_neg d,if_neg d]
    · rw [if_neg c,if_neg c,Qb kids fun x hx=>h x (by rw [sfR,if_neg c];exact mem_append.2 (.inl hx)),Qc cases fun x hx=>h x (by rw [sfR,if_neg c];exact mem_append.2 (.inr hx))]
theorem Qb:∀ l:List Tm,(∀ x∈Y0 l,b.getD x.toNat 0<0→s.getD x.toNat zS=s'.getD x.toNat zS)→YF b s l=YF b s' l
  | [],_=>rfl
  | t::l,h=>by rw [YF,YF,TX t fun x hx=>h x (by rw [Y0];exact mem_append.2 (.inl hx)),Qb l fun x hx=>h x (by rw [Y0];exact mem_append.2 (.inr hx))]
theorem Qc:∀ l:List (Pt×Tm),(∀ x∈Y4 l,b.getD x.toNat 0<0→s.getD x.toNat zS=s'.getD x.toNat zS)→YC b s l=YC b s' l
  | [],_=>rfl
  | (p,t)::l,h=>by rw [YC,YC];simp only;rw [TX t fun x hx=>h x (by rw [Y4];exact mem_append.2 (.inl hx)),Qc l fun x hx=>h x (by rw [Y4];exact mem_append.2 (.inr hx))]
end
end
def XX (o:List Int) (kf:Int→Sm) (n:Int):Int×Int×Sm:=if n∈o then (7,(o.idxOf n:Int),zS) else (6,0,kf n)
def TY (o:List Int) (kf:Int→Sm) (k n:Int) (r:Sm):Int×Int×Sm:=if k=7 then XX o kf n else (k,n,r)
theorem GL {o:List Int} {kf:Int→Sm} (ho:o.length≤8) (n:Int):inI (XX o kf n).1∧inI (XX o kf n).2.1:=by
  unfold XX
  have:=List.idxOf_le_length (a:=n) (l:=o)
  split <;> (unfold inI;constructor <;> simp only <;> omega)
theorem Cl {o:List Int} {kf:Int→Sm} (ho:o.length≤8) (Q:Int→Int→Sm→Prop):∀ k n r,inI k→inI n→Q k n r→inI (TY o kf k n r).1∧inI (TY o kf k n r).2.1:=fun k n r hk hn _=>by
  unfold TY
  split
  · exact GL ho n
  · exact ⟨hk,hn⟩
def smK (N:Nat) (kf:Int→Sm):List Sm:=(range N).map fun k:Nat=>kf k
theorem Jb {N k:Nat} {kf:Int→Sm} (h:k<N):(smK N kf).getD k zS=kf k:=by
  unfold smK;rw [getD_eq_getElem?_getD,getElem?_map,List.getElem?_range h];rfl
theorem DX {m:List Tm} {o:List Int} {g:Nat→Sm} {k:Nat} (h:k<m.length):(smL m o g).getD k zS=if (k:Int)∉o∧rcB (cdL m) m.length (o.getD 0 0).toNat k=true then g k else zS:=by
  unfold smL;rw [getD_eq_getElem?_getD,getElem?_map,List.getElem?_range h];rfl
theorem G2 {N:Nat} {o:List Int} {kf:Int→Sm}:O2 (TY o kf) N (byL N o) (smK N kf):=⟨fun k n r hk=>by unfold TY;rw [if_neg hk],fun n h0 h1=>by
  have e:((n.toNat:Nat):Int)=n:=by omega
  unfold TY XX
  rw [if_pos rfl,S9 (k:=n.toNat) (by omega),e]
  by_cases c:n∈o
  · rw [if_pos c,if_pos c,if_neg (by omega)]
  · rw [if_neg c,if_neg c,if_pos (by omega),Jb (by omega),e]⟩
theorem Bg {l:List Tm} (h:okG l) {i0:Nat} (hi:i0<(mkL l).length) {o:List Int} (ho:o=Wd (mkL l) i0) {kf:Int→Sm} {g:Nat→Sm} (hK:∀ k:Nat,coX (mkL l) i0 k=true→kf k=g k) {n:Int} (hn:n∈o) (hb:n.toNat<(mkL l).length):
    mpT (TY o kf) (mkL l)[n.toNat]=Yy (byL (mkL l).length o) (smL (mkL l) o g) (atL (mkL l) n.toNat):=by
  have hm:=h.mkL
  have hcl:=Wr hm.ok
  obtain ⟨ot,hot⟩:=Tt hm.ok (i:=(i0:Int)) (by omega) (by omega)
  have h00:(o.getD 0 0).toNat=i0:=by rw [ho,hot];simp
  rw [Tw G2 0 _ (checkR_iff.1 (hm.ck _ (getElem_mem hb))).2,Y9 hb]
  refine TX _ fun x hx hneg=>?_
  have hxr:=hm.ok _ (getElem_mem hb) x hx
  have e:((x.toNat:Nat):Int)=x:=by omega
  rw [S9 (k:=x.toNat) (by omega),e] at hneg
  have hxo:x∉o:=fun q=>by rw [if_pos q] at hneg;omega
  rw [Jb (by omega),DX (by omega),e,h00]
  have hc:x.toNat∈cdG (cdL (mkL l)) n.toNat:=by
    rw [Ti hb];unfold sfN;exact mem_map.2 ⟨x,hx,rfl⟩
  have hn0:0≤n:=by rw [ho] at hn;exact ((QB hm.ok (by omega) (by omega)).2 n hn).1
  have hr:rcB (cdL (mkL l)) (mkL l).length i0 x.toNat=true:=by
    rw [ho,Ua hm.ok (by omega) (by omega) hn0] at hn
    rcases hn with q | q
    · have q2:n.toNat=i0:=by omega
      rw [q2] at hc
      exact Wh hc
    · unfold prB at q
      rw [Bool.and_eq_true] at q
      exact Yp hcl (by simpa using q.1) (Wh hc)
  rw [if_pos ⟨hxo,hr⟩]
  have:=hK x.toNat (by unfold coX;rw [e,← ho];simp [hxo,hr])
  rwa [e] at this
def kfV (K:List Int) (f:Int→Sm) (n:Int):Sm:=if n∈K then f n else zS
noncomputable def dgF (l:List Tm) (n:Int):Sm:=sha (Ya (YD (mkL l) n.toNat))
def CH (l:List Tm) (K:List Int) (i0:Nat):Prop:=∀ k:Nat,coX (mkL l) i0 k=true→(k:Int)∈K
theorem CF {l:List Tm} {K:List Int} {i0:Nat} (h:CH l K i0):∀ k:Nat,coX (mkL l) i0 k=true→kfV K (dgF l) k=sha (Ya (YD (mkL l) k)):=fun k hk=>by
  unfold kfV dgF;rw [if_pos (h k hk),Int.toNat_natCast]
structure paI (l:List Tm) (s:List Bool×List (List Int)):Prop where
  tk:∀ a:Nat,s.1.getD a false=true↔(a:Int)∈s.2.flatten
  fst:∀ x∈s.2.flatten,0≤x∧x<(l.length:Int)∧firstN l x.toNat=x.toNat
  cls:∀ a:Nat,(a:Int)∈s.2.flatten→∀ k:Nat,rcB (cdL (mkL l)) (mkL l).length a k=true→(k:Int)∈s.2.flatten
  nd:s.2.flatten.Nodup
  cov:∀ (j:Nat) (hj:j<s.2.length),∀ n∈s.2[j],∀ k:Nat,coX (mkL l) n.toNat k=true→(k:Int)∈(s.2.take j).flatten
  pts:∀ p∈s.2,∃ j,j<l.length∧firstN l j=j∧p=ptI l j
theorem Pi {l:List Tm} (h:okG l) {n:Nat} (hn:n<l.length) {x:Int} (hx:x∈ptI l n) (hne:x.toNat≠n):rcB (cdL (mkL l)) (mkL l).length n x.toNat=true∧rcB (cdL (mkL l)) (mkL l).length x.toNat n=true:=by
  rw [Uz] at hx
  have:=hx.2.2.2
  rw [K1 h hn (by omega) hne] at this
  unfold prB at this
  rw [Bool.and_eq_true] at this
  simp only [Int.toNat_natCast] at this
  exact this
theorem Fg {l:List Tm} (h:okG l) {s:List Bool×List (List Int)} (h8:s.1.length=8) (I:paI l s) {j:Nat} (hj:j<l.length) (hg:goodB l s.1 j=true):paI l (TN s.1 (ptI l j),s.2++[ptI l j]):=by
  have hm:=h.mkL
  have hml:=Z0 l
  have hl8:=h.hi
  have hcl:=Wr hm.ok
  obtain ⟨hf,ht,hp⟩:=goodB_iff.1 hg
  have hk:∀ k∈ptI l j,k.toNat<s.1.length:=fun k hk=>by have:=Sx hk;omega
  have inI:∀ a:Nat,a∈(ptI l j).map Int.toNat↔(a:Int)∈ptI l j:=fun a=>by
    rw [mem_map]
    constructor
    · rintro ⟨x,hx,rfl⟩
      have:=Sx hx
      rwa [Int.toNat_of_nonneg this.1]
    · intro ha;exact ⟨_,ha,by simp⟩
  have hjt:((j:Nat):Int)∉s.2.flatten:=fun q=>by rw [(I.tk j).2 q] at ht;cases ht
  -- nothing of the part is taken
  have hdis:∀ x∈ptI l j,x∉s.2.flatten:=fun x hx q=>by
    by_cases e:x.toNat=j
    · have b:=Sx hx
      exact hjt (by rw [← e,Int.toNat_of_nonneg b.1];exact q)
    · have b:=Sx hx
      have r:=Pi h hj hx e
      exact hjt (I.cls x.toNat (by rw [Int.toNat_of_nonneg b.1];exact q) j r.2)
  -- one call on
  have one:∀ a k:Nat,(a:Int)∈ptI l j→k∈cdG (cdL (mkL l)) a→(k:Int)∈ptI l j∨(k:Int)∈s.2.flatten:=fun a k ha hc=>by
    have q:=all_eq_true.1 hp _ ha
    have q2:=all_eq_true.1 q (k:Int) (by rw [Int.toNat_natCast];exact (PV hm).1 hc)
    rw [Bool.or_eq_true,Int.toNat_natCast,decide_eq_true_eq] at q2
    rcases q2 with q2 | q2
    · exact .inr ((I.tk k).1 q2)
    · exact .inl q2
  have all:∀ a k:Nat,(a:Int)∈ptI l j→rcB (cdL (mkL l)) (mkL l).length a k=true→(k:Int)∈ptI l j∨(k:Int)∈s.2.flatten:=fun a k ha hr=>by
    have:=WC (R:=fun i j=>j∈cdG (cdL (mkL l)) i) (T:=fun a k=>((a:Int)∈ptI l j∨(a:Int)∈s.2.flatten)→((k:Int)∈ptI l j∨(k:Int)∈s.2.flatten))
      (fun a k hc ha=>by
        rcases ha with ha | ha
        · exact one a k ha hc
        · exact .inr (I.cls a ha k (Wh hc))) (fun a b c h1 h2 ha=>h2 (h1 ha)) (rcB_iff.1 hr)
    exact this (.inl ha)
  refine ⟨fun a=>?_,fun x hx=>?_,fun a ha k hr=>?_,?_,fun i hi n hn k hx=>?_,fun p hp=>?_⟩
  · rw [Q7 _ _ _ hk,Bool.or_eq_true,decide_eq_true_eq,I.tk a,inI a,flatten_append,mem_append]
    simp
  · rw [flatten_append,mem_append] at hx
    rcases hx with hx | hx
    · exact I.fst x hx
    · have hx:x∈ptI l j:=by simpa using hx
      rw [Uz] at hx;exact ⟨hx.1,hx.2.1,hx.2.2.1⟩
  · rw [flatten_append,mem_append] at ha ⊢
    rcases ha with ha | ha
    · exact .inl (I.cls a ha k hr)
    · rcases all a k (by simpa using ha) hr with q | q
      · exact .inr (by simpa using q)
      · exact .inl q
  · rw [flatten_append,nodup_append]
    refine ⟨I.nd,?_,fun x hx y hy e=>?_⟩
    · simp only [flatten_cons,flatten_nil,append_nil]
      have hnd:((range l.length).filter fun k=>decide (firstN l k=k)&&tgB (mkL l) j k).Nodup:=List.nodup_range.sublist List.filter_sublist
      unfold ptI ptTo
      have key:∀ L:List Nat,L.Nodup→(L.map Int.ofNat).Nodup:=by
        intro L
        induction L with
        | nil=>intro _;simp
        | cons a L ih=>
          intro hL
          rw [nodup_cons] at hL
          rw [map_cons,nodup_cons]
          refine ⟨fun q=>?_,ih hL.2⟩
          obtain ⟨b,hb,e⟩:=mem_map.1 q
          injection e with e
          exact hL.1 (e▸hb)
      exact key _ hnd
    · subst e
      exact hdis x (by simpa using hy) hx
  · by_cases c:i<s.2.length
    · have hn:n∈s.2[i]:=by rwa [getElem_append_left c] at hn
      rw [List.take_append_of_le_length (by omega)]
      exact I.cov i c n hn k hx
    · have ei:i=s.2.length:=by rw [length_append] at hi;simp at hi;omega
      subst ei
      have hn:n∈ptI l j:=by simpa using hn
      rw [List.take_left]
      have hnb:=Sx hn
      have en:((n.toNat:Nat):Int)=n:=by omega
      unfold coX at hx
      rw [Bool.and_eq_true,Bool.not_eq_true',decide_eq_false_iff_not] at hx
      have hkl:=Ph hcl hx.2
      rcases all n.toNat k (by rw [en];exact hn) hx.2 with q | q
      · refine absurd ?_ hx.1
        rw [Ua hm.ok (by omega) (by omega) (by omega)]
        by_cases e:k=n.toNat
        · left;omega
        · right
          have toj:∀ y:Nat,(y:Int)∈ptI l j→y≠j→rcB (cdL (mkL l)) (mkL l).length j y=true∧rcB (cdL (mkL l)) (mkL l).length y j=true:=fun y hy hne=>by
            have:=Pi h hj hy (by simpa using hne)
            simpa using this
          unfold prB
          rw [Bool.and_eq_true]
          simp only [Int.toNat_natCast]
          refine ⟨hx.2,?_⟩
          by_cases ek:k=j
          · subst ek
            exact (toj n.toNat (by rw [en];exact hn) (fun q=>e q.symm)).1
          · have r1:=toj k q ek
            by_cases enj:n.toNat=j
            · rw [enj];exact r1.2
            · exact Yp hcl r1.2 (toj n.toNat (by rw [en];exact hn) enj).1
      · exact q
  · rw [mem_append,mem_singleton] at hp
    rcases hp with hp | hp
    · exact I.pts p hp
    · exact ⟨j,hj,hf,hp⟩
theorem Ff (l:List Tm):paI l (replicate 8 false,[]):=by
  refine ⟨fun a=>?_,fun x hx=>by simp at hx,fun a ha=>by simp at ha,by simp,fun j hj=>by simp at hj,fun p hp=>by simp at hp⟩
  have:(replicate 8 false).getD a false=false:=by rw [getD_eq_getElem?_getD,getElem?_replicate];split <;> rfl
  rw [this];simp
theorem Jr {l:List Tm} (h:okG l):∀ i,paI l (runP l i)
  | 0=>Ff l
  | i + 1=>by
    have I:=Jr h i
    rw [runP]
    by_cases c:∃ j,j<l.length∧goodB l (runP l i).1 j=true
    · obtain ⟨j0,hj0,hg0⟩:=c
      obtain ⟨j,e,hj,hg,hm⟩:=Xw hj0 hg0
      rw [V1 hj hg hm]
      exact Fg h (U8 l i) I hj hg
    · rw [U1 fun j hj=>by
        cases q:goodB l (runP l i).1 j with
        | false=>rfl
        | true=>exact absurd ⟨j,hj,q⟩ c]
      exact I
theorem Qd {l:List Tm} (h:okG l):paI l ((runP l 8).1,paL l):=Jr h 8
theorem Jq {l :List Tm} (h:okG l) {n:Nat} (hn:n<l.length) (hf:firstN l n=n):(n:Int)∈(paL l).flatten:=by
  have hm:=h.mkL
  have hml:=Z0 l
  have I:=Qd h
  have hcl:=Wr hm.ok
  have key:∀ r n:Nat,rkM (mkL l) n≤r→n<l.length→firstN l n=n→(n:Int)∈(paL l).flatten:=by
    intro r
    induction r with
    | zero=>
      intro n hr hn hf
      have:0<rkM (mkL l) n:=List.countP_pos_iff.2 ⟨n,mem_range.2 (by omega),by simp⟩
      omega
    | succ r ih=>
      intro n hr hn hf
      apply Classical.byContradiction
      intro hnot
      have ht:(runP l 8).1.getD n false=false:=by
        cases q:(runP l 8).1.getD n false with
        | false=>rfl
        | true=>exact absurd ((I.tk n).1 q) hnot
      have hg :goodB l (runP l 8).1 n=true:=by
        refine goodB_iff.2 ⟨hf,ht,all_eq_true.2 fun k hk=>all_eq_true.2 fun c hc=>?_⟩
        rw [Bool.or_eq_true,decide_eq_true_eq]
        have hcb:=Sg hm hc
        have hcd:=(PV hm (j:=c.toNat)).2 (by rwa [Int.toNat_of_nonneg hcb.1])
        have hfc:=(Sw h (N:=(mkL l).length) (Wh hcd)).2
        have hkb:=Sx hk
        have hrc:rcB (cdL (mkL l)) (mkL l).length n c.toNat=true:=by
          by_cases e:k.toNat=n
          · rw [e] at hcd;exact Wh hcd
          · exact Yp hcl (Pi h hn hk e).1 (Wh hcd)
        by_cases hin:c∈ptI l n
        · exact .inr hin
        · left
          have hne:c.toNat≠n:=fun e=>hin (by have:=L0 hn hf;rw [← e,Int.toNat_of_nonneg hcb.1] at this;rwa [← e])
          have hcx:coX (mkL l) n c.toNat=true:=by
            unfold coX
            rw [Bool.and_eq_true,Bool.not_eq_true',decide_eq_false_iff_not]
            refine ⟨fun q=>?_,hrc⟩
            rw [Ua hm.ok (by omega) (by omega) (by omega)] at q
            rcases q with q | q
            · exact hne (by omega)
            · refine hin ?_
              rw [Uz]
              refine ⟨hcb.1,by omega,hfc,?_⟩
              rw [K1 h hn (by omega) hne]
              exact q
          have:=U9 hm.ok (by omega) hcx
          exact (I.tk c.toNat).2 (ih c.toNat (by omega) (by omega) hfc)
      have:=TW (l:=l) h.hi
      obtain ⟨j,e,hj,hgj,hmn⟩:=Xw hn hg
      rw [V1 hj hgj hmn] at this
      have:=congrArg (fun s=>s.2.length) this
      simp at this
  exact key _ n (Nat.le_refl _) hn hf
theorem IK {d m:Int} (t:Tm) (cs:List Value) (H:Heap) (ht:RT H cs t) (hc:Zx d m t=0):CT prog 121 ⟨[.agg ⟨cs⟩]⟩ [] H (fun r N=>∃ k,N=[k]∧Own 3 1 r (Z2 (sfR t)) k):=by
  have hz:sizeT t≤400000:=by
    have h:=(checkR_iff.1 hc).1
    apply Classical.byContradiction;intro q
    rw [(Ub t).2 (.inl (by omega))] at h;cases h
  have z:=Rs t cs H ht hz
  rwa [Ny hc] at z
section
attribute [local irreducible] JL J CT wlo DT
set_option maxHeartbeats 2000000 in
theorem IO:∀ (l:List Tm) (hm:okG (mkL l)) (gb bP bO bW:Nat) (vm vc vf ff:Value) (f:Nat) (n:Int) (fl:List Bool) (H:Heap),0≤n→n<((mkL l).length:Int)→fl.length=8→XJ fl<f→H bP=some (.cells ⟨[pp gb 0]⟩ 86 (0,0))→H gb=some (.cells ⟨[vm,vc,vf,ff]⟩ 91 (0,0))→GR H l vm vc vf→H bW=some (.cells ⟨[.func (.func 101) ⟨[]⟩ ⟨[pp bP 0,pp bO 0,pp bW 0]⟩]⟩ 148 (0,0))→CT prog 101 ⟨[iv n,pp bP 0,pp bO 0,pp bW 0]⟩ [(BX bO (bls fl) 93)] H (fun _ N=>N=[(BX bO (bls (wkF (clG (mkL l)) f n.toNat fl)) 93)]):=by
 intro l hm gb bP bO bW vm vc vf ff f
 induction f using Nat.strongRecOn with
 | ind f ih=>
 intro n fl H h0 h1 hf0 hu hP hG hr hW
 have hcl:=WX (mkL l)
 have hm8:=hm.hi
 have hcn:clG (mkL l) n.toNat=(XQ (mkL l))[n.toNat]:=Xf (by omega)
 have hcz:((XQ (mkL l))[n.toNat]).length≤1000000:=CO hm (by omega)
 refine Zl func101 rfl rfl<|Zc<|JLr (Zb QV rfl (Zcx hP) rfl<|JLq (pp gb 0) (Pu.nilCheck rfl)<|JLq (pp gb 0) (VW rfl rfl)<|JLq (pp gb 1) (Kr rfl rfl)<|JLr (Zb DH rfl (Zcx hG) rfl<|JLM rfl ?_))
 obtain ⟨b1,o1,cap1,row1,T1,fr1,cs1,hv1,hb1,hs1,hE1⟩:=hr.c.get n.toNat (by omega)
 obtain ⟨vb1,rfl,hvb1⟩:=hE1
 refine JLq (pp b1 (o1+n.toNat*1)) (Zcw n.toNat R7 Xm hv1 rfl (by first | rfl | omega) (by omega))<|JLr (Zb Xm rfl (Zcx hb1) (ZT hs1) ?_)
 obtain ⟨a2,cap2,hv2⟩:=hvb1.sl
 have hle2:=hvb1.le
 refine JLn (Zcv ZV hv2)<|JLM rfl<|Za<|Zh<|Zv (fun k ρ M=>∃ (j:Nat) (fj:List Bool),ZR ρ [(2,pp bO 0),(3,pp bW 0),(14,vb1),(15,iv ((((XQ (mkL l))[n.toNat]).length:Int))),(16,iv ((j:Int)))]=ρ∧Sub [(BX bO (bls fj) 93)] M∧j≤((XQ (mkL l))[n.toNat]).length∧fj=wkS (clG (mkL l)) (f-1) (((XQ (mkL l))[n.toNat]).take j) fl∧k=((XQ (mkL l))[n.toNat]).length-j) _ ⟨0,fl,Zj rfl,(Sk Sub.nil),Nat.zero_le _,rfl,rfl⟩ ?_
 rintro _ ρ3 _ ⟨j,fj,e4,hm9,hj,hfj,rfl⟩
 obtain ⟨ρ10,rfl⟩:=Zo e4
 clear e4
 refine ZD hm9 ?_
 have hkP:=(Ar hm (f-1)).2 n.toNat (((XQ (mkL l))[n.toNat]).take j) fl (fun x hx=>by have:=List.mem_of_mem_take hx;rwa [← hcn] at this) hf0 (by omega)
 rw [← hfj] at hkP
 have hf8:fj.length=8:=hkP.len.trans hf0
 have hun:=hkP.un
 refine Zc<|JLn (Pu.lss rfl rfl)<|Za<|Zf<|ZF rfl (fun h11=>?_) (fun h11=>?_)
 ·have h11n:j<((XQ (mkL l))[n.toNat]).length:=by omega
  have hxr:=Sg hm (i:=n.toNat) (x:=((XQ (mkL l))[n.toNat])[j]) (by rw [hcn];exact getElem_mem h11n)
  refine Zk<|Zf<|Zh<|Zf<|Zd ?_
  obtain ⟨b12,o12,cap12,row12,T12,fr12,cs12,hv12,hb12,hs12,hE12⟩:=hvb1.get j (by omega)
  refine JLn (Zcw j ZV ty3 hv12 rfl rfl (by omega))<|JLr (Zb ty3 rfl (Zcx hb12) (ZT ((show cs12=[Value.int .i64 (((XQ (mkL l))[n.toNat])[j])] from hE12)▸hs12))<|JAn rfl<|Zc<|JLM rfl<|JLq (pp bO (0+(((XQ (mkL l))[n.toNat])[j]).toNat*1)) (ZcB (((XQ (mkL l))[n.toNat])[j]).toNat LK ty4 rfl rfl (by first | rfl | omega) (by omega))<|JLr (Zb ty4 rfl (Zcu 0 rfl) (YA (by have hbl:List.length fj=8:=hf8;omega))<|JLn (Pu.not rfl)<|Za<|Zs rfl (fun h13=>?_) (fun h13=>?_)))
  ·replace h13:=nt h13
   refine Zc<|JLM rfl<|JLq (pp bO (0+(((XQ (mkL l))[n.toNat])[j]).toNat*1)) (ZcB (((XQ (mkL l))[n.toNat])[j]).toNat LK ty4 rfl rfl (by first | rfl | omega) (by omega))<|JLr (Ze 0 (vs:=[.bool true]) (l:=bls (fj.set (((XQ (mkL l))[n.toNat])[j]).toNat true)) ty4 rfl rfl rfl rfl rfl (Zg rfl Zq) (Ra (by have hbl:List.length fj=8:=hf8;omega))<|Za<|Zd<|JLr (Zb Gf rfl (Zcx hW) rfl<|JLM rfl<|ZG 0 rfl call101 rfl rfl (fun hin=>ih (f-1) (by omega) _ _ _ (by omega) (by omega) (by rw [length_set];omega) (by have:=Rk (l:=fj) (k:=(((XQ (mkL l))[n.toNat])[j]).toNat) (by omega) (by simpa using h13);omega) (Hle.hu _ _ _ _ hP) (Hle.hu _ _ _ _ hG) (GR.mono (Hle.hu _ _) hr) (Hle.hu _ _ _ _ hW)) rfl ?_))
   rintro _ _ rfl
   refine Za<|Zd<|JLn (Zcy rfl rfl (by omega))<|JLM rfl<|Za<|⟨_,?_,(j+1),(wkF (clG (mkL l)) (f-1) (((XQ (mkL l))[n.toNat])[j]).toNat (fj.set (((XQ (mkL l))[n.toNat])[j]).toNat true)),Zj rfl,(Sk Sub.nil),?_,?_,rfl⟩
   ·omega
   ·omega
   rw [Mp _ _ _ h11n,← hfj,if_neg (by simpa using h13)]
  replace h13:=nf h13
  refine Zk<|Zd<|JLn (Zcy rfl rfl (by omega))<|JLM rfl<|Za<|⟨_,?_,(j+1),fj,Zj rfl,(Sk Sub.nil),?_,?_,rfl⟩
  ·omega
  ·omega
  rw [Mp _ _ _ h11n,← hfj,if_pos (by simpa using h13)]
 have h11n:((XQ (mkL l))[n.toNat]).length≤j:=by omega
 refine Zu _ rfl<|⟨.tuple ⟨[]⟩,[(BX bO (bls fj) 93)],Ret.none rfl,(Sk Sub.nil),?_⟩
 rw [take_of_length_le h11n] at hfj
 rw [DB (by omega),hcn,← hfj]
theorem Vi (l:List Tm) (hm:okG (mkL l)) (gb:Nat) (vm vc vf ff:Value) (H:Heap) (hG:H gb=some (.cells ⟨[vm,vc,vf,ff]⟩ 91 (0,0))) (hr:GR H l vm vc vf) (hff:ff.oneCell'=true) (n:Int) (h0:0≤n) (h1:n<((mkL l).length:Int)):CT prog 51 ⟨[pp gb 0,iv n]⟩ [] H (fun v N=>v=.agg ⟨bls (rcF (mkL l) n.toNat)⟩∧N=[]):=by
 refine Zl func51 rfl rfl<|Zc<|JLr (Zr (l:=[pp gb 0]) rfl rfl fun b1=>JLr (Zp (l:=bls (replicate 8 false)) zeroValue93 rfl fun b2=>Za<|Zc<|JLr (Zp (l:=bls (replicate 8 false)) zeroValue93 rfl fun b3=>Za<|Zc<|JLr (Zp (l:=[.nilFunc]) zeroValue148 rfl fun b4=>?_))))
 refine Za<|Zc<|JLq (.func (.func 101) ⟨[]⟩ ⟨[pp b1 0,pp b3 0,pp b4 0]⟩) (Pu.makeFunc rfl rfl)<|JLr (Ze 0 (vs:=[.func (.func 101) ⟨[]⟩ ⟨[pp b1 0,pp b3 0,pp b4 0]⟩]) (l:=[.func (.func 101) ⟨[]⟩ ⟨[pp b1 0,pp b3 0,pp b4 0]⟩]) Gf rfl rfl rfl rfl rfl (Zg rfl Zq) rfl<|Za<|Zc<|JLr (Zb Gf rfl (Zcu 0 rfl) rfl<|JLM rfl<|ZG 1 rfl call101 rfl rfl (fun hin=>IO l hm gb _ _ _ vm vc vf ff 9 n (replicate 8 false) _ h0 h1 (length_replicate ..) (by decide) (hin 2 _ rfl _ _ mem_cons_self) (Hle.hu _ _ _ _ hG) (GR.mono (Hle.hu _ _) hr) (hin 0 _ rfl _ _ mem_cons_self)) rfl ?_))
 rintro _ _ rfl
 refine Za<|Zc<|JLr (Zn DF rfl (Zcu 0 rfl) (ZE ((VM _).trans (by rw [QS hm];exact X5 ..)))<|JLr (Ze 2 (vs:=bls (wkF (clG (mkL l)) 9 n.toNat (replicate 8 false))) (l:=bls (wkF (clG (mkL l)) 9 n.toNat (replicate 8 false))) DF rfl rfl rfl rfl ((VM _).trans (by rw [QS hm];exact X5 ..)) (E3 _) (Yb (n:=8) ((VM _).trans (length_replicate ..)) ((VM _).trans (by rw [QS hm];exact X5 ..)))<|Za<|ZH<|⟨.agg ⟨bls (wkF (clG (mkL l)) 9 n.toNat (replicate 8 false))⟩,[],Ret.one rfl (RV.cell DF rfl (Zcu 2 rfl) (ZE ((VM _).trans (by rw [QS hm];exact X5 ..)))),Sub.nil,?_⟩))
 exact ⟨by rw [QS hm],rfl⟩
theorem Ms (l:List Tm) (hm:okG (mkL l)) (gb:Nat) (vm vc vf ff:Value) (H:Heap) (hG:H gb=some (.cells ⟨[vm,vc,vf,ff]⟩ 91 (0,0))) (hr:GR H l vm vc vf) (hff:ff.oneCell'=true) (a b:Int) (h0:0≤a) (h1:a<((mkL l).length:Int)) (h2:0≤b) (h3:b<((mkL l).length:Int)):CT prog 172 ⟨[pp gb 0,iv a,iv b]⟩ [] H (fun v N=>v=.bool (tgB (mkL l) a.toNat b.toNat)∧N=[]):=by
 have hm8:=hm.hi
 refine Zl func172 rfl rfl<|Zc<|JAn rfl<|Zc<|JLM rfl<|JLM rfl<|JLn (Pu.eql rfl rfl)<|JLM rfl<|ZA 21 [11,12,13,14,15,16,17,18,19,20,21,22,23,24,25,26,27,28,29,30,31] [(31,cond (decide (a=b)) undef (.bool (((decide (rcF (mkL l) a.toNat=rcF (mkL l) b.toNat))&&((rcF (mkL l) a.toNat).getD a.toNat false))&&((rcF (mkL l) a.toNat).getD b.toNat false))))] ?_ fun f6=>?_
 ·cases h1:(decide (a=b)) with
  | false=>
   replace h1:=df h1
   refine JLM rfl<|JLM rfl<|Jc call51 rfl (fun hin=>Vi l hm gb vm vc vf ff _ (Hle.hu _ _ _ _ hG) (GR.mono (Hle.hu _ _) hr) hff a (by omega) (by omega)) rfl ?_
   rintro _ _ ⟨rfl,rfl⟩
   refine JLM rfl<|JLM rfl<|Jc call51 rfl (fun hin=>Vi l hm gb vm vc vf ff _ (Hle.hu _ _ _ _ hG) (GR.mono (Hle.hu _ _) hr) hff b (by omega) (by omega)) rfl ?_
   rintro _ _ ⟨rfl,rfl⟩
   refine JLq (.bool (decide (rcF (mkL l) a.toNat=rcF (mkL l) b.toNat))) (HN eqGuardType93 underlying93 underlying4 sizeOf4 rfl rfl (X5 ..) (X5 ..))<|JLM rfl<|ZA 5 [19,20,21,22,23] [(23,cond (decide (rcF (mkL l) a.toNat=rcF (mkL l) b.toNat)) (.bool ((rcF (mkL l) a.toNat).getD a.toNat false)) undef)] ?_ fun f3=>?_
   ·cases h2:(decide (rcF (mkL l) a.toNat=rcF (mkL l) b.toNat)) with
    | true=>
     replace h2:=dt h2
     refine JLM rfl<|JLM rfl<|Jc call51 rfl (fun hin=>Vi l hm gb vm vc vf ff _ (Hle.hu _ _ _ _ hG) (GR.mono (Hle.hu _ _) hr) hff a (by omega) (by omega)) rfl ?_
     rintro _ _ ⟨rfl,rfl⟩
     refine JLM rfl<|JLq (.bool ((rcF (mkL l) a.toNat).getD a.toNat false)) (ZcW a.toNat LK ty4 rfl rfl (by first | rfl | omega) (by omega) (E4 (by have hbl:List.length (rcF (mkL l) a.toNat)=8:=(X5 ..);omega))) ?_
     exact Za ⟨⟨rfl,trivial⟩,rfl⟩
    | false=>
     exact ZJ rfl ⟨rfl,trivial⟩
   refine JLn (ZcA rfl rfl rfl)<|JLM rfl<|ZA 5 [26,27,28,29,30] [(30,cond ((decide (rcF (mkL l) a.toNat=rcF (mkL l) b.toNat))&&((rcF (mkL l) a.toNat).getD a.toNat false)) (.bool ((rcF (mkL l) a.toNat).getD b.toNat false)) undef)] ?_ fun f5=>?_
   ·cases h4:((decide (rcF (mkL l) a.toNat=rcF (mkL l) b.toNat))&&((rcF (mkL l) a.toNat).getD a.toNat false)) with
    | true=>
     obtain ⟨h4a,h4b⟩:=Xa h4
     replace h4a:=dt h4a
     refine JLM rfl<|JLM rfl<|Jc call51 rfl (fun hin=>Vi l hm gb vm vc vf ff _ (Hle.hu _ _ _ _ hG) (GR.mono (Hle.hu _ _) hr) hff a (by omega) (by omega)) rfl ?_
     rintro _ _ ⟨rfl,rfl⟩
     refine JLM rfl<|JLq (.bool ((rcF (mkL l) a.toNat).getD b.toNat false)) (ZcW b.toNat LK ty4 rfl rfl (by first | rfl | omega) (by omega) (E4 (by have hbl:List.length (rcF (mkL l) a.toNat)=8:=(X5 ..);omega))) ?_
     exact Za ⟨⟨rfl,trivial⟩,rfl⟩
    | false=>
     exact ZJ rfl ⟨rfl,trivial⟩
   refine JLn (ZcA rfl rfl rfl) ?_
   exact Za ⟨⟨rfl,trivial⟩,rfl⟩
  | true=>
   exact ZJ rfl ⟨rfl,trivial⟩
 refine JLn (ZcC rfl rfl rfl)<|JAn rfl<|ZC (.bool ((decide (a=b))||(((decide (rcF (mkL l) a.toNat=rcF (mkL l) b.toNat))&&((rcF (mkL l) a.toNat).getD a.toNat false))&&((rcF (mkL l) a.toNat).getD b.toNat false)))) [] Sub.nil (?_)
 exact ⟨congrArg Value.bool (Za5 h0 h2 ..),rfl⟩
theorem F6 (g:Nat) (fs cv:List Value) (hcall:∀ args w,(callFunc g args).run prog w=.ok (.enter g args) w) (p:Nat→Bool) (l:List Tm) (v:Value) (H:Heap) (hl:Hs.rdS RT 36 H v l) (hg:∀ (j:Nat) (hj:j<l.length) (a:List Value) (h:Heap),Hle H h→RT h a l[j]→CT prog g ⟨fs++[.agg ⟨a⟩]++cv⟩ [] h (fun v N=>v=.bool (p j)∧N=[])):CT prog 68 ⟨[v,.func (.func g) ⟨fs⟩ ⟨cv⟩]⟩ [] H (fun v N=>v=iv (Xd p l.length)∧N=[]):=by
 refine Zl func68 rfl rfl<|Zc<|JAn rfl<|Zf<|Zc<|JLm v ?_
 obtain ⟨a1,cap1,hv1⟩:=hl.sl
 have hle1:=hl.le
 refine JLn (Zcv ZQ hv1)<|JLM rfl<|Za<|Zh<|Zv (fun k ρ M=>∃ (j:Nat),ZR ρ [(0,v),(1,.func (.func g) ⟨fs⟩ ⟨cv⟩),(4,iv 0),(7,iv ((l.length:Int))),(8,iv ((j:Int)))]=ρ∧Sub [] M∧j≤l.length∧(∀ i,i<j→p i=false)∧k=l.length-j) _ ⟨0,Zj rfl,Sub.nil,Nat.zero_le _,fun i hi=>absurd hi (by omega),rfl⟩ ?_
 rintro _ ρ2 _ ⟨j,e3,hm8,hj,hm,rfl⟩
 obtain ⟨ρ9,rfl⟩:=Zo e3
 clear e3
 refine ZD hm8<|Zc<|JLn (Pu.lss rfl rfl)<|Za<|Zf<|ZF rfl (fun h10=>?_) (fun h10=>?_)
 ·have h10n:j<l.length:=by omega
  have hlenl:=hl.le
  refine Zk<|Zf<|Zh<|Zc<|JLM rfl<|JAn rfl<|Zc<|JLM rfl<|JLm v<|JLM rfl ?_
  obtain ⟨b11,o11,cap11,row11,T11,fr11,cs11,hv11,hb11,hs11,hE11⟩:=hl.get j (by omega)
  refine JLn (Zcw j ZQ Zy hv11 rfl rfl (by omega))<|JLr (Zn Zy rfl (Zcx hb11) hs11<|Jc hcall rfl (fun hin=>hg _ h10n _ _ (Hle.hu _ _) (RT.mono (Hle.hu _ _) hE11)) rfl ?_)
  rintro _ _ ⟨rfl,rfl⟩
  refine Za<|Zs rfl (fun h12=>?_) (fun h12=>?_)
  ·refine Zc<|JLM rfl<|JAn rfl<|ZC (iv ((j:Int))) [] Sub.nil (?_)
   exact ⟨by rw [SR h10n (by simpa using h12) hm],rfl⟩
  refine Zk<|Zd<|JLn (Zcy rfl rfl (by omega))<|JLM rfl<|Za<|⟨_,?_,(j+1),Zj rfl,Sub.nil,?_,?_,rfl⟩
  ·omega
  ·omega
  intro i hi;by_cases h1:i<j;exact hm i h1;(obtain rfl:i=j:=by omega);simpa using h12
 have h10n:l.length≤j:=by omega
 refine Zu _ rfl<|Zc<|JAn rfl<|ZC (iv (-1)) [] Sub.nil (?_)
 exact ⟨by rw [WJ fun i hi=>hm i (by omega)],rfl⟩
theorem F7 (g:Nat) (fs cv:List Value) (hcall:∀ args w,(callFunc g args).run prog w=.ok (.enter g args) w) (p:Nat→Bool) (l:List (Int×Int)) (v:Value) (H:Heap) (hl:Hs.rdS RK 2 H v l) (hg:∀ (j:Nat) (hj:j<l.length) (a:List Value) (h:Heap),Hle H h→RK h a l[j]→CT prog g ⟨fs++[.agg ⟨a⟩]++cv⟩ [] h (fun v N=>v=.bool (p j)∧N=[])):CT prog 170 ⟨[v,.func (.func g) ⟨fs⟩ ⟨cv⟩]⟩ [] H (fun v N=>v=iv (Xd p l.length)∧N=[]):=by
 refine Zl func170 rfl rfl<|Zc<|JAn rfl<|Zf<|Zc<|JLm v ?_
 obtain ⟨a1,cap1,hv1⟩:=hl.sl
 have hle1:=hl.le
 refine JLn (Zcv Nm hv1)<|JLM rfl<|Za<|Zh<|Zv (fun k ρ M=>∃ (j:Nat),ZR ρ [(0,v),(1,.func (.func g) ⟨fs⟩ ⟨cv⟩),(4,iv 0),(7,iv ((l.length:Int))),(8,iv ((j:Int)))]=ρ∧Sub [] M∧j≤l.length∧(∀ i,i<j→p i=false)∧k=l.length-j) _ ⟨0,Zj rfl,Sub.nil,Nat.zero_le _,fun i hi=>absurd hi (by omega),rfl⟩ ?_
 rintro _ ρ2 _ ⟨j,e3,hm8,hj,hm,rfl⟩
 obtain ⟨ρ9,rfl⟩:=Zo e3
 clear e3
 refine ZD hm8<|Zc<|JLn (Pu.lss rfl rfl)<|Za<|Zf<|ZF rfl (fun h10=>?_) (fun h10=>?_)
 ·have h10n:j<l.length:=by omega
  have hlenl:=hl.le
  refine Zk<|Zf<|Zh<|Zc<|JLM rfl<|JAn rfl<|Zc<|JLM rfl<|JLm v<|JLM rfl ?_
  obtain ⟨b11,o11,cap11,row11,T11,fr11,cs11,hv11,hb11,hs11,hE11⟩:=hl.get j (by omega)
  refine JLn (Zcw j Nm VB hv11 rfl rfl (by omega))<|JLr (Zn VB rfl (Zcx hb11) hs11<|Jc hcall rfl (fun hin=>hg _ h10n _ _ (Hle.hu _ _) (RK.mono (Hle.hu _ _) hE11)) rfl ?_)
  rintro _ _ ⟨rfl,rfl⟩
  refine Za<|Zs rfl (fun h12=>?_) (fun h12=>?_)
  ·refine Zc<|JLM rfl<|JAn rfl<|ZC (iv ((j:Int))) [] Sub.nil (?_)
   exact ⟨by rw [SR h10n (by simpa using h12) hm],rfl⟩
  refine Zk<|Zd<|JLn (Zcy rfl rfl (by omega))<|JLM rfl<|Za<|⟨_,?_,(j+1),Zj rfl,Sub.nil,?_,?_,rfl⟩
  ·omega
  ·omega
  intro i hi;by_cases h1:i<j;exact hm i h1;(obtain rfl:i=j:=by omega);simpa using h12
 have h10n:l.length≤j:=by omega
 refine Zu _ rfl<|Zc<|JAn rfl<|ZC (iv (-1)) [] Sub.nil (?_)
 exact ⟨by rw [WJ fun i hi=>hm i (by omega)],rfl⟩
theorem F8 (g:Nat) (fs cv:List Value) (hcall:∀ args w,(callFunc g args).run prog w=.ok (.enter g args) w) (p:Nat→Bool) (l:List Int) (v:Value) (H:Heap) (hl:Hs.rdS RI 1 H v l) (hg:∀ (j:Nat) (hj:j<l.length) (h:Heap),Hle H h→CT prog g ⟨fs++[iv l[j]]++cv⟩ [] h (fun v N=>v=.bool (p j)∧N=[])):CT prog 204 ⟨[v,.func (.func g) ⟨fs⟩ ⟨cv⟩]⟩ [] H (fun v N=>v=iv (Xd p l.length)∧N=[]):=by
 refine Zl func204 rfl rfl<|Zc<|JAn rfl<|Zf<|Zc<|JLm v ?_
 obtain ⟨a1,cap1,hv1⟩:=hl.sl
 have hle1:=hl.le
 refine JLn (Zcv ZV hv1)<|JLM rfl<|Za<|Zh<|Zv (fun k ρ M=>∃ (j:Nat),ZR ρ [(0,v),(1,.func (.func g) ⟨fs⟩ ⟨cv⟩),(4,iv 0),(7,iv ((l.length:Int))),(8,iv ((j:Int)))]=ρ∧Sub [] M∧j≤l.length∧(∀ i,i<j→p i=false)∧k=l.length-j) _ ⟨0,Zj rfl,Sub.nil,Nat.zero_le _,fun i hi=>absurd hi (by omega),rfl⟩ ?_
 rintro _ ρ2 _ ⟨j,e3,hm8,hj,hm,rfl⟩
 obtain ⟨ρ9,rfl⟩:=Zo e3
 clear e3
 refine ZD hm8<|Zc<|JLn (Pu.lss rfl rfl)<|Za<|Zf<|ZF rfl (fun h10=>?_) (fun h10=>?_)
 ·have h10n:j<l.length:=by omega
  have hlenl:=hl.le
  refine Zk<|Zf<|Zh<|Zc<|JLM rfl<|JAn rfl<|Zc<|JLM rfl<|JLm v<|JLM rfl ?_
  obtain ⟨b11,o11,cap11,row11,T11,fr11,cs11,hv11,hb11,hs11,hE11⟩:=hl.get j (by omega)
  refine JLn (Zcw j ZV ty3 hv11 rfl rfl (by omega))<|JLr (Zb ty3 rfl (Zcx hb11) (ZT ((show cs11=[Value.int .i64 (l[j])] from hE11)▸hs11))<|Jc hcall rfl (fun hin=>hg _ h10n _ (Hle.hu _ _)) rfl ?_)
  rintro _ _ ⟨rfl,rfl⟩
  refine Za<|Zs rfl (fun h12=>?_) (fun h12=>?_)
  ·refine Zc<|JLM rfl<|JAn rfl<|ZC (iv ((j:Int))) [] Sub.nil (?_)
   exact ⟨by rw [SR h10n (by simpa using h12) hm],rfl⟩
  refine Zk<|Zd<|JLn (Zcy rfl rfl (by omega))<|JLM rfl<|Za<|⟨_,?_,(j+1),Zj rfl,Sub.nil,?_,?_,rfl⟩
  ·omega
  ·omega
  intro i hi;by_cases h1:i<j;exact hm i h1;(obtain rfl:i=j:=by omega);simpa using h12
 have h10n:l.length≤j:=by omega
 refine Zu _ rfl<|Zc<|JAn rfl<|ZC (iv (-1)) [] Sub.nil (?_)
 exact ⟨by rw [WJ fun i hi=>hm i (by omega)],rfl⟩
theorem Kp:∀ (g:Nat) (fs cv:List Value) (hcall:∀ args w,(callFunc g args).run prog w=.ok (.enter g args) w) (q:Bool) (x y:Tm) (a b:List Value) (bF bX:Nat) (H:Heap),RT H a x→RT H b y→H bF=some (.cells ⟨[.func (.func g) ⟨fs⟩ ⟨cv⟩]⟩ 105 (0,0))→H bX=some (.cells ⟨a⟩ 51 (0,0))→(∀ (a b:List Value) (h:Heap),Hle H h→RT h a x→RT h b y→CT prog g ⟨fs++[.agg ⟨a⟩,.agg ⟨b⟩]++cv⟩ [] h (fun v N=>v=.bool q∧N=[]))→CT prog 166 ⟨[.agg ⟨b⟩,pp bF 0,pp bX 0]⟩ [] H (fun v N=>v=.bool q∧N=[]):=by
 intro g fs cv hcall q x y a b bF bX H ha hb hF hX hg
 refine Zl func166 rfl rfl<|Zc<|JLr (Zr (l:=b) rfl rfl fun b1=>JAn rfl<|Zc<|JLr (Zb Za3 rfl (Zcx hF) rfl<|JLr (Zn Zy rfl (Zcx hX) (ZE (ZB ha))<|JLr (Zn Zy rfl (Zcu 0 rfl) (ZE (ZB hb))<|Jc hcall rfl (fun hin=>hg _ _ _ (Hle.hu _ _) (RT.mono (Hle.hu _ _) ha) (RT.mono (Hle.hu _ _) hb)) rfl ?_))))
 rintro _ _ ⟨rfl,rfl⟩
 refine JAn rfl<|ZC (.bool q) [] Sub.nil (?_)
 exact ⟨rfl,rfl⟩
set_option maxHeartbeats 1000000 in
theorem Kn (g:Nat) (fs cv:List Value) (hcall:∀ args w,(callFunc g args).run prog w=.ok (.enter g args) w) (p:Nat→Nat→Bool) (l:List Tm) (v:Value) (H:Heap) (hl:Hs.rdS RT 36 H v l) (hn:l.length≤1000000) (hg:∀ (i j:Nat) (hi:i<l.length) (hj:j<l.length) (a b:List Value) (h:Heap),Hle H h→RT h a l[i]→RT h b l[j]→CT prog g ⟨fs++[.agg ⟨a⟩,.agg ⟨b⟩]++cv⟩ [] h (fun v N=>v=.bool (p i j)∧N=[])):CT prog 118 ⟨[v,.func (.func g) ⟨fs⟩ ⟨cv⟩]⟩ [] H (fun r N=>∃ k,N=[k]∧Own 3 1 r (Z2 (fsB p l.length)) k):=by
 refine Zl func118 rfl rfl<|Zc<|JLr (Zr (l:=[.func (.func g) ⟨fs⟩ ⟨cv⟩]) rfl rfl fun b1=>JAn rfl<|Zc<|JAn rfl<|Zf<|Zf<|Zd ?_)
 refine JLm v ?_
 obtain ⟨a2,cap2,hv2⟩:=hl.sl
 have hle2:=hl.le
 refine JLn (Zcv ZQ hv2)<|JLM rfl<|Za<|Zh<|Zv (fun k ρ M=>∃ (j:Nat) (y1:Value) (q1:Zi),ZR ρ [(0,v),(3,pp b1 0),(4,nS),(5,y1),(8,v),(9,iv ((l.length:Int))),(10,iv ((j:Int)))]=ρ∧Sub [q1,(BX b1 [.func (.func g) ⟨fs⟩ ⟨cv⟩] 105)] M∧j≤l.length∧Own 3 1 y1 (Z2 ((fsB p l.length).take j)) q1∧k=l.length-j) _ ⟨0,nS,[],Zj rfl,(Zcz (Sk Sub.nil)),Nat.zero_le _,(show Own 3 1 _ (Z2 []) [] from Own.nil),rfl⟩ ?_
 rintro _ ρ3 _ ⟨j,y1,q1,e4,hm11,hj,how1,rfl⟩
 obtain ⟨ρ12,rfl⟩:=Zo e4
 clear e4
 refine ZD hm11 ?_
 have hlen:=hl.le
 refine Zc<|JLn (Pu.lss rfl rfl)<|Za<|Zf<|ZF rfl (fun h13=>?_) (fun h13=>?_)
 ·have h13n:j<l.length:=by omega
  refine Zk<|Zf<|Zh<|Zf<|Zd ?_
  obtain ⟨b14,o14,cap14,row14,T14,fr14,cs14,hv14,hb14,hs14,hE14⟩:=hl.get j (by omega)
  refine JLn (Zcw j ZQ Zy hv14 rfl rfl (by omega))<|JLr (Zn Zy rfl (Zcx hb14) hs14<|JLr (Zp (l:=pkT 0 0 zS nS nS) zeroValue51 rfl fun b15=>JLr (Ze 0 (vs:=cs14) (l:=cs14) Zy rfl rfl rfl rfl (ZB hE14) (XA hE14) (Yb (n:=36) rfl (ZB hE14))<|Za<|Zd<|JLm y1<|JLm v<|JLq (.func (.func 166) ⟨[]⟩ ⟨[pp b1 0,pp b15 0]⟩) (Pu.makeFunc rfl rfl)<|Jc call68 rfl (fun hin=>F6 _ [] _ call166 (p j) l _ _ (RTs.mono (Hle.hu _ _) hl) (fun k hk b h hh rb=>Kp g fs cv hcall (p j k) _ _ _ _ _ _ _ (RT.mono hh (RT.mono (Hle.hu _ _) hE14)) rb (hh _ _ (hin 2 _ rfl _ _ mem_cons_self)) (hh _ _ (hin 0 _ rfl _ _ mem_cons_self)) (fun a b h2 h3 ra rb=>hg j k h13n hk a b h2 (Hle.trans (Hle.hu _ _) (Hle.trans hh h3)) ra rb))) rfl ?_)))
  rintro _ _ ⟨rfl,rfl⟩
  refine JLr (Zm (vs:=[iv (Xd (p j) l.length)]) [[iv (Xd (p j) l.length)]] ZV el3 rfl rfl (al1 rfl) rfl (by decide) fun b17 k17 ho17 hk17=>?_)
  have hlens18:∀ e∈([[iv (Xd (p j) l.length)]]:List (List Value)),List.length e=1:=al1 rfl
  have hoks18:∀ e∈([[iv (Xd (p j) l.length)]]:List (List Value)),okc e:=al1 (Zg rfl Zq)
  refine JLr (Zz (i:=2) (n:=1) (es':=[[iv (Xd (p j) l.length)]]) ZV ZV (Or.inl rfl) el3 rfl rfl rfl how1 (fun F w m=>Src.row (((ZcD 0 rfl (by rw [hk17];exact mem_cons_self))).heap m) (ZE (Zw hlens18))) rfl hlens18 hoks18 (by decide) (by rw [Zt,length_take];omega) fun v18 k18 ho18=>JLa v18<|Za<|Zd<|JLn (Zcy rfl rfl (by omega))<|JLM rfl<|Za<|⟨_,?_,(j+1),v18,k18,Zj rfl,(Sd (Sd (Sk (Sk Sub.nil)))),?_,?_,rfl⟩)
  ·omega
  ·omega
  rw [La p l.length h13n,Td];exact ho18
 have h13n:l.length≤j:=by omega
 refine Zu _ rfl<|Zc<|JLm y1<|JLa y1<|Za<|ZC y1 [q1] (Sk Sub.nil) (?_)
 rw [take_of_length_le (by rw [QH];exact h13n)] at how1
 exact ⟨_,rfl,how1⟩
theorem Kq:∀ (g:Nat) (fs cv:List Value) (hcall:∀ args w,(callFunc g args).run prog w=.ok (.enter g args) w) (q:Bool) (x y:(Int×Int)) (a b:List Value) (bF bX:Nat) (H:Heap),RK H a x→RK H b y→H bF=some (.cells ⟨[.func (.func g) ⟨fs⟩ ⟨cv⟩]⟩ 169 (0,0))→H bX=some (.cells ⟨a⟩ 166 (0,0))→(∀ (a b:List Value) (h:Heap),Hle H h→RK h a x→RK h b y→CT prog g ⟨fs++[.agg ⟨a⟩,.agg ⟨b⟩]++cv⟩ [] h (fun v N=>v=.bool q∧N=[]))→CT prog 171 ⟨[.agg ⟨b⟩,pp bF 0,pp bX 0]⟩ [] H (fun v N=>v=.bool q∧N=[]):=by
 intro g fs cv hcall q x y a b bF bX H ha hb hF hX hg
 refine Zl func171 rfl rfl<|Zc<|JLr (Zr (l:=b) rfl rfl fun b1=>JAn rfl<|Zc<|JLr (Zb Za0 rfl (Zcx hF) rfl<|JLr (Zn VB rfl (Zcx hX) (ZE (Mn ha))<|JLr (Zn VB rfl (Zcu 0 rfl) (ZE (Mn hb))<|Jc hcall rfl (fun hin=>hg _ _ _ (Hle.hu _ _) (RK.mono (Hle.hu _ _) ha) (RK.mono (Hle.hu _ _) hb)) rfl ?_))))
 rintro _ _ ⟨rfl,rfl⟩
 refine JAn rfl<|ZC (.bool q) [] Sub.nil (?_)
 exact ⟨rfl,rfl⟩
set_option maxHeartbeats 1000000 in
theorem Ko (g:Nat) (fs cv:List Value) (hcall:∀ args w,(callFunc g args).run prog w=.ok (.enter g args) w) (p:Nat→Nat→Bool) (l:List (Int×Int)) (v:Value) (H:Heap) (hl:Hs.rdS RK 2 H v l) (hn:l.length≤1000000) (hg:∀ (i j:Nat) (hi:i<l.length) (hj:j<l.length) (a b:List Value) (h:Heap),Hle H h→RK h a l[i]→RK h b l[j]→CT prog g ⟨fs++[.agg ⟨a⟩,.agg ⟨b⟩]++cv⟩ [] h (fun v N=>v=.bool (p i j)∧N=[])):CT prog 122 ⟨[v,.func (.func g) ⟨fs⟩ ⟨cv⟩]⟩ [] H (fun r N=>∃ k,N=[k]∧Own 3 1 r (Z2 (fsB p l.length)) k):=by
 refine Zl func122 rfl rfl<|Zc<|JLr (Zr (l:=[.func (.func g) ⟨fs⟩ ⟨cv⟩]) rfl rfl fun b1=>JAn rfl<|Zc<|JAn rfl<|Zf<|Zf<|Zd ?_)
 refine JLm v ?_
 obtain ⟨a2,cap2,hv2⟩:=hl.sl
 have hle2:=hl.le
 refine JLn (Zcv Nm hv2)<|JLM rfl<|Za<|Zh<|Zv (fun k ρ M=>∃ (j:Nat) (y1:Value) (q1:Zi),ZR ρ [(0,v),(3,pp b1 0),(4,nS),(5,y1),(8,v),(9,iv ((l.length:Int))),(10,iv ((j:Int)))]=ρ∧Sub [q1,(BX b1 [.func (.func g) ⟨fs⟩ ⟨cv⟩] 169)] M∧j≤l.length∧Own 3 1 y1 (Z2 ((fsB p l.length).take j)) q1∧k=l.length-j) _ ⟨0,nS,[],Zj rfl,(Zcz (Sk Sub.nil)),Nat.zero_le _,(show Own 3 1 _ (Z2 []) [] from Own.nil),rfl⟩ ?_
 rintro _ ρ3 _ ⟨j,y1,q1,e4,hm11,hj,how1,rfl⟩
 obtain ⟨ρ12,rfl⟩:=Zo e4
 clear e4
 refine ZD hm11 ?_
 have hlen:=hl.le
 refine Zc<|JLn (Pu.lss rfl rfl)<|Za<|Zf<|ZF rfl (fun h13=>?_) (fun h13=>?_)
 ·have h13n:j<l.length:=by omega
  refine Zk<|Zf<|Zh<|Zf<|Zd ?_
  obtain ⟨b14,o14,cap14,row14,T14,fr14,cs14,hv14,hb14,hs14,hE14⟩:=hl.get j (by omega)
  refine JLn (Zcw j Nm VB hv14 rfl rfl (by omega))<|JLr (Zn VB rfl (Zcx hb14) hs14<|JLr (Zp (l:=[iv 0,iv 0]) zeroValue166 rfl fun b15=>JLr (Ze 0 (vs:=cs14) (l:=cs14) VB rfl rfl rfl rfl (Mn hE14) (Zb5 hE14) (Yb (n:=2) rfl (Mn hE14))<|Za<|Zd<|JLm y1<|JLm v<|JLq (.func (.func 171) ⟨[]⟩ ⟨[pp b1 0,pp b15 0]⟩) (Pu.makeFunc rfl rfl)<|Jc call170 rfl (fun hin=>F7 _ [] _ call171 (p j) l _ _ (RKs.mono (Hle.hu _ _) hl) (fun k hk b h hh rb=>Kq g fs cv hcall (p j k) _ _ _ _ _ _ _ (RK.mono hh (RK.mono (Hle.hu _ _) hE14)) rb (hh _ _ (hin 2 _ rfl _ _ mem_cons_self)) (hh _ _ (hin 0 _ rfl _ _ mem_cons_self)) (fun a b h2 h3 ra rb=>hg j k h13n hk a b h2 (Hle.trans (Hle.hu _ _) (Hle.trans hh h3)) ra rb))) rfl ?_)))
  rintro _ _ ⟨rfl,rfl⟩
  refine JLr (Zm (vs:=[iv (Xd (p j) l.length)]) [[iv (Xd (p j) l.length)]] ZV el3 rfl rfl (al1 rfl) rfl (by decide) fun b17 k17 ho17 hk17=>?_)
  have hlens18:∀ e∈([[iv (Xd (p j) l.length)]]:List (List Value)),List.length e=1:=al1 rfl
  have hoks18:∀ e∈([[iv (Xd (p j) l.length)]]:List (List Value)),okc e:=al1 (Zg rfl Zq)
  refine JLr (Zz (i:=2) (n:=1) (es':=[[iv (Xd (p j) l.length)]]) ZV ZV (Or.inl rfl) el3 rfl rfl rfl how1 (fun F w m=>Src.row (((ZcD 0 rfl (by rw [hk17];exact mem_cons_self))).heap m) (ZE (Zw hlens18))) rfl hlens18 hoks18 (by decide) (by rw [Zt,length_take];omega) fun v18 k18 ho18=>JLa v18<|Za<|Zd<|JLn (Zcy rfl rfl (by omega))<|JLM rfl<|Za<|⟨_,?_,(j+1),v18,k18,Zj rfl,(Sd (Sd (Sk (Sk Sub.nil)))),?_,?_,rfl⟩)
  ·omega
  ·omega
  rw [La p l.length h13n,Td];exact ho18
 have h13n:l.length≤j:=by omega
 refine Zu _ rfl<|Zc<|JLm y1<|JLa y1<|Za<|ZC y1 [q1] (Sk Sub.nil) (?_)
 rw [take_of_length_le (by rw [QH];exact h13n)] at how1
 exact ⟨_,rfl,how1⟩
set_option maxHeartbeats 1000000 in
theorem Jn (l:List Tm) (hm:okG (mkL l)) (gb:Nat) (vm vc vf ff:Value) (H:Heap) (hG:H gb=some (.cells ⟨[vm,vc,vf,ff]⟩ 91 (0,0))) (hr:GR H l vm vc vf) (hff:ff.oneCell'=true) (n:Int) (h0:0≤n) (h1:n<(l.length:Int)):CT prog 124 ⟨[pp gb 0,iv n]⟩ [] H (fun r N=>∃ k,N=[k]∧Own 3 1 r (Z2 (ptI l n.toNat)) k):=by
 have hfl:=Yw l
 have hml:=Z0 l
 have hm8:=hm.hi
 refine Zl func124 rfl rfl<|Zc<|JAn rfl<|Zc<|JAn rfl<|Zf<|Zc<|JLM rfl ?_
 refine JLq (pp gb 0) (Pu.nilCheck rfl)<|JLq (pp gb 2) (Tf rfl rfl)<|JLr (Zb Xm rfl (Zcx hG) rfl ?_)
 obtain ⟨a1,cap1,hv1⟩:=hr.f.sl
 have hle1:=hr.f.le
 refine JLn (Zcv ZV hv1)<|JLM rfl<|Za<|Zh<|Zv (fun k ρ M=>∃ (j:Nat) (y1:Value) (q1:Zi),ZR ρ [(0,pp gb 0),(1,iv n),(4,nS),(5,y1),(11,vf),(12,iv (((frI l).length:Int))),(13,iv ((j:Int)))]=ρ∧Sub [q1] M∧j≤(frI l).length∧Own 3 1 y1 (Z2 (ptTo l n.toNat j)) q1∧k=(frI l).length-j) _ ⟨0,nS,[],Zj rfl,(Zcz Sub.nil),Nat.zero_le _,(show Own 3 1 _ (Z2 []) [] from Own.nil),rfl⟩ ?_
 rintro _ ρ2 _ ⟨j,y1,q1,e3,hm10,hj,how1,rfl⟩
 obtain ⟨ρ11,rfl⟩:=Zo e3
 clear e3
 refine ZD hm10 ?_
 have hpl:=Pj l n.toNat j
 refine Zc<|JLn (Pu.lss rfl rfl)<|Za<|Zf<|ZF rfl (fun h12=>?_) (fun h12=>?_)
 ·have h12n:j<(frI l).length:=by omega
  refine Zk<|Zf<|Zh<|Zc<|JLM rfl ?_
  obtain ⟨b13,o13,cap13,row13,T13,fr13,cs13,hv13,hb13,hs13,hE13⟩:=hr.f.get j (by omega)
  refine JLn (Zcw j ZV ty3 hv13 rfl rfl (by omega))<|JLr (Zb ty3 rfl (Zcx hb13) (ZT ((show cs13=[Value.int .i64 ((frI l)[j])] from hE13)▸hs13))<|JLA rfl<|JAn rfl<|Zc<|JLM rfl<|JLM rfl<|JLn (Pu.eql rfl rfl)<|JLM rfl<|ZA 4 [22,23,24,25] [(25,cond (decide ((j:Int)=(frI l)[j])) (.bool (tgB (mkL l) n.toNat ((j:Int)).toNat)) undef)] ?_ fun f15=>?_)
  ·cases h14:(decide ((j:Int)=(frI l)[j])) with
   | true=>
    replace h14:=dt h14
    refine JLM rfl<|JLM rfl<|JLM rfl<|Jc call172 rfl (fun hin=>Ms l hm gb vm vc vf ff _ (Hle.hu _ _ _ _ hG) (GR.mono (Hle.hu _ _) hr) hff n ((j:Int)) (by omega) (by omega) (by omega) (by omega)) rfl ?_
    rintro _ _ ⟨rfl,rfl⟩
    exact Za ⟨⟨rfl,trivial⟩,rfl⟩
   | false=>
    exact ZJ rfl ⟨rfl,trivial⟩
  refine JLn (ZcA rfl rfl rfl)<|Za<|Zs rfl (fun h16=>?_) (fun h16=>?_)
  ·obtain ⟨h16a,h16b⟩:=Xa h16
   replace h16a:=dt h16a
   refine Zd<|JLm y1<|JLM rfl<|JLr (Zm (vs:=[iv ((j:Int))]) [[iv ((j:Int))]] ZV el3 rfl rfl (al1 rfl) rfl (by decide) fun b17 k17 ho17 hk17=>?_)
   have hlens18:∀ e∈([[iv ((j:Int))]]:List (List Value)),List.length e=1:=al1 rfl
   have hoks18:∀ e∈([[iv ((j:Int))]]:List (List Value)),okc e:=al1 (Zg rfl Zq)
   refine JLr (Zz (i:=1) (n:=1) (es':=[[iv ((j:Int))]]) ZV ZV (Or.inl rfl) el3 rfl rfl rfl how1 (fun F w m=>Src.row (((ZcD 0 rfl (by rw [hk17];exact mem_cons_self))).heap m) (ZE (Zw hlens18))) rfl hlens18 hoks18 (by decide) (by rw [Zt];omega) fun v18 k18 ho18=>JLa v18<|Za<|Zd<|JLn (Zcy rfl rfl (by omega))<|JLM rfl<|Za<|⟨_,?_,(j+1),v18,k18,Zj rfl,(Sd (Sk Sub.nil)),?_,?_,rfl⟩)
   ·omega
   ·omega
   have z:=ho18;rw [G4 (show j<l.length by omega) (by simp_all) (by simp_all),Td];exact z
  refine Zk<|Zd<|JLn (Zcy rfl rfl (by omega))<|JLM rfl<|Za<|⟨_,?_,(j+1),y1,q1,Zj rfl,(Sk Sub.nil),?_,?_,rfl⟩
  ·omega
  ·omega
  have z:=how1;rw [Cm (show j<l.length by omega) (by simp_all)];exact z
 have h12n:(frI l).length≤j:=by omega
 refine Zu _ rfl<|Zc<|JLm y1<|JLa y1<|Za<|ZC y1 [q1] (Sk Sub.nil) (?_)
 have z:=how1
 obtain rfl:j=l.length:=by omega
 exact ⟨_,rfl,z⟩
theorem RN (l:List Int) (x:Int) (v:Value) (H:Heap) (hl:Hs.rdS RI 1 H v l):CT prog 102 ⟨[v,iv x]⟩ [] H (fun v N=>v=iv (ixI l x)∧N=[]):=by
 refine Zl func102 rfl rfl<|Zc<|JAn rfl<|Zf<|Zc<|JLm v ?_
 obtain ⟨a1,cap1,hv1⟩:=hl.sl
 have hle1:=hl.le
 refine JLn (Zcv ZV hv1)<|JLM rfl<|Za<|Zh<|Zv (fun k ρ M=>∃ (j:Nat),ZR ρ [(0,v),(1,iv x),(4,iv 0),(7,iv ((l.length:Int))),(8,iv ((j:Int)))]=ρ∧Sub [] M∧j≤l.length∧(∀ i,i<j→l.getD i 0≠x)∧k=l.length-j) _ ⟨0,Zj rfl,Sub.nil,Nat.zero_le _,fun i hi=>absurd hi (by omega),rfl⟩ ?_
 rintro _ ρ2 _ ⟨j,e3,hm8,hj,hm,rfl⟩
 obtain ⟨ρ9,rfl⟩:=Zo e3
 clear e3
 refine ZD hm8<|Zc<|JLn (Pu.lss rfl rfl)<|Za<|Zf<|ZF rfl (fun h10=>?_) (fun h10=>?_)
 ·have h10n:j<l.length:=by omega
  have hlenl:=hl.le
  refine Zk<|Zf<|Zh<|Zc<|JLM rfl<|JAn rfl<|Zc<|JLM rfl<|JLm v<|JLM rfl ?_
  obtain ⟨b11,o11,cap11,row11,T11,fr11,cs11,hv11,hb11,hs11,hE11⟩:=hl.get j (by omega)
  refine JLn (Zcw j ZV ty3 hv11 rfl rfl (by omega))<|JLr (Zb ty3 rfl (Zcx hb11) (ZT ((show cs11=[Value.int .i64 (l[j])] from hE11)▸hs11))<|JLn (Pu.eql rfl rfl)<|Za<|ZF rfl (fun h12=>?_) (fun h12=>?_))
  ·refine Zc<|JLM rfl<|JAn rfl<|ZC (iv ((j:Int))) [] Sub.nil (?_)
   exact ⟨by rw [Zac h10n h12.symm hm],rfl⟩
  refine Zk<|Zd<|JLn (Zcy rfl rfl (by omega))<|JLM rfl<|Za<|⟨_,?_,(j+1),Zj rfl,Sub.nil,?_,?_,rfl⟩
  ·omega
  ·omega
  intro i hi;by_cases h1:i<j;exact hm i h1;(obtain rfl:i=j:=by omega);rw [Xf h10n];exact fun e=>h12 e.symm
 have h10n:l.length≤j:=by omega
 refine Zu _ rfl<|Zc<|JAn rfl<|ZC (iv (-1)) [] Sub.nil (?_)
 exact ⟨by rw [F3 (F2 fun i hi=>hm i (by omega))],rfl⟩
theorem WW (l:List Int) (x:Int) (v:Value) (H:Heap) (hl:Hs.rdS RI 1 H v l):CT prog 54 ⟨[v,iv x]⟩ [] H (fun v N=>v=.bool (decide (x∈l))∧N=[]):=by
 refine Zl func54 rfl rfl<|Zc<|JAn rfl<|Zc<|JLm v<|JLM rfl<|Jc call102 rfl (fun hin=>RN _ _ _ _ (RIs.mono (Hle.hu _ _) hl)) rfl ?_
 rintro _ _ ⟨rfl,rfl⟩
 refine JLn (Pu.geq rfl rfl)<|JAn rfl<|ZC (.bool (decide (0≤ixI l x))) [] Sub.nil (?_)
 exact ⟨congrArg Value.bool NX,rfl⟩
theorem C7 (g:Nat) (fs cv:List Value) (hcall:∀ args w,(callFunc g args).run prog w=.ok (.enter g args) w) (p:Bool) (x:Int) (bH:Nat) (H:Heap) (hH:H bH=some (.cells ⟨[.func (.func g) ⟨fs⟩ ⟨cv⟩]⟩ 111 (0,0))) (hg:∀ (h:Heap),Hle H h→CT prog g ⟨fs++[iv x]++cv⟩ [] h (fun v N=>v=.bool p∧N=[])):CT prog 174 ⟨[iv x,pp bH 0]⟩ [] H (fun v N=>v=.bool (!p)∧N=[]):=by
 refine Zl func174 rfl rfl<|Zc<|JAn rfl<|Zc<|JLr (Zb Za2 rfl (Zcx hH) rfl<|JLM rfl<|Jc hcall rfl (fun hin=>hg _ (Hle.hu _ _)) rfl ?_)
 rintro _ _ ⟨rfl,rfl⟩
 refine JLn (Pu.not rfl)<|JAn rfl<|ZC (.bool (!(p))) [] Sub.nil (?_)
 exact ⟨rfl,rfl⟩
theorem Hl (g:Nat) (fs cv:List Value) (hcall:∀ args w,(callFunc g args).run prog w=.ok (.enter g args) w) (p:Nat→Bool) (l:List Int) (v:Value) (H:Heap) (hl:Hs.rdS RI 1 H v l) (hg:∀ (j:Nat) (hj:j<l.length) (h:Heap),Hle H h→CT prog g ⟨fs++[iv l[j]]++cv⟩ [] h (fun v N=>v=.bool (p j)∧N=[])):CT prog 173 ⟨[v,.func (.func g) ⟨fs⟩ ⟨cv⟩]⟩ [] H (fun v N=>v=.bool (decide (0≤Xd p l.length))∧N=[]):=by
 refine Zl func173 rfl rfl<|Zc<|JAn rfl<|Zc<|JLm v<|JLM rfl<|Jc call204 rfl (fun hin=>F8 g fs cv hcall p l _ _ (RIs.mono (Hle.hu _ _) hl) (fun j hj h hh=>hg j hj h (Hle.trans (Hle.hu _ _) hh))) rfl ?_
 rintro _ _ ⟨rfl,rfl⟩
 refine JLn (Pu.geq rfl rfl)<|JAn rfl<|ZC (.bool (decide (0≤Xd p l.length))) [] Sub.nil (?_)
 exact ⟨rfl,rfl⟩
theorem Zak (g:Nat) (fs cv:List Value) (hcall:∀ args w,(callFunc g args).run prog w=.ok (.enter g args) w) (p:Nat→Bool) (l:List Int) (v:Value) (H:Heap) (hl:Hs.rdS RI 1 H v l) (hg:∀ (j:Nat) (hj:j<l.length) (h:Heap),Hle H h→CT prog g ⟨fs++[iv l[j]]++cv⟩ [] h (fun v N=>v=.bool (p j)∧N=[])):CT prog 125 ⟨[v,.func (.func g) ⟨fs⟩ ⟨cv⟩]⟩ [] H (fun v N=>v=.bool (!decide (0≤Xd (fun j=> !p j) l.length))∧N=[]):=by
 refine Zl func125 rfl rfl<|Zc<|JLr (Zr (l:=[.func (.func g) ⟨fs⟩ ⟨cv⟩]) rfl rfl fun b1=>JAn rfl<|Zc<|JLm v<|JLq (.func (.func 174) ⟨[]⟩ ⟨[pp b1 0]⟩) (Pu.makeFunc rfl rfl)<|Jc call173 rfl (fun hin=>Hl 174 [] [pp b1 0] call174 (fun j=> !p j) l _ _ (RIs.mono (Hle.hu _ _) hl) (fun j hj h hh=>C7 g fs cv hcall (p j) _ _ h (hh _ _ (hin 0 _ rfl _ _ mem_cons_self)) (fun h2 h3=>hg j hj h2 (Hle.trans (Hle.hu _ _) (Hle.trans hh h3))))) rfl ?_)
 rintro _ _ ⟨rfl,rfl⟩
 refine JLn (Pu.not rfl)<|JAn rfl<|ZC (.bool (!(decide (0≤Xd (fun j=> !p j) l.length)))) [] Sub.nil (?_)
 exact ⟨rfl,rfl⟩
end
theorem Hj (g:Nat) (fs cv:List Value) (hcall:∀ args w,(callFunc g args).run prog w=.ok (.enter g args) w) (q:Int→Bool) (l:List Int) (v:Value) (H:Heap) (hl:Hs.rdS RI 1 H v l)
    (hg:∀ (j:Nat) (hj:j<l.length) (h:Heap),Hle H h→CT prog g ⟨fs++[.int .i64 l[j]]++cv⟩ [] h (fun v N=>v=.bool (q l[j])∧N=[])):CT prog 125 ⟨[v,.func (.func g) ⟨fs⟩ ⟨cv⟩]⟩ [] H (fun v N=>v=.bool (l.all q)∧N=[]):=
  CT.mono (Zak g fs cv hcall (fun j=>q (l.getD j 0)) l v H hl (fun j hj h hh=>by rw [Xf hj];exact hg j hj h hh)) fun v N e=>by rw [F9 q l 0] at e;exact e
noncomputable def clOK (l:List Tm) (tk:List Bool) (n:Nat) (k:Int):Bool:=(clG (mkL l) k.toNat).all fun c=>tk.getD c.toNat false||decide (c∈ptI l n)
theorem AP {l:List Tm} {tk:List Bool} {n p:Nat} (hp:p<(ptI l n).length) (h:clOK l tk n (ptI l n)[p]=false):goodB l tk n=false:=by
  cases q:goodB l tk n with
  | false=>rfl
  | true=>
    have:=all_eq_true.1 (goodB_iff.1 q).2.2 _ (getElem_mem hp)
    unfold clOK at h
    rw [this] at h;cases h
theorem Co {l:List Tm} {tk:List Bool} {n p:Nat} (h:∀ k∈(ptI l n).take p,clOK l tk n k=true) (hp:(ptI l n).length≤p):pkB l tk n=true:=by
  rw [take_of_length_le hp] at h
  exact all_eq_true.2 h
theorem CS {l:List Tm} {tk:List Bool} {j:Nat} (hj:j<l.length) (h:((!decide ((j:Int)=(frI l)[j]'(by rw [Yw];exact hj)))||tk.getD j false)=true):goodB l tk j=false:=by
  cases q:goodB l tk j with
  | false=>rfl
  | true=>
    have g:=goodB_iff.1 q
    rw [XU hj,g.1,g.2.1] at h;simp at h
theorem Ak {l:List Tm} {tk:List Bool} {j:Nat} (hj:j<l.length) (h:((!decide ((j:Int)=(frI l)[j]'(by rw [Yw];exact hj)))||tk.getD j false)=false):firstN l j=j∧tk.getD j false=false:=by
  rw [XU hj,Bool.or_eq_false_iff] at h
  simp at h
  exact ⟨by omega,by simpa using h.2⟩
theorem IU (l:List Tm) (n:Nat):(ptI l n).length≤l.length:=Pj l n l.length
theorem D2 {l:List Tm} {i:Nat} {tk:List Bool} {ll:List (List Int)} (h:runP l i=(tk,ll)):tk.length=8:=by have:=U8 l i;rw [h] at this;exact this
theorem Pc {l : List Tm} (hl:l.length≤8):∀ i,(runP l i).2.length≤8:=by
  have key : ∀ i, (runP l i).2.length≤i:=by
    intro i
    induction i with
    | zero=>simp [runP]
    | succ i ih => rw [runP];unfold stepP;split
                   · rw [length_append];simp;omega
                   · omega
  intro i
  rcases Nat.le_total i 8 with q | q
  · have:=key i;omega
  · rw [Rv (TW hl) i q];exact key 8
noncomputable def knW (l:List Tm) (W:List Int→Bool) (j:Nat):List Int:=(((paL l).take j).filter W).flatten
noncomputable def knE (l:List Tm) (W:List Int→Bool):Bool:=(knW l W (paL l).length).any fun n=> !decide (XV (YD (mkL l) n.toNat)=0)
def okW (l:List Tm) (W:List Int→Bool):Prop:=∀ p∈paL l,W p=true→∀ n∈p,∀ k:Nat,coX (mkL l) n.toNat k=true→∀ p'∈paL l,(k:Int)∈p'→W p'=true
theorem M0 {l:List Tm} {W:List Int→Bool} {j:Nat} (h:j<(paL l).length):knW l W (j+1)=knW l W j++if W (paL l)[j]=true then (paL l)[j] else []:=by
  unfold knW
  rw [take_succ_eq_append_getElem h,filter_append,flatten_append,filter_cons]
  congr 1
  split <;> simp
theorem A9 {l:List Tm} {W:List Int→Bool} {j:Nat} {K:List Int} (h:j<(paL l).length) (hK:K=knW l W j) (hW:W (paL l)[j]=false):K=knW l W (j+1):=by rw [M0 h,hW,hK];simp
theorem CC {l:List Tm} {W:List Int→Bool} {j q:Nat} {K K2:List Int} (h:j<(paL l).length) (hK:K=knW l W j) (hW:W (paL l)[j]=true) (hK2:K2=K++((paL l)[j]).take q) (hq:((paL l)[j]).length≤q):K2=knW l W (j+1):=by
  rw [M0 h,if_pos hW,← hK,hK2,take_of_length_le hq]
theorem CD {l:List Tm} {W:List Int→Bool} {j:Nat} {x:Int} (hx:x∈knW l W j):x∈((paL l).take j).flatten:=by
  unfold knW at hx
  obtain ⟨p,hp,hxp⟩:=mem_flatten.1 hx
  exact mem_flatten.2 ⟨p,(mem_filter.1 hp).1,hxp⟩
theorem L1 {l:List Tm} (h:okG l) {j q:Nat} (hj:j<(paL l).length) (hq:q<((paL l)[j]).length):0≤((paL l)[j])[q]∧((paL l)[j])[q]<(l.length:Int)∧firstN l (((paL l)[j])[q]).toNat=(((paL l)[j])[q]).toNat:=
  (Qd h).fst _ (mem_flatten.2 ⟨_,getElem_mem hj,getElem_mem hq⟩)
theorem A7 {l:List Tm} (h:okG l) {W:List Int→Bool} {j q:Nat} {K K2:List Int} (hj:j<(paL l).length) (hK:K=knW l W j) (hK2:K2=K++((paL l)[j]).take q) (hq:q<((paL l)[j]).length):((paL l)[j])[q]∉K2:=by
  have nd:=(Qd h).nd
  simp only at nd
  intro hx
  rw [hK2,hK,mem_append] at hx
  have e:paL l=(paL l).take j++((paL l)[j]::(paL l).drop (j+1)):=by rw [← drop_eq_getElem_cons hj,take_append_drop]
  rw [e,flatten_append,flatten_cons,nodup_append] at nd
  rcases hx with hx | hx
  · exact nd.2.2 _ (CD hx) _ (mem_append.2 (.inl (getElem_mem hq))) rfl
  · have nd2:=nd.2.1
    rw [nodup_append] at nd2
    have nd3:=nd2.1
    have e2:(paL l)[j]=((paL l)[j]).take q++(((paL l)[j])[q]::((paL l)[j]).drop (q+1)):=by rw [← drop_eq_getElem_cons hq,take_append_drop]
    rw [e2,nodup_append] at nd3
    exact nd3.2.2 _ hx _ mem_cons_self rfl
theorem A8 {l:List Tm} (h:okG l) {W:List Int→Bool} (hW:okW l W) {j q:Nat} {K K2:List Int} (hj:j<(paL l).length) (hK:K=knW l W j) (hK2:K2=K++((paL l)[j]).take q) (hq:q<((paL l)[j]).length) (hw:W (paL l)[j]=true):CH l K2 (firstN l (((paL l)[j])[q]).toNat):=fun k hk=>by
  rw [(L1 h hj hq).2.2] at hk
  have:=(Qd h).cov j hj _ (getElem_mem hq) k hk
  simp only at this
  obtain ⟨p,hp,hkp⟩:=mem_flatten.1 this
  rw [hK2,hK,mem_append]
  left
  unfold knW
  exact mem_flatten.2 ⟨p,mem_filter.2 ⟨hp,hW _ (getElem_mem hj) hw _ (getElem_mem hq) k hk p (List.mem_of_mem_take hp) hkp⟩,hkp⟩
theorem Kz (x:It):XV x=0∨XV x=11:=by unfold XV;split <;> simp
theorem Es {x:It} (h:XV x=0):Sb x=Ya x:=by
  unfold XV at h;unfold Sb
  split at h
  · cases h
  · rename_i c;rw [if_neg c]
theorem CE {l:List Tm} (h:okG l) {W:List Int→Bool} {j q:Nat} (hj:j<(paL l).length) (hq:q<((paL l)[j]).length) (hw:W (paL l)[j]=true) (he:¬ XV (YD (mkL l) (firstN l (((paL l)[j])[q]).toNat))=0):knE l W=true∧XV (YD (mkL l) (firstN l (((paL l)[j])[q]).toNat))=11:=by
  refine ⟨?_,(Kz _).resolve_left he⟩
  rw [(L1 h hj hq).2.2] at he
  unfold knE
  rw [any_eq_true]
  refine ⟨((paL l)[j])[q],?_,by simpa using he⟩
  unfold knW
  rw [List.take_length]
  exact mem_flatten.2 ⟨_,mem_filter.2 ⟨getElem_mem hj,hw⟩,getElem_mem hq⟩
theorem FV {l:List Tm} {W:List Int→Bool} {j:Nat} {K:List Int} (hj:(paL l).length≤j) (hK:K=knW l W j) (he:∀ n∈K,XV (YD (mkL l) n.toNat)=0):knE l W=false∧K=knW l W (paL l).length:=by
  have e:K=knW l W (paL l).length:=by rw [hK];unfold knW;rw [take_of_length_le hj,List.take_length]
  refine ⟨?_,e⟩
  unfold knE
  rw [← Bool.not_eq_true,any_eq_true]
  rintro ⟨n,hn,q⟩
  rw [← e] at hn
  rw [he n hn] at q;simp at q
theorem EG {l:List Tm} (h:okG l) {i:Nat} (hi:i<l.length):(Ya (YD (mkL l) (firstN l i))).length≤250000∧∀ x∈Ya (YD (mkL l) (firstN l i)),0≤x∧x≤255:=EZ h hi
theorem OII.sl {ll:List (List Int)} {v:Value} {k:Zi} (o:OII ll v k):∃ a cap,v=.slice a ll.length cap:=by
  obtain ⟨es,k1,k2,h1,h2,rfl,hl⟩:=o
  obtain ⟨a,cap,e⟩:=h1.sl
  rw [Ri h2] at e
  exact ⟨a,cap,e⟩
theorem AU {l:List Tm} (h:okG l):(paL l).length≤8:=Pc h.hi 8
def A4 (l:List Tm) (a b:Nat):Prop:=rcB (cdL (mkL l)) (mkL l).length a b=true∧rcB (cdL (mkL l)) (mkL l).length b a=true
theorem Jp {l:List Tm} (h:okG l) {p:List Int} (hp:p∈paL l) {x y:Int} (hx:x∈p) (hy:y∈p):x.toNat=y.toNat∨A4 l x.toNat y.toNat:=by
  have hcl:=Wr h.mkL.ok
  obtain ⟨j,hj,hf,rfl⟩:=(Qd h).pts p hp
  by_cases ex:x.toNat=j
  · by_cases ey:y.toNat=j
    · exact .inl (by omega)
    · have:=Pi h hj hy ey
      rw [ex];exact .inr this
  · have rx:=Pi h hj hx ex
    by_cases ey:y.toNat=j
    · rw [ey];exact .inr ⟨rx.2,rx.1⟩
    · have ry:=Pi h hj hy ey
      exact .inr ⟨Yp hcl rx.2 ry.1,Yp hcl ry.2 rx.1⟩
theorem Zbo {l:List Tm} (h:okG l) {p:List Int} (hp:p∈paL l) {x:Int} (hx:x∈p) {y:Nat} (hy:y<l.length) (hf:firstN l y=y) (hm:x.toNat=y∨A4 l x.toNat y):(y:Int)∈p:=by
  have hcl:=Wr h.mkL.ok
  have hml:=Z0 l
  obtain ⟨j,hj,hfj,rfl⟩:=(Qd h).pts p hp
  rw [Uz]
  refine ⟨by omega,by omega,by simpa using hf,?_⟩
  rw [Int.toNat_natCast]
  by_cases e:y=j
  · subst e;unfold tgB;simp
  · have g:A4 l j y:=by
      by_cases ex:x.toNat=j
      · rcases hm with q | q
        · omega
        · rw [ex] at q;exact q
      · have rx:=Pi h hj hx ex
        rcases hm with q | q
        · rw [q] at rx;exact rx
        · exact ⟨Yp hcl rx.1 q.1,Yp hcl q.2 rx.2⟩
    rw [K1 h hj hy e]
    unfold prB
    simp only [Int.toNat_natCast]
    rw [g.1,g.2];rfl
theorem Aa {l:List Tm} (h:okG l) {p:List Int} (hp:p∈paL l):0<p.length:=by
  obtain ⟨j,hj,hf,rfl⟩:=(Qd h).pts p hp
  exact List.length_pos_of_mem (L0 hj hf)
theorem SD {l:List Tm} (h:okG l) {p:List Int} (hp:p∈paL l) {x:Int} (hx:x∈p):0≤x∧x<(l.length:Int)∧firstN l x.toNat=x.toNat:=(Qd h).fst x (mem_flatten.2 ⟨p,hp,hx⟩)
theorem TG {l:List Tm} (h:okG l) {i k:Nat} (hi:i<l.length):coX (mkL l) i k=true↔rcB (cdL (mkL l)) (mkL l).length i k=true∧k≠i∧¬ rcB (cdL (mkL l)) (mkL l).length k i=true:=by
  have hm:=h.mkL
  have hml:=Z0 l
  have hcl:=Wr hm.ok
  unfold coX
  rw [Bool.and_eq_true,Bool.not_eq_true',decide_eq_false_iff_not]
  constructor
  · rintro ⟨a,b⟩
    have hk:=Ph hcl b
    rw [Ua hm.ok (by omega) (by omega) (by omega)] at a
    refine ⟨b,fun e=>a (.inl (by omega)),fun q=>a (.inr ?_)⟩
    unfold prB;simp only [Int.toNat_natCast];rw [b,q];rfl
  · rintro ⟨b,ne,nr⟩
    refine ⟨fun q=>?_,b⟩
    rw [Ua hm.ok (by omega) (by omega) (by omega)] at q
    rcases q with q | q
    · exact ne (by omega)
    · unfold prB at q
      simp only [Int.toNat_natCast,Bool.and_eq_true] at q
      exact nr q.2
theorem Nc {l:List Tm} (h:okG l) {i k k':Nat} (hi:i<l.length) (a:coX (mkL l) i k=true) (b:coX (mkL l) k k'=true):coX (mkL l) i k'=true:=by
  have hml:=Z0 l
  have hcl:=Wr h.mkL.ok
  have a1:=(TG h hi).1 a
  have hk:k<l.length:=by have:=Ph hcl a1.1;omega
  have b1:=(TG h hk).1 b
  refine (TG h hi).2 ⟨Yp hcl a1.1 b1.1,fun e=>?_,fun q=>?_⟩
  · subst e;exact a1.2.2 b1.1
  · exact b1.2.2 (Yp hcl q a1.1)
noncomputable def wC (l:List Tm) (i0:Nat) (p:List Int):Bool:=(rcF (mkL l) i0).getD (p.getD 0 0).toNat false&& !decide ((i0:Int)∈p)
theorem QT {l:List Tm} (h:okG l) {i0:Nat} (hi:i0<l.length) (hf:firstN l i0=i0) {p:List Int} (hp:p∈paL l) {x:Int} (hx:x∈p):wC l i0 p=true↔coX (mkL l) i0 x.toNat=true:=by
  have hml:=Z0 l
  have h8:=h.hi
  have hcl:=Wr h.mkL.ok
  have hn:=Aa h hp
  have h0:p.getD 0 0∈p:=by rw [Xf hn];exact getElem_mem hn
  have b0:=SD h hp h0
  have bx:=SD h hp hx
  have sm:=Jp h hp h0 hx
  rw [TG h hi]
  unfold wC
  rw [Bool.and_eq_true,Bool.not_eq_true',decide_eq_false_iff_not,Tp (by omega)]
  constructor
  · rintro ⟨a,b⟩
    have r:rcB (cdL (mkL l)) (mkL l).length i0 x.toNat=true:=by
      rcases sm with q | q
      · rw [← q];exact a
      · exact Yp hcl a q.1
    refine ⟨r,fun e=>b ?_,fun q=>b ?_⟩
    · rw [← e,Int.toNat_of_nonneg bx.1];exact hx
    · exact Zbo h hp hx hi hf (.inr ⟨q,r⟩)
  · rintro ⟨r,ne,nr⟩
    refine ⟨?_,fun q=>?_⟩
    · rcases sm with q | q
      · rw [q];exact r
      · exact Yp hcl r q.2
    · rcases Jp h hp q hx with e | e
      · simp at e;exact ne e.symm
      · simp only [Int.toNat_natCast] at e;exact nr e.2
theorem ZaP {l:List Tm} (h:okG l) {i0:Nat} (hi:i0<l.length) (hf:firstN l i0=i0):okW l (wC l i0):=fun p hp hw n hn k hk p' hp' hkp=>by
  have hx:=(QT h hi hf hp hn).1 hw
  have:=(QT h hi hf hp' hkp).2
  rw [Int.toNat_natCast] at this
  exact this (Nc h hi hx hk)
theorem QF {l:List Tm} (h:okG l) {W:List Int→Bool} {x:Int}:x∈knW l W (paL l).length↔∃ p∈paL l,W p=true∧x∈p:=by
  unfold knW
  rw [List.take_length,mem_flatten]
  constructor
  · rintro ⟨p,hp,hx⟩;exact ⟨p,(mem_filter.1 hp).1,(mem_filter.1 hp).2,hx⟩
  · rintro ⟨p,hp,hw,hx⟩;exact ⟨p,mem_filter.2 ⟨hp,hw⟩,hx⟩
theorem H3 {l:List Tm} (h:okG l) {i0:Nat} (hi:i0<l.length) (hf:firstN l i0=i0) {k:Nat}:(k:Int)∈knW l (wC l i0) (paL l).length↔coX (mkL l) i0 k=true:=by
  rw [QF h]
  constructor
  · rintro ⟨p,hp,hw,hx⟩
    have:=(QT h hi hf hp hx).1 hw
    simpa using this
  · intro hk
    have r:=((TG h hi).1 hk).1
    have hfk:=Sw h r
    obtain ⟨p,hp,hx⟩:=mem_flatten.1 (Jq h hfk.1 hfk.2)
    refine ⟨p,hp,(QT h hi hf hp hx).2 ?_,hx⟩
    simpa using hk
theorem Au {l:List Tm} (h:okG l) {i0:Nat} (hi:i0<l.length) (hf:firstN l i0=i0):CH l (knW l (wC l i0) (paL l).length) i0:=fun k hk=>(H3 h hi hf).2 hk
def Om (l:List Tm) (n:Nat):Prop:=¬ XV (YD (mkL l) n)=0
theorem RY {l:List Tm} (h:okG l):∀ (r i:Nat),rkM (mkL l) i≤r→i<l.length→(TQ (mkL l) i=true↔Om l i∨∃ k,coX (mkL l) i k=true∧Om l k):=by
  have hml:=Z0 l
  have ok:=h.mkL.ok
  have tl:∀ n,decide (65536<(Ya (YD (mkL l) n)).length)=true↔Om l n:=fun n=>by
    unfold Om XV;rw [decide_eq_true_eq];split
    · simp [*]
    · simp [*]
  intro r
  induction r with
  | zero=>
    intro i hr hi
    have:0<rkM (mkL l) i:=List.countP_pos_iff.2 ⟨i,mem_range.2 (by omega),by simp⟩
    omega
  | succ r ih=>
    intro i hr hi
    rw [EH ok (by omega),Bool.or_eq_true,tl,any_eq_true]
    constructor
    · rintro (⟨k,hk,q⟩ | q)
      · rw [Bool.and_eq_true] at q
        have lt:=U9 ok (by omega) q.1
        rcases (ih k (by omega) (by omega)).1 q.2 with t | ⟨k',hk',t⟩
        · exact .inr ⟨k,q.1,t⟩
        · exact .inr ⟨k',Nc h hi q.1 hk',t⟩
      · exact .inl q
    · rintro (q | ⟨k,hk,t⟩)
      · exact .inr q
      · left
        have lt:=U9 ok (by omega) hk
        exact ⟨k,mem_range.2 lt.1,by rw [Bool.and_eq_true];exact ⟨hk,(ih k (by omega) (by omega)).2 (.inl t)⟩⟩
theorem JC {l:List Tm} (h:okG l) {W:List Int→Bool}:knE l W=true↔∃ n:Int,n∈knW l W (paL l).length∧Om l n.toNat:=by
  unfold knE Om
  rw [any_eq_true]
  exact exists_congr fun n=>and_congr_right fun _=>by simp
theorem Na {l:List Tm} (h:okG l) {i:Nat} (hi:i<l.length):cR l i=(if knE l (wC l (firstN l i))=true then 11 else XV (YD (mkL l) (firstN l i)))∧cO l i=(if knE l (wC l (firstN l i))=true then [] else Sb (YD (mkL l) (firstN l i))):=by
  have hf:=XP h.ok hi
  have hl:=YJ hi
  have key:=RY h _ (firstN l i) (Nat.le_refl _) hl
  have kn:knE l (wC l (firstN l i))=true↔∃ k,coX (mkL l) (firstN l i) k=true∧Om l k:=by
    rw [JC h]
    constructor
    · rintro ⟨n,hn,t⟩
      obtain ⟨p,hp,hw,hx⟩:=(QF h).1 hn
      exact ⟨n.toNat,(QT h hl hf hp hx).1 hw,t⟩
    · rintro ⟨k,hk,t⟩
      exact ⟨k,(H3 h hl hf).2 hk,by simpa using t⟩
  have co:coO (mkL l) ((mkL l).length+1) (firstN l i)=if TQ (mkL l) (firstN l i)=true then [] else Ya (YD (mkL l) (firstN l i)):=rfl
  rw [Tj]
  unfold cO
  rw [co]
  by_cases c:knE l (wC l (firstN l i))=true
  · have e:TQ (mkL l) (firstN l i)=true:=key.2 (.inr (kn.1 c))
    rw [if_pos c,if_pos c,if_pos e,if_pos e];exact ⟨rfl,rfl⟩
  · rw [if_neg c,if_neg c]
    by_cases t:Om l (firstN l i)
    · have e:TQ (mkL l) (firstN l i)=true:=key.2 (.inl t)
      rw [if_pos e,if_pos e]
      unfold Om at t
      unfold XV at t ⊢;unfold Sb
      split at t
      · rename_i q;rw [if_pos q,if_pos q];exact ⟨rfl,rfl⟩
      · exact absurd rfl t
    · have e:¬ TQ (mkL l) (firstN l i)=true:=fun q=>(key.1 q).elim t fun q=>c (kn.2 q)
      rw [if_neg e,if_neg e]
      unfold Om at t
      have t:XV (YD (mkL l) (firstN l i))=0:=Classical.not_not.1 t
      rw [Es t];exact ⟨t.symm,rfl⟩
def wA (_:List Int):Bool:=true
theorem ZaQ (l:List Tm):okW l wA:=fun _ _ _ _ _ _ _ _ _ _=>rfl
theorem LT {l:List Tm} (h:okG l) {n:Nat} (hn:n<l.length) (hf:firstN l n=n):(n:Int)∈knW l wA (paL l).length:=by
  obtain ⟨p,hp,hx⟩:=mem_flatten.1 (Jq h hn hf)
  exact (QF h).2 ⟨p,hp,rfl,hx⟩
theorem To {l:List Tm} (h:okG l):knE l wA=erG l:=by
  rw [Bool.eq_iff_iff,JC h]
  unfold erG
  rw [any_eq_true]
  constructor
  · rintro ⟨n,hn,t⟩
    obtain ⟨p,hp,_,hx⟩:=(QF h).1 hn
    have b:=SD h hp hx
    refine ⟨n.toNat,mem_range.2 (by omega),?_⟩
    rw [Tj,b.2.2,if_pos ((RY h _ n.toNat (Nat.le_refl _) (by omega)).2 (.inl t))];rfl
  · rintro ⟨i,hi,q⟩
    have hi:=mem_range.1 hi
    have hl:=YJ hi
    have hf:=XP h.ok hi
    rw [Tj] at q
    by_cases e:TQ (mkL l) (firstN l i)=true
    · rcases (RY h _ (firstN l i) (Nat.le_refl _) hl).1 e with t | ⟨k,hk,t⟩
      · exact ⟨_,LT h hl hf,by simpa using t⟩
      · have hfk:=Sw h ((TG h hl).1 hk).1
        exact ⟨_,LT h hfk.1 hfk.2,by simpa using t⟩
    · rw [if_neg e] at q;simp at q
theorem ZaB (l:List Tm):Z7 (XR 0) l=Z7 (Zx 0) l:=by
  have:XR 0=Zx 0:=by funext m t;exact S7 0 m t
  rw [this]
theorem ER {f:Tm→Int} {l:List Tm} (h:Wq f l=0):∀ t∈l,f t=0:=by
  induction l with
  | nil=>intro t ht;exact absurd ht (by simp)
  | cons x l ih=>
    rw [Wq] at h
    split at h
    · rename_i c
      intro t ht
      rcases mem_cons.1 ht with rfl | ht
      · exact c
      · exact ih h t ht
    · rename_i c;exact absurd h c
theorem Bq {f:Tm→Int} {l:List Tm} (h:∀ t∈l,f t=0):Wq f l=0:=by
  induction l with
  | nil=>rfl
  | cons x l ih=>rw [Wq,if_pos (h x mem_cons_self)];exact ih fun t ht=>h t (mem_cons_of_mem _ ht)
theorem W2 {l:List Tm} (h:Z7 (Zx 0) l=0):okG l:=by
  unfold Z7 at h
  split at h
  · cases h
  · rename_i c
    exact ⟨by omega,by omega,ER h⟩
noncomputable def kCe (l:List Tm) (i:Int):Int:=if Z7 (Zx 0) l=0 then (if i<0∨(l.length:Int)≤i then 1 else cR l i.toNat) else Z7 (Zx 0) l
noncomputable def kCb (l:List Tm) (i:Int):List Int:=if Z7 (Zx 0) l=0 then (if i<0∨(l.length:Int)≤i then [] else cO l i.toNat) else []
theorem Wb {l:List Tm} {i:Int} (h:¬ Z7 (Zx 0) l=0):kCe l i=Z7 (Zx 0) l∧kCb l i=[]:=by unfold kCe kCb;rw [if_neg h,if_neg h];exact ⟨rfl,rfl⟩
theorem Wa {l:List Tm} {i:Int} (h:Z7 (Zx 0) l=0) (hi:i<0∨(l.length:Int)≤i):kCe l i=1∧kCb l i=[]:=by unfold kCe kCb;rw [if_pos h,if_pos h,if_pos hi,if_pos hi];exact ⟨rfl,rfl⟩
theorem PB {l:List Tm} {i:Int} (h:Z7 (Zx 0) l=0) (hi:¬ (i<0∨(l.length:Int)≤i)):kCe l i=cR l i.toNat∧kCb l i=cO l i.toNat:=by unfold kCe kCb;rw [if_pos h,if_pos h,if_neg hi,if_neg hi];exact ⟨rfl,rfl⟩
noncomputable def kSe (l:List Tm):Int:=if Z7 (Zx 0) l=0 then erR l else Z7 (Zx 0) l
noncomputable def kSs (l:List Tm):List Sm:=if Z7 (Zx 0) l=0 then smO l else []
theorem Wj {l:List Tm} (h:¬ Z7 (Zx 0) l=0):kSe l=Z7 (Zx 0) l∧kSs l=[]:=by unfold kSe kSs;rw [if_neg h,if_neg h];exact ⟨rfl,rfl⟩
theorem SO {l:List Tm} (h:Z7 (Zx 0) l=0):kSe l=erR l∧kSs l=smO l:=by unfold kSe kSs;rw [if_pos h,if_pos h];exact ⟨rfl,rfl⟩
noncomputable def kOl (l:List Tm):List Tm:=if kSe l=0 then opL l else []
theorem ZbF {l:List Tm} (h:kSe l=0):okG l∧kSs l=smG l:=by
  by_cases c:Z7 (Zx 0) l=0
  · have:=SO c
    rw [this.1] at h
    exact ⟨W2 c,this.2.trans (Ep h).2⟩
  · have:=Wj c
    rw [this.1] at h;exact absurd h c
theorem DL {l:List Tm} (h:okG l):(if knE l wA=true then (11:Int) else 0)=erR l:=by rw [To h];rfl
def TZ (s:List Sm) (k n:Int) (r:Sm):Int×Int×Sm:=if k=7 then (6,0,s.getD n.toNat zS) else (k,n,r)
theorem Cr (s:List Sm) (Q:Int→Int→Sm→Prop):∀ k n r,inI k→inI n→Q k n r→inI (TZ s k n r).1∧inI (TZ s k n r).2.1:=fun k n r hk hn _=>by
  unfold TZ;split
  · unfold inI;simp
  · exact ⟨hk,hn⟩
theorem Fm {N:Nat} {s:List Sm}:O2 (TZ s) N (replicate N (-1)) s:=⟨fun k n r hk=>by unfold TZ;rw [if_neg hk],fun n h0 h1=>by
  unfold TZ
  have e:(replicate N (-1:Int)).getD n.toNat 0= -1:=by rw [getD_eq_getElem?_getD,getElem?_replicate,if_pos (by omega)];rfl
  rw [if_pos rfl,e,if_pos (by decide)]⟩
theorem A0 {l:List Tm} (h:okG l) {j:Nat} (hj:j<l.length):mpT (TZ (smG l)) l[j]=Yy (replicate l.length (-1)) (smG l) l[j]:=Tw Fm 0 _ (checkR_iff.1 (h.ck _ (getElem_mem hj))).2
theorem Za8 {l:List Tm} (h:okG l) {j:Nat} (hj:j<l.length) {K:List Int} (hK:K=knW l wA (paL l).length):(frI l)[j]'(by rw [Yw];exact hj)∈K∧dgF l ((frI l)[j]'(by rw [Yw];exact hj))=sha (cB l j):=by
  rw [XU hj,hK]
  exact ⟨LT h (YJ hj) (XP h.ok hj),rfl⟩
def RKn (h:Heap) (cs:List Value) (x:Sm×Tm):Prop:=∃ cb,cs=sC x.1++cb∧RT h cb x.2
theorem RKn.mono {h h':Heap} (hh:Hle h h') {cs:List Value} {x:Sm×Tm} (q:RKn h cs x):RKn h' cs x:=by obtain ⟨cb,e,r⟩:=q;exact ⟨cb,e,RT.mono hh r⟩
theorem RKns.mono {h h':Heap} (hh:Hle h h') {v:Value} {l:List (Sm×Tm)} (q:Hs.rdS RKn 68 h v l):Hs.rdS RKn 68 h' v l:=rdS.mono q hh fun _ _ _ q=>RKn.mono hh q
def idF (K:List Sm) (s:Sm):Int:=(K.idxOf s:Int)
def dfF (K:List Sm) (s:List Int) (y:Tm):List Int:=if y.ref∈K∧y.kind=6 then s++[idF K y.ref] else s
theorem Ey (K:List Sm) (s:List Int) (y:Tm):(dfF K s y).length≤s.length+1:=by unfold dfF;split <;> simp
def dfL (K:List Sm) (t:Tm):List Int:=ndT (dfF K) [] t
theorem Bc (K:List Sm) (t:Tm):(dfL K t).length≤sizeT t:=by
  have:=NP (wt:=List.length) (Ey K) [] t
  simpa [dfL] using this
section
variable {σ:Type} {F:σ→Tm→σ} {I:σ→Prop}
mutual
theorem NQ (h:∀ s y,I s→I (F s y)):∀ (s:σ) (t:Tm),I s→I (ndT F s t)
  | s,.mk k n r kids cases,hs=>by rw [ndT];exact Jv h _ cases (Ju h _ kids (h _ _ hs))
theorem Ju (h:∀ s y,I s→I (F s y)):∀ (s:σ) (l:List Tm),I s→I (ndL F s l)
  | s,[],hs=>hs
  | s,t::l,hs=>by rw [ndL];exact Ju h _ l (NQ h _ t hs)
theorem Jv (h:∀ s y,I s→I (F s y)):∀ (s:σ) (l:List (Pt×Tm)),I s→I (ndC F s l)
  | s,[],hs=>hs
  | s,c::l,hs=>by rw [ndC];exact Jv h _ l (NQ h _ c.2 hs)
end
end
theorem Zap (K:List Sm) (t:Tm):∀ x∈dfL K t,0≤x∧x<(K.length:Int):=
  NQ (F :=dfF K) (I:=fun s=>∀ x∈s,0≤x∧x<(K.length:Int)) (fun s y hs x hx=>by
    unfold dfF at hx
    split at hx
    · rename_i c
      rcases mem_append.1 hx with hx | hx
      · exact hs x hx
      · rw [mem_singleton] at hx;subst hx
        have:=List.idxOf_lt_length_of_mem c.1
        unfold idF;omega
    · exact hs x hx) [] t (fun x hx=>absurd hx (by simp))
def rqB (s:Int→List Int) (x:Int):Nat→Nat→List Int→List Int
  | 0,_,t=>t
  | f+1,a,t=>if a<t.length+1 then rqB s x f (a+1) (stO (fun _=>true) (s ((x::t).getD a 0)) t) else t
theorem GT {s:Int→List Int} {x:Int} {f a:Nat} {t:List Int} (h:a<t.length+1):rqB s x (f+1) a t=rqB s x f (a+1) (stO (fun _=>true) (s ((x::t).getD a 0)) t):=by rw [rqB,if_pos h]
theorem D3 {s:Int→List Int} {x:Int} {f a:Nat} {t:List Int} (h:t.length+1≤a):rqB s x f a t=t:=by
  cases f with
  | zero=>rfl
  | succ f=>rw [rqB,if_neg (by omega)]
def kSm (l:List (Sm×Tm)):List Sm:=l.map (·.1)
theorem SN (l:List (Sm×Tm)):(kSm l).length=l.length:=length_map ..
def dfA (l:List (Sm×Tm)) (x:Int):List Int:=dfL (kSm l) ((l.map (·.2)).getD x.toNat dT)
theorem Ez {l:List (Sm×Tm)} {x:Int} (h:x.toNat<l.length):dfA l x=dfL (kSm l) l[x.toNat].2:=by
  unfold dfA;rw [getD_eq_getElem?_getD,getElem?_map,getElem?_eq_getElem h];rfl
theorem PP (l:List (Sm×Tm)) (x:Int):∀ y∈dfA l x,0≤y∧y<(l.length:Int):=fun y hy=>by have:=Zap (kSm l) _ y hy;rwa [SN] at this
def rqL (l:List (Sm×Tm)) (x:Int):List Int:=rqB (dfA l) x (l.length+1) 0 []
def flL (n:Nat) (t:List Int):List Bool:=(range n).map fun k:Nat=>decide ((k:Int)∈t)
theorem TA (n:Nat) (t:List Int):(flL n t).length=n:=by simp [flL]
theorem CW {n k:Nat} {t:List Int} (h:k<n):(flL n t).getD k false=decide ((k:Int)∈t):=by
  unfold flL;rw [getD_eq_getElem?_getD,getElem?_map,List.getElem?_range h];rfl
theorem CV (n:Nat):replicate n false=flL n []:=by
  apply ext_getElem (by simp [flL]);intro i h1 h2;simp [flL]
theorem CX {n:Nat} {t:List Int} {x:Int} (h0:0≤x):(flL n t).set x.toNat true=flL n (t++[x]):=by
  refine ext_getElem (by rw [length_set,TA,TA]) fun i h1 h2=>?_
  rw [List.getElem_set]
  unfold flL
  simp only [getElem_map,getElem_range,mem_append,mem_singleton]
  by_cases e:x.toNat=i
  · rw [if_pos e]
    have:((i:Nat):Int)=x:=by omega
    simp [this]
  · rw [if_neg e]
    have:¬ ((i:Nat):Int)=x:=by omega
    simp [this]
theorem Th (l:List Tm) (v:Value) (H:Heap) (hv:Hs.rdS RT 36 H v l) (hz:∀ t∈l,sizeT t≤400000):CT prog 49 ⟨[v]⟩ [] H (fun r N=>r=.int .i64 (Z7 (Zx 0) l)∧N=[]):=by
  have z:=Br l v H hv hz
  rwa [ZaB] at z
theorem OII.nil:OII [] (.slice none 0 0) []:=⟨[],[],[],Own.nil,⟨rfl,rfl⟩,rfl,by simp⟩
section
attribute [local irreducible] JL J CT wlo DT
theorem GM (l:List Tm) (o K:List Int) (n:Int) (b8 b5 r:Nat) (vo:Value) (H:Heap) (h8:H b8=some (.cells ⟨[vo]⟩ 45 (0,0))) (ho:Hs.rdS RI 1 H vo o) (h5:H b5=some (.cells ⟨[.map (some r)]⟩ 95 (0,0))) (hR:H r=some (gmO iV smV K (dgF l))):CT prog 103 ⟨[iv n,pp b8 0,pp b5 0]⟩ [] H (fun v N=>∃ kx cx,v=.agg ⟨pkT (XX o (kfV K (dgF l)) n).1 (XX o (kfV K (dgF l)) n).2.1 (XX o (kfV K (dgF l)) n).2.2 kx cx⟩∧N=[]∧kx.oneCell'=true∧cx.oneCell'=true):=by
 refine Zl func103 rfl rfl<|Zc<|JLr (Zp (l:=pkT 0 0 zS nS nS) zeroValue51 rfl fun b1=>Za<|Zf<|Zc<|JLr (Zb Xm rfl (Zcx h8) rfl<|JLM rfl<|Jc call102 rfl (fun hin=>RN _ _ _ _ (RIs.mono (Hle.hu _ _) ho)) rfl ?_))
 rintro _ _ ⟨rfl,rfl⟩
 refine JAn rfl<|Zc<|JLM rfl<|JLn (Pu.geq rfl rfl)<|Za<|ZF rfl (fun h2=>?_) (fun h2=>?_)
 ·refine Zc<|JLM rfl<|JLq (.agg ⟨pkT 7 (ixI o n) zS nS nS⟩) (Pu.build (pv:=[(0,iv 7),(1,iv (ixI o n))]) (l:=pkT 7 (ixI o n) zS nS nS) rfl (Vc _ _))<|JLr (Ze 0 (vs:=pkT 7 (ixI o n) zS nS nS) (l:=pkT 7 (ixI o n) zS nS nS) Zy rfl rfl rfl rfl rfl (Ys rfl rfl) (Xo ..)<|Za<|ZH<|⟨.agg ⟨pkT 7 (ixI o n) zS nS nS⟩,[],Ret.one rfl (RV.cell Zy rfl (Zcu 0 rfl) (YH ..)),Sub.nil,?_⟩)
  have hno:n∈o:=by by_cases q:n∈o;exact q;(rw [F3 q] at h2;omega)
  have hD:XX o (kfV K (dgF l)) n=(7,ixI o n,zS):=by unfold XX ixI;rw [if_pos hno,if_pos hno]
  exact ⟨_,_,by (rw [hD];try rfl),rfl,rfl,rfl⟩
 refine Zk<|Zc<|JLr (Zb Zb8 rfl (Zcx h5) rfl<|JLM rfl<|JLr (Od (kV:=iV) (vV:=smV) (K:=K) (f:=dgF l) (k:=n) zS (Zaa underlying3) underlying95 zeroValue38 rfl rfl hR<|JLq (.agg ⟨pkT 6 0 (if n∈K then (dgF l) n else zS) nS nS⟩) (Pu.build (pv:=[(0,iv 6),(2,.agg ⟨sC (if n∈K then (dgF l) n else zS)⟩)]) (l:=pkT 6 0 (if n∈K then (dgF l) n else zS) nS nS) rfl (R2 _ _))<|JLr (Ze 0 (vs:=pkT 6 0 (if n∈K then (dgF l) n else zS) nS nS) (l:=pkT 6 0 (if n∈K then (dgF l) n else zS) nS nS) Zy rfl rfl rfl rfl rfl (Ys rfl rfl) (Xo ..)<|Za<|ZH<|⟨.agg ⟨pkT 6 0 (if n∈K then (dgF l) n else zS) nS nS⟩,[],Ret.one rfl (RV.cell Zy rfl (Zcu 0 rfl) (YH ..)),Sub.nil,?_⟩)))
 have hno:n∉o:=fun q=>by unfold ixI at h2;rw [if_pos q] at h2;omega
 have hD:XX o (kfV K (dgF l)) n=(6,0,kfV K (dgF l) n):=by unfold XX;rw [if_neg hno]
 exact ⟨_,_,by (rw [hD];try rfl),rfl,rfl,rfl⟩
theorem Ck:∀ (l:List Tm) (o K:List Int) (gb b8 b5 r:Nat) (vm vc vf vo:Value) (hvm:vm.oneCell'=true) (hvc:vc.oneCell'=true) (hvf:vf.oneCell'=true) (t:Tm) (cs:List Value) (H:Heap) (ht:RT H cs t) (hG:H gb=some (.cells ⟨[vm,vc,vf,.func (.func 103) ⟨[]⟩ ⟨[pp b8 0,pp b5 0]⟩]⟩ 91 (0,0))) (h8:H b8=some (.cells ⟨[vo]⟩ 45 (0,0))) (ho:Hs.rdS RI 1 H vo o) (h5:H b5=some (.cells ⟨[.map (some r)]⟩ 95 (0,0))) (hR:H r=some (gmO iV smV K (dgF l))),CT prog 104 ⟨[pp gb 0,.agg ⟨cs⟩]⟩ [] H (fun v N=>∃ kx cx,v=.agg ⟨pkT (TY o (kfV K (dgF l)) t.kind t.num t.ref).1 (TY o (kfV K (dgF l)) t.kind t.num t.ref).2.1 (TY o (kfV K (dgF l)) t.kind t.num t.ref).2.2 kx cx⟩∧N=[]∧kx.oneCell'=true∧cx.oneCell'=true):=by
 intro l o K gb b8 b5 r vm vc vf vo hvm hvc hvf t cs H ht hG h8 ho h5 hR
 obtain ⟨kind,num,ref,kids,cases⟩:=t
 obtain ⟨ks,cv,rfl,hk,hn,hks,hcv⟩:=RT_mk.1 ht
 simp only [Tm.kind,Tm.num,Tm.ref]
 refine Zl func104 rfl rfl<|Zc<|JLr (Zr (l:=pkT kind num ref ks cv) rfl rfl fun b1=>JLr (Zp (l:=pkT 0 0 zS nS nS) zeroValue51 rfl fun b2=>Za<|Zf<|Zc<|JLq (pp b1 0) (Z1 rfl rfl)<|JLr (Zb ty3 rfl (Zcu 1 rfl) (Yf ..)<|JLn (Pu.eql rfl rfl)<|Za ?_)))
 refine ZF rfl (fun h3=>?_) (fun h3=>?_)
 ·refine Zf<|ZI mixed #[0,1,3,7,0,16,63,127] 6 (sm 8 6) [] [] rfl (by kernel_rfl) rfl (by kernel_rfl)<|DM (fun _=>rfl)<|Dq (pp gb 0) (fun _=>Pu.nilCheck rfl)<|Dq (pp gb 3) (fun _=>Ek rfl rfl)<|Dl1 Aw (Zcx hG) rfl<|Dq (pp b1 1) (fun _=>Yj rfl rfl)<|Dl1 ty3 (Zcu 1 rfl) (YP ..)<|ZM (M':=[(BX b2 (pkT 0 0 zS nS nS) 51),(BX b1 (pkT kind num ref ks cv) 51)]) rfl ?_
  show JL _ _ _ [_,_] _ _ _
  refine Jc call103 rfl (fun hin=>GM l o K num _ _ r _ _ (Hle.hu _ _ _ _ h8) (RIs.mono (Hle.hu _ _) ho) (Hle.hu _ _ _ _ h5) (Hle.hu _ _ _ _ hR)) rfl ?_
  rintro _ _ ⟨kx,cx,rfl,rfl,hkx,hcx⟩
  refine JLr (Ze 0 (vs:=pkT ((XX o (kfV K (dgF l)) num).1) ((XX o (kfV K (dgF l)) num).2.1) ((XX o (kfV K (dgF l)) num).2.2) kx cx) (l:=pkT ((XX o (kfV K (dgF l)) num).1) ((XX o (kfV K (dgF l)) num).2.1) ((XX o (kfV K (dgF l)) num).2.2) kx cx) Zy rfl rfl rfl rfl rfl (Ys hkx hcx) (Xo ..)<|Za<|ZH<|⟨.agg ⟨pkT ((XX o (kfV K (dgF l)) num).1) ((XX o (kfV K (dgF l)) num).2.1) ((XX o (kfV K (dgF l)) num).2.2) kx cx⟩,[],Ret.one rfl (RV.cell Zy rfl (Zcu 0 rfl) (YH ..)),Sub.nil,?_⟩)
  have hD:TY o (kfV K (dgF l)) kind num ref=XX o (kfV K (dgF l)) num:=by unfold TY;rw [if_pos h3]
  exact ⟨_,_,by rw [hD],rfl,hkx,hcx⟩
 refine Zk<|Zc<|JLr (Zn Zy rfl (Zcu 1 rfl) (YH ..)<|JLr (Ze 0 (vs:=pkT kind num ref ks cv) (l:=pkT kind num ref ks cv) Zy rfl rfl rfl rfl rfl (Ys hks.one hcv.one) (Xo ..)<|Za<|ZH<|⟨.agg ⟨pkT kind num ref ks cv⟩,[],Ret.one rfl (RV.cell Zy rfl (Zcu 0 rfl) (YH ..)),Sub.nil,?_⟩))
 have hD:TY o (kfV K (dgF l)) kind num ref=(kind,num,ref):=by unfold TY;rw [if_neg h3]
 exact ⟨_,_,by rw [hD],rfl,hks.one,hcv.one⟩
end
theorem I9 (t:Tm) (cs:List Value) (H:Heap) (ht:RT H cs t) (hck:Zx 60 8 t=0):CT prog 105 ⟨[.agg ⟨cs⟩]⟩ [] H (fun r N=>∃ cs k,r=.tuple ⟨[.agg ⟨cs⟩,.int .i64 0]⟩∧N=[k]∧OIt (itT t) cs k):=by
  have z:=Ha t cs H ht
  simp only [hck,if_true] at z
  exact z
section
attribute [local irreducible] JL J CT wlo DT
set_option maxHeartbeats 4000000 in
theorem MM (l:List Tm) (hm:okG (mkL l)) (gb:Nat) (vm vc vf ff:Value) (H:Heap) (hG:H gb=some (.cells ⟨[vm,vc,vf,ff]⟩ 91 (0,0))) (hr:GR H l vm vc vf) (hff:ff.oneCell'=true) (hg:okG l) (i:Int) (h0:0≤i) (h1:i<(l.length:Int)):CT prog 75 ⟨[pp gb 0,iv i]⟩ [] H (fun r N=>∃ k,N=[k]∧Own 3 1 r (Z2 (Wd (mkL l) (frF l i))) k):=by
 have hfl:=Yw l
 have hml:=Z0 l
 have hm8:=hm.hi
 have hfi:=RQ h0 h1
 have hf0:=hfi.1
 have hf1:=hfi.2
 have hptl:=Pj l (frF l i).toNat l.length
 have hptI:(ptI l (frF l i).toNat).length≤l.length:=hptl
 refine Zl func75 rfl rfl<|Zc<|JAn rfl<|Zc<|JLM rfl<|JLq (pp gb 0) (Pu.nilCheck rfl)<|JLq (pp gb 2) (Tf rfl rfl)<|JLr (Zb Xm rfl (Zcx hG) rfl<|JLM rfl ?_)
 obtain ⟨b1,o1,cap1,row1,T1,fr1,cs1,hv1,hb1,hs1,hE1⟩:=hr.f.get i.toNat (by omega)
 refine JLq (pp b1 (o1+i.toNat*1)) (Zcw i.toNat ZV ty3 hv1 rfl (by omega) (by omega))<|JLr (Zb ty3 rfl (Zcx hb1) (ZT ((show cs1=[Value.int .i64 (frF l i)] from hE1.trans (by unfold frF;rw [Xf (by omega)]))▸hs1))<|JLr (Zm (vs:=[iv (frF l i)]) [[iv (frF l i)]] ZV el3 rfl rfl (al1 rfl) rfl (by decide) fun b2 k2 ho2 hk2=>JAn rfl<|Zc<|JLM rfl<|JLM rfl<|JLn (Zcw 0 ZV ty3 rfl rfl rfl (by decide)) ?_))
 refine JLr (Zb ty3 rfl (ZcD 0 rfl (by rw [hk2];exact mem_cons_self)) rfl<|Jc call124 rfl (fun hin=>Jn l hm gb vm vc vf ff _ (Hle.hu _ _ _ _ hG) (GR.mono (Hle.hu _ _) hr) hff (frF l i) hf0 hf1) rfl ?_)
 rintro v3 _ ⟨k3,rfl,ho3⟩
 refine JLa v3<|Za<|Zf<|Zc<|JAn rfl<|Zh<|Zv (fun k ρ M=>∃ (a:Nat) (out:List Int) (y1:Value) (q1:Zi),ZR ρ [(0,pp gb 0),(4,nS),(5,y1),(6,v3),(7,iv ((a:Int)))]=ρ∧Sub [q1,k3] M∧okO (mkL l).length out∧a≤out.length∧Own 3 1 y1 (Z2 out) q1∧W6 (fun x=>decide (x∈ptI l (frF l i).toNat)) (sfI (mkL l)) ((mkL l).length-a) a out=Wd (mkL l) (frF l i)∧k=(mkL l).length-a) _ ⟨0,[frF l i],(.slice (some ⟨b2,0,none⟩) 1 1),k2,Zj rfl,(Sub.cons 1 rfl (Sk Sub.nil)),(okO.one hf0 (by omega)),Nat.zero_le _,ho2,(Fk hg hf0 hf1),rfl⟩ ?_
 rintro _ ρ4 _ ⟨a,out,y1,q1,e5,hm10,hok,ha,how1,hinv,rfl⟩
 obtain ⟨ρ11,rfl⟩:=Zo e5
 clear e5
 refine ZD hm10 ?_
 have holen:=hok.len
 refine Zf<|Zc<|JLM rfl<|JLm y1 ?_
 obtain ⟨a12,cap12,hv12⟩:=how1.sl
 rw [Zt] at hv12
 refine JLn (Zcv ZV hv12)<|JLn (Pu.lss rfl rfl)<|Za<|ZF rfl (fun h13=>?_) (fun h13=>?_)
 ·have h13n:a<out.length:=by omega
  have hal:=h13n
  have hax:=hok.2 _ (getElem_mem h13n)
  refine Zk<|Zf<|Zh<|Zf<|ZI mixed #[0,1,3,7,15,0,0,96,224,511,1023,2047,4095,0] 14 (sm 29 14) [] [(11,fun _ _ vw qw=>∃ k,qw=[k]∧Own 3 1 vw (Z2 (sfR ((mkL l)[(out[a]).toNat]))) k)] rfl (by kernel_rfl) rfl (by kernel_rfl)<|DM (fun _=>rfl)<|Dq (pp gb 0) (fun _=>Pu.nilCheck rfl)<|Dq (pp gb 0) (fun _=>VW rfl rfl)<|Dq (pp gb 0) (fun _=>T9 rfl rfl)<|Dl1 YZ (Zcx hG) rfl<|Dm y1<|DM (fun _=>rfl) ?_
  obtain ⟨b18,cap18,row18,hv18,hm18,hs18⟩:=how1.at (j:=a) (by rw [Zt];first | assumption | omega)
  rw [Z9 _ _ (by omega)] at hs18
  refine Dn (fun _=>Zcw a ZV ty3 hv18 rfl rfl (by rw [Zt];first | assumption | omega))<|Dl1 ty3 (ZcD 0 rfl hm18) (ZT hs18) ?_
  obtain ⟨b19,o19,cap19,row19,T19,fr19,cs19,hv19,hb19,hs19,hE19⟩:=hr.m.get (out[a]).toNat (by omega)
  refine Dq (pp b19 (o19+(out[a]).toNat*36)) (fun _=>Zcw (out[a]).toNat ZQ Zy hv19 rfl (by first | rfl | omega) (by omega))<|Dl Zy (Zcx hb19) hs19 ?_
  refine Dc rfl call121 (fun _=>rfl) (fun hin=>IK _ _ _ (RT.mono (Hle.hu _ _) hE19) (hm.ck _ (getElem_mem (show (out[a]).toNat<(mkL l).length by omega)))) ?_
  rintro v20 _ ⟨k20,rfl,ho20⟩
  obtain ⟨a21,cap21,hv21⟩:=ho20.sl
  rw [Zt] at hv21
  refine Dn (fun _=>Zcv ZV hv21)<|DM (fun _=>rfl)<|ZM (M':=[k20,q1,k3]) rfl ?_
  show JL _ _ _ [] _ _ _
  refine Za<|Zh<|Zv (fun k ρ M=>∃ (p:Nat) (out2:List Int) (y2:Value) (q2:Zi),ZR ρ [(0,pp gb 0),(4,nS),(5,y2),(6,v3),(7,iv ((a:Int))),(40,v20),(41,iv (((sfR ((mkL l)[(out[a]).toNat])).length:Int))),(42,iv ((p:Int)))]=ρ∧Sub [q2,k20,k3] M∧p≤(sfR (mkL l)[(out[a]).toNat]).length∧okO (mkL l).length out2∧Own 3 1 y2 (Z2 out2) q2∧out2=stO (fun x=>decide (x∈ptI l (frF l i).toNat)) ((sfR (mkL l)[(out[a]).toNat]).take p) out∧k=(sfR (mkL l)[(out[a]).toNat]).length-p) _ ⟨0,out,y1,q1,Zj rfl,(Sub.cons 1 rfl (Sk (Sk Sub.nil))),Nat.zero_le _,hok,how1,rfl,rfl⟩ ?_
  rintro _ ρ22 _ ⟨p,out2,y2,q2,e23,hm31,hp,hok2,how2,hst2,rfl⟩
  obtain ⟨ρ32,rfl⟩:=Zo e23
  clear e23
  refine ZD hm31 ?_
  have ho2len:=hok2.len
  have hzi:=hm.sz (getElem_mem (show (out[a]).toNat<(mkL l).length by omega))
  have hsz:=VF (mkL l)[(out[a]).toNat]
  refine Zc<|JLn (Pu.lss rfl rfl)<|Za<|Zf<|ZF rfl (fun h33=>?_) (fun h33=>?_)
  ·have h33n:p<(sfR ((mkL l)[(out[a]).toNat])).length:=by omega
   have hpl:=h33n
   have hpx:=hm.ok _ (getElem_mem (show (out[a]).toNat<(mkL l).length by omega)) _ (getElem_mem h33n)
   refine Zk<|Zf<|Zh<|Zf<|Zd ?_
   obtain ⟨b34,cap34,row34,hv34,hm34,hs34⟩:=ho20.at (j:=p) (by rw [Zt];first | assumption | omega)
   rw [Z9 _ _ (by omega)] at hs34
   refine JLn (Zcw p ZV ty3 hv34 rfl rfl (by rw [Zt];first | assumption | omega))<|JLr (Zb ty3 rfl (ZcD 1 rfl hm34) (ZT hs34)<|JAn rfl<|Zc<|JLm v3<|JLM rfl<|Jc call54 rfl (fun hin=>WW _ _ _ _ (Yn ho3 (by omega) (hin 2 _ rfl))) rfl ?_)
   rintro _ _ ⟨rfl,rfl⟩
   refine JLM rfl<|ZA 4 [50,51,52,53] [(53,cond (decide ((sfR ((mkL l)[(out[a]).toNat]))[p]∈ptI l (frF l i).toNat)) (.bool (!(decide ((sfR ((mkL l)[(out[a]).toNat]))[p]∈out2)))) undef)] ?_ fun f36=>?_
   ·cases h35:(decide ((sfR ((mkL l)[(out[a]).toNat]))[p]∈ptI l (frF l i).toNat)) with
    | true=>
     replace h35:=dt h35
     refine JLm y2<|JLM rfl<|Jc call54 rfl (fun hin=>WW _ _ _ _ (Yn how2 (by omega) (hin 0 _ rfl))) rfl ?_
     rintro _ _ ⟨rfl,rfl⟩
     refine JLn (Pu.not rfl) ?_
     exact Za ⟨⟨rfl,trivial⟩,rfl⟩
    | false=>
     exact ZJ rfl ⟨rfl,trivial⟩
   refine JLn (ZcA rfl rfl rfl)<|Za<|Zs rfl (fun h37=>?_) (fun h37=>?_)
   ·obtain ⟨h37a,h37b⟩:=Xa h37
    replace h37a:=dt h37a
    replace h37b:=nt h37b
    replace h37b:=df h37b
    refine Zd<|JLm y2<|JLM rfl<|JLr (Zm (vs:=[iv ((sfR ((mkL l)[(out[a]).toNat]))[p])]) [[iv ((sfR ((mkL l)[(out[a]).toNat]))[p])]] ZV el3 rfl rfl (al1 rfl) rfl (by decide) fun b38 k38 ho38 hk38=>?_)
    have hlens39:∀ e∈([[iv ((sfR ((mkL l)[(out[a]).toNat]))[p])]]:List (List Value)),List.length e=1:=al1 rfl
    have hoks39:∀ e∈([[iv ((sfR ((mkL l)[(out[a]).toNat]))[p])]]:List (List Value)),okc e:=al1 (Zg rfl Zq)
    refine JLr (Zz (i:=1) (n:=1) (es':=[[iv ((sfR ((mkL l)[(out[a]).toNat]))[p])]]) ZV ZV (Or.inl rfl) el3 rfl rfl rfl how2 (fun F w m=>Src.row (((ZcD 0 rfl (by rw [hk38];exact mem_cons_self))).heap m) (ZE (Zw hlens39))) rfl hlens39 hoks39 (by decide) (by rw [Zt];omega) fun v39 k39 ho39=>JLa v39<|Za<|Zd<|JLn (Zcy rfl rfl (by omega))<|JLM rfl<|Za<|⟨_,?_,(p+1),(out2++[(sfR ((mkL l)[(out[a]).toNat]))[p]]),v39,k39,Zj rfl,(Sd (Sk (Sk (Sk Sub.nil)))),?_,?_,?_,?_,rfl⟩)
    ·omega
    ·omega
    ·exact hok2.add (by simp_all) hpx.1 hpx.2
    ·rw [WI];exact ho39
    rw [Wg hpl,← hst2,if_pos (by simp_all)]
   refine Zk<|Zd<|JLn (Zcy rfl rfl (by omega))<|JLM rfl<|Za<|⟨_,?_,(p+1),out2,y2,q2,Zj rfl,(Sk (Sk (Sk Sub.nil))),?_,?_,?_,?_,rfl⟩
   ·omega
   ·omega
   ·exact hok2
   ·exact how2
   rw [Wg hpl,← hst2,if_neg (by simp_all)]
  have h33n:(sfR ((mkL l)[(out[a]).toNat])).length≤p:=by omega
  refine Zu _ rfl<|Zd<|JLM rfl<|JLn (Zcy rfl rfl (by omega))<|JAn rfl<|⟨_,?_,(a+1),out2,y2,q2,Zj rfl,(Sk (Sd (Sk Sub.nil))),?_,?_,?_,?_,rfl⟩
  ·omega
  ·exact hok2
  ·have:=(Ro (P:=(fun x=>decide (x∈ptI l (frF l i).toNat))) (hm.ok _ (getElem_mem (show (out[a]).toNat<(mkL l).length by omega))) hok).2.length_le;rw [hst2,take_of_length_le (by omega)];omega
  ·exact how2
  rw [show (mkL l).length-a=((mkL l).length-(a+1))+1 by omega,RE hal,Tz hal,Nz (by omega)] at hinv;rw [hst2,take_of_length_le (by omega)];exact hinv
 have h13n:out.length≤a:=by omega
 refine Zu _ rfl<|Zc<|JLm y1<|JLa y1<|Za<|ZC y1 [q1] (Sk Sub.nil) (?_)
 rw [SE (by omega)] at hinv
 exact ⟨_,rfl,by rw [← hinv];exact how1⟩
set_option maxHeartbeats 4000000 in
theorem J5 (l:List Tm) (hg:okG l) (hm:okG (mkL l)) (gb r:Nat) (vm vc vf ff:Value) (hff:ff.oneCell'=true) (i:Int) (h0:0≤i) (h1:i<(l.length:Int)) (K:List Int) (H:Heap) (hr:GR H l vm vc vf) (hR:H r=some (gmO iV smV K (dgF l))) (hcov:CH l K (firstN l i.toNat)):CT prog 55 ⟨[pp gb 0,iv i,.map (some r)]⟩ [(BX gb [vm,vc,vf,ff] 91)] H (fun v N=>∃ u k f2,v=.tuple ⟨[u,iv (XV (YD (mkL l) (firstN l i.toNat)))]⟩∧N=[(BX gb [vm,vc,vf,f2] 91),k]∧f2.oneCell'=true∧Own 5 1 u (Yk (Sb (YD (mkL l) (firstN l i.toNat)))) k):=by
 have hfl:=Yw l
 have hml:=Z0 l
 have hm8:=hm.hi
 have hi:i.toNat<l.length:=by omega
 have hfe:frF l i=(firstN l i.toNat:Int):=by unfold frF;exact XO h0 h1
 have hfn:=YJ hi
 refine Zl func55 rfl rfl<|Zc<|JLr (Zr (l:=[.map (some r)]) rfl rfl fun b1=>JLA rfl<|JAn rfl<|Zc<|JLM rfl<|JLM rfl<|Jc call75 rfl (fun hin=>MM l hm gb vm vc vf ff _ (hin 1 _ rfl _ _ mem_cons_self) (GR.mono (Hle.hu _ _) hr) hff hg i h0 h1) rfl ?_)
 rintro v2 _ ⟨k2,rfl,ho2⟩
 obtain ⟨o,ho⟩:∃ o,o=Wd (mkL l) (frF l i):=⟨_,rfl⟩
 rw [← ho] at ho2
 rw [hfe] at ho
 have hok:okO (mkL l).length o:=by rw [ho];exact QB hm.ok (by omega) (nmk hi)
 have hol:=hok.len
 refine JLr (Zp (l:=[nS]) zeroValue45 rfl fun b3=>JLr (Ze 0 (vs:=[v2]) (l:=[v2]) Xm rfl rfl rfl (ZS ho2.one) rfl (Zg ho2.one Zq) rfl<|Za<|Zc<|JLM rfl<|JLq (.func (.func 103) ⟨[]⟩ ⟨[pp b3 0,pp b1 0]⟩) (Pu.makeFunc rfl rfl)<|JLq (pp gb 0) (Pu.nilCheck rfl)<|JLq (pp gb 3) (Ek rfl rfl)<|JLr (Ze 3 (vs:=[.func (.func 103) ⟨[]⟩ ⟨[pp b3 0,pp b1 0]⟩]) (l:=[vm,vc,vf,.func (.func 103) ⟨[]⟩ ⟨[pp b3 0,pp b1 0]⟩]) Aw rfl rfl rfl rfl rfl (Zg rfl Zq) rfl<|Za<|Zf<|Zd ?_)))
 refine JLM rfl<|JLq (.func (.func 104) ⟨[pp gb 0]⟩ ⟨[]⟩) (Pu.makeFunc rfl rfl)<|JAn rfl<|Zc<|JLr (Zb Xm rfl (Zcu 0 rfl) rfl ?_)
 obtain ⟨a4,cap4,hv4⟩:=ho2.sl
 rw [Zt] at hv4
 refine JLn (Zcv ZV hv4)<|JLq (.agg ⟨[iv 40,iv ((o.length:Int)),.string (⟨#[]⟩),nS]⟩) (Pu.build (pv:=[(0,iv 40),(1,iv ((o.length:Int)))]) (l:=[iv 40,iv ((o.length:Int)),.string (⟨#[]⟩),nS]) rfl (TH _ _))<|JLr (Zp (l:=[iv 0,iv 0,.string (⟨#[]⟩),nS]) zeroValue82 rfl fun b5=>JLr (Ze 0 (vs:=[iv 40,iv ((o.length:Int)),.string (⟨#[]⟩),nS]) (l:=[iv 40,iv ((o.length:Int)),.string (⟨#[]⟩),nS]) Y3 rfl rfl rfl rfl rfl (Zg rfl (Zg rfl (Zg rfl (Zg rfl Zq)))) rfl<|Za<|Zf<|Zc<|JLr (Zb Xm rfl (Zcu 1 rfl) rfl ?_)))
 obtain ⟨a6,cap6,hv6⟩:=ho2.sl
 rw [Zt] at hv6
 refine JLn (Zcv ZV hv6)<|JLM rfl<|Za<|Zh<|Zv (fun k ρ M=>∃ (j:Nat) (y1y:Value) (es1s:List (List Value)) (q1a q1b:Zi),ZR ρ [(0,pp gb 0),(6,nS),(7,iv 0),(9,.func (.func 104) ⟨[pp gb 0]⟩ ⟨[]⟩),(10,pp b5 0),(27,v2),(28,iv ((o.length:Int))),(29,iv ((j:Int)))]=ρ∧Sub [(BX b5 [iv 40,iv ((o.length:Int)),.string (⟨#[]⟩),y1y] 82),q1a,q1b,(BX b3 [v2] 45),k2,(BX b1 [.map (some r)] 95),(BX gb [vm,vc,vf,.func (.func 103) ⟨[]⟩ ⟨[pp b3 0,pp b1 0]⟩] 91)] M∧j≤o.length∧Own 82 4 y1y es1s q1a∧OIts ((o.take j).map (cdK (mkL l) o (smL (mkL l) o (fun k=>sha (Ya (YD (mkL l) k)))))) es1s q1b∧k=o.length-j) _ ⟨0,nS,[],[],[],Zj rfl,(Sk (Zcz (Zcz (Sk (Sk (Sk (Sk Sub.nil))))))),Nat.zero_le _,Own.nil,(by simpa [WH,Wk] using OIts.nil),rfl⟩ ?_
 rintro _ ρ7 _ ⟨j,y1y,es1s,q1a,q1b,e8,hm16,hj,how1w,hop1p,rfl⟩
 obtain ⟨ρ17,rfl⟩:=Zo e8
 clear e8
 refine ZD hm16<|Zc<|JLn (Pu.lss rfl rfl)<|Za<|Zf<|ZF rfl (fun h18=>?_) (fun h18=>?_)
 ·have h18n:j<o.length:=by omega
  have hjo:=h18n
  have hel:=Wv hop1p
  rw [length_map,length_take] at hel
  have hop:=hok.2 _ (getElem_mem h18n)
  have hrt:=PZ hg.mkL hok (smL (mkL l) o (fun k=>sha (Ya (YD (mkL l) k)))) hop.1 hop.2
  refine Zk<|Zf<|Zh<|Zf<|Zd ?_
  obtain ⟨b19,cap19,row19,hv19,hm19,hs19⟩:=ho2.at (j:=j) (by rw [Zt];first | assumption | omega)
  rw [Z9 _ _ (by omega)] at hs19
  refine JLn (Zcw j ZV ty3 hv19 rfl rfl (by rw [Zt];first | assumption | omega))<|JLr (Zb ty3 rfl (ZcD 4 rfl hm19) (ZT hs19)<|JAn rfl<|Zc<|JLM rfl<|JLq (pp gb 0) (Pu.nilCheck rfl)<|JLq (pp gb 0) (VW rfl rfl)<|JLq (pp gb 0) (T9 rfl rfl)<|JLr (Zb YZ rfl (Zcu 6 rfl) rfl<|JLM rfl ?_))
  obtain ⟨b20,o20,cap20,row20,T20,fr20,cs20,hv20,hb20,hs20,hE20⟩:=hr.m.get (o[j]).toNat (by omega)
  refine JLq (pp b20 (o20+(o[j]).toNat*36)) (Zcw (o[j]).toNat ZQ Zy hv20 rfl (by first | rfl | omega) (by omega))<|JLr (Zn Zy rfl (Zcx hb20) hs20<|JLM rfl<|Jc call57 rfl (fun hin=>Tx (TY o (kfV K (dgF l))) (fun _ _ _=>True) 104 [pp gb 0] [] call104 (Cl (by omega) _) _ _ _ (RT.mono (Hle.hu _ _) hE20) (by have:=hm.sz (getElem_mem (show (o[j]).toNat<(mkL l).length by omega));omega) (TJ (fun _ _ _=>trivial) _) (fun y a h hh ra _=>Ck l o K gb b3 b1 r vm vc vf v2 hr.m.one hr.c.one hr.f.one y a h ra (hh _ _ (hin 6 _ rfl _ _ mem_cons_self)) (hh _ _ (hin 3 _ rfl _ _ mem_cons_self)) (RIs.mono hh (Yn ho2 (by omega) (hin 4 _ rfl))) (hh _ _ (hin 5 _ rfl _ _ mem_cons_self)) (hh _ _ (Hle.hu _ _ _ _ hR)))) rfl ?_)
  rintro _ _ ⟨cs21,k21,rfl,rfl,hO21⟩;rw [Bg hg (by omega) ho (CF hcov) (getElem_mem hjo) (by omega)] at hO21
  refine Jc call105 rfl (fun hin=>I9 _ _ _ (hO21.rd (hin 0 _ rfl)) hrt) rfl ?_
  rintro _ _ ⟨cs22,k22,rfl,rfl,ho22⟩
  refine JLM rfl<|JLn (Pu.extract rfl rfl)<|JLn (Pu.extract rfl rfl)<|JLr (Zp (l:=[iv 0,iv 0,.string (⟨#[]⟩),nS]) zeroValue82 rfl fun b23=>JLr (Ze 0 (vs:=cs22) (l:=cs22) Y3 rfl rfl rfl rfl ho22.len ho22.ok (Yb (n:=4) rfl ho22.len)<|JAn rfl<|Zf<|Zc<|JLM rfl<|JLq (.bool false) (show Pu _ _ _ (.bool (!decide ((0:Int)=0))) from Pu.neq rfl rfl)<|Za ?_))
  refine Zs (b:=false) rfl (fun h=>absurd h (by simp)) (fun _=>Zk<|Zd<|JLq (pp b5 3) (YS rfl rfl)<|JLr (Zb Ww rfl (Zcu 3 rfl) rfl<|JLr (Zn Y3 rfl (Zcu 0 rfl) (ZE ho22.len)<|JLr (Zm (vs:=[.agg ⟨cs22⟩]) [cs22] Xl UH rfl rfl (al1 ho22.len) rfl (by decide) fun b24 k24 ho24 hk24=>?_))))
  have hlens25:∀ e∈([cs22]:List (List Value)),List.length e=4:=al1 ho22.len
  have hoks25:∀ e∈([cs22]:List (List Value)),okc e:=al1 ho22.ok
  refine JLr (Zz (i:=5) (n:=1) (es':=[cs22]) Xl Xl (Or.inl rfl) UH rfl rfl rfl how1w (fun F w m=>Src.row (((ZcD 0 rfl (by rw [hk24];exact mem_cons_self))).heap m) (ZE (Zw hlens25))) rfl hlens25 hoks25 (by decide) (by omega) fun v25 k25 ho25=>JLq (pp b5 3) (YS rfl rfl)<|JLr (Ze 4 (vs:=[v25]) (l:=[iv 40,iv ((o.length:Int)),.string (⟨#[]⟩),v25]) Ww rfl rfl rfl (ZS ho25.one) rfl (Zg ho25.one Zq) rfl<|Za<|Zd<|JLn (Zcy rfl rfl (by omega))<|JLM rfl<|Za<|⟨_,?_,(j+1),v25,(es1s++[cs22]),k25,(q1b++k22),Zj rfl,(Sd (Sd (Sub.cons 2 rfl (Sub.cons 2 rfl (ZcF (Sub.cons 2 rfl (Sk (Sd (Sk (Sk (Sk (Sk Sub.nil)))))))))))),?_,?_,?_,rfl⟩))
  ·omega
  ·omega
  ·exact ho25
  rw [Lu h18n];exact OIts.snoc ho22 hop1p
 have h18n:o.length≤j:=by omega
 refine Zu _ rfl<|Zf ?_
 rw [take_of_length_le h18n] at hop1p
 have hOI:OIt (cdI (mkL l) o (fun k=>sha (Ya (YD (mkL l) k)))) [iv 40,iv ((o.length:Int)),.string (⟨#[]⟩),y1y] (q1a++q1b):=OIt_mk.2 ⟨_,_,_,_,rfl,by unfold inI;omega,by unfold inI;omega,how1w,hop1p,rfl,by rw [length_map];omega⟩
 have hgc:=KH hg.mkL hok (fun k=>sha (Ya (YD (mkL l) k)))
 refine Zd<|JLr (Zn Y3 rfl (Zcu 0 rfl) rfl<|Jc call106 rfl (fun hin=>Lk _ _ _ (hOI.rd (ZcX (hin 1 _ rfl) (hin 2 _ rfl))) hgc.1 (by omega) (by omega)) rfl ?_)
 rintro _ _ ⟨u26,k26,rfl,rfl,ho26⟩
 refine JLn (Pu.extract rfl rfl)<|JLn (Pu.extract rfl rfl)<|JLa u26<|JAn rfl<|ZH<|⟨.tuple ⟨[u26,iv (XV (cdI (mkL l) o (fun k=>sha (Ya (YD (mkL l) k)))))]⟩,[(BX gb [vm,vc,vf,.func (.func 103) ⟨[]⟩ ⟨[pp b3 0,pp b1 0]⟩] 91),k26],ZcE rfl (RV.tmp rfl) (RV.tmp rfl),(Sub.cons 7 rfl (Sk Sub.nil)),?_⟩
 have hce:=EF hm.ok (i:=firstN l i.toNat) (by omega)
 rw [← ho] at hce
 exact ⟨_,_,_,by rw [hce],rfl,rfl,by rw [hce];exact ho26⟩
set_option maxHeartbeats 1000000 in
theorem EU (l:List Tm) (v:Value) (H:Heap) (hv:Hs.rdS RT 36 H v l) (hz:ZL l≤400000):CT prog 100 ⟨[v]⟩ [] H (fun v N=>∃ k,N=[k]∧OII (XQ l) v k):=by
 have hln:=XN l
 refine Zl func100 rfl rfl<|Zc<|JAn rfl<|Zc<|JAn rfl<|Zf<|Zc<|JLm v ?_
 obtain ⟨a1,cap1,hv1⟩:=hv.sl
 have hle1:=hv.le
 refine JLn (Zcv ZQ hv1)<|JLM rfl<|Za<|Zh<|Zv (fun k ρ M=>∃ (j:Nat) (y1:Value) (q1 q2:Zi) (es:List (List Value)),ZR ρ [(2,nS),(3,y1),(7,v),(8,iv ((l.length:Int))),(9,iv ((j:Int)))]=ρ∧Sub [q1,q2] M∧j≤l.length∧Own 45 1 y1 es q1∧OIIs ((XQ l).take j) es q2∧k=l.length-j) _ ⟨0,nS,[],[],[],Zj rfl,(Zcz (Zcz Sub.nil)),Nat.zero_le _,Own.nil,⟨rfl,rfl⟩,rfl⟩ ?_
 rintro _ ρ2 _ ⟨j,y1,q1,q2,es,e3,hm8,hj,how,hos,rfl⟩
 obtain ⟨ρ9,rfl⟩:=Zo e3
 clear e3
 refine ZD hm8 ?_
 have hlen:=hv.le
 have hel:=Ri hos
 rw [length_take,WX] at hel
 refine Zc<|JLn (Pu.lss rfl rfl)<|Za<|Zf<|ZF rfl (fun h10=>?_) (fun h10=>?_)
 ·have h10n:j<l.length:=by omega
  have hs1:=Ym _ (getElem_mem h10n)
  have hs2:=Qw l[j]
  have hs3:=J9 l[j]
  refine Zk<|Zf<|Zh<|Zf<|Zd ?_
  obtain ⟨b11,o11,cap11,row11,T11,fr11,cs11,hv11,hb11,hs11,hE11⟩:=hv.get j (by omega)
  refine JLn (Zcw j ZQ Zy hv11 rfl rfl (by omega))<|JLr (Zn Zy rfl (Zcx hb11) hs11<|JLr (Zp (l:=pkT 0 0 zS nS nS) zeroValue51 rfl fun b12=>JLr (Ze 0 (vs:=cs11) (l:=cs11) Zy rfl rfl rfl rfl (ZB hE11) (XA hE11) (Yb (n:=36) rfl (ZB hE11))<|Za<|Zc<|JLr (Zn Zy rfl (Zcu 0 rfl) (ZE (ZB hE11))<|Jc call121 rfl (fun hin=>Rs _ _ _ (RT.mono (Hle.hu _ _) hE11) (by have:=Ym _ (getElem_mem h10n);omega)) rfl ?_))))
  rintro v13 _ ⟨k13,rfl,ho13⟩
  refine JLa v13<|Za<|Zc<|JLm v13<|ZG 0 rfl call149 rfl rfl (fun hin=>GA _ _ _ _ ho13 (by first | omega | (rw [List.length_mergeSort];omega))) rfl ?_
  rintro _ _ ⟨rfl,k14,rfl,ho14⟩
  refine Za<|Zd<|JLm y1<|JLm v13<|ZG 0 rfl call150 rfl rfl (fun hin=>Lp _ _ _ _ ho14 (by first | omega | (rw [List.length_mergeSort];omega))) rfl ?_
  rintro v15 _ ⟨k15,rfl,ho15⟩
  refine JLr (Zm (vs:=[v15]) [[v15]] R7 Bb rfl (congr (congrArg List.cons (ZS ho15.one)) rfl) (al1 rfl) rfl (by decide) fun b16 k16 ho16 hk16=>?_)
  have hlens17:∀ e∈([[v15]]:List (List Value)),List.length e=1:=al1 rfl
  have hoks17:∀ e∈([[v15]]:List (List Value)),okc e:=al1 (Zg ho15.one Zq)
  refine JLr (Zz (i:=3) (n:=1) (es':=[[v15]]) R7 R7 (Or.inl rfl) Bb rfl rfl rfl how (fun F w m=>Src.row (((ZcD 0 rfl (by rw [hk16];exact mem_cons_self))).heap m) (ZE (Zw hlens17))) rfl hlens17 hoks17 (by decide) (by omega) fun v17 k17 ho17=>JLa v17<|Za<|Zd<|JLn (Zcy rfl rfl (by omega))<|JLM rfl<|Za<|⟨_,?_,(j+1),v17,k17,(q2++k15),(es++[[v15]]),Zj rfl,(Sd (Sub.cons 2 rfl (ZcF (Sub.cons 2 rfl (Sk Sub.nil))))),?_,?_,?_,rfl⟩)
  ·omega
  ·omega
  ·exact ho17
  rw [Ho h10n];exact hos.snoc ho15 (by have:=hs3;unfold clP at this;omega)
 have h10n:l.length≤j:=by omega
 refine Zu _ rfl<|Zc<|JLm y1<|JLa y1<|Za<|ZC y1 [q1++q2] (ZcF (Sk (Sk Sub.nil))) (?_)
 rw [take_of_length_le (by rw [WX];exact h10n)] at hos
 exact ⟨_,rfl,OII.mk how hos (by rw [WX];omega)⟩
theorem AV (c:Int) (tk:List Bool) (pt:List Int) (vp:Value) (bT bQ:Nat) (H:Heap) (hT:H bT=some (.cells ⟨bls tk⟩ 93 (0,0))) (htk:tk.length=8) (hQ:H bQ=some (.cells ⟨[vp]⟩ 45 (0,0))) (hp:Hs.rdS RI 1 H vp pt) (h0:0≤c) (h1:c<8):CT prog 126 ⟨[iv c,pp bT 0,pp bQ 0]⟩ [] H (fun v N=>v=.bool (tk.getD c.toNat false||decide (c∈pt))∧N=[]):=by
 refine Zl func126 rfl rfl<|Zc<|JAn rfl<|Zc<|JLM rfl<|JLq (pp bT (0+c.toNat*1)) (ZcB c.toNat LK ty4 rfl rfl (by first | rfl | omega) (by omega))<|JLr (Zb ty4 rfl (Zcx hT) (YA (by have hbl:List.length tk=8:=htk;omega))<|JLM rfl<|ZA 3 [9,10,11] [(11,cond (tk.getD c.toNat false) undef (.bool (decide (c∈pt))))] ?_ fun f2=>?_)
 ·cases h1:(tk.getD c.toNat false) with
  | false=>
   refine JLr (Zb Xm rfl (Zcx hQ) rfl<|JLM rfl<|Jc call54 rfl (fun hin=>WW _ _ _ _ (RIs.mono (Hle.hu _ _) hp)) rfl ?_)
   rintro _ _ ⟨rfl,rfl⟩
   exact Za ⟨⟨rfl,trivial⟩,rfl⟩
  | true=>
   exact ZJ rfl ⟨rfl,trivial⟩
 refine JLn (ZcC rfl rfl rfl)<|JAn rfl<|ZC (.bool ((tk.getD c.toNat false)||(decide (c∈pt)))) [] Sub.nil (?_)
 exact ⟨rfl,rfl⟩
set_option maxHeartbeats 4000000 in
theorem Fd (l:List Tm) (hm:okG (mkL l)) (gb:Nat) (vm vc vf ff:Value) (H:Heap) (hG:H gb=some (.cells ⟨[vm,vc,vf,ff]⟩ 91 (0,0))) (hr:GR H l vm vc vf) (hff:ff.oneCell'=true):CT prog 81 ⟨[pp gb 0]⟩ [] H (fun v N=>∃ k,N=[k]∧OII (paL l) v k):=by
 have hfl:=Yw l
 have hml:=Z0 l
 have hm8:=hm.hi
 have hcl:=WX (mkL l)
 refine Zl func81 rfl rfl<|Zc<|JAn rfl<|Zc<|JAn rfl<|Zc<|JLr (Zp (l:=bls (replicate 8 false)) zeroValue93 rfl fun b1=>Za ?_)
 refine Zh<|Zv (fun k ρ M=>∃ (i:Nat) (tk:List Bool) (ll:List (List Int)) (y1:Value) (q1 q2:Zi) (es:List (List Value)),ZR ρ [(0,pp gb 0),(2,nS),(3,y1),(4,pp b1 0)]=ρ∧Sub [(BX b1 (bls tk) 93),q1,q2] M∧runP l i=(tk,ll)∧Own 45 1 y1 es q1∧OIIs ll es q2∧k=XJ tk) _ ⟨0,replicate 8 false,[],nS,[],[],[],Zj rfl,(Sk (Zcz (Zcz Sub.nil))),rfl,Own.nil,⟨rfl,rfl⟩,rfl⟩ ?_
 rintro _ ρ2 _ ⟨i,tk,ll,y1,q1,q2,es,e3,hm7,hst,how,hos,rfl⟩
 obtain ⟨ρ8,rfl⟩:=Zo e3
 clear e3
 refine ZD hm7 ?_
 have htk:=D2 hst
 have hel:=Ri hos
 have hllb:=Pc (l:=l) (by omega) i
 rw [hst] at hllb
 simp only at hllb
 refine Zh<|BT<|Zc<|JAn rfl<|Zf<|BU<|Zf<|Zc<|JLM rfl<|JLq (pp gb 0) (Pu.nilCheck rfl) ?_
 refine JLq (pp gb 2) (Tf rfl rfl)<|JLr (Zb Xm rfl (Zcx hG) rfl ?_)
 obtain ⟨a9,cap9,hv9⟩:=hr.f.sl
 have hle9:=hr.f.le
 refine JLn (Zcv ZV hv9)<|JLM rfl<|Za<|Zh<|Zv (fun k ρ M=>∃ (j:Nat),ZR ρ [(0,pp gb 0),(2,nS),(3,y1),(4,pp b1 0),(5,.bool false),(16,vf),(17,iv (((frI l).length:Int))),(18,iv ((j:Int)))]=ρ∧Sub [(BX b1 (bls tk) 93),q1,q2] M∧j≤(frI l).length∧(∀ a,a<j→goodB l tk a=false)∧k=(frI l).length-j) _ ⟨0,Zj rfl,(Sk (Sk (Sk Sub.nil))),Nat.zero_le _,fun a ha=>absurd ha (by omega),rfl⟩ ?_
 rintro _ ρ10 _ ⟨j,e11,hm19,hj,hno,rfl⟩
 obtain ⟨ρ20,rfl⟩:=Zo e11
 clear e11
 refine ZD hm19 ?_
 have hptb:=IU l j
 refine Zc<|JLn (Pu.lss rfl rfl)<|Za<|Zf<|ZF rfl (fun h21=>?_) (fun h21=>?_)
 ·have h21n:j<(frI l).length:=by omega
  refine Zk<|Zf<|Zh<|Zc<|JLM rfl ?_
  obtain ⟨b22,o22,cap22,row22,T22,fr22,cs22,hv22,hb22,hs22,hE22⟩:=hr.f.get j (by omega)
  refine JLn (Zcw j ZV ty3 hv22 rfl rfl (by omega))<|JLr (Zb ty3 rfl (Zcx hb22) (ZT ((show cs22=[Value.int .i64 ((frI l)[j])] from hE22)▸hs22))<|JLA rfl<|JAn rfl<|Zf<|Zc<|JLM rfl<|JLM rfl<|JLn (Pu.neq rfl rfl)<|JLM rfl<|ZA 3 [27,28,29] [(29,cond (!decide ((j:Int)=(frI l)[j])) undef (.bool (tk.getD ((j:Int)).toNat false)))] ?_ fun f24=>?_)
  ·cases h23:(!decide ((j:Int)=(frI l)[j])) with
   | false=>
    replace h23:=nf h23
    replace h23:=dt h23
    refine JLM rfl<|JLq (pp b1 (0+((j:Int)).toNat*1)) (ZcB ((j:Int)).toNat LK ty4 rfl rfl (by first | rfl | omega) (by omega))<|JLr (Zb ty4 rfl (Zcu 0 rfl) (YA (by have hbl:List.length tk=8:=htk;omega)) ?_)
    exact Za ⟨⟨rfl,trivial⟩,rfl⟩
   | true=>
    exact ZJ rfl ⟨rfl,trivial⟩
  refine JLn (ZcC rfl rfl rfl)<|Za<|Zs rfl (fun h25=>?_) (fun h25=>?_)
  ·refine Zu _ rfl<|Zd<|JLn (Zcy rfl rfl (by omega))<|JLM rfl<|Za<|⟨_,?_,(j+1),Zj rfl,(Sk (Sk (Sk Sub.nil))),?_,?_,rfl⟩
   ·omega
   ·omega
   intro a ha;by_cases h1:a<j;exact hno a h1;(obtain rfl:a=j:=by omega);exact CS (show a<l.length by omega) (by simpa using h25)
  obtain ⟨h25a,h25b⟩:=orF h25
  replace h25a:=nf h25a
  replace h25a:=dt h25a
  refine Zk<|Zc<|JLM rfl<|JLM rfl<|Jc call124 rfl (fun hin=>Jn l hm gb vm vc vf ff _ (Hle.hu _ _ _ _ hG) (GR.mono (Hle.hu _ _) hr) hff ((j:Int)) (by omega) (by omega)) rfl ?_
  rintro v26 _ ⟨k26,rfl,ho26⟩;rw [Int.toNat_natCast] at ho26
  refine JLr (Zp (l:=[nS]) zeroValue45 rfl fun b27=>JLr (Ze 0 (vs:=[v26]) (l:=[v26]) Xm rfl rfl rfl (ZS ho26.one) rfl (Zg ho26.one Zq) rfl<|Za<|Zf<|Zc<|JLr (Zb Xm rfl (Zcu 0 rfl) rfl ?_)))
  obtain ⟨a28,cap28,hv28⟩:=ho26.sl
  rw [Zt] at hv28
  refine JLn (Zcv ZV hv28)<|JLM rfl<|Za<|Zh<|Zv (fun k ρ M=>∃ (p:Nat),ZR ρ [(0,pp gb 0),(2,nS),(3,y1),(4,pp b1 0),(5,.bool false),(8,pp b27 0),(16,vf),(17,iv (((frI l).length:Int))),(18,iv ((j:Int))),(34,v26),(35,iv (((ptI l j).length:Int))),(36,iv ((p:Int)))]=ρ∧Sub [(BX b27 [v26] 45),k26,(BX b1 (bls tk) 93),q1,q2] M∧p≤(ptI l j).length∧(∀ k∈(ptI l j).take p,clOK l tk j k=true)∧k=(ptI l j).length-p) _ ⟨0,Zj rfl,(Sk (Sk (Sk (Sk (Sk Sub.nil))))),Nat.zero_le _,fun k hk=>absurd hk (by simp),rfl⟩ ?_
  rintro _ ρ29 _ ⟨p,e30,hm42,hp,hck,rfl⟩
  obtain ⟨ρ43,rfl⟩:=Zo e30
  clear e30
  refine ZD hm42<|Zc<|JLn (Pu.lss rfl rfl)<|Za<|Zf<|ZF rfl (fun h44=>?_) (fun h44=>?_)
  ·have h44n:p<(ptI l j).length:=by omega
   have hpx:=Sx (getElem_mem h44n)
   have hcn:clG (mkL l) ((ptI l j)[p]).toNat=(XQ (mkL l))[((ptI l j)[p]).toNat]:=Xf (by omega)
   refine Zk<|Zf<|Zh<|Zf<|Zd ?_
   obtain ⟨b45,cap45,row45,hv45,hm45,hs45⟩:=ho26.at (j:=p) (by rw [Zt];first | assumption | omega)
   rw [Z9 _ _ (by omega)] at hs45
   refine JLn (Zcw p ZV ty3 hv45 rfl rfl (by rw [Zt];first | assumption | omega))<|JLr (Zb ty3 rfl (ZcD 1 rfl hm45) (ZT hs45)<|JAn rfl<|Zc<|JLM rfl<|JLq (pp gb 0) (Pu.nilCheck rfl)<|JLq (pp gb 0) (VW rfl rfl)<|JLq (pp gb 1) (Kr rfl rfl)<|JLr (Zb DH rfl (Zcx hG) rfl<|JLM rfl ?_))
   obtain ⟨b46,o46,cap46,row46,T46,fr46,cs46,hv46,hb46,hs46,hE46⟩:=hr.c.get ((ptI l j)[p]).toNat (by omega)
   obtain ⟨vb46,rfl,hvb46⟩:=hE46
   refine JLq (pp b46 (o46+((ptI l j)[p]).toNat*1)) (Zcw ((ptI l j)[p]).toNat R7 Xm hv46 rfl (by first | rfl | omega) (by omega))<|JLr (Zb Xm rfl (Zcx hb46) (ZT hs46)<|JLq (.func (.func 126) ⟨[]⟩ ⟨[pp b1 0,pp b27 0]⟩) (Pu.makeFunc rfl rfl)<|Jc call125 rfl (fun hin=>Hj 126 [] _ call126 (fun c=>tk.getD c.toNat false||decide (c∈ptI l j)) _ _ _ (RIs.mono (Hle.hu _ _) hvb46) (fun a ha h hh=>by have hcx:=Sg hm (i:=((ptI l j)[p]).toNat) (x:=((XQ (mkL l))[((ptI l j)[p]).toNat])[a]) (by rw [hcn];exact getElem_mem ha);exact AV _ tk _ _ _ _ h (hh _ _ (hin 2 _ rfl _ _ mem_cons_self)) htk (hh _ _ (hin 0 _ rfl _ _ mem_cons_self)) (RIs.mono hh (Yn ho26 (by omega) (hin 1 _ rfl))) hcx.1 (by omega))) rfl ?_)
   rintro _ _ ⟨rfl,rfl⟩
   refine JLn (Pu.not rfl)<|Za<|Zs rfl (fun h48=>?_) (fun h48=>?_)
   ·replace h48:=nt h48
    refine Zu _ rfl<|Zd<|JLn (Zcy rfl rfl (by omega))<|JLM rfl<|Za<|⟨_,?_,(j+1),Zj rfl,(Sd (Sd (Sk (Sk (Sk Sub.nil))))),?_,?_,rfl⟩
    ·omega
    ·omega
    intro a ha;by_cases h1:a<j;exact hno a h1;(obtain rfl:a=j:=by omega);exact AP h44n (by unfold clOK;rw [hcn];simpa using h48)
   replace h48:=nf h48
   refine Zk<|Zd<|JLn (Zcy rfl rfl (by omega))<|JLM rfl<|Za<|⟨_,?_,(p+1),Zj rfl,(Sk (Sk (Sk (Sk (Sk Sub.nil))))),?_,?_,rfl⟩
   ·omega
   ·omega
   intro k hk;rw [take_succ_eq_append_getElem h44n,mem_append,mem_singleton] at hk;rcases hk with hk | rfl;exact hck k hk;unfold clOK;rw [hcn];simpa using h48
  have h44n:(ptI l j).length≤p:=by omega
  refine Zu _ rfl<|Zf<|Zc<|JLr (Zb Xm rfl (Zcu 0 rfl) rfl ?_)
  obtain ⟨a49,cap49,hv49⟩:=ho26.sl
  rw [Zt] at hv49
  refine JLn (Zcv ZV hv49)<|JLM rfl<|Za<|Zh ?_
  have hgood:goodB l tk j=true:=goodB_iff.2 ⟨(Ak (show j<l.length by omega) (by simpa using h25)).1,(Ak (show j<l.length by omega) (by simpa using h25)).2,Co hck h44n⟩
  refine Zv (fun k ρ M=>∃ (p2:Nat) (tk2:List Bool),ZR ρ [(0,pp gb 0),(2,nS),(3,y1),(4,pp b1 0),(5,.bool false),(8,pp b27 0),(16,vf),(17,iv (((frI l).length:Int))),(18,iv ((j:Int))),(52,v26),(53,iv (((ptI l j).length:Int))),(54,iv ((p2:Int)))]=ρ∧Sub [(BX b1 (bls tk2) 93),(BX b27 [v26] 45),k26,q1,q2] M∧p2≤(ptI l j).length∧tk2=TN tk ((ptI l j).take p2)∧k=(ptI l j).length-p2) _ ⟨0,tk,Zj rfl,(Sub.cons 2 rfl (Sk (Sk (Sk (Sk Sub.nil))))),Nat.zero_le _,rfl,rfl⟩ ?_
  rintro _ ρ50 _ ⟨p2,tk2,e51,hm63,hp2,htk2e,rfl⟩
  obtain ⟨ρ64,rfl⟩:=Zo e51
  clear e51
  refine ZD hm63 ?_
  have htk2:tk2.length=8:=by rw [htk2e,Q6];exact htk
  refine Zc<|JLn (Pu.lss rfl rfl)<|Za<|Zf<|ZF rfl (fun h65=>?_) (fun h65=>?_)
  ·have h65n:p2<(ptI l j).length:=by omega
   have hpx2:=Sx (getElem_mem h65n)
   refine Zk<|Zf<|Zh<|Zf<|Zd ?_
   obtain ⟨b66,cap66,row66,hv66,hm66,hs66⟩:=ho26.at (j:=p2) (by rw [Zt];first | assumption | omega)
   rw [Z9 _ _ (by omega)] at hs66
   refine JLn (Zcw p2 ZV ty3 hv66 rfl rfl (by rw [Zt];first | assumption | omega))<|JLr (Zb ty3 rfl (ZcD 2 rfl hm66) (ZT hs66)<|JAn rfl<|Zd<|JLM rfl<|JLq (pp b1 (0+((ptI l j)[p2]).toNat*1)) (ZcB ((ptI l j)[p2]).toNat LK ty4 rfl rfl (by first | rfl | omega) (by omega))<|JLr (Ze 0 (vs:=[.bool true]) (l:=bls (tk2.set ((ptI l j)[p2]).toNat true)) ty4 rfl rfl rfl rfl rfl (Zg rfl Zq) (Ra (by have hbl:List.length tk2=8:=htk2;omega))<|Za<|Zd<|JLn (Zcy rfl rfl (by omega))<|JLM rfl<|Za ?_))
   refine ⟨_,?_,(p2+1),(tk2.set ((ptI l j)[p2]).toNat true),Zj rfl,(Sk (Sk (Sk (Sk (Sk Sub.nil))))),?_,?_,rfl⟩
   ·omega
   ·omega
   rw [IJ _ _ h65n,← htk2e]
  have h65n:(ptI l j).length≤p2:=by omega
  refine Zu _ rfl<|Zc<|JLm y1<|JLr (Zb Xm rfl (Zcu 1 rfl) rfl<|JLr (Zm (vs:=[v26]) [[v26]] R7 Bb rfl (congr (congrArg List.cons (ZS ho26.one)) rfl) (al1 rfl) rfl (by decide) fun b67 k67 ho67 hk67=>?_))
  have hlens68:∀ e∈([[v26]]:List (List Value)),List.length e=1:=al1 rfl
  have hoks68:∀ e∈([[v26]]:List (List Value)),okc e:=al1 (Zg ho26.one Zq)
  refine JLr (Zz (i:=4) (n:=1) (es':=[[v26]]) R7 R7 (Or.inl rfl) Bb rfl rfl rfl how (fun F w m=>Src.row (((ZcD 0 rfl (by rw [hk67];exact mem_cons_self))).heap m) (ZE (Zw hlens68))) rfl hlens68 hoks68 (by decide) (by omega) fun v68 k68 ho68=>JLa v68<|Za<|Zc<|JAn rfl<|Zu _ rfl<|Zc<|JLM rfl<|JLq (.bool false) (show Pu _ _ _ (.bool (!true)) from Pu.not rfl)<|Za ?_)
  refine Zs (b:=false) rfl (fun h=>absurd h (by simp)) (fun _=>Zk<|⟨_,?_,(i+1),tk2,(ll++[ptI l j]),v68,k68,(q2++k26),(es++[[v26]]),Zj rfl,(Sd (Sk (Sd (Sub.cons 1 rfl (ZcF (Sub.cons 1 rfl (Sk Sub.nil))))))),?_,?_,?_,rfl⟩)
  ·have z:=QZ (s:=(tk,ll)) (by omega) htk (show j<l.length by omega) hgood;rw [htk2e,take_of_length_le h65n];exact z
  ·rw [runP,hst,V1 (show j<l.length by omega) hgood hno,htk2e,take_of_length_le h65n]
  ·exact ho68
  exact hos.snoc ho26 (by omega)
 have h21n:(frI l).length≤j:=by omega
 refine Zu _ rfl<|Zc<|JLM rfl<|JLq (.bool true) (show Pu _ _ _ (.bool (!false)) from Pu.not rfl)<|Za<|Zs (b:=true) rfl (fun _=>?_) (fun h=>absurd h (by simp))
 refine Zc<|JLm y1<|JLa y1<|Za<|ZC y1 [q1++q2] (ZcF (Sd (Sk (Sk Sub.nil)))) (?_)
 have hfix:stepP l (runP l i)=runP l i:=U1 fun a ha=>by rw [hst];exact hno a (by omega)
 exact ⟨_,rfl,by rw [Fe (by omega) hfix,hst];exact OII.mk how hos (by show ll.length≤1000000;omega)⟩
set_option maxHeartbeats 4000000 in
theorem FU (l:List Tm) (hg:okG l) (hm:okG (mkL l)) (gb:Nat) (vm vc vf ff:Value) (hff:ff.oneCell'=true) (W:List Int→Bool) (hW:okW l W) (g:Nat) (fs cv:List Value) (hcall:∀ args w,(callFunc g args).run prog w=.ok (.enter g args) w) (H:Heap) (hGK:GK H) (hr:GR H l vm vc vf) (hw:∀ (j:Nat) (hj:j<(paL l).length) (u:Value) (h:Heap),Hle H h→Hs.rdS RI 1 h u (paL l)[j]→CT prog g ⟨fs++[u]++cv⟩ [] h (fun v N=>v=.bool (W (paL l)[j])∧N=[])):CT prog 52 ⟨[pp gb 0,.func (.func g) ⟨fs⟩ ⟨cv⟩]⟩ [(BX gb [vm,vc,vf,ff] 91)] H (fun v N=>∃ mv kk f2,v=.tuple ⟨[mv,iv (if knE l W=true then 11 else 0)]⟩∧N=[(BX gb [vm,vc,vf,f2] 91),kk]∧f2.oneCell'=true∧(knE l W=false→∃ r,mv=.map (some r)∧kk=gmC iV smV r (knW l W (paL l).length) (dgF l))):=by
 have hpl8:=AU hg
 have hml:=Z0 l
 have hm8:=hm.hi
 refine Zl func52 rfl rfl<|Zc<|JLa ((.map none))<|JAn rfl<|Zc<|JLr (Si iV smV (dgF l) fun r1=>JAn rfl<|Zf<|Zf ?_)
 refine Zd<|JLM rfl<|Jc call81 rfl (fun hin=>Fd l hm gb vm vc vf ff _ (hin 1 _ rfl _ _ mem_cons_self) (GR.mono (Hle.hu _ _) hr) hff) rfl ?_
 rintro v2 _ ⟨k2,rfl,ho2⟩
 obtain ⟨a2,cap2,hv2⟩:=ho2.sl;subst hv2
 refine JLn (Zcv R7 rfl)<|JLM rfl<|Za<|TT (i:=0) rfl ?_
 intro H hh hkH
 have hpa:=ho2.rd hkH
 have hr:=GR.mono hh hr
 have hGK:=GK.mono hh hGK
 have hw:=fun j hj u h (hle:Hle H h)=>hw j hj u h (Hle.trans hh hle)
 refine Zh<|Zv (fun k ρ M=>∃ (j:Nat) (K:List Int) (f2:Value),ZR ρ [(0,pp gb 0),(1,.func (.func g) ⟨fs⟩ ⟨cv⟩),(4,(.map none)),(5,iv 0),(6,.map (some r1)),(15,.slice a2 (paL l).length cap2),(16,iv (((paL l).length:Int))),(17,iv ((j:Int)))]=ρ∧Sub [(BX gb [vm,vc,vf,f2] 91),gmC iV smV r1 K (dgF l)] M∧j≤(paL l).length∧K=knW l W j∧(∀ n∈K,XV (YD (mkL l) n.toNat)=0)∧f2.oneCell'=true∧k=(paL l).length-j) _ ⟨0,[],ff,Zj rfl,(Sub.cons 1 rfl (Sk Sub.nil)),Nat.zero_le _,(by unfold knW;simp),(fun n hn=>absurd hn (by simp)),hff,rfl⟩ ?_
 rintro _ ρ3 _ ⟨j,K,f2,e4,hm12,hj,hK,hne,hf2,rfl⟩
 obtain ⟨ρ13,rfl⟩:=Zo e4
 clear e4
 refine ZD hm12<|Zc<|JLn (Pu.lss rfl rfl)<|Za<|Zf<|ZF rfl (fun h14=>?_) (fun h14=>?_)
 ·have h14n:j<(paL l).length:=by omega
  refine Zk<|Zf<|Zh<|Zf<|Zd ?_
  obtain ⟨b15,o15,cap15,row15,T15,fr15,cs15,hv15,hb15,hs15,hE15⟩:=hpa.get j (by omega)
  obtain ⟨vb15,rfl,hvb15⟩:=hE15
  refine JLn (Zcw j R7 Xm hv15 rfl rfl (by omega))<|JLr (Zb Xm rfl (Zcx hb15) (ZT hs15)<|JLa vb15<|Za<|Zf<|Zc<|JLM rfl<|JLm vb15<|Jc hcall rfl (fun hin=>hw _ h14n _ _ (Hle.hu _ _) (RIs.mono (Hle.hu _ _) hvb15)) rfl ?_)
  rintro _ _ ⟨rfl,rfl⟩
  refine JLn (Pu.not rfl)<|Za<|Zs rfl (fun h16=>?_) (fun h16=>?_)
  ·replace h16:=nt h16
   refine Zu _ rfl<|Zd<|JLn (Zcy rfl rfl (by omega))<|JLM rfl<|Za<|⟨_,?_,(j+1),K,f2,Zj rfl,(Sk (Sk Sub.nil)),?_,?_,?_,?_,rfl⟩
   ·omega
   ·omega
   ·exact A9 h14n hK (by simpa using h16)
   ·exact hne
   exact hf2
  replace h16:=nf h16
  refine Zk<|Zc<|JLm vb15 ?_
  obtain ⟨a17,cap17,hv17⟩:=hvb15.sl
  have hle17:=hvb15.le
  refine JLn (Zcv ZV hv17)<|JLM rfl<|Za<|Zh<|Zv (fun k ρ M=>∃ (q:Nat) (K2:List Int) (f3:Value),ZR ρ [(0,pp gb 0),(1,.func (.func g) ⟨fs⟩ ⟨cv⟩),(4,(.map none)),(5,iv 0),(6,.map (some r1)),(15,.slice a2 (paL l).length cap2),(16,iv (((paL l).length:Int))),(17,iv ((j:Int))),(25,vb15),(26,iv ((((paL l)[j]).length:Int))),(27,iv ((q:Int)))]=ρ∧Sub [(BX gb [vm,vc,vf,f3] 91),gmC iV smV r1 K2 (dgF l)] M∧q≤((paL l)[j]).length∧K2=K++((paL l)[j]).take q∧(∀ n∈K2,XV (YD (mkL l) n.toNat)=0)∧f3.oneCell'=true∧k=((paL l)[j]).length-q) _ ⟨0,K,f2,Zj rfl,(Sk (Sk Sub.nil)),Nat.zero_le _,(by simp),hne,hf2,rfl⟩ ?_
  rintro _ ρ18 _ ⟨q,K2,f3,e19,hm30,hq,hK2,hne2,hf3,rfl⟩
  obtain ⟨ρ31,rfl⟩:=Zo e19
  clear e19
  refine ZD hm30<|Zc<|JLn (Pu.lss rfl rfl)<|Za<|Zf<|ZF rfl (fun h32=>?_) (fun h32=>?_)
  ·have h32n:q<((paL l)[j]).length:=by omega
   have hql:=h32n
   have hqm:=L1 hg h14n h32n
   refine Zk<|Zf<|Zh<|Zf<|Zd ?_
   obtain ⟨b33,o33,cap33,row33,T33,fr33,cs33,hv33,hb33,hs33,hE33⟩:=hvb15.get q (by omega)
   refine JLn (Zcw q ZV ty3 hv33 rfl rfl (by omega))<|JLr (Zb ty3 rfl (Zcx hb33) (ZT ((show cs33=[Value.int .i64 (((paL l)[j])[q])] from hE33)▸hs33))<|JAn rfl<|Zc<|JLM rfl<|JLM rfl<|JLM rfl<|ZG 0 rfl call55 rfl rfl (fun hin=>J5 l hg hm gb r1 vm vc vf f3 hf3 (((paL l)[j])[q]) (by omega) (by omega) K2 _ (GR.mono (Hle.hu _ _) hr) (hin 0 _ rfl _ _ mem_cons_self) (A8 hg hW (by omega) hK hK2 hql (by assumption))) rfl ?_)
   rintro _ _ ⟨u34,k34,f34,rfl,rfl,hf34,ho34⟩
   refine JLM rfl<|JLn (Pu.extract rfl rfl)<|JLn (Pu.extract rfl rfl)<|JLa u34<|JAn rfl<|Zf<|Zc<|JLM rfl<|JLn (Pu.neq rfl rfl)<|Za<|Zs rfl (fun h35=>?_) (fun h35=>?_)
   ·replace h35:=nt h35
    replace h35:=df h35
    refine Zc<|JLM rfl<|JLa ((.map none))<|JAn rfl<|ZH<|⟨.tuple ⟨[(.map none),iv (XV (YD (mkL l) (firstN l (((paL l)[j])[q]).toNat)))]⟩,[(BX gb [vm,vc,vf,f34] 91),[]],ZcE rfl (RV.tmp rfl) (RV.tmp rfl),(Sd (Sk (Zcz Sub.nil))),?_⟩
    have hbd:=CE hg h14n hql (by simpa using h16:W (paL l)[j]=true) h35
    exact ⟨_,_,_,by rw [hbd.1,hbd.2];rfl,rfl,hf34,fun e=>absurd (hbd.1.symm.trans e) (by decide)⟩
   replace h35:=nf h35
   replace h35:=dt h35
   refine Zk ?_
   have hz0:XV (YD (mkL l) (firstN l (((paL l)[j])[q]).toNat))=0:=by omega
   rw [Es hz0] at ho34
   obtain ⟨hlB,hbB⟩:=EG hg (i:=(((paL l)[j])[q]).toNat) (by omega)
   rw [hqm.2.2] at ho34 hlB hbB
   refine Zd<|JLM rfl<|JLM rfl<|JLm u34<|Jc call84 rfl (fun hin=>Jd _ _ _ (VI ho34 (by omega) (hin 1 _ rfl)) hbB (by omega) (GK.mono (Hle.hu _ _) hGK)) rfl ?_
   rintro _ _ ⟨rfl,rfl⟩
   refine JLr (UP (i:=2) (kV:=iV) (vV:=smV) (K:=K2) (f:=dgF l) (f':=dgF l) (k:=(((paL l)[j])[q])) (Zaa underlying3) underlying95 rfl rfl rfl rfl (A7 hg h14n hK hK2 hql) (fun _ _=>rfl)<|Za<|Zd<|JLn (Zcy rfl rfl (by omega))<|JLM rfl<|Za<|⟨_,?_,(q+1),(K2++[(((paL l)[j])[q])]),f34,Zj rfl,(Sk (Sd (Sk Sub.nil))),?_,?_,?_,?_,rfl⟩)
   ·omega
   ·omega
   ·rw [hK2,take_succ_eq_append_getElem hql,append_assoc]
   ·intro n hn;rw [mem_append,mem_singleton] at hn;rcases hn with hn | rfl;exact hne2 n hn;rw [hqm.2.2] at hz0;exact hz0
   exact hf34
  have h32n:((paL l)[j]).length≤q:=by omega
  refine Zu _ rfl<|Zd<|JLn (Zcy rfl rfl (by omega))<|JLM rfl<|Za<|⟨_,?_,(j+1),K2,f3,Zj rfl,(Sk (Sk Sub.nil)),?_,?_,?_,?_,rfl⟩
  ·omega
  ·omega
  ·exact CC h14n hK (by simpa using h16:W (paL l)[j]=true) hK2 h32n
  ·exact hne2
  exact hf3
 have h14n:(paL l).length≤j:=by omega
 refine Zu _ rfl<|Zc<|JLM rfl<|JLA rfl<|JAn rfl<|ZH<|⟨.tuple ⟨[.map (some r1),iv 0]⟩,[(BX gb [vm,vc,vf,f2] 91),gmC iV smV r1 K (dgF l)],ZcE rfl (RV.tmp rfl) (RV.tmp rfl),(Sd (Sk (Sk Sub.nil))),?_⟩
 have hgd:=FV h14n hK hne
 exact ⟨_,_,_,by rw [hgd.1];rfl,rfl,hf2,fun _=>⟨_,rfl,by rw [hgd.2]⟩⟩
theorem Pq (l:List Tm) (n:Int) (bP gb:Nat) (vm vc vf ff:Value) (H:Heap) (hP:H bP=some (.cells ⟨[pp gb 0]⟩ 86 (0,0))) (hG:H gb=some (.cells ⟨[vm,vc,vf,ff]⟩ 91 (0,0))) (hf:Hs.rdS RI 1 H vf (frI l)) (h0:0≤n) (h1:n<(l.length:Int)):CT prog 99 ⟨[iv n,pp bP 0]⟩ [] H (fun v N=>v=iv (frF l n)∧N=[]):=by
 have hfl:=Yw l
 refine Zl func99 rfl rfl<|Zc<|JAn rfl<|Zc<|JLr (Zb QV rfl (Zcx hP) rfl<|JLq (pp gb 0) (Pu.nilCheck rfl)<|JLq (pp gb 2) (Tf rfl rfl)<|JLr (Zb Xm rfl (Zcx hG) rfl<|JLM rfl ?_))
 obtain ⟨b1,o1,cap1,row1,T1,fr1,cs1,hv1,hb1,hs1,hE1⟩:=hf.get n.toNat (by omega)
 refine JLq (pp b1 (o1+n.toNat*1)) (Zcw n.toNat ZV ty3 hv1 rfl (by first | rfl | omega) (by omega))<|JLr (Zb ty3 rfl (Zcx hb1) (ZT ((show cs1=[Value.int .i64 ((frI l)[n.toNat])] from hE1)▸hs1))<|JAn rfl<|ZC (iv ((frI l)[n.toNat])) [] Sub.nil (?_))
 exact ⟨by unfold frF;rw [Xf (by rw [Yw];omega)],rfl⟩
theorem Ui (l m:List Int) (v u:Value) (H:Heap) (hl:rdS RI 1 H v l) (hm:rdS RI 1 H u m):CT prog 39 ⟨[v,u]⟩ [] H (fun v N=>v=.bool (eqL l m)∧N=[]):=by
 refine Zl func39 rfl rfl<|Zc<|JAn rfl<|Zf<|Zc<|JLm v ?_
 obtain ⟨a1,cap1,hv1⟩:=hl.sl
 have hle1:=hl.le
 refine JLn (Zcv ZV hv1)<|JLm u ?_
 obtain ⟨a2,cap2,hv2⟩:=hm.sl
 have hle2:=hm.le
 refine JLn (Zcv ZV hv2)<|JLn (Pu.neq rfl rfl)<|Za<|Zs rfl (fun h3=>?_) (fun h3=>?_)
 ·replace h3:=nt h3
  replace h3:=df h3
  refine Zc<|JAn rfl<|ZC (.bool false) [] Sub.nil (?_)
  exact ⟨by rw [TF (fun e=>by subst e;exact absurd rfl h3)],rfl⟩
 replace h3:=nf h3
 replace h3:=dt h3
 refine Zk<|Zf<|Zc<|JLm v ?_
 obtain ⟨a4,cap4,hv4⟩:=hl.sl
 have hle4:=hl.le
 refine JLn (Zcv ZV hv4)<|JLM rfl<|Za<|Zh<|Zv (fun k ρ M=>∃ (j:Nat),ZR ρ [(0,v),(1,u),(4,.bool false),(12,iv ((l.length:Int))),(13,iv ((j:Int)))]=ρ∧Sub [] M∧j≤l.length∧l.take j=m.take j∧k=l.length-j) _ ⟨0,Zj rfl,Sub.nil,Nat.zero_le _,rfl,rfl⟩ ?_
 rintro _ ρ5 _ ⟨j,e6,hm11,hj,hinv,rfl⟩
 obtain ⟨ρ12,rfl⟩:=Zo e6
 clear e6
 refine ZD hm11<|Zc<|JLn (Pu.lss rfl rfl)<|Za<|Zf<|ZF rfl (fun h13=>?_) (fun h13=>?_)
 ·have h13n:j<l.length:=by omega
  have hlenl:=hl.le
  have hjm:j<m.length:=by omega
  refine Zk<|Zf<|Zh<|Zc<|JLM rfl<|JAn rfl<|Zf<|ZI mixed #[0,0,3,7,0,0,48,112,255] 8 (sm 16 8) [] [] rfl (by kernel_rfl) rfl (by kernel_rfl)<|Dm v<|DM (fun _=>rfl) ?_
  obtain ⟨b16,o16,cap16,row16,T16,fr16,cs16,hv16,hb16,hs16,hE16⟩:=hl.get j (by omega)
  refine Dn (fun _=>Zcw j ZV ty3 hv16 rfl rfl (by omega))<|Dl1 ty3 (Zcx hb16) (ZT ((show cs16=[Value.int .i64 (l[j])] from hE16)▸hs16))<|Dm u<|DM (fun _=>rfl) ?_
  obtain ⟨b17,o17,cap17,row17,T17,fr17,cs17,hv17,hb17,hs17,hE17⟩:=hm.get j (by omega)
  refine Dn (fun _=>Zcw j ZV ty3 hv17 rfl rfl (by omega))<|Dl1 ty3 (Zcx hb17) (ZT ((show cs17=[Value.int .i64 (m[j])] from hE17)▸hs17))<|ZM (M':=[]) rfl ?_
  show JL _ _ _ [_] _ _ _
  refine JLn (Pu.neq rfl rfl)<|Za<|Zs rfl (fun h18=>?_) (fun h18=>?_)
  ·replace h18:=nt h18
   replace h18:=df h18
   refine Zc<|JAn rfl<|ZC (.bool false) [] Sub.nil (?_)
   exact ⟨by rw [TF (fun e=>by subst e;exact h18 rfl)],rfl⟩
  replace h18:=nf h18
  replace h18:=dt h18
  refine Zk<|Zd<|JLn (Zcy rfl rfl (by omega))<|JLM rfl<|Za<|⟨_,?_,(j+1),Zj rfl,Sub.nil,?_,?_,rfl⟩
  ·omega
  ·omega
  rw [take_succ_eq_append_getElem h13n,take_succ_eq_append_getElem hjm,hinv,h18]
 have h13n:l.length≤j:=by omega
 refine Zu _ rfl<|Zc<|JAn rfl<|ZC (.bool true) [] Sub.nil (?_)
 exact ⟨by rw [WT (by rw [← take_of_length_le h13n,hinv,take_of_length_le (by omega)])],rfl⟩
theorem HF (x y:Int×Int) (H:Heap):CT prog 123 ⟨[.agg ⟨[iv (x.1),iv (x.2)]⟩,.agg ⟨[iv (y.1),iv (y.2)]⟩]⟩ [] H (fun v N=>v=.bool (decide (x=y))∧N=[]):=by
 refine Zl func123 rfl rfl<|Zc<|JLr (Zr (l:=[iv (x.1),iv (x.2)]) rfl rfl fun b1=>JLr (Zr (l:=[iv (y.1),iv (y.2)]) rfl rfl fun b2=>JAn rfl<|Zc<|JLr (Zn VB rfl (Zcu 1 rfl) rfl<|JLr (Zn VB rfl (Zcu 0 rfl) rfl<|JLq (.bool (decide ((x.1,x.2)=(y.1,y.2)))) (Zcr (a:=(x.1,x.2)) (b:=(y.1,y.2)) rfl rfl)<|JLA rfl ?_))))
 refine Za<|ZC (.bool (decide ((x.1,x.2)=(y.1,y.2)))) [] Sub.nil (?_)
 exact ⟨rfl,rfl⟩
set_option maxHeartbeats 4000000 in
theorem Nl (l:List Tm) (v:Value) (H:Heap) (hv:Hs.rdS RT 36 H v l) (ok:okG l):CT prog 74 ⟨[v]⟩ [] H (fun r N=>∃ k,N=[k]∧Own 3 1 r (Z2 (frI l)) k):=by
 have hn8:=ok.hi
 have hz:=ok.szs
 refine Zl func74 rfl rfl<|Zc<|JAn rfl<|Zc<|JLr (Zp (l:=[.nilFunc]) zeroValue52 rfl fun b1=>JLr (Ze 0 (vs:=[.func (.func 116) ⟨[]⟩ ⟨[]⟩]) (l:=[.func (.func 116) ⟨[]⟩ ⟨[]⟩]) Ax rfl rfl rfl rfl rfl (Zg rfl Zq) rfl<|Za<|Zc<|JLm v ?_))
 refine JLq (.func (.func 119) ⟨[]⟩ ⟨[pp b1 0]⟩) (Pu.makeFunc rfl rfl)<|Jc call118 rfl (fun hin=>Kn _ [] _ call119 (fun i j=>decide (blP (atL l i)=blP (atL l j))) l _ _ (RTs.mono (Hle.hu _ _) hv) (by omega) (fun i j hi hj a b h hh ra rb=>by rw [Y9 hi,Y9 hj];exact (fun i j hi hj a b h hh ra rb=>by have:=Ym _ (getElem_mem hi);have:=Ym _ (getElem_mem hj);exact HG l.length _ _ _ _ _ _ ra rb (by omega) (by omega) (SG ok hi) (SG ok hj) (hh _ _ (hin 0 _ rfl _ _ mem_cons_self))) i j hi hj a b h hh ra rb)) rfl ?_
 rintro v2 _ ⟨k2,rfl,ho2⟩;rw [Hh ok] at ho2
 refine JLa v2<|Za<|Zh<|Zv (fun k ρ M=>∃ (n:Nat) (y1:Value) (q1:Zi),ZR ρ [(0,v),(2,nS),(4,y1)]=ρ∧Sub [q1,(BX b1 [.func (.func 116) ⟨[]⟩ ⟨[]⟩] 52)] M∧Own 3 1 y1 (Z2 (rnI l n)) q1∧k=l.length*l.length-V0 (rnI l n)) _ ⟨0,v2,k2,Zj rfl,(Sk (Sk Sub.nil)),ho2,rfl⟩ ?_
 rintro _ ρ3 _ ⟨n,y1,q1,e4,hm7,how1,rfl⟩
 obtain ⟨ρ8,rfl⟩:=Zo e4
 clear e4
 refine ZD hm7 ?_
 have hlo:=NF l n
 have hog:=fun i (hi:i<l.length)=>NG ok.ok n hi
 refine Zh<|Zc<|JLm v ?_
 obtain ⟨a9,cap9,hv9⟩:=hv.sl
 have hle9:=hv.le
 refine JLn (Zcv ZQ hv9)<|JLr (WM l.length Nm ZbR rfl rfl rfl rfl (by omega) (by omega) fun v10 k10 ho10=>JLa v10<|Za<|Zc<|JLr (Si clV iV (UU (l.length:Int) ([])) fun r11=>JAn rfl<|Zf<|Zc<|JLm v ?_))
 obtain ⟨a12,cap12,hv12⟩:=hv.sl
 have hle12:=hv.le
 refine JLn (Zcv ZQ hv12)<|JLM rfl<|Za<|Zh<|Zv (fun k ρ M=>∃ (j:Nat) (q2:Zi) (K:List (Int×Int)) (ws:List Int),ZR ρ [(0,v),(2,nS),(4,y1),(5,v10),(6,.map (some r11)),(22,v),(23,iv ((l.length:Int))),(24,iv ((j:Int)))]=ρ∧Sub [q1,q2,gmC clV iV r11 K (UU (l.length:Int) K),(BX b1 [.func (.func 116) ⟨[]⟩ ⟨[]⟩] 52)] M∧j≤l.length∧Own 166 2 v10 (clE ws l.length) q2∧Vy (l.length:Int) (rnI l n) (fun i=>sfP (atL l i)) j=(K,ws)∧k=l.length-j) _ ⟨0,k10,[],[],Zj rfl,(Sub.cons 2 rfl (Sub.cons 1 rfl (Sk (Sk Sub.nil)))),Nat.zero_le _,ho10,rfl,rfl⟩ ?_
 rintro _ ρ13 _ ⟨j,q2,K,ws,e14,hm22,hj,how2,hkw,rfl⟩
 obtain ⟨ρ23,rfl⟩:=Zo e14
 clear e14
 refine ZD hm22 ?_
 have hlen:=hv.le
 have hkl:=Nk (l.length:Int) (rnI l n) (fun i=>sfP (atL l i)) (fun i=>ZL (l.take i)) (fun i=>Zbb l i) j
 have hkz:=U3 l j
 have hwl:=Uo (l.length:Int) (rnI l n) (fun i=>sfP (atL l i)) j
 rw [hkw] at hkl hwl
 simp only at hkl hwl
 refine Zc<|JLn (Pu.lss rfl rfl)<|Za<|Zf<|ZF rfl (fun h24=>?_) (fun h24=>?_)
 ·have h24n:j<l.length:=by omega
  have hz1:=Sq h24n
  refine Zk<|Zf<|Zh<|Zc<|JLM rfl ?_
  obtain ⟨b25,o25,cap25,row25,T25,fr25,cs25,hv25,hb25,hs25,hE25⟩:=hv.get j (by omega)
  refine JLn (Zcw j ZQ Zy hv25 rfl rfl (by omega))<|JLr (Zn Zy rfl (Zcx hb25) hs25<|JLr (Zp (l:=pkT 0 0 zS nS nS) zeroValue51 rfl fun b26=>JLA rfl<|JLr (Ze 0 (vs:=cs25) (l:=cs25) Zy rfl rfl rfl rfl (ZB hE25) (XA hE25) (Yb (n:=36) rfl (ZB hE25))<|Za<|Zc<|JLm y1<|JLM rfl ?_)))
  obtain ⟨b27,cap27,row27,hv27,hm27,hs27⟩:=how1.at (j:=j) (by rw [Zt];first | assumption | omega)
  rw [Z9 _ _ (by omega)] at hs27
  refine JLn (Zcw j ZV ty3 hv27 rfl rfl (by rw [Zt];first | assumption | omega))<|JLr (Zb ty3 rfl (ZcD 1 rfl hm27) (ZT hs27)<|JLq (.agg ⟨[iv ((rnI l n)[j]),iv 0]⟩) (Pu.build (pv:=[(0,iv ((rnI l n)[j]))]) (l:=[iv ((rnI l n)[j]),iv 0]) rfl (Lz _))<|JLr (Zp (l:=[iv 0,iv 0]) zeroValue166 rfl fun b28=>JLr (Ze 0 (vs:=[iv ((rnI l n)[j]),iv 0]) (l:=[iv ((rnI l n)[j]),iv 0]) VB rfl rfl rfl rfl rfl (Zg rfl (Zg rfl Zq)) rfl<|Za<|Zf<|Zc<|JLr (Zn Zy rfl (Zcu 1 rfl) (ZE (ZB hE25))<|Jc call121 rfl (fun hin=>Rs _ _ _ (RT.mono (Hle.hu _ _) hE25) (by have:=Ym _ (getElem_mem h24n);omega)) rfl ?_))))
  rintro v29 _ ⟨k29,rfl,ho29⟩
  obtain ⟨a30,cap30,hv30⟩:=ho29.sl
  rw [Zt] at hv30
  refine JLn (Zcv ZV hv30)<|JLM rfl<|Za<|Zh<|Zv (fun k ρ M=>∃ (p:Nat) (m:List (Int×Int)×Int) (cb:Int),ZR ρ [(0,v),(2,nS),(4,y1),(5,v10),(6,.map (some r11)),(7,iv ((j:Int))),(9,pp b28 0),(22,v),(23,iv ((l.length:Int))),(24,iv ((j:Int))),(35,v29),(36,iv (((sfP (l[j])).length:Int))),(37,iv ((p:Int)))]=ρ∧Sub [gmC clV iV r11 (m.1) (UU (l.length:Int) (m.1)),(BX b28 [iv (m.2),iv cb] 166),q1,q2,k29,(BX b26 cs25 51),(BX b1 [.func (.func 116) ⟨[]⟩ ⟨[]⟩] 52)] M∧p≤(sfP (l[j])).length∧m=UB (l.length:Int) (rnI l n) (K,(rnI l n)[j]) ((sfP (l[j])).take p)∧k=(sfP (l[j])).length-p) _ ⟨0,(K,(rnI l n)[j]),0,Zj rfl,(Sub.cons 5 rfl (Sub.cons 1 rfl (Sub.cons 2 rfl (Sub.cons 2 rfl (Sk (Sk (Sk Sub.nil))))))),Nat.zero_le _,rfl,rfl⟩ ?_
  rintro _ ρ31 _ ⟨p,m,cb,e32,hm45,hp,hm2,rfl⟩
  obtain ⟨ρ46,rfl⟩:=Zo e32
  clear e32
  refine ZD hm45 ?_
  have hml:=MZ (l.length:Int) (rnI l n) ((sfP (l[j])).take p) (K,(rnI l n)[j])
  rw [← hm2,length_take] at hml
  simp only at hml
  have hsl:=Qw l[j]
  refine Zc<|JLn (Pu.lss rfl rfl)<|Za<|Zf<|ZF rfl (fun h47=>?_) (fun h47=>?_)
  ·have h47n:p<(sfP (l[j])).length:=by omega
   have hnp:=AD ok h24n (getElem_mem h47n)
   have hop:=hog _ (show ((sfP (l[j]))[p]).toNat<l.length from by omega)
   refine Zk<|Zf<|Zh<|Zf<|Zd ?_
   obtain ⟨b48,cap48,row48,hv48,hm48,hs48⟩:=ho29.at (j:=p) (by rw [Zt];first | assumption | omega)
   rw [Z9 _ _ (by omega)] at hs48
   refine JLn (Zcw p ZV ty3 hv48 rfl rfl (by rw [Zt];first | assumption | omega))<|JLr (Zb ty3 rfl (ZcD 4 rfl hm48) (ZT hs48)<|JAn rfl<|Zc<|JLm y1<|JLM rfl ?_)
   obtain ⟨b49,cap49,row49,hv49,hm49,hs49⟩:=how1.at (j:=((sfP (l[j]))[p]).toNat) (by rw [Zt];first | assumption | omega)
   rw [Z9 _ _ (by omega)] at hs49
   rw [← (show (rnI l n).getD (((sfP (l[j]))[p]).toNat) 0=(rnI l n)[((sfP (l[j]))[p]).toNat] from Xf (by omega))] at hs49
   refine JLq (pp b49 (0+((sfP (l[j]))[p]).toNat*1)) (Zcw ((sfP (l[j]))[p]).toNat ZV ty3 hv49 rfl (by first | rfl | omega) (by rw [Zt];first | assumption | omega))<|JLr (Zb ty3 rfl (ZcD 2 rfl hm49) (ZT hs49)<|JLn (ZcG rfl rfl (by first | omega | (constructor <;> omega)))<|JLq (pp b28 1) (C5 rfl rfl)<|JLr (Ze 1 (vs:=[iv (((rnI l n).getD ((sfP (l[j]))[p]).toNat 0)+1)]) (l:=[iv (m.2),iv (((rnI l n).getD ((sfP (l[j]))[p]).toNat 0)+1)]) ty3 rfl rfl rfl rfl rfl (Zg rfl Zq) rfl<|Za<|Zc<|JLM rfl<|JLr (Zn VB rfl (Zcu 1 rfl) rfl<|JLr (TR (i:=0) (kV:=clV) (vV:=iV) (K:=m.1) (f:=UU (l.length:Int) (m.1)) (k:=(m.2,((rnI l n).getD ((sfP (l[j]))[p]).toNat 0)+1)) 0 ZbE underlying164 zeroValue3 rfl rfl rfl<|JLM rfl<|JLn (Pu.extract rfl rfl) ?_))))
   refine JLn (Pu.extract rfl rfl)<|JLA rfl<|JAn rfl<|Zf<|Zc<|JLM rfl<|JLn (Pu.not rfl)<|Za<|Zs rfl (fun h50=>?_) (fun h50=>?_)
   ·replace h50:=nt h50
    replace h50:=df h50
    refine Zc<|JLm v ?_
    obtain ⟨a51,cap51,hv51⟩:=hv.sl
    have hle51:=hv.le
    refine JLn (Zcv ZQ hv51)<|JLM rfl<|JLr (HJ (i:=0) (K:=m.1) (f:=UU (l.length:Int) (m.1)) runUnderlying164 rfl rfl<|JLn (ZcG rfl rfl (by first | omega | (constructor <;> omega)))<|JAn rfl<|Zd<|JLM rfl<|JLr (Zn VB rfl (Zcu 1 rfl) rfl<|JLM rfl<|JLr (UP (i:=0) (kV:=clV) (vV:=iV) (K:=m.1) (f:=UU (l.length:Int) (m.1)) (f':=UU (l.length:Int) (m.1++[(m.2,((rnI l n).getD ((sfP (l[j]))[p]).toNat 0)+1)])) (k:=(m.2,((rnI l n).getD ((sfP (l[j]))[p]).toNat 0)+1)) ZbE underlying164 rfl rfl (congrArg iV (Fu (by simpa using h50)).symm) rfl (by simpa using h50) Ft<|Za<|Zd ?_)))
    refine JLM rfl<|JLq (pp b28 0) (N4 rfl rfl)<|JLr (Ze 1 (vs:=[iv ((l.length:Int)+(((m.1).length:Int)))]) (l:=[iv ((l.length:Int)+(((m.1).length:Int))),iv (((rnI l n).getD ((sfP (l[j]))[p]).toNat 0)+1)]) ty3 rfl rfl rfl rfl rfl (Zg rfl Zq) rfl<|Za<|Zd<|JLn (Zcy rfl rfl (by omega))<|JLM rfl<|Za<|⟨_,?_,(p+1),(m.1++[(m.2,((rnI l n).getD ((sfP (l[j]))[p]).toNat 0)+1)],(l.length:Int)+(((m.1).length:Int))),(((rnI l n).getD ((sfP (l[j]))[p]).toNat 0)+1),Zj rfl,(Sk (Sk (Sk (Sk (Sk (Sk (Sk Sub.nil))))))),?_,?_,rfl⟩)
    ·omega
    ·omega
    rw [RL _ _ _ h47n,← hm2];obtain ⟨mK,ma⟩:=m;exact (IB (by simpa using h50)).symm
   replace h50:=nf h50
   replace h50:=dt h50
   refine Zk<|Zd<|JLM rfl<|JLq (pp b28 0) (N4 rfl rfl)<|JLr (Ze 1 (vs:=[iv (if (m.2,((rnI l n).getD ((sfP (l[j]))[p]).toNat 0)+1)∈m.1 then (UU (l.length:Int) (m.1)) (m.2,((rnI l n).getD ((sfP (l[j]))[p]).toNat 0)+1) else 0)]) (l:=[iv (if (m.2,((rnI l n).getD ((sfP (l[j]))[p]).toNat 0)+1)∈m.1 then (UU (l.length:Int) (m.1)) (m.2,((rnI l n).getD ((sfP (l[j]))[p]).toNat 0)+1) else 0),iv (((rnI l n).getD ((sfP (l[j]))[p]).toNat 0)+1)]) ty3 rfl rfl rfl rfl rfl (Zg rfl Zq) rfl<|Za<|Zd<|JLn (Zcy rfl rfl (by omega))<|JLM rfl<|Za<|⟨_,?_,(p+1),(m.1,if (m.2,((rnI l n).getD ((sfP (l[j]))[p]).toNat 0)+1)∈m.1 then (UU (l.length:Int) (m.1)) (m.2,((rnI l n).getD ((sfP (l[j]))[p]).toNat 0)+1) else 0),(((rnI l n).getD ((sfP (l[j]))[p]).toNat 0)+1),Zj rfl,(Sk (Sk (Sk (Sk (Sk (Sk (Sk Sub.nil))))))),?_,?_,rfl⟩)
   ·omega
   ·omega
   rw [RL _ _ _ h47n,← hm2];obtain ⟨mK,ma⟩:=m;exact (ZaN (by simpa using h50)).symm
  have h47n:(sfP (l[j])).length≤p:=by omega
  refine Zu _ rfl<|Zd<|JLm v10<|JLM rfl<|JLq (pp b28 0) (N4 rfl rfl)<|JLr (Zb ty3 rfl (Zcu 1 rfl) rfl<|JLq (.agg ⟨[iv (m.2),iv 0]⟩) (Pu.build (pv:=[(0,iv (m.2))]) (l:=[iv (m.2),iv 0]) rfl (Lz _)) ?_)
  obtain ⟨b52,cap52,row52,hv52,hm52,hs52⟩:=how2.at (j:=j) (by rw [QL (by omega)];omega)
  refine JLn (Zcw j Nm VB hv52 rfl rfl (by rw [QL (by omega)];omega))<|JLr (Yu (i:=3) (j:=j) (b:=b52) VB rfl how2 ⟨_,_,hv52⟩ rfl (by rw [QL (by omega)];omega) rfl rfl rfl (Zg rfl (Zg rfl Zq)) fun k53 ho53=>Za<|Zd<|JLn (Zcy rfl rfl (by omega))<|JLM rfl<|Za<|⟨_,?_,(j+1),k53,(m.1),(ws++[m.2]),Zj rfl,(Sub.cons 2 rfl (Sub.cons 2 rfl (Sk (Sd (Sd (Sd (Sk Sub.nil))))))),?_,?_,?_,rfl⟩)
  ·omega
  ·omega
  ·have z:=ho53;rw [Bn hwl h24n] at z;exact z
  exact Zct hkw h24n hlo hm2 h47n
 have h24n:l.length≤j:=by omega
 refine Zu _ rfl<|Zc<|JLm v10 ?_
 have hjl:j=l.length:=by omega
 refine Jc call122 rfl (fun hin=>Ko _ [] [] call123 (fun i j=>decide (ws.getD i 0=ws.getD j 0)) _ _ _ (Zax how2 (hwl.trans hjl) (by omega) (hin 1 _ rfl)) (by rw [length_map];omega) (fun i j hi hj a b h hh ra rb=>by unfold RK at ra rb;subst ra rb;refine CT.mono (HF _ _ _) fun v N q=>?_;rw [Zau hi hj] at q;exact q)) rfl ?_
 rintro v54 _ ⟨k54,rfl,ho54⟩;rw [ZaO ok hkw hjl] at ho54
 refine JLa v54<|Za<|Zf<|Zc<|JLm v54<|JLm y1<|Jc call39 rfl (fun hin=>Ui _ _ _ _ _ (Yn ho54 (by rw [NF];omega) (hin 0 _ rfl)) (Yn how1 (by rw [NF];omega) (hin 1 _ rfl))) rfl ?_
 rintro _ _ ⟨rfl,rfl⟩
 refine Za<|Zs rfl (fun h55=>?_) (fun h55=>?_)
 ·refine Zc<|JLm y1<|JLa y1<|Za<|ZC y1 [q1] (Sd (Sk Sub.nil)) (?_)
  exact ⟨_,rfl,by rw [← D8 ok.ok (n:=n) (by simpa [eqL] using h55)];exact how1⟩
 refine Zk<|Zd<|JLm v54<|JLa v54<|Za<|⟨_,?_,(n+1),v54,k54,Zj rfl,(Sk (Sd (Sd (Sd (Sk Sub.nil))))),?_,rfl⟩
 ·have h1:=GV ok.ok (n:=n) (by simpa [eqL] using h55);have h2:=D7 l (n+1);omega
 exact ho54
set_option maxHeartbeats 4000000 in
theorem Tu (l:List Tm) (v:Value) (H:Heap) (hv:Hs.rdS RT 36 H v l) (ok:okG l):CT prog 50 ⟨[v]⟩ [] H (fun v N=>∃ g k vm vc vf,v=pp g 0∧N=[(BX g [vm,vc,vf,.nilFunc] 91),k]∧GO l vm vc vf k):=by
 have hn8:=ok.hi
 have hln:=XN l
 have hz:=ok.szs
 refine Zl func50 rfl rfl<|Zc<|JLa ((.pointer none))<|Za<|Zc<|JLm v<|Jc call74 rfl (fun hin=>Nl l _ _ (RTs.mono (Hle.hu _ _) hv) ok) rfl ?_
 rintro v1 _ ⟨k1,rfl,ho1⟩
 refine JLq (.agg ⟨[nS,nS,v1,.nilFunc]⟩) (Pu.build (pv:=[(1,v1)]) (l:=[nS,nS,v1,.nilFunc]) rfl (ZbZ ho1.one))<|JLr (Zr (l:=[nS,nS,v1,.nilFunc]) rfl rfl fun b2=>JLr (Zp (l:=[.pointer none]) zeroValue86 rfl fun b3=>JLr (Ze 0 (vs:=[pp b2 0]) (l:=[pp b2 0]) QV rfl rfl rfl rfl rfl (Zg rfl Zq) rfl<|Za<|Zf<|Zc<|JLm v ?_)))
 obtain ⟨a4,cap4,hv4⟩:=hv.sl
 have hle4:=hv.le
 refine JLn (Zcv ZQ hv4)<|JLM rfl<|Za<|Zh<|Zv (fun k ρ M=>∃ (j:Nat) (y1:Value) (q1 q2:Zi) (es:List (List Value)),ZR ρ [(0,v),(2,(.pointer none)),(3,pp b3 0),(10,iv ((l.length:Int))),(11,iv ((j:Int)))]=ρ∧Sub [(BX b2 [y1,nS,v1,.nilFunc] 91),q1,q2,k1,(BX b3 [pp b2 0] 86)] M∧j≤l.length∧Own 51 36 y1 es q1∧OTs ((mkL l).take j) es q2∧k=l.length-j) _ ⟨0,nS,[],[],[],Zj rfl,(Sub.cons 1 rfl (Zcz (Zcz (Sub.cons 1 rfl (Sk Sub.nil))))),Nat.zero_le _,Own.nil,⟨rfl,rfl⟩,rfl⟩ ?_
 rintro _ ρ5 _ ⟨j,y1,q1,q2,es,e6,hm11,hj,how,hos,rfl⟩
 obtain ⟨ρ12,rfl⟩:=Zo e6
 clear e6
 refine ZD hm11 ?_
 have hlen:=hv.le
 have hel:=Xr hos
 rw [length_take,Z0] at hel
 refine Zc<|JLn (Pu.lss rfl rfl)<|Za<|Zf<|ZF rfl (fun h13=>?_) (fun h13=>?_)
 ·have h13n:j<l.length:=by omega
  have hfl:=Yw l
  have hfe:(frI l)[j]=(firstN l j:Int):=XU h13n
  have hfn:=YJ h13n
  have hfj:((frI l)[j]).toNat<l.length:=by omega
  refine Zk<|Zf<|Zh<|Zc<|JLM rfl<|JAn rfl<|Zf<|ZaM mixed (ED rfl (by kernel_rfl) (by kernel_rfl) (by kernel_rfl) (by kernel_rfl) (by kernel_rfl)) ?_ ?_
  ·refine JLr (Zp (l:=[.bool false]) zeroValue4 rfl fun b14=>JLr (Ze 0 (vs:=[.bool true]) (l:=[.bool true]) ty4 rfl rfl rfl rfl rfl (Zg rfl Zq) rfl<|JLr (Ze 0 (vs:=[.bool false]) (l:=[.bool false]) ty4 rfl rfl rfl rfl rfl (Zg rfl Zq) rfl<|JLr (Zb ty4 rfl (Zcu 0 rfl) rfl<|Za<|Zs (b:=false) rfl (fun h=>absurd h (by simp)) (fun _=>ZI mixed #[0,0,2,6,14,30,0,0,128,384,896,0,3968,8064,16320,32704,0,131008,262080,524286,1048575,2097151,4194303,8388607] 20 (sm 40 20) [(19,22)] [(17,fun _ _ vw qw=>∃ cs k,vw=.agg ⟨cs⟩∧qw=[k]∧OT (mpT (nmD (frF l)) (l[((frI l)[j]).toNat])) cs k),(18,fun r _ vw qw=>∃ b k,vw=.slice (some ⟨b,0,none⟩) 1 1∧qw=[k]∧Own 51 36 (.slice (some ⟨b,0,none⟩) 1 1) [(cel (r 17))] k∧k=(BX b (flatten [(cel (r 17))]) 51)),(19,fun r _ vw qw=>∃ k,qw=[k]∧Own 51 36 vw (es++[(cel (r 17))]) k)] rfl (by kernel_rfl) rfl (by kernel_rfl)<|Dl1 QV (Zcu 4 rfl) rfl<|Dl1 QV (Zcu 5 rfl) rfl<|Dq (pp b2 0) (fun _=>Pu.nilCheck rfl)<|Dq (pp b2 0) (fun _=>VW rfl rfl)<|Dq (pp b2 0) (fun _=>T9 rfl rfl)<|Dl1 YZ (Zcu 1 rfl) rfl ?_)))))
   refine Dm v<|Dl1 QV (Zcu 5 rfl) rfl<|Dq (pp b2 0) (fun _=>Pu.nilCheck rfl)<|Dq (pp b2 2) (fun _=>Tf rfl rfl)<|Dl1 Xm (Zcu 1 rfl) rfl<|DM (fun _=>rfl) ?_
   obtain ⟨b20,cap20,row20,hv20,hm20,hs20⟩:=ho1.at (j:=j) (by rw [Zt];first | assumption | omega)
   rw [Z9 _ _ (by omega)] at hs20
   refine Dn (fun _=>Zcw j ZV ty3 hv20 rfl rfl (by rw [Zt];first | assumption | omega))<|Dl1 ty3 (ZcD 4 rfl hm20) (ZT hs20) ?_
   obtain ⟨b21,o21,cap21,row21,T21,fr21,cs21,hv21,hb21,hs21,hE21⟩:=hv.get ((frI l)[j]).toNat (by omega)
   refine Dq (pp b21 (o21+((frI l)[j]).toNat*36)) (fun _=>Zcw ((frI l)[j]).toNat ZQ Zy hv21 rfl (by first | rfl | omega) (by omega))<|Dl Zy (Zcx hb21) hs21<|Dq (.func (.func 99) ⟨[]⟩ ⟨[pp b3 0]⟩) (fun _=>Pu.makeFunc rfl rfl) ?_
   refine Dc rfl call98 (fun _=>rfl) (fun hin=>Ta (frF l) l.length (fun n h0 h1=>by have:=RQ h0 h1;unfold inI;omega) _ [] _ call99 _ _ _ (RT.mono (Hle.hu _ _) hE21) (by have:=Ym _ (getElem_mem hfj);omega) (SG ok hfj) (fun n h hh h0 h1=>Pq l n _ _ _ _ _ _ h (hh _ _ (hin 5 _ rfl _ _ mem_cons_self)) (hh _ _ (hin 1 _ rfl _ _ mem_cons_self)) (RIs.mono hh (Yn ho1 (by rw [Yw];omega) (hin 4 _ rfl))) h0 h1)) ?_
   rintro _ _ ⟨cs22,k22,rfl,rfl,hO22⟩
   refine Dr rfl (fun _=>Zm (vs:=[.agg ⟨cs22⟩]) [cs22] ZQ Wo rfl rfl (al1 hO22.len) rfl (by decide) fun b k h1 h2=>⟨[k],by rw [Z4 rfl];exact Sub.refl,b,k,rfl,rfl,h1,h2⟩) (fun _ _ ⟨b23,k23,e1,e2,ho23,hk23⟩=>?_);subst e1 e2
   have hlens24:∀ e∈([cs22]:List (List Value)),List.length e=36:=al1 hO22.len
   have hoks24:∀ e∈([cs22]:List (List Value)),okc e:=al1 hO22.ok
   refine Dr rfl (fun _=>Zz (i:=4) (n:=1) (es':=[cs22]) ZQ ZQ (Or.inl rfl) Wo rfl rfl rfl how (fun F w m=>Src.row (((ZcD 0 rfl (by rw [hk23];exact mem_cons_self))).heap m) (ZE (Zw hlens24))) rfl hlens24 hoks24 (by decide) (by omega) fun v k h1=>⟨[k],Aj rfl rfl,k,rfl,h1⟩) ?_;rintro v24 _ ⟨k24,rfl,ho24⟩
   refine ZM (M':=[k24,k23,k22,(BX b14 [.bool false] 4),(BX b2 [y1,nS,v1,.nilFunc] 91),q2,k1,(BX b3 [pp b2 0] 86)]) rfl ?_
   show JL _ _ _ [_,_,_,_] _ _ _
   refine JLq (pp b2 0) (Pu.nilCheck rfl)<|JLq (pp b2 0) (VW rfl rfl)<|JLq (pp b2 0) (T9 rfl rfl)<|JLr (Ze 4 (vs:=[v24]) (l:=[v24,nS,v1,.nilFunc]) YZ rfl rfl rfl (ZS ho24.one) rfl (Zg ho24.one Zq) rfl<|Za<|Zd<|JLn (Zcy rfl rfl (by omega))<|JLM rfl<|Za<|⟨_,?_,(j+1),v24,k24,(q2++k22),(es++[cs22]),Zj rfl,(Sub.cons 4 rfl (Sk (ZcF (Sd (Sub.cons 2 rfl (Sk (Sd (Sk (Sk Sub.nil))))))))),?_,?_,?_,rfl⟩)
   ·omega
   ·omega
   ·exact ho24
   rw [Pz h13n,← Ah ok h13n hfn];exact OTs.snoc (by have z:=hO22;simp only [hfe,Int.toNat_natCast] at z;exact z) hos
  refine JLr (Zp (l:=[.bool false]) zeroValue4 rfl fun b25=>JLr (Ze 0 (vs:=[.bool false]) (l:=[.bool false]) ty4 rfl rfl rfl rfl rfl (Zg rfl Zq) rfl<|JLr (Ze 0 (vs:=[.bool true]) (l:=[.bool true]) ty4 rfl rfl rfl rfl rfl (Zg rfl Zq) rfl<|JLr (Zb ty4 rfl (Zcu 0 rfl) rfl<|Za<|Zs (b:=true) rfl (fun _=>?_) (fun h=>absurd h (by simp))))))
  refine Zf<|ZI mixed #[0,1,3,7,15,0,0,64,192,448,0,1984,4032,8160,16352,0,65504,31,0,524287,1048575,2097151,4194303,8388607] 19 (sm 16 19) [] [(16,fun _ _ vw qw=>∃ cs k,vw=.agg ⟨cs⟩∧qw=[k]∧OT (mpT (nmD (frF l)) (l[((frI l)[j]).toNat])) cs k),(18,fun _ _ vw qw=>∃ b k,vw=.slice (some ⟨b,0,none⟩) 1 1∧qw=[k]∧Own 51 36 (.slice (some ⟨b,0,none⟩) 1 1) [pkT 0 0 zS nS nS] k∧k=(BX b (flatten [pkT 0 0 zS nS nS]) 51))] rfl (by kernel_rfl) rfl (by kernel_rfl)<|Dl1 QV (Zcu 5 rfl) rfl<|Dq (pp b2 0) (fun _=>Pu.nilCheck rfl)<|Dq (pp b2 0) (fun _=>VW rfl rfl)<|Dq (pp b2 0) (fun _=>T9 rfl rfl)<|Dl1 YZ (Zcu 1 rfl) rfl<|Dm v<|Dl1 QV (Zcu 5 rfl) rfl<|Dq (pp b2 0) (fun _=>Pu.nilCheck rfl)<|Dq (pp b2 2) (fun _=>Tf rfl rfl)<|Dl1 Xm (Zcu 1 rfl) rfl<|DM (fun _=>rfl) ?_
  obtain ⟨b31,cap31,row31,hv31,hm31,hs31⟩:=ho1.at (j:=j) (by rw [Zt];first | assumption | omega)
  rw [Z9 _ _ (by omega)] at hs31
  refine Dn (fun _=>Zcw j ZV ty3 hv31 rfl rfl (by rw [Zt];first | assumption | omega))<|Dl1 ty3 (ZcD 4 rfl hm31) (ZT hs31) ?_
  obtain ⟨b32,o32,cap32,row32,T32,fr32,cs32,hv32,hb32,hs32,hE32⟩:=hv.get ((frI l)[j]).toNat (by omega)
  refine Dq (pp b32 (o32+((frI l)[j]).toNat*36)) (fun _=>Zcw ((frI l)[j]).toNat ZQ Zy hv32 rfl (by first | rfl | omega) (by omega))<|Dl Zy (Zcx hb32) hs32<|Dq (.func (.func 99) ⟨[]⟩ ⟨[pp b3 0]⟩) (fun _=>Pu.makeFunc rfl rfl) ?_
  refine Dc rfl call98 (fun _=>rfl) (fun hin=>Ta (frF l) l.length (fun n h0 h1=>by have:=RQ h0 h1;unfold inI;omega) _ [] _ call99 _ _ _ (RT.mono (Hle.hu _ _) hE32) (by have:=Ym _ (getElem_mem hfj);omega) (SG ok hfj) (fun n h hh h0 h1=>Pq l n _ _ _ _ _ _ h (hh _ _ (hin 5 _ rfl _ _ mem_cons_self)) (hh _ _ (hin 1 _ rfl _ _ mem_cons_self)) (RIs.mono hh (Yn ho1 (by rw [Yw];omega) (hin 4 _ rfl))) h0 h1)) ?_
  rintro _ _ ⟨cs33,k33,rfl,rfl,hO33⟩
  obtain ⟨a34,cap34,hv34⟩:=how.sl
  refine Dn (fun _=>Zcv ZQ hv34)<|Dr rfl (fun _=>Zm (vs:=[.agg ⟨pkT 0 0 zS nS nS⟩]) [pkT 0 0 zS nS nS] ZQ Wo rfl rfl (al1 rfl) rfl (by decide) fun b k h1 h2=>⟨[k],by rw [Z4 rfl];exact Sub.refl,b,k,rfl,rfl,h1,h2⟩) (fun _ _ ⟨b35,k35,e1,e2,ho35,hk35⟩=>?_);subst e1 e2
  refine ZM (M':=[k35,k33,(BX b25 [.bool true] 4),(BX b2 [y1,nS,v1,.nilFunc] 91),q1,q2,k1,(BX b3 [pp b2 0] 86)]) rfl ?_
  show JL _ _ _ [_,_,_,_,_] _ _ _
  have hlens36:∀ e∈([pkT 0 0 zS nS nS]:List (List Value)),List.length e=36:=al1 rfl
  have hoks36:∀ e∈([pkT 0 0 zS nS nS]:List (List Value)),okc e:=al1 (Ys rfl rfl)
  refine JLr (Zz (i:=4) (n:=1) (es':=[pkT 0 0 zS nS nS]) ZQ ZQ (Or.inl rfl) Wo rfl rfl rfl how (fun F w m=>Src.row (((ZcD 0 rfl (by rw [hk35];exact mem_cons_self))).heap m) (ZE (Zw hlens36))) rfl hlens36 hoks36 (by decide) (by omega) fun v36 k36 ho36=>JLq (pp b2 0) (Pu.nilCheck rfl)<|JLq (pp b2 0) (VW rfl rfl)<|JLq (pp b2 0) (T9 rfl rfl)<|JLr (Ze 3 (vs:=[v36]) (l:=[v36,nS,v1,.nilFunc]) YZ rfl rfl rfl (ZS ho36.one) rfl (Zg ho36.one Zq) rfl<|Za<|Zd ?_))
  obtain ⟨b37,cap37,row37,hv37,hm37,hs37⟩:=ho36.at (j:=es.length) (by simp)
  refine JLn (Zcw es.length ZQ Zy hv37 rfl rfl (by simp))<|JLr (Yu (i:=4) (j:=(es.length)) (b:=b37) Zy rfl ho36 ⟨_,_,hv37⟩ rfl (by simp) rfl rfl hO33.len hO33.ok fun k38 ho38=>Za<|Zd<|JLn (Zcy rfl rfl (by omega))<|JLM rfl<|Za<|⟨_,?_,(j+1),v36,k38,(q2++k33),(es++[cs33]),Zj rfl,(Sd (Sub.cons 2 rfl (Sub.cons 2 rfl (ZcF (Sub.cons 2 rfl (Sk (Sd (Sk (Sk Sub.nil))))))))),?_,?_,?_,rfl⟩)
  ·omega
  ·omega
  ·exact (by have z:=ho38;rw [GJ] at z;exact z)
  rw [Pz h13n,← Ah ok h13n hfn];exact OTs.snoc (by have z:=hO33;simp only [hfe,Int.toNat_natCast] at z;exact z) hos
 have h13n:l.length≤j:=by omega
 refine Zu _ rfl<|Zf<|ZI mixed #[0,0,2,6,14,30,62,127,255,511,1023] 7 (sm 64 7) [] [(6,fun _ _ vw qw=>∃ k,qw=[k]∧OII (XQ (mkL l)) vw k)] rfl (by kernel_rfl) rfl (by kernel_rfl)<|Dl1 QV (Zcu 4 rfl) rfl<|Dl1 QV (Zcu 4 rfl) rfl<|Dq (pp b2 0) (fun _=>Pu.nilCheck rfl)<|Dq (pp b2 0) (fun _=>VW rfl rfl)<|Dq (pp b2 0) (fun _=>T9 rfl rfl)<|Dl1 YZ (Zcu 0 rfl) rfl ?_
 refine Dc rfl call100 (fun _=>rfl) (fun hin=>EU (mkL l) _ _ ((OL.mk how (show OTs (mkL l) es q2 by have z:=hos;rwa [take_of_length_le (by rw [Z0];exact h13n)] at z) (by rw [Z0];omega)).rd (ZcX (hin 1 _ rfl) (hin 2 _ rfl))) ok.mkL.szs) ?_
 rintro v40 _ ⟨k40,rfl,ho40⟩
 refine ZM (M':=[k40,(BX b2 [y1,nS,v1,.nilFunc] 91),q1,q2,k1,(BX b3 [pp b2 0] 86)]) rfl ?_
 show JL _ _ _ [_,_,_,_] _ _ _
 refine JLq (pp b2 0) (Pu.nilCheck rfl)<|JLq (pp b2 0) (VW rfl rfl)<|JLq (pp b2 1) (Kr rfl rfl)<|JLr (Ze 1 (vs:=[v40]) (l:=[y1,v40,v1,.nilFunc]) DH rfl rfl rfl (ZS ho40.one) rfl (Zg ho40.one Zq) rfl<|Za<|Zc<|JLr (Zb QV rfl (Zcu 5 rfl) rfl<|JAn rfl<|ZC (pp b2 0) [(BX b2 [y1,v40,v1,.nilFunc] 91),q1++(q2++(k40++k1))] (Sub.cons 1 rfl (ZcQ (Sub.cons 1 rfl (Sub.cons 1 rfl (Sk (Sk Sub.nil)))))) (?_)))
 exact ⟨_,_,_,_,_,rfl,rfl,_,_,_,(OL.mk how (show OTs (mkL l) es q2 by have z:=hos;rwa [take_of_length_le (by rw [Z0];exact h13n)] at z) (by rw [Z0];omega)),ho40,ho1,(append_assoc ..).symm⟩
theorem HT (l:List Tm) (v:Value) (H:Heap) (hv:Hs.rdS RT 36 H v l) (hz:∀ t∈l,sizeT t≤400000):CT prog 28 ⟨[v]⟩ [] H (fun r N=>∃ u k,r=.tuple ⟨[u,iv (Z7 (Zx 0) l)]⟩∧N=[k]∧Own 3 1 u (Z2 (if Z7 (Zx 0) l=0 then frI l else [])) k):=by
 refine Zl func28 rfl rfl<|Zc<|JLA rfl<|JAn rfl<|Zf<|Zc<|JLm v<|Jc call49 rfl (fun hin=>Th l _ _ (RTs.mono (Hle.hu _ _) hv) hz) rfl ?_
 rintro _ _ ⟨rfl,rfl⟩
 refine JAn rfl<|Zc<|JLM rfl<|JLn (Pu.neq rfl rfl)<|Za<|Zs rfl (fun h1=>?_) (fun h1=>?_)
 ·replace h1:=nt h1
  replace h1:=df h1
  refine Zc<|JLM rfl<|JLA rfl<|JAn rfl<|ZH<|⟨.tuple ⟨[nS,iv (Z7 (Zx 0) l)]⟩,[[]],ZcE rfl (RV.tmp rfl) (RV.tmp rfl),(Zcz Sub.nil),?_⟩
  exact ⟨_,_,rfl,rfl,by rw [if_neg h1];exact Own.nil⟩
 replace h1:=nf h1
 replace h1:=dt h1
 refine Zk<|Zf ?_
 have hc0:Z7 (Zx 0) l=0:=by omega
 have hg:=W2 hc0
 have hm:=hg.mkL
 have hn8:=hg.hi
 have hml:=Z0 l
 refine Zd<|JLm v<|Jc call74 rfl (fun hin=>Nl l _ _ (RTs.mono (Hle.hu _ _) hv) hg) rfl ?_
 rintro v2 _ ⟨k2,rfl,ho2⟩
 refine JLa v2<|JAn rfl<|ZH<|⟨.tuple ⟨[v2,iv 0]⟩,[k2],ZcE rfl (RV.tmp rfl) (RV.tmp rfl),(Sk Sub.nil),?_⟩
 exact ⟨_,_,by rw [hc0],rfl,by rw [if_pos hc0];exact ho2⟩
theorem HO (l:List Tm) (v:Value) (H:Heap) (hv:Hs.rdS RT 36 H v l) (hz:∀ t∈l,sizeT t≤400000):CT prog 36 ⟨[v]⟩ [] H (fun r N=>∃ u k,r=.tuple ⟨[u,iv (Z7 (Zx 0) l)]⟩∧N=[k]∧OII (if Z7 (Zx 0) l=0 then paL l else []) u k):=by
 refine Zl func36 rfl rfl<|Zc<|JLA rfl<|JAn rfl<|Zf<|Zc<|JLm v<|Jc call49 rfl (fun hin=>Th l _ _ (RTs.mono (Hle.hu _ _) hv) hz) rfl ?_
 rintro _ _ ⟨rfl,rfl⟩
 refine JAn rfl<|Zc<|JLM rfl<|JLn (Pu.neq rfl rfl)<|Za<|Zs rfl (fun h1=>?_) (fun h1=>?_)
 ·replace h1:=nt h1
  replace h1:=df h1
  refine Zc<|JLM rfl<|JLA rfl<|JAn rfl<|ZH<|⟨.tuple ⟨[nS,iv (Z7 (Zx 0) l)]⟩,[[]],ZcE rfl (RV.tmp rfl) (RV.tmp rfl),(Zcz Sub.nil),?_⟩
  exact ⟨_,_,rfl,rfl,by rw [if_neg h1];exact OII.nil⟩
 replace h1:=nf h1
 replace h1:=dt h1
 refine Zk<|Zf ?_
 have hc0:Z7 (Zx 0) l=0:=by omega
 have hg:=W2 hc0
 have hm:=hg.mkL
 have hn8:=hg.hi
 have hml:=Z0 l
 refine Zd<|JLm v<|Jc call50 rfl (fun hin=>Tu l _ _ (RTs.mono (Hle.hu _ _) hv) hg) rfl ?_
 rintro _ _ ⟨g2,k2,vm,vc,vf,rfl,rfl,hGO⟩
 refine Jc call81 rfl (fun hin=>Fd l hm g2 vm vc vf .nilFunc _ (hin 0 _ rfl _ _ mem_cons_self) (hGO.rd hn8 (hin 1 _ rfl)) rfl) rfl ?_
 rintro v3 _ ⟨k3,rfl,ho3⟩
 refine JLa v3<|JAn rfl<|ZH<|⟨.tuple ⟨[v3,iv 0]⟩,[k3],ZcE rfl (RV.tmp rfl) (RV.tmp rfl),(Sk Sub.nil),?_⟩
 exact ⟨_,_,by rw [hc0],rfl,by rw [if_pos hc0];exact ho3⟩
theorem HP (l:List Tm) (v:Value) (H:Heap) (hv:Hs.rdS RT 36 H v l) (hz:∀ t∈l,sizeT t≤400000) (i:Int):CT prog 34 ⟨[v,iv i]⟩ [] H (fun r N=>∃ u k,r=.tuple ⟨[u,iv (if Z7 (Zx 0) l=0 then (if i<0∨(l.length:Int)≤i then 1 else 0) else Z7 (Zx 0) l)]⟩∧N=[k]∧Own 3 1 u (Z2 (if Z7 (Zx 0) l=0∧¬ (i<0∨(l.length:Int)≤i) then Wd (mkL l) (frF l i) else [])) k):=by
 refine Zl func34 rfl rfl<|Zc<|JLA rfl<|JAn rfl<|Zf<|Zc<|JLm v<|Jc call49 rfl (fun hin=>Th l _ _ (RTs.mono (Hle.hu _ _) hv) hz) rfl ?_
 rintro _ _ ⟨rfl,rfl⟩
 refine JAn rfl<|Zc<|JLM rfl<|JLn (Pu.neq rfl rfl)<|Za<|Zs rfl (fun h1=>?_) (fun h1=>?_)
 ·replace h1:=nt h1
  replace h1:=df h1
  refine Zc<|JLM rfl<|JLA rfl<|JAn rfl<|ZH<|⟨.tuple ⟨[nS,iv (Z7 (Zx 0) l)]⟩,[[]],ZcE rfl (RV.tmp rfl) (RV.tmp rfl),(Zcz Sub.nil),?_⟩
  exact ⟨_,_,by rw [if_neg h1],rfl,by rw [if_neg (fun q=>h1 q.1)];exact Own.nil⟩
 replace h1:=nf h1
 replace h1:=dt h1
 refine Zk<|Zf<|Zf ?_
 have hc0:Z7 (Zx 0) l=0:=by omega
 have hg:=W2 hc0
 have hm:=hg.mkL
 have hn8:=hg.hi
 have hml:=Z0 l
 refine Zd<|JLM rfl<|JLn (Pu.lss rfl rfl)<|JLM rfl<|ZA 4 [15,16,17,18] [(18,cond (decide (i<0)) undef (.bool (decide ((l.length:Int)≤i))))] ?_ fun f4=>?_
 ·cases h2:(decide (i<0)) with
  | false=>
   replace h2:=df h2
   refine JLM rfl<|JLm v ?_
   obtain ⟨a3,cap3,hv3⟩:=hv.sl
   have hle3:=hv.le
   refine JLn (Zcv ZQ hv3)<|JLn (Pu.geq rfl rfl) ?_
   exact Za ⟨⟨rfl,trivial⟩,rfl⟩
  | true=>
   exact ZJ rfl ⟨rfl,trivial⟩
 refine JLn (ZcC rfl rfl rfl)<|Za<|Zs rfl (fun h5=>?_) (fun h5=>?_)
 ·refine Zf ?_
  have hrb:i<0∨(l.length:Int)≤i:=by have z:=h5;simp at z;omega
  refine Zd<|JLA rfl<|JAn rfl<|ZH<|⟨.tuple ⟨[nS,iv 1]⟩,[[]],ZcE rfl (RV.tmp rfl) (RV.tmp rfl),(Zcz Sub.nil),?_⟩
  exact ⟨_,_,by rw [if_pos hc0,if_pos hrb],rfl,by rw [if_neg (fun q=>q.2 hrb)];exact Own.nil⟩
 obtain ⟨h5a,h5b⟩:=orF h5
 replace h5a:=df h5a
 replace h5b:=df h5b
 refine Zk<|Zf ?_
 have hrg:¬ (i<0∨(l.length:Int)≤i):=by have z:=h5;simp at z;omega
 have h0:0≤i:=by omega
 have h1:i<(l.length:Int):=by omega
 have hi:i.toNat<l.length:=by omega
 have hl:=YJ hi
 have hf:=XP hg.ok hi
 have hfl:=Yw l
 have hfe:frF l i=(firstN l i.toNat:Int):=by unfold frF;exact XO h0 h1
 refine Zd<|JLm v<|Jc call50 rfl (fun hin=>Tu l _ _ (RTs.mono (Hle.hu _ _) hv) hg) rfl ?_
 rintro _ _ ⟨g6,k6,vm,vc,vf,rfl,rfl,hGO⟩
 refine JLM rfl<|Jc call75 rfl (fun hin=>MM l hm g6 vm vc vf .nilFunc _ (hin 0 _ rfl _ _ mem_cons_self) (hGO.rd hn8 (hin 1 _ rfl)) rfl hg i h0 h1) rfl ?_
 rintro v7 _ ⟨k7,rfl,ho7⟩
 refine JLa v7<|JAn rfl<|ZH<|⟨.tuple ⟨[v7,iv 0]⟩,[k7],ZcE rfl (RV.tmp rfl) (RV.tmp rfl),(Sk Sub.nil),?_⟩
 exact ⟨_,_,by rw [if_pos hc0,if_neg hrg],rfl,by rw [if_pos ⟨hc0,hrg⟩];exact ho7⟩
theorem HY (m:List Tm) (a:Nat) (x:Int) (p:List Int) (u:Value) (b9 b8:Nat) (H:Heap) (hu:Hs.rdS RI 1 H u p) (hp:0<p.length) (hx:∀ y∈p,0≤y∧y<8) (h9:H b9=some (.cells ⟨bls (rcF m a)⟩ 93 (0,0))) (h8:H b8=some (.cells ⟨[iv x]⟩ 3 (0,0))):CT prog 53 ⟨[u,pp b9 0,pp b8 0]⟩ [] H (fun v N=>v=.bool ((rcF m a).getD (p.getD 0 0).toNat false&& !decide (x∈p))∧N=[]):=by
 have hx0:=hx _ (getElem_mem hp)
 have hx00:p.getD 0 0=p[0]:=Xf hp
 refine Zl func53 rfl rfl<|Zc<|JAn rfl<|Zc<|JLm u ?_
 obtain ⟨b1,o1,cap1,row1,T1,fr1,cs1,hv1,hb1,hs1,hE1⟩:=hu.get 0 (by omega)
 refine JLn (Zcw 0 ZV ty3 hv1 rfl rfl (by omega))<|JLr (Zb ty3 rfl (Zcx hb1) (ZT ((show cs1=[Value.int .i64 (p[0])] from hE1)▸hs1))<|JLq (pp b9 (0+(p[0]).toNat*1)) (ZcB (p[0]).toNat LK ty4 rfl rfl (by first | rfl | omega) (by omega))<|JLr (Zb ty4 rfl (Zcx h9) (YA (by have hbl:List.length (rcF m a)=8:=(X5 ..);omega))<|JLM rfl<|ZA 4 [11,12,13,14] [(14,cond ((rcF m a).getD (p[0]).toNat false) (.bool (!(decide (x∈p)))) undef)] ?_ fun f3=>?_))
 ·cases h2:((rcF m a).getD (p[0]).toNat false) with
  | true=>
   refine JLm u<|JLr (Zb ty3 rfl (Zcx h8) rfl<|Jc call54 rfl (fun hin=>WW _ _ _ _ (RIs.mono (Hle.hu _ _) hu)) rfl ?_)
   rintro _ _ ⟨rfl,rfl⟩
   refine JLn (Pu.not rfl) ?_
   exact Za ⟨⟨rfl,trivial⟩,rfl⟩
  | false=>
   exact ZJ rfl ⟨rfl,trivial⟩
 refine JLn (ZcA rfl rfl rfl)<|JAn rfl<|ZC (.bool (((rcF m a).getD (p[0]).toNat false)&&(!(decide (x∈p))))) [] Sub.nil (?_)
 exact ⟨by rw [hx00],rfl⟩
set_option maxHeartbeats 4000000 in
theorem LQ (l:List Tm) (v:Value) (H:Heap) (hv:Hs.rdS RT 36 H v l) (hz:∀ t∈l,sizeT t≤400000) (i:Int) (hGK:GK H):CT prog 12 ⟨[v,iv i]⟩ [] H (fun r N=>∃ u k,r=.tuple ⟨[u,iv (kCe l i)]⟩∧N=[k]∧Own 5 1 u (Yk (kCb l i)) k):=by
 refine Zl func12 rfl rfl<|Zc<|JLA rfl<|JAn rfl<|Zf<|Zc<|JLm v<|Jc call49 rfl (fun hin=>Th l _ _ (RTs.mono (Hle.hu _ _) hv) hz) rfl ?_
 rintro _ _ ⟨rfl,rfl⟩
 refine JAn rfl<|Zc<|JLM rfl<|JLn (Pu.neq rfl rfl)<|Za<|Zs rfl (fun h1=>?_) (fun h1=>?_)
 ·replace h1:=nt h1
  replace h1:=df h1
  refine Zc<|JLM rfl<|JLA rfl<|JAn rfl<|ZH<|⟨.tuple ⟨[nS,iv (Z7 (Zx 0) l)]⟩,[[]],ZcE rfl (RV.tmp rfl) (RV.tmp rfl),(Zcz Sub.nil),?_⟩
  have hq:=Wb (i:=i) h1
  exact ⟨_,_,by rw [hq.1],rfl,by rw [hq.2];exact Own.nil⟩
 replace h1:=nf h1
 replace h1:=dt h1
 refine Zk<|Zf<|Zf ?_
 have hc0:Z7 (Zx 0) l=0:=by omega
 have hg:=W2 hc0
 have hm:=hg.mkL
 have hn8:=hg.hi
 have hml:=Z0 l
 refine Zd<|JLM rfl<|JLn (Pu.lss rfl rfl)<|JLM rfl<|ZA 4 [20,21,22,23] [(23,cond (decide (i<0)) undef (.bool (decide ((l.length:Int)≤i))))] ?_ fun f4=>?_
 ·cases h2:(decide (i<0)) with
  | false=>
   replace h2:=df h2
   refine JLM rfl<|JLm v ?_
   obtain ⟨a3,cap3,hv3⟩:=hv.sl
   have hle3:=hv.le
   refine JLn (Zcv ZQ hv3)<|JLn (Pu.geq rfl rfl) ?_
   exact Za ⟨⟨rfl,trivial⟩,rfl⟩
  | true=>
   exact ZJ rfl ⟨rfl,trivial⟩
 refine JLn (ZcC rfl rfl rfl)<|Za<|Zs rfl (fun h5=>?_) (fun h5=>?_)
 ·refine Zf ?_
  have hrb:i<0∨(l.length:Int)≤i:=by have z:=h5;simp at z;omega
  refine Zd<|JLA rfl<|JAn rfl<|ZH<|⟨.tuple ⟨[nS,iv 1]⟩,[[]],ZcE rfl (RV.tmp rfl) (RV.tmp rfl),(Zcz Sub.nil),?_⟩
  have hq:=Wa hc0 hrb
  exact ⟨_,_,by rw [hq.1],rfl,by rw [hq.2];exact Own.nil⟩
 obtain ⟨h5a,h5b⟩:=orF h5
 replace h5a:=df h5a
 replace h5b:=df h5b
 refine Zk<|Zf ?_
 have hrg:¬ (i<0∨(l.length:Int)≤i):=by have z:=h5;simp at z;omega
 have h0:0≤i:=by omega
 have h1:i<(l.length:Int):=by omega
 have hi:i.toNat<l.length:=by omega
 have hl:=YJ hi
 have hf:=XP hg.ok hi
 have hfl:=Yw l
 have hfe:frF l i=(firstN l i.toNat:Int):=by unfold frF;exact XO h0 h1
 refine Zd<|JLm v<|Jc call50 rfl (fun hin=>Tu l _ _ (RTs.mono (Hle.hu _ _) hv) hg) rfl ?_
 rintro _ _ ⟨g6,k6,vm,vc,vf,rfl,rfl,hGO⟩
 refine JAn rfl<|TT (i:=1) rfl ?_
 intro H hh hkH
 have hr:=hGO.rd hn8 hkH
 have hGK:=GK.mono hh hGK
 have hv:=RTs.mono hh hv
 refine Zc<|JLM rfl<|JLq (pp g6 0) (Pu.nilCheck rfl)<|JLq (pp g6 2) (Tf rfl rfl)<|JLr (Zb Xm rfl (Zcu 0 rfl) rfl<|JLM rfl ?_)
 obtain ⟨b7,o7,cap7,row7,T7,fr7,cs7,hv7,hb7,hs7,hE7⟩:=hr.f.get i.toNat (by omega)
 refine JLq (pp b7 (o7+i.toNat*1)) (Zcw i.toNat ZV ty3 hv7 rfl (by omega) (by omega))<|JLr (Zb ty3 rfl (Zcx hb7) (ZT ((show cs7=[Value.int .i64 ((firstN l i.toNat):Int)] from hE7.trans (by rw [XU hi]))▸hs7))<|JLr (Zp (l:=[iv 0]) zeroValue3 rfl fun b8=>JLr (Ze 0 (vs:=[iv (((firstN l i.toNat):Int))]) (l:=[iv (((firstN l i.toNat):Int))]) ty3 rfl rfl rfl rfl rfl (Zg rfl Zq) rfl<|Za<|Zc<|JLM rfl<|JLr (Zb ty3 rfl (Zcu 0 rfl) rfl<|Jc call51 rfl (fun hin=>Vi l hm g6 vm vc vf .nilFunc _ (hin 1 _ rfl _ _ mem_cons_self) (GR.mono (Hle.hu _ _) hr) rfl ((firstN l i.toNat):Int) (by omega) (by omega)) rfl ?_))))
 rintro _ _ ⟨rfl,rfl⟩;rw [Int.toNat_natCast]
 refine JLr (Zp (l:=bls (replicate 8 false)) zeroValue93 rfl fun b9=>JLr (Ze 0 (vs:=bls (rcF (mkL l) (firstN l i.toNat))) (l:=bls (rcF (mkL l) (firstN l i.toNat))) DF rfl rfl rfl rfl ((VM _).trans (X5 ..)) (E3 _) (Yb (n:=8) ((VM _).trans (length_replicate ..)) ((VM _).trans (X5 ..)))<|Za<|Zc<|JLM rfl<|JLq (.func (.func 53) ⟨[]⟩ ⟨[pp b9 0,pp b8 0]⟩) (Pu.makeFunc rfl rfl)<|ZG 2 rfl call52 rfl rfl (fun hin=>FU l hg hm g6 vm vc vf .nilFunc rfl (wC l (firstN l i.toNat)) (ZaP hg hl hf) 53 [] [pp b9 0,pp b8 0] call53 _ (GK.mono (Hle.hu _ _) hGK) (GR.mono (Hle.hu _ _) hr) (fun j hj u h hh ru=>HY _ _ _ _ _ _ _ h ru (Aa hg (getElem_mem hj)) (fun y hy=>by have:=SD hg (getElem_mem hj) hy;omega) (hh _ _ (hin 0 _ rfl _ _ mem_cons_self)) (hh _ _ (hin 1 _ rfl _ _ mem_cons_self)))) rfl ?_))
 rintro _ _ ⟨mv,kk,f10,rfl,rfl,hf10,hmap⟩
 refine JLM rfl<|JLn (Pu.extract rfl rfl)<|JLn (Pu.extract rfl rfl)<|JLa mv<|JAn rfl<|Zf<|Zc<|JLM rfl<|JLn (Pu.neq rfl rfl)<|Za<|Zs rfl (fun h11=>?_) (fun h11=>?_)
 ·replace h11:=nt h11
  replace h11:=df h11
  refine Zc<|JLM rfl<|JLA rfl<|JAn rfl<|ZH<|⟨.tuple ⟨[nS,iv ((if knE l (wC l (firstN l i.toNat))=true then (11:Int) else 0))]⟩,[[]],ZcE rfl (RV.tmp rfl) (RV.tmp rfl),(Sd (Zcz Sub.nil)),?_⟩
  have hq:=PB hc0 hrg
  have hs:=Na hg hi
  have hE:knE l (wC l (firstN l i.toNat))=true:=by cases q:knE l (wC l (firstN l i.toNat)) with
   | true=>rfl
   | false=>simp [q] at h11
  rw [if_pos hE,if_pos hE] at hs
  exact ⟨_,_,by rw [hq.1,hs.1,if_pos hE],rfl,by rw [hq.2,hs.2];exact Own.nil⟩
 replace h11:=nf h11
 replace h11:=dt h11
 refine Zk<|Zf ?_
 have hE:knE l (wC l (firstN l i.toNat))=false:=by cases q:knE l (wC l (firstN l i.toNat)) with
  | false=>rfl
  | true=>simp [q] at h11
 obtain ⟨rM,rfl,rfl⟩:=hmap hE
 refine Zd<|JLM rfl<|JLM rfl<|JLM rfl<|ZG 0 rfl call55 rfl rfl (fun hin=>J5 l hg hm g6 rM vm vc vf f10 hf10 i h0 h1 (knW l (wC l (firstN l i.toNat)) (paL l).length) _ (GR.mono (Hle.hu _ _) hr) (hin 0 _ rfl _ _ mem_cons_self) (Au hg hl hf)) rfl ?_
 rintro _ _ ⟨u12,k12,f12,rfl,rfl,hf12,ho12⟩
 refine JLn (Pu.extract rfl rfl)<|JLn (Pu.extract rfl rfl)<|JLa u12<|JAn rfl<|ZH<|⟨.tuple ⟨[u12,iv (XV (YD (mkL l) (firstN l i.toNat)))]⟩,[k12],ZcE rfl (RV.tmp rfl) (RV.tmp rfl),(Sd (Sd (Sk Sub.nil))),?_⟩
 have hq:=PB hc0 hrg
 have hs:=Na hg hi
 rw [if_neg (by rw [hE];decide),if_neg (by rw [hE];decide)] at hs
 exact ⟨_,_,by rw [hq.1,hs.1],rfl,by rw [hq.2,hs.2];exact ho12⟩
theorem HZ (u:Value) (H:Heap) (hu1:u.oneCell'=true):CT prog 107 ⟨[u]⟩ [] H (fun v N=>v=.bool true∧N=[]):=by
 refine Zl func107 rfl rfl<|Zc<|JAn rfl<|Zc<|JAn rfl<|ZC (.bool true) [] Sub.nil (?_)
 exact ⟨rfl,rfl⟩
set_option maxHeartbeats 4000000 in
theorem DN (l:List Tm) (hg:okG l) (hm:okG (mkL l)) (gb:Nat) (vm vc vf ff:Value) (hff:ff.oneCell'=true) (H:Heap) (hGK:GK H) (hr:GR H l vm vc vf):CT prog 56 ⟨[pp gb 0]⟩ [(BX gb [vm,vc,vf,ff] 91)] H (fun v N=>∃ u k f2,v=.tuple ⟨[u,iv (erR l)]⟩∧N=[(BX gb [vm,vc,vf,f2] 91),k]∧f2.oneCell'=true∧Own 38 32 u (sms (smO l)) k):=by
 have hfl:=Yw l
 have hml:=Z0 l
 have hm8:=hm.hi
 refine Zl func56 rfl rfl<|Zc<|JLA rfl<|JAn rfl<|Zc<|JLM rfl<|ZG 0 rfl call52 rfl rfl (fun hin=>FU l hg hm gb vm vc vf ff hff wA (ZaQ l) 107 [] [] call107 _ (GK.mono (Hle.hu _ _) hGK) (GR.mono (Hle.hu _ _) hr) (fun j hj u h hh ru=>HZ u h ru.one)) rfl ?_
 rintro _ _ ⟨mv,kk,f1,rfl,rfl,hf1,hmap⟩
 refine JLM rfl<|JLn (Pu.extract rfl rfl)<|JLn (Pu.extract rfl rfl)<|JLa mv<|JAn rfl<|Zf<|Zc<|JLM rfl<|JLn (Pu.neq rfl rfl)<|Za<|Zs rfl (fun h2=>?_) (fun h2=>?_)
 ·replace h2:=nt h2
  replace h2:=df h2
  refine Zc<|JLM rfl<|JLA rfl<|JAn rfl<|ZH<|⟨.tuple ⟨[nS,iv ((if knE l wA=true then (11:Int) else 0))]⟩,[(BX gb [vm,vc,vf,f1] 91),[]],ZcE rfl (RV.tmp rfl) (RV.tmp rfl),(Sk (Zcz Sub.nil)),?_⟩
  have hE:knE l wA=true:=by cases q:knE l wA with
   | true=>rfl
   | false=>simp [q] at h2
  exact ⟨_,_,_,by rw [DL hg],rfl,hf1,by unfold smO;rw [← To hg,if_pos hE];exact Own.nil⟩
 replace h2:=nf h2
 replace h2:=dt h2
 refine Zk<|Zf ?_
 have hE:knE l wA=false:=by cases q:knE l wA with
  | false=>rfl
  | true=>simp [q] at h2
 obtain ⟨rM,rfl,rfl⟩:=hmap hE
 refine Zd<|JAn rfl<|Zf<|Zc<|JLM rfl<|JLq (pp gb 0) (Pu.nilCheck rfl)<|JLq (pp gb 2) (Tf rfl rfl)<|JLr (Zb Xm rfl (Zcu 0 rfl) rfl ?_)
 obtain ⟨a3,cap3,hv3⟩:=hr.f.sl
 have hle3:=hr.f.le
 refine JLn (Zcv ZV hv3)<|JLM rfl<|Za<|Zh<|Zv (fun k ρ M=>∃ (j:Nat) (y1:Value) (q1:Zi),ZR ρ [(2,nS),(3,iv 0),(4,.map (some rM)),(6,y1),(20,vf),(21,iv (((frI l).length:Int))),(22,iv ((j:Int)))]=ρ∧Sub [q1,(BX gb [vm,vc,vf,f1] 91),gmC iV smV rM (knW l wA (paL l).length) (dgF l)] M∧j≤(frI l).length∧Own 38 32 y1 (sms ((smG l).take j)) q1∧k=(frI l).length-j) _ ⟨0,nS,[],Zj rfl,(Zcz (Sk (Sk Sub.nil))),Nat.zero_le _,(show Own 38 32 _ (sms []) [] from Own.nil),rfl⟩ ?_
 rintro _ ρ4 _ ⟨j,y1,q1,e5,hm12,hj,how1,rfl⟩
 obtain ⟨ρ13,rfl⟩:=Zo e5
 clear e5
 refine ZD hm12<|Zc<|JLn (Pu.lss rfl rfl)<|Za<|Zf<|ZF rfl (fun h14=>?_) (fun h14=>?_)
 ·have h14n:j<(frI l).length:=by omega
  refine Zk<|Zf<|Zh<|Zf<|Zd ?_
  obtain ⟨b15,o15,cap15,row15,T15,fr15,cs15,hv15,hb15,hs15,hE15⟩:=hr.f.get j (by omega)
  refine JLn (Zcw j ZV ty3 hv15 rfl rfl (by omega))<|JLr (Zb ty3 rfl (Zcx hb15) (ZT ((show cs15=[Value.int .i64 ((frI l)[j])] from hE15)▸hs15))<|JAn rfl<|Zd<|JLm y1<|JLM rfl<|JLM rfl<|JLr (Ou (i:=2) (kV:=iV) (vV:=smV) (K:=knW l wA (paL l).length) (f:=dgF l) (k:=((frI l)[j])) zS (Zaa underlying3) underlying95 zeroValue38 rfl rfl rfl ?_))
  have hsm:=Za8 hg (show j<l.length by omega) rfl
  rw [if_pos hsm.1,hsm.2]
  refine JLr (Zm (vs:=[.agg ⟨sC (sha (cB l j))⟩]) [sC (sha (cB l j))] Wt Hk rfl rfl (al1 rfl) rfl (by decide) fun b16 k16 ho16 hk16=>?_)
  have hlens17:∀ e∈([sC (sha (cB l j))]:List (List Value)),List.length e=32:=al1 rfl
  have hoks17:∀ e∈([sC (sha (cB l j))]:List (List Value)),okc e:=al1 (VG _)
  refine JLr (Zz (i:=1) (n:=1) (es':=[sC (sha (cB l j))]) Wt Wt (Or.inl rfl) Hk rfl rfl rfl how1 (fun F w m=>Src.row (((ZcD 0 rfl (by rw [hk16];exact mem_cons_self))).heap m) (ZE (Zw hlens17))) rfl hlens17 hoks17 (by decide) (by rw [WN,length_take];omega) fun v17 k17 ho17=>?_)
  rw [← Mx] at ho17
  refine JLa v17<|Za<|Zd<|JLn (Zcy rfl rfl (by omega))<|JLM rfl<|Za<|⟨_,?_,(j+1),v17,k17,Zj rfl,(Sd (Sk (Sk (Sk Sub.nil)))),?_,?_,rfl⟩
  ·omega
  ·omega
  rw [My (show j<l.length by omega)];exact ho17
 have h14n:(frI l).length≤j:=by omega
 refine Zu _ rfl<|Zc<|JLm y1<|JLa y1<|JAn rfl<|ZH<|⟨.tuple ⟨[y1,iv 0]⟩,[(BX gb [vm,vc,vf,f1] 91),q1],ZcE rfl (RV.tmp rfl) (RV.tmp rfl),(Sub.cons 1 rfl (Sk Sub.nil)),?_⟩
 rw [take_of_length_le (by rw [VD];omega)] at how1
 exact ⟨_,_,_,by unfold erR;rw [← To hg,hE];rfl,rfl,hf1,by unfold smO;rw [← To hg,hE];exact how1⟩
theorem Up (l:List Tm) (v:Value) (H:Heap) (hv:Hs.rdS RT 36 H v l) (hz:∀ t∈l,sizeT t≤400000) (hGK:GK H):CT prog 13 ⟨[v]⟩ [] H (fun r N=>∃ u k,r=.tuple ⟨[u,iv (kSe l)]⟩∧N=[k]∧Own 38 32 u (sms (kSs l)) k):=by
 refine Zl func13 rfl rfl<|Zc<|JLA rfl<|JAn rfl<|Zf<|Zc<|JLm v<|Jc call49 rfl (fun hin=>Th l _ _ (RTs.mono (Hle.hu _ _) hv) hz) rfl ?_
 rintro _ _ ⟨rfl,rfl⟩
 refine JAn rfl<|Zc<|JLM rfl<|JLn (Pu.neq rfl rfl)<|Za<|Zs rfl (fun h1=>?_) (fun h1=>?_)
 ·replace h1:=nt h1
  replace h1:=df h1
  refine Zc<|JLM rfl<|JLA rfl<|JAn rfl<|ZH<|⟨.tuple ⟨[nS,iv (Z7 (Zx 0) l)]⟩,[[]],ZcE rfl (RV.tmp rfl) (RV.tmp rfl),(Zcz Sub.nil),?_⟩
  have hq:=Wj h1
  exact ⟨_,_,by rw [hq.1],rfl,by rw [hq.2];exact Own.nil⟩
 replace h1:=nf h1
 replace h1:=dt h1
 refine Zk<|Zf ?_
 have hc0:Z7 (Zx 0) l=0:=by omega
 have hg:=W2 hc0
 have hm:=hg.mkL
 have hn8:=hg.hi
 have hml:=Z0 l
 refine Zd<|JLm v<|Jc call50 rfl (fun hin=>Tu l _ _ (RTs.mono (Hle.hu _ _) hv) hg) rfl ?_
 rintro _ _ ⟨g2,k2,vm,vc,vf,rfl,rfl,hGO⟩
 refine ZG 0 rfl call56 rfl rfl (fun hin=>DN l hg hm g2 vm vc vf .nilFunc rfl _ (GK.mono (Hle.hu _ _) hGK) (hGO.rd hn8 (hin 0 _ rfl))) rfl ?_
 rintro _ _ ⟨u3,k3,f3,rfl,rfl,hf3,ho3⟩
 refine JLn (Pu.extract rfl rfl)<|JLn (Pu.extract rfl rfl)<|JLa u3<|JAn rfl<|ZH<|⟨.tuple ⟨[u3,iv (erR l)]⟩,[k3],ZcE rfl (RV.tmp rfl) (RV.tmp rfl),(Sd (Sk Sub.nil)),?_⟩
 have hq:=SO hc0
 exact ⟨_,_,by rw [hq.1],rfl,by rw [hq.2];exact ho3⟩
theorem Fp:∀ (s:List Sm) (bS:Nat) (us:Value) (t:Tm) (cs:List Value) (H:Heap),RT H cs t→V3 s.length t.kind t.num t.ref→H bS=some (.cells ⟨[us]⟩ 29 (0,0))→Hs.rdS RSm 32 H us s→CT prog 58 ⟨[.agg ⟨cs⟩,pp bS 0]⟩ [] H (fun v N=>∃ kx cx,v=.agg ⟨pkT (TZ s t.kind t.num t.ref).1 (TZ s t.kind t.num t.ref).2.1 (TZ s t.kind t.num t.ref).2.2 kx cx⟩∧N=[]∧kx.oneCell'=true∧cx.oneCell'=true):=by
 intro s bS us t cs H ht hq hS hus
 obtain ⟨kind,num,ref,kids,cases⟩:=t
 obtain ⟨ks,cv,rfl,hk,hn,hks,hcv⟩:=RT_mk.1 ht
 simp only [Tm.kind,Tm.num,Tm.ref] at hq ⊢
 refine Zl func58 rfl rfl<|Zc<|JLr (Zr (l:=pkT kind num ref ks cv) rfl rfl fun b1=>JLr (Zp (l:=pkT 0 0 zS nS nS) zeroValue51 rfl fun b2=>Za<|Zf<|Zc<|JLq (pp b1 0) (Z1 rfl rfl)<|JLr (Zb ty3 rfl (Zcu 1 rfl) (Yf ..)<|JLn (Pu.eql rfl rfl)<|Za ?_)))
 refine ZF rfl (fun h3=>?_) (fun h3=>?_)
 ·refine Zf ?_
  have hqn:=hq h3
  refine Zd<|JLr (Zb ZaX rfl (Zcx hS) rfl<|JLq (pp b1 1) (Yj rfl rfl)<|JLr (Zb ty3 rfl (Zcu 1 rfl) (YP ..) ?_))
  obtain ⟨b4,o4,cap4,row4,T4,fr4,hv4,hb4,hs4⟩:=RSms.at hus num.toNat (by omega)
  refine JLq (pp b4 (o4+num.toNat*32)) (Zcw num.toNat Wt Yq hv4 rfl (by first | rfl | omega) (by omega))<|JLr (Zn Yq rfl (Zcx hb4) hs4<|JLq (.agg ⟨pkT 6 0 (s.getD num.toNat zS) nS nS⟩) (Pu.build (pv:=[(0,iv 6),(2,.agg ⟨sC (s.getD num.toNat zS)⟩)]) (l:=pkT 6 0 (s.getD num.toNat zS) nS nS) rfl (R2 _ _))<|JLr (Ze 0 (vs:=pkT 6 0 (s.getD num.toNat zS) nS nS) (l:=pkT 6 0 (s.getD num.toNat zS) nS nS) Zy rfl rfl rfl rfl rfl (Ys rfl rfl) (Xo ..)<|Za<|ZH<|⟨.agg ⟨pkT 6 0 (s.getD num.toNat zS) nS nS⟩,[],Ret.one rfl (RV.cell Zy rfl (Zcu 0 rfl) (YH ..)),Sub.nil,?_⟩))
  have hD:TZ s kind num ref=(6,0,s.getD num.toNat zS):=by unfold TZ;rw [if_pos h3]
  exact ⟨_,_,by (rw [hD];try rfl),rfl,rfl,rfl⟩
 refine Zk<|Zc<|JLr (Zn Zy rfl (Zcu 1 rfl) (YH ..)<|JLr (Ze 0 (vs:=pkT kind num ref ks cv) (l:=pkT kind num ref ks cv) Zy rfl rfl rfl rfl rfl (Ys hks.one hcv.one) (Xo ..)<|Za<|ZH<|⟨.agg ⟨pkT kind num ref ks cv⟩,[],Ret.one rfl (RV.cell Zy rfl (Zcu 0 rfl) (YH ..)),Sub.nil,?_⟩))
 have hD:TZ s kind num ref=(kind,num,ref):=by unfold TZ;rw [if_neg h3]
 exact ⟨_,_,by (rw [hD];try rfl),rfl,hks.one,hcv.one⟩
set_option maxHeartbeats 4000000 in
theorem LM (l:List Tm) (v:Value) (H:Heap) (hv:Hs.rdS RT 36 H v l) (hz:∀ t∈l,sizeT t≤400000) (hGK:GK H):CT prog 14 ⟨[v]⟩ [] H (fun r N=>∃ u k,r=.tuple ⟨[u,iv (kSe l)]⟩∧N=[k]∧OL (kOl l) u k):=by
 refine Zl func14 rfl rfl<|Zc<|JLA rfl<|JAn rfl<|Zc<|JLm v<|Jc call13 rfl (fun hin=>Up l _ _ (RTs.mono (Hle.hu _ _) hv) hz (GK.mono (Hle.hu _ _) hGK)) rfl ?_
 rintro _ _ ⟨u1,k1,rfl,rfl,ho1⟩
 refine JLM rfl<|JLn (Pu.extract rfl rfl)<|JLn (Pu.extract rfl rfl)<|JLr (Zp (l:=[nS]) zeroValue29 rfl fun b2=>JLr (Ze 0 (vs:=[u1]) (l:=[u1]) ZaX rfl rfl rfl (ZS ho1.one) rfl (Zg ho1.one Zq) rfl<|JAn rfl<|Zf<|Zc<|JLM rfl<|JLn (Pu.neq rfl rfl)<|Za ?_))
 refine Zs rfl (fun h3=>?_) (fun h3=>?_)
 ·replace h3:=nt h3
  replace h3:=df h3
  refine Zc<|JLM rfl<|JLA rfl<|JAn rfl<|ZH<|⟨.tuple ⟨[nS,iv (kSe l)]⟩,[[]],ZcE rfl (RV.tmp rfl) (RV.tmp rfl),(Zcz Sub.nil),?_⟩
  exact ⟨_,_,rfl,rfl,by unfold kOl;rw [if_neg h3];exact OL.nil⟩
 replace h3:=nf h3
 replace h3:=dt h3
 refine Zk<|Zf ?_
 have hks:=ZbF (by omega:kSe l=0)
 have hg:=hks.1
 have hn8:=hg.hi
 rw [hks.2] at ho1
 refine Zd<|JAn rfl<|Zf<|Zc<|JLm v ?_
 obtain ⟨a4,cap4,hv4⟩:=hv.sl
 have hle4:=hv.le
 refine JLn (Zcv ZQ hv4)<|JLM rfl<|Za<|Zh<|Zv (fun k ρ M=>∃ (j:Nat) (y1:Value) (q1 q2:Zi) (es:List (List Value)),ZR ρ [(2,nS),(3,iv 0),(4,pp b2 0),(6,y1),(17,v),(18,iv ((l.length:Int))),(19,iv ((j:Int)))]=ρ∧Sub [q1,q2,(BX b2 [u1] 29),k1] M∧j≤l.length∧Own 51 36 y1 es q1∧OTs ((opL l).take j) es q2∧k=l.length-j) _ ⟨0,nS,[],[],[],Zj rfl,(Zcz (Zcz (Sk (Sk Sub.nil)))),Nat.zero_le _,Own.nil,⟨rfl,rfl⟩,rfl⟩ ?_
 rintro _ ρ5 _ ⟨j,y1,q1,q2,es,e6,hm13,hj,how,hos,rfl⟩
 obtain ⟨ρ14,rfl⟩:=Zo e6
 clear e6
 refine ZD hm13 ?_
 have hlen:=hv.le
 have hel:=Xr hos
 rw [length_take,Tv] at hel
 refine Zc<|JLn (Pu.lss rfl rfl)<|Za<|Zf<|ZF rfl (fun h15=>?_) (fun h15=>?_)
 ·have h15n:j<l.length:=by omega
  refine Zk<|Zf<|Zh<|Zf<|Zd ?_
  obtain ⟨b16,o16,cap16,row16,T16,fr16,cs16,hv16,hb16,hs16,hE16⟩:=hv.get j (by omega)
  refine JLn (Zcw j ZQ Zy hv16 rfl rfl (by omega))<|JLr (Zn Zy rfl (Zcx hb16) hs16<|JLr (Zp (l:=pkT 0 0 zS nS nS) zeroValue51 rfl fun b17=>JLr (Ze 0 (vs:=cs16) (l:=cs16) Zy rfl rfl rfl rfl (ZB hE16) (XA hE16) (Yb (n:=36) rfl (ZB hE16))<|Za<|Zd<|JLm y1<|JLr (Zn Zy rfl (Zcu 0 rfl) (ZE (ZB hE16))<|JLq (.func (.func 58) ⟨[]⟩ ⟨[pp b2 0]⟩) (Pu.makeFunc rfl rfl)<|Jc call57 rfl (fun hin=>Tx (TZ (smG l)) (V3 l.length) 58 [] _ call58 (Cr _ _) _ _ _ (RT.mono (Hle.hu _ _) hE16) (by have:=hg.sz (getElem_mem h15n);omega) (SG hg h15n) (fun y a h hh ra hq=>Fp (smG l) _ _ y a h ra (by rw [VD];exact hq) (hh _ _ (hin 3 _ rfl _ _ mem_cons_self)) (RSms.mono hh (Wi ho1 (by rw [VD];omega) (hin 4 _ rfl))))) rfl ?_))))
  rintro _ _ ⟨cs18,k18,rfl,rfl,hO18⟩
  refine JLr (Zm (vs:=[.agg ⟨cs18⟩]) [cs18] ZQ Wo rfl rfl (al1 hO18.len) rfl (by decide) fun b19 k19 ho19 hk19=>?_)
  have hlens20:∀ e∈([cs18]:List (List Value)),List.length e=36:=al1 hO18.len
  have hoks20:∀ e∈([cs18]:List (List Value)),okc e:=al1 hO18.ok
  refine JLr (Zz (i:=3) (n:=1) (es':=[cs18]) ZQ ZQ (Or.inl rfl) Wo rfl rfl rfl how (fun F w m=>Src.row (((ZcD 0 rfl (by rw [hk19];exact mem_cons_self))).heap m) (ZE (Zw hlens20))) rfl hlens20 hoks20 (by decide) (by omega) fun v20 k20 ho20=>JLa v20<|Za<|Zd<|JLn (Zcy rfl rfl (by omega))<|JLM rfl<|Za<|⟨_,?_,(j+1),v20,k20,(q2++k18),(es++[cs18]),Zj rfl,(Sd (Sub.cons 2 rfl (ZcF (Sub.cons 2 rfl (Sk (Sd (Sk (Sk Sub.nil)))))))),?_,?_,?_,rfl⟩)
  ·omega
  ·omega
  ·exact ho20
  rw [MO h15n,← A0 hg h15n];exact OTs.snoc hO18 hos
 have h15n:l.length≤j:=by omega
 refine Zu _ rfl<|Zc<|JLm y1<|JLa y1<|JAn rfl<|ZH<|⟨.tuple ⟨[y1,iv 0]⟩,[q1++q2],ZcE rfl (RV.tmp rfl) (RV.tmp rfl),(ZcF (Sk (Sk Sub.nil))),?_⟩
 rw [take_of_length_le (by rw [Tv];exact h15n)] at hos
 exact ⟨_,_,by rw [show kSe l=0 by omega],rfl,by unfold kOl;rw [if_pos (by omega)];exact OL.mk how hos (by rw [Tv];omega)⟩
set_option maxHeartbeats 1000000 in
theorem Be (K:List Sm) (t:Tm) (cs:List Value) (r:Nat) (H:Heap) (ht:RT H cs t) (hz:sizeT t≤400000) (hRb:H r=some (gmO smV iV K (idF K))):CT prog 128 ⟨[.agg ⟨cs⟩,.map (some r)]⟩ [] H (fun r N=>∃ k,N=[k]∧Own 3 1 r (Z2 (dfL K t)) k):=by
 refine Zl func128 rfl rfl<|Zc<|JLr (Zr (l:=cs) rfl rfl fun b1=>JLr (Zr (l:=[.map (some r)]) rfl rfl fun b2=>JAn rfl<|Zc<|JLr (Zp (l:=[nS]) zeroValue45 rfl fun b3=>Za<|Zf<|Zf ?_)))
 refine Zd<|JLr (Zn Zy rfl (Zcu 2 rfl) (ZE (ZB ht))<|Jc call169 rfl (fun hin=>MP _ _ (ZB ht) (XA ht)) rfl ?_)
 rintro _ _ ⟨bT4,rfl,rfl⟩
 refine Za<|Zh<|ZD (M':=[[],(BX bT4 cs 51),(BX b3 [nS] 45),(BX b2 [.map (some r)] 131),(BX b1 cs 51)]) (Zcz Sub.refl)<|ZD (Sub.cons 2 rfl (Sk (Sk (Sk (Sk Sub.nil)))))<|QQ (L:=[(BX bT4 cs 51),(BX b2 [.map (some r)] 131),(BX b1 cs 51)]) (fun s:Value×Zi=>[(BX b3 [s.1] 45),s.2]) (fun _=>false) (nS,[]) (fun s=>Own 3 1 s.1 (Z2 (ndT (dfF K) [] t)) s.2) rfl rfl call199 (List.Perm.of_eq (by simp)) ?_ ?_ ?_
 ·intro l yc hY hin
  refine CT.mono (OR (dfF K) List.length (fun s k=>∃ p:Value×Zi,k=yc p∧Own 3 1 p.1 (Z2 s) p.2) (Ey K) l _ t [] _ _ _ ⟨_,rfl,(show Own 3 1 _ (Z2 []) [] from Own.nil)⟩ (RT.mono (Hle.hu _ _) ht) (by simp;omega) (hin 0 _ rfl _ _ mem_cons_self) ?_) (fun v N ⟨k,hk,p,e,ho⟩=>⟨p,by rw [hk,e],ho⟩)
  rintro y d _ a h ⟨s,rfl,hI⟩ hh hry hz0
  refine YT.mono (hY s [_] h (fun p2=>Own 3 1 p2.1 (Z2 ((dfF K) d y)) p2.2) rfl rfl (RoundOk.mk ?_)) ?_
  obtain ⟨ksy,cvy,rfl,hky,hny,hksy,hcvy⟩:=Rf hry
  ·show J _ _ _ _ [(BX b3 [s.1] 45),s.2] _
   refine Zd<|JLr (Zp (l:=pkT 0 0 zS nS nS) zeroValue51 rfl fun b5=>JLr (Ze 0 (vs:=pkT (y.kind) (y.num) (y.ref) ksy cvy) (l:=pkT (y.kind) (y.num) (y.ref) ksy cvy) Zy rfl rfl rfl rfl rfl (Ys hksy.one hcvy.one) (Xo ..)<|Za<|Zh<|Zc<|JLr (Zb KZ rfl (Zcx (hh _ _ (hin 1 _ rfl _ _ mem_cons_self))) rfl<|JLq (pp b5 2) (WL rfl rfl)<|JLr (Zn Yq rfl (Zcu 0 rfl) (V5 ..)<|JLr (Tn (kV:=smV) (vV:=iV) (K:=K) (f:=idF K) (k:=(y.ref)) 0 CG underlying131 zeroValue3 rfl rfl (hh _ _ (Hle.hu _ _ _ _ hRb))<|JLM rfl<|JLn (Pu.extract rfl rfl) ?_)))))
   refine JLn (Pu.extract rfl rfl)<|JLA rfl<|JAn rfl<|Zc<|JLM rfl<|JLM rfl<|ZA 3 [21,22,23] [(23,cond (decide ((y.ref)∈K)) (.bool (decide (y.kind=6))) undef)] ?_ fun f7=>?_
   ·cases h6:(decide ((y.ref)∈K)) with
    | true=>
     replace h6:=dt h6
     refine JLq (pp b5 0) (Z1 rfl rfl)<|JLr (Zb ty3 rfl (Zcu 0 rfl) (Yf ..)<|JLn (Pu.eql rfl rfl) ?_)
     exact Za ⟨⟨rfl,trivial⟩,rfl⟩
    | false=>
     exact ZJ rfl ⟨rfl,trivial⟩
   refine JLn (ZcA rfl rfl rfl)<|Za<|Zs rfl (fun h8=>?_) (fun h8=>?_)
   ·obtain ⟨h8a,h8b⟩:=Xa h8
    replace h8a:=dt h8a
    replace h8b:=dt h8b
    refine Zd<|JLr (Zb Xm rfl (Zcu 1 rfl) rfl<|JLM rfl<|JLr (Zm (vs:=[iv (if (y.ref)∈K then (idF K) (y.ref) else 0)]) [[iv (if (y.ref)∈K then (idF K) (y.ref) else 0)]] ZV el3 rfl rfl (al1 rfl) rfl (by decide) fun b9 k9 ho9 hk9=>?_))
    have hlens10:∀ e∈([[iv (if (y.ref)∈K then (idF K) (y.ref) else 0)]]:List (List Value)),List.length e=1:=al1 rfl
    have hoks10:∀ e∈([[iv (if (y.ref)∈K then (idF K) (y.ref) else 0)]]:List (List Value)),okc e:=al1 (Zg rfl Zq)
    refine JLr (Zz (i:=3) (n:=1) (es':=[[iv (if (y.ref)∈K then (idF K) (y.ref) else 0)]]) ZV ZV (Or.inl rfl) el3 rfl rfl rfl hI (fun F w m=>Src.row (((ZcD 0 rfl (by rw [hk9];exact mem_cons_self))).heap m) (ZE (Zw hlens10))) rfl hlens10 hoks10 (by decide) (by rw [Zt];omega) fun v10 k10 ho10=>JLr (Ze 2 (vs:=[v10]) (l:=[v10]) Xm rfl rfl rfl (ZS ho10.one) rfl (Zg ho10.one Zq) rfl<|Za ?_))
    exact ⟨(v10,k10),rfl,(Sd (Sd (Sk (Sk Sub.nil)))),(by have z:=ho10;unfold dfF;rw [if_pos (show _∧_ by simpa using h8)];rw [if_pos (show _ from (by simpa using h8:_∧_).1),← WI] at z;exact z)⟩
   refine Zk ?_
   exact ⟨(s.1,s.2),rfl,(Sd (Sk (Sk Sub.nil))),(by unfold dfF;rw [if_neg (by simpa using h8)];exact hI)⟩
  rintro v N ⟨s2,rfl,rfl,h2⟩;exact ⟨rfl,_,rfl,s2,rfl,h2⟩
 ·rintro s hI hp
  have hIF:=hI
  refine Zc<|JLr (Zb Xm rfl (Zcu 0 rfl) rfl<|JLa (s.1)<|Za<|ZC s.1 [s.2] (Sd (Sk Sub.nil)) (?_))
  exact ⟨_,rfl,hIF⟩
 intro s _ hp;cases hp
end
theorem Ln (l:List (Sm×Tm)) (x:Int) (hx:x.toNat<l.length) (cs:List Value) (r:Nat) (H:Heap) (ht:RT H cs (l[x.toNat]).2) (hz:sizeT (l[x.toNat]).2≤400000) (hRb:H r=some (gmO smV iV (kSm l) (idF (kSm l)))):
    CT prog 128 ⟨[.agg ⟨cs⟩,.map (some r)]⟩ [] H (fun v N=>∃ k,N=[k]∧Own 3 1 v (Z2 (dfA l x)) k):=by
  have z:=Be (kSm l) (l[x.toNat]).2 cs r H ht hz hRb
  rwa [← Ez hx] at z
theorem J4 {l:List (Sm×Tm)} {x:Int} (hx:x.toNat<l.length):(dfA l x).length≤sizeT (l[x.toNat]).2:=by rw [Ez hx];exact Bc _ _
theorem Cs (n:Nat):okO n []:=⟨by simp,fun x hx=>absurd hx (by simp)⟩
theorem Bf {n:Nat} {x:Int} {t:List Int} (hx:0≤x∧x<(n:Int)) (ok:okO n t) {a:Nat} (ha:a<(x::t).length):0≤(x::t)[a]∧(x::t)[a]<(n:Int):=by
  cases a with
  | zero=>exact hx
  | succ a=>exact ok.2 _ (getElem_mem (by simpa using ha))
theorem JT {n:Nat} {t:List Int} {k:Int} (h0:0≤k) (h1:k<(n:Int)):(flL n t).getD k.toNat false=decide (k∈t):=by
  rw [CW (by omega),Int.toNat_of_nonneg h0]
theorem Mw {c out:List Int} {p:Nat} (h:p<c.length):stO (fun _=>true) (c.take (p+1)) out=if c[p]∉stO (fun _=>true) (c.take p) out then stO (fun _=>true) (c.take p) out++[c[p]] else stO (fun _=>true) (c.take p) out:=by
  rw [Wg h];simp
def clD (K:List Sm) (o:List Int) (k n:Int) (r:Sm):Int×Int×Sm:=if k=6∧r∈K∧idF K r∈o then (7,(o.idxOf (idF K r):Int),zS) else (k,n,r)
theorem Zay {K:List Sm} {o:List Int} (ho:o.length≤1000) (Q:Int→Int→Sm→Prop):∀ k n r,inI k→inI n→Q k n r→inI (clD K o k n r).1∧inI (clD K o k n r).2.1:=fun k n r hk hn _=>by
  unfold clD;split
  · have:=List.idxOf_le_length (a:=idF K r) (l:=o)
    unfold inI;constructor <;> simp only <;> omega
  · exact ⟨hk,hn⟩
def pcB (l:List (Sm×Tm)) (x n:Int):Bool:=decide (n∈rqL l x)&&decide (x∈rqL l n)
def coL (l:List (Sm×Tm)) (x:Int):List Int:=W6 (pcB l x) (dfA l) l.length 0 [x]
theorem Zar {l:List (Sm×Tm)} {x:Int} (h0:0≤x) (h1:x<(l.length:Int)):okO l.length (coL l x):=(QC (PP l) _ _ (okO.one h0 h1)).1
def clB (l:List (Sm×Tm)) (o:List Int) (n:Int):Tm:=mpT (clD (kSm l) o) ((l.map (·.2)).getD n.toNat dT)
theorem EO {l:List (Sm×Tm)} {o:List Int} {n:Int} (h:n.toNat<l.length):clB l o n=mpT (clD (kSm l) o) (l[n.toNat]).2:=by
  unfold clB;rw [getD_eq_getElem?_getD,getElem?_map,getElem?_eq_getElem h];rfl
def grL (l:List (Sm×Tm)) (x:Int):List Tm:=if 8<(coL l x).length then [] else (coL l x).map (clB l (coL l x))
def grE (l:List (Sm×Tm)) (x:Int):Int:=if 8<(coL l x).length then 2 else 0
theorem EN {l:List (Sm×Tm)} {o:List Int} {j:Nat} (h:j<o.length):(o.map (clB l o)).take (j+1)=(o.map (clB l o)).take j++[clB l o o[j]]:=by
  rw [take_succ_eq_append_getElem (by simpa using h)];simp
theorem SB {l:List (Sm×Tm)} {x n:Int} (h0:0≤x) (h1:x<(l.length:Int)) (k0:0≤n) (k1:n<(l.length:Int)):pcB l x n=((flL l.length (rqL l x)).getD n.toNat false&&(flL l.length (rqL l n)).getD x.toNat false):=by
  unfold pcB;rw [JT k0 k1,JT h0 h1]
section
variable (D:Int→Int→Sm→Int×Int×Sm)
mutual
theorem Q3:∀ t:Tm,sizeT (mpT D t)=sizeT t
  | .mk k n r kids cases=>by rw [mpT,sizeT,sizeT,OE kids,OF cases]
theorem OE:∀ l:List Tm,ZL (RH D l)=ZL l
  | []=>rfl
  | t::l=>by rw [RH,ZL,ZL,Q3 t,OE l]
theorem OF:∀ l:List (Pt×Tm),ZX (RJ D l)=ZX l
  | []=>rfl
  | (p,t)::l=>by rw [RJ];simp only [ZX];rw [Q3 t,OF l]
end
end
def bdL (l:List (Sm×Tm)):List Tm:=l.map (·.2)
theorem Mf (l:List (Sm×Tm)):(bdL l).length=l.length:=length_map ..
theorem ZaI {l:List (Sm×Tm)} {j:Nat} (h:j<l.length):(bdL l)[j]'(by rw [Mf];exact h)=(l[j]).2:=by simp [bdL]
theorem Zag {l:List (Sm×Tm)} (hz:∀ x∈l,sizeT x.2≤400000) {x:Int} (h0:0≤x) (h1:x<(l.length:Int)):∀ t∈grL l x,sizeT t≤400000:=fun t ht=>by
  unfold grL at ht
  split at ht
  · exact absurd ht (by simp)
  · obtain ⟨n,hn,rfl⟩:=mem_map.1 ht
    have b:=(Zar h0 h1).2 n hn
    rw [EO (show n.toNat<l.length by omega),Q3]
    exact hz _ (getElem_mem _)
theorem Zad {l:List (Sm×Tm)} {j:Nat} (hj:j<l.length) (hno:(l[j]).1∉(kSm l).take j):idF (kSm l) (l[j]).1=(j:Int):=by
  have hk:j<(kSm l).length:=by rw [SN];exact hj
  have e:(kSm l)[j]=(l[j]).1:=by simp [kSm]
  have e2:kSm l=(kSm l).take j++((l[j]).1::(kSm l).drop (j+1)):=by rw [← e,← drop_eq_getElem_cons hk,take_append_drop]
  unfold idF
  have:(kSm l).idxOf (l[j]).1=j:=by
    rw [e2,List.idxOf_append,if_neg hno,List.idxOf_cons_self,length_take];omega
  rw [this]
theorem F0 {l:List (Sm×Tm)} {j:Nat} (h:j<l.length):(kSm l).take (j+1)=(kSm l).take j++[(l[j]).1]:=by
  rw [take_succ_eq_append_getElem (by rw [SN];exact h)];simp [kSm]
def bkE (l:List (Sm×Tm)):Int:=if 40<l.length then 2 else if Wq (Zx 0 0) (bdL l)=0 then (if (kSm l).Nodup then 0 else 5) else Wq (Zx 0 0) (bdL l)
theorem L8 {K:List Sm} {s:Sm} (h:K.Nodup) (hs:s∉K):(K++[s]).Nodup:=by
  rw [nodup_append];exact ⟨h,by simp,fun a ha b hb=>by rw [mem_singleton] at hb;subst hb;exact fun e=>hs (e▸ha)⟩
theorem BH {l:List (Sm×Tm)} {j:Nat} (hj:j<l.length) (h:(l[j]).1∈(kSm l).take j):¬ (kSm l).Nodup:=fun nd=>by
  have hk:j<(kSm l).length:=by rw [SN];exact hj
  have e:(kSm l)[j]=(l[j]).1:=by simp [kSm]
  have e2:kSm l=(kSm l).take j++((l[j]).1::(kSm l).drop (j+1)):=by rw [← e,← drop_eq_getElem_cons hk,take_append_drop]
  rw [e2,nodup_append] at nd
  exact nd.2.2 _ h _ mem_cons_self rfl
def M9 (f:Nat→Int):Nat→Int
  | 0=>0
  | n+1=>if M9 f n=0 then f n else M9 f n
theorem SU {f:Nat→Int}:∀ {n:Nat},(∀ i,i<n→f i=0)→M9 f n=0
  | 0,_=>rfl
  | n+1,h=>by rw [M9,if_pos (SU fun i hi=>h i (by omega))];exact h n (by omega)
theorem ST {f:Nat→Int} {j:Nat} (h:∀ i,i<j→f i=0) (hj:¬ f j=0):∀ {n:Nat},j<n→M9 f n=f j
  | 0,q=>absurd q (by omega)
  | n +1,q=>by
    by_cases e:j=n
    · subst e;rw [M9,if_pos (SU h)]
    · have:=ST h hj (n:=n) (by omega)
      rw [M9,this,if_neg hj]
noncomputable def vfS (l:List (Sm×Tm)) (i:Nat):Int:=if grE l i=0 then (if kCe (grL l i) 0=0 then (if sha (kCb (grL l i) 0)=(kSm l).getD i zS then 0 else 14) else kCe (grL l i) 0) else grE l i
noncomputable def vfE (l:List (Sm×Tm)):Int:=if bkE l=0 then M9 (vfS l) l.length else bkE l
theorem JD {l:List (Sm×Tm)} {j:Nat} (h:j<l.length):(kSm l).getD j zS=(l[j]).1:=by
  unfold kSm;rw [getD_eq_getElem?_getD,getElem?_map,getElem?_eq_getElem h];rfl
theorem F1 {l:List Tm} (i:Int) (h:kCe l i=0):(kCb l i).length≤250000∧∀ x∈kCb l i,0≤x∧x≤255:=by
  by_cases c:Z7 (Zx 0) l=0
  · by_cases d:i<0∨(l.length:Int)≤i
    · have:=Wa c d;rw [this.1] at h;cases h
    · have:=PB c d
      rw [this.1] at h
      rw [this.2,EY h]
      exact EZ (W2 c) (by omega)
  · have:=Wb (i:=i) c;rw [this.1] at h;exact absurd h c
def vaT (n:Int):Tm:=.mk 1 n zS [] []
def nuT (n:Int):Tm:=.mk 2 n zS [] []
def laT (t:Tm):Tm:=.mk 3 0 zS [t] []
def apT (f x:Tm):Tm:=.mk 4 0 zS [f,x] []
def seT (n:Int):Tm:=.mk 7 n zS [] []
def prT (o:Int) (a b:Tm):Tm:=.mk 10 o zS [a,b] []
def Xv:List Tm:=[laT (apT (seT 1) (vaT 0)),laT (apT (seT 0) (vaT 0))]
def UT:List Tm:=[laT (apT (seT 0) (vaT 0))]
def SC (is other:Int):Tm:=laT (.mk 9 0 zS [vaT 0] [(.mk 2 0 zS [],nuT is),(.mk 1 0 zS [],apT (seT other) (prT 2 (vaT 0) (nuT 1)))])
def parT:List Tm:=[SC 1 1,SC 0 0]
def twoT:List Tm:=[nuT 1,prT 1 (seT 0) (seT 0)]
theorem Ia:Z7 (Zx 0) Xv=0:=by kernel_rfl
theorem ZaA:Z7 (Zx 0) UT=0:=by kernel_rfl
theorem KD:Z7 (Zx 0) parT=0:=by kernel_rfl
theorem EP:Z7 (Zx 0) twoT=0:=by kernel_rfl
theorem QI:frI Xv=[0,0]:=by
  have hb:UM Xv 1 0:=Rb (R:=fun i j=>i<2∧j<2) (fun i j r=>by
      obtain ⟨a,b⟩:=r
      match i,j,a,b with
      | 0,0,_,_=>rfl
      | 0,1,_,_=>rfl
      | 1,0,_,_=>rfl
      | 1,1,_,_=>rfl) (fun i j r k hk=>by
      obtain ⟨a,b⟩:=r
      match i,j,a,b with
      | 0,0,_,_=>cases k with | zero=>decide | succ k=>exact absurd hk (by show ¬ k+1<1;omega)
      | 0,1,_,_=>cases k with | zero=>decide | succ k=>exact absurd hk (by show ¬ k+1<1;omega)
      | 1,0,_,_=>cases k with | zero=>decide | succ k=>exact absurd hk (by show ¬ k+1<1;omega)
      | 1,1,_,_=>cases k with | zero=>decide | succ k=>exact absurd hk (by show ¬ k+1<1;omega)) 1 0 ⟨by decide,by decide⟩
  have e0:firstN Xv 0=0:=by have:=TC (l:=Xv) (i:=0) (by decide);omega
  have e1:firstN Xv 1=0:=Uh (by decide) hb (fun a ha=>absurd ha (by omega))
  unfold frI
  show [(firstN Xv 0:Int),(firstN Xv 1:Int)]=[0,0]
  rw [e0,e1];rfl
theorem Eg:frI UT=[0]:=by
  have e0:firstN UT 0=0:=by have:=TC (l:=UT) (i:=0) (by decide);omega
  unfold frI
  show [(firstN UT 0:Int)]=[0]
  rw [e0];rfl
theorem NY {l:List Tm} (hl:l.length=2) (h:¬ e0L l 1 0):frI l=[0,1]:=by
  have e0:firstN l 0=0:=by have:=TC (l:=l) (i:=0) (by omega);omega
  have e1:firstN l 1=1:=Uh (by omega) (TI l 1) (fun a ha b=>by
    obtain rfl:a=0:=by omega
    exact h (Me b))
  unfold frI
  rw [hl]
  show [(firstN l 0:Int),(firstN l 1:Int)]=[0,1]
  rw [e0,e1];rfl
theorem NZ:frI parT=[0,1]:=NY rfl (fun h=>by
  have e:Vx 2 (SC 0 0)=Vx 2 (SC 1 1):=h
  simp [Vx,SC,laT,nuT,vaT,apT,seT,prT,Yy,YF,YC] at e)
theorem Km:frI twoT=[0,1]:=NY rfl (fun h=>by
  have e:Vx 2 (prT 1 (seT 0) (seT 0))=Vx 2 (nuT 1):=h
  simp [Vx,nuT,seT,prT,Yy,YF,YC] at e)
theorem QE:mkL Xv=[laT (apT (seT 0) (vaT 0)),laT (apT (seT 0) (vaT 0))]:=by unfold mkL;rw [QI];rfl
theorem FG:mkL UT=UT:=by unfold mkL;rw [Eg];rfl
theorem Py:mkL parT=parT:=by unfold mkL;rw [NZ];rfl
theorem Kd:mkL twoT=twoT:=by unfold mkL;rw [Km];rfl
theorem AX:Wd parT 1=[1,0]:=by kernel_rfl
def SF:List Tm:=[SC 1 0]
def Pl:List Tm:=[SC 0 1,SC 1 0]
def b0P:List Int:=Ya (YD parT 0)
def b1P:List Int:=Ya (YD parT 1)
def b2P:List Int:=Ya (YD SF 0)
def q0P:Sm:=sha b0P
def q1P:Sm:=sha b1P
theorem Ie {x y:Nat} (hx:x<256) (hy:y<256) (h:UInt8.ofNat x=UInt8.ofNat y):x=y:=by
  have:=congrArg UInt8.toNat h
  rw [UInt8.toNat_ofNat',UInt8.toNat_ofNat'] at this
  omega
theorem n0P:(b0P++VR b0P.length b0P.length).length=64*2:=by kernel_rfl
theorem n1P:(b1P++VR b1P.length b1P.length).length=64*2:=by kernel_rfl
theorem n2P:(b2P++VR b2P.length b2P.length).length=64*1:=by kernel_rfl
theorem Zb7:Nat.beq (Nat.shiftRight ((Re 2 beN (b0P++VR b0P.length b0P.length)).getD 0 0) 24 % 256) (Nat.shiftRight ((Re 2 beN (b1P++VR b1P.length b1P.length)).getD 0 0) 24 % 256)=false:=by kernel_rfl
theorem Zb6:Nat.beq (Nat.shiftRight ((Re 1 beN (b2P++VR b2P.length b2P.length)).getD 0 0) 24 % 256) (Nat.shiftRight ((Re 2 beN (b1P++VR b1P.length b1P.length)).getD 0 0) 24 % 256)=false:=by kernel_rfl
theorem q01:q0P≠q1P:=fun e=>by
  have a:=(Nv 2 n0P).1
  have b:=(Nv 2 n1P).1
  unfold q0P q1P at e
  rw [e,b] at a
  have h:=Ie (Nat.mod_lt _ (by decide)) (Nat.mod_lt _ (by decide)) a
  have w:=Zb7
  rw [h,Nat.beq_refl] at w;cases w
theorem q21:sha b2P≠q1P:=fun e=>by
  have a:=(Nv 1 n2P).1
  have b:=(Nv 2 n1P).1
  unfold q1P at e
  rw [e,b] at a
  have h:=Ie (Nat.mod_lt _ (by decide)) (Nat.mod_lt _ (by decide)) a
  have w:=Zb6
  rw [h,Nat.beq_refl] at w;cases w
theorem SW {l:List Tm} {v:List Int} (h:frI l=v) {i:Nat} (hi:i<l.length):(firstN l i:Int)=v.getD i 0:=by
  rw [← h,getD_eq_getElem?_getD,getElem?_eq_getElem (by rw [Yw];exact hi),Option.getD_some,XU hi]
theorem JP:firstN parT 0=0:=by have:=SW NZ (i:=0) (by decide);simp at this;omega
theorem JO:firstN parT 1=1:=by have:=SW NZ (i:=1) (by decide);simp at this;omega
theorem Lc:firstN Xv 0=0:=by have:=SW QI (i:=0) (by decide);simp at this;omega
theorem Lb:firstN Xv 1=0:=by have:=SW QI (i:=1) (by decide);simp at this;omega
theorem JQ:firstN UT 0=0:=by have:=SW Eg (i:=0) (by decide);simp at this;omega
theorem cr_par:cR parT 0=0∧cR parT 1=0:=by
  refine ⟨?_,?_⟩
  · rw [Tj,Py,JP];kernel_rfl
  · rw [Tj,Py,JO];kernel_rfl
theorem cr_ring:cR Xv 0=0∧cR Xv 1=0:=by
  refine ⟨?_,?_⟩
  · rw [Tj,QE,Lc];kernel_rfl
  · rw [Tj,QE,Lb];kernel_rfl
theorem Zaq:cR UT 0=0:=by rw [Tj,FG,JQ];kernel_rfl
theorem P0 {l m:List Tm} {i k:Nat} (h:mkL l=m) (hk:firstN l i=k):cB l i=Ya (YD m k):=by unfold cB;rw [h,hk]
theorem b0P_def:b0P=Ya (YD parT 0):=by delta b0P;exact Eq.refl _
theorem b1P_def:b1P=Ya (YD parT 1):=by delta b1P;exact Eq.refl _
theorem Ma:cB parT 0=b0P:=(P0 Py JP).trans b0P_def.symm
theorem Id:cB parT 1=b1P:=(P0 Py JO).trans b1P_def.symm
def bRP:List Int:=[168,1,1,131,0,1,132,0,2,7,0,1,0]
theorem J2:Ya (YD [laT (apT (seT 0) (vaT 0)),laT (apT (seT 0) (vaT 0))] 0)=bRP:=by kernel_rfl
theorem Zan:Ya (YD UT 0)=bRP:=by kernel_rfl
theorem ET:cB Xv 0=bRP:=(P0 QE Lc).trans J2
theorem ES:cB Xv 1=bRP:=(P0 QE Lb).trans J2
theorem Bs:cB UT 0=bRP:=(P0 FG JQ).trans Zan
theorem Eo {l:List Tm} (hl:l.length=2) (h0:cR l 0=0) (h1:cR l 1=0):erR l=0∧smO l=smG l:=by
  have:=Nr (l:=l) (fun k hk=>by
    match k,hk with
    | 0,_=>exact h0
    | 1,_=>exact h1
    | k+2,hk=>omega)
  exact ⟨this.1,this.2.1⟩
theorem ks_par:kSe parT=0∧kSs parT=[q0P,q1P]:=by
  have a:=SO KD
  have b:=Eo (l:=parT) rfl cr_par.1 cr_par.2
  rw [a.1,a.2,b.1,b.2]
  refine ⟨rfl,?_⟩
  show [sha (cB parT 0),sha (cB parT 1)]=_
  rw [Ma,Id];rfl
theorem ks_ring:kSe Xv=0∧kSs Xv=[sha bRP,sha bRP]:=by
  have a:=SO Ia
  have b:=Eo (l:=Xv) rfl cr_ring.1 cr_ring.2
  rw [a.1,a.2,b.1,b.2]
  refine ⟨rfl,?_⟩
  show [sha (cB Xv 0),sha (cB Xv 1)]=_
  rw [ET,ES]
theorem ks_one:kSe UT=0∧kSs UT=[sha bRP]:=by
  have a:=SO ZaA
  have b:=Nr (l:=UT) (fun k hk=>by
    match k,hk with
    | 0,_=>exact Zaq
    | k+1,hk=>exact absurd hk (by show ¬ k+1<1;omega))
  rw [a.1,a.2,b.1,b.2.1]
  refine ⟨rfl,?_⟩
  show [sha (cB UT 0)]=_
  rw [Bs]
theorem JN:firstN twoT 0=0:=by have:=SW Km (i:=0) (by decide);simp at this;omega
theorem JM:firstN twoT 1=1:=by have:=SW Km (i:=1) (by decide);simp at this;omega
theorem G3 (n:Nat) (b0 b1:Bool) (h0:tgB twoT n 0=b0) (h1:tgB twoT n 1=b1):ptI twoT n=(if b0 then [0] else [])++(if b1 then [1] else []):=by
  unfold ptI
  show ptTo twoT n 2=_
  rw [Tq,Tq,Kd,JN,JM,h0,h1]
  cases b0 <;> cases b1 <;> rfl
theorem Jm:ptI twoT 0=[0]:=G3 0 true false (by kernel_rfl) (by kernel_rfl)
theorem Jl:ptI twoT 1=[1]:=G3 1 false true (by kernel_rfl) (by kernel_rfl)
theorem AT:paL twoT=[[0],[1]]:=by
  have ok:=(W2 EP).mkL
  have c0:∀ c∈clG (mkL twoT) 0,False:=fun c hc=>by
    have:=(QK ok).1 hc
    rw [Kd] at this
    exact absurd this (by simp [atL,twoT,nuT,sfR,Y0,Y4])
  have c1:∀ c∈clG (mkL twoT) 1,c=0:=fun c hc=>by
    have:=(QK ok).1 hc
    rw [Kd] at this
    simpa [atL,twoT,prT,seT,sfR,Y0,Y4] using this
  have g0:goodB twoT (runP twoT 0).1 0=true:=by
    refine goodB_iff.2 ⟨JN,rfl,?_⟩
    unfold pkB;rw [Jm]
    refine all_eq_true.2 fun k hk=>all_eq_true.2 fun c hc=>?_
    obtain rfl:k=0:=by simpa using hk
    exact absurd (c0 c hc) id
  have s1:runP twoT 1=(TN (replicate 8 false) [0],[[0]]):=by
    rw [runP,V1 (show 0<twoT.length by decide) g0 (fun i hi=>absurd hi (by omega)),Jm];rfl
  have t0:∀ tk:List Bool,tk.getD 0 false=true→goodB twoT tk 0=false:=fun tk h=>by
    cases q:goodB twoT tk 0 with
    | false=>rfl
    | true=>have:=(goodB_iff.1 q).2.1;rw [h] at this;cases this
  have t1:∀ tk:List Bool,tk.getD 1 false=true→goodB twoT tk 1=false:=fun tk h=>by
    cases q:goodB twoT tk 1 with
    | false=>rfl
    | true=>have:=(goodB_iff.1 q).2.1;rw [h] at this;cases this
  have g1:goodB twoT (runP twoT 1).1 1=true:=by
    rw [s1]
    refine goodB_iff.2 ⟨JM,rfl,?_⟩
    unfold pkB;rw [Jl]
    refine all_eq_true.2 fun k hk=>all_eq_true.2 fun c hc=>?_
    obtain rfl:k=1:=by simpa using hk
    obtain rfl:=c1 c hc
    rfl
  have s2:runP twoT 2=(TN (TN (replicate 8 false) [0]) [1],[[0],[1]]):=by
    rw [runP,V1 (show 1<twoT.length by decide) g1 (fun i hi=>by
      obtain rfl:i=0:=by omega
      rw [s1];exact t0 _ rfl),Jl,s1];rfl
  have s3:stepP twoT (runP twoT 2)=runP twoT 2:=U1 fun j hj=>by
    rw [s2]
    match j,hj with
    | 0,_=>exact t0 _ rfl
    | 1,_=>exact t1 _ rfl
    | j+2,hj=>exact absurd hj (by show ¬ j+2<2;omega)
  rw [Fe (by decide) s3,s2]
def opM (q:Sm) (is:Int):Tm:=laT (.mk 9 0 zS [vaT 0] [(.mk 2 0 zS [],nuT is),(.mk 1 0 zS [],apT (.mk 6 0 q [] []) (prT 2 (vaT 0) (nuT 1)))])
theorem A1:kOl parT=[opM q1P 1,opM q0P 0]:=by
  unfold kOl
  rw [if_pos ks_par.1]
  unfold opL smG
  have e:((range parT.length).map fun i=>sha (cB parT i))=[q0P,q1P]:=by
    show [sha (cB parT 0),sha (cB parT 1)]=_
    rw [Ma,Id];rfl
  rw [e];rfl
section
variable {a b:Sm}
theorem dk (K:List Sm) (q:Sm) (is:Int) (h:q∈K):dfL K (opM q is)=[idF K q]:=by
  simp [dfL,opM,laT,nuT,vaT,apT,prT,ndT,ndL,ndC,dfF,Tm.kind,Tm.ref,h]
theorem J3 (l:List (Sm×Tm)) (x y:List Int) (hl:l.length=2) (h0:dfA l 0=x) (h1:dfA l 1=y):dfA l=fun n=>if n.toNat=0 then x else if n.toNat=1 then y else []:=by
  funext n
  match e:n.toNat with
  | 0=>rw [if_pos rfl,← h0];unfold dfA;rw [e];rfl
  | 1=>rw [if_neg (by decide),if_pos rfl,← h1];unfold dfA;rw [e];rfl
  | k+2=>
    rw [if_neg (by omega),if_neg (by omega)]
    unfold dfA
    rw [e,getD_eq_getElem?_getD,getElem?_eq_none (by rw [length_map,hl];omega)]
    show dfL (kSm l) dT=[]
    simp [dfL,dT,ndT,ndL,ndC,dfF,Tm.kind]
theorem E6 {c d:Sm} {t u:Tm} (h:c≠d) (ht:Zx 0 0 t=0) (hu:Zx 0 0 u=0):bkE [(c,t),(d,u)]=0:=by
  unfold bkE
  rw [if_neg (by show ¬ 40<2;decide),if_pos (Bq (by
    intro x hx
    have:x=t∨x=u:=by simpa [bdL] using hx
    rcases this with rfl | rfl
    · exact ht
    · exact hu)),if_pos (by simp [kSm,h])]
end
theorem Ib (q:Sm) (is:Int) (h:is=0∨is=1):Zx 0 0 (opM q is)=0:=by
  rcases h with rfl | rfl <;> rfl
def kA:List (Sm×Tm):=[(q0P,opM q1P 1),(q1P,opM q0P 0)]
def kB:List (Sm×Tm):=[(q1P,opM q1P 1),(q0P,opM q0P 0)]
theorem q10:q1P≠q0P:=fun e=>q01 e.symm
def sA:Int→List Int:=fun n=>if n.toNat=0 then [1] else if n.toNat=1 then [0] else []
def sB':Int→List Int:=fun n=>if n.toNat=0 then [0] else if n.toNat=1 then [1] else []
theorem Zaf:idF [q0P,q1P] q0P=0:=by simp [idF]
theorem Zae:idF [q0P,q1P] q1P=1:=by have e:(q0P==q1P)=false:=beq_eq_false_iff_ne.2 q01;simp [idF,List.idxOf_cons,e]
theorem ZbH:idF [q1P,q0P] q1P=0:=by simp [idF]
theorem Zcl:idF [q1P,q0P] q0P=1:=by have e:(q1P==q0P)=false:=beq_eq_false_iff_ne.2 q10;simp [idF,List.idxOf_cons,e]
theorem dA:dfA kA=sA:=J3 kA [1] [0] rfl
  (by show dfL [q0P,q1P] (opM q1P 1)=[1];rw [dk _ _ _ (by simp),Zae]) (by show dfL [q0P,q1P] (opM q0P 0)=[0];rw [dk _ _ _ (by simp),Zaf])
theorem dB:dfA kB=sB':=J3 kB [0] [1] rfl
  (by show dfL [q1P,q0P] (opM q1P 1)=[0];rw [dk _ _ _ (by simp),ZbH]) (by show dfL [q1P,q0P] (opM q0P 0)=[1];rw [dk _ _ _ (by simp),Zcl])
theorem KB (l:List (Sm×Tm)) (s:Int→List Int) (hd:dfA l=s) (hl:l.length=2) (x:Int):coL l x=W6 (fun n=>decide (n∈rqB s x 3 0 [])&&decide (x∈rqB s n 3 0 [])) s 2 0 [x]:=by
  unfold coL
  have:pcB l x=fun n=>decide (n∈rqB s x 3 0 [])&&decide (x∈rqB s n 3 0 []):=by
    funext n;unfold pcB rqL;rw [hd,hl]
  rw [this,hd,hl]
theorem ZbU:coL kA 0=[0,1]:=by rw [KB kA sA dA rfl];kernel_rfl
theorem ZbT:coL kA 1=[1,0]:=by rw [KB kA sA dA rfl];kernel_rfl
theorem ZbS:coL kB 0=[0]:=by rw [KB kB sB' dB rfl];kernel_rfl
theorem MU (K:List Sm) (o:List Int) (q:Sm) (is x y:Int) (hq:q∈K) (hx:idF K q=x) (hm:x∈o) (hy:(o.idxOf x:Int)=y):mpT (clD K o) (opM q is)=SC is y:=by
  have e:clD K o 6 0 q=(7,y,zS):=by unfold clD;rw [if_pos ⟨rfl,hq,by rw [hx];exact hm⟩,hx,hy]
  have n:∀ k n r,k≠6→clD K o k n r=(k,n,r):=fun k n r hk=>by unfold clD;rw [if_neg (fun q=>hk q.1)]
  simp [opM,SC,laT,nuT,vaT,apT,prT,seT,mpT,RH,RJ,e,n]
theorem Zco:grL kA 0=parT:=by
  unfold grL;rw [ZbU,if_neg (by decide)]
  show [mpT (clD [q0P,q1P] [0,1]) (opM q1P 1),mpT (clD [q0P,q1P] [0,1]) (opM q0P 0)]=parT
  rw [MU _ _ _ _ 1 1 (by simp) Zae (by decide) (by decide),MU _ _ _ _ 0 0 (by simp) Zaf (by decide) (by decide)];rfl
theorem Zcn:grL kA 1=Pl:=by
  unfold grL;rw [ZbT,if_neg (by decide)]
  show [mpT (clD [q0P,q1P] [1,0]) (opM q0P 0),mpT (clD [q0P,q1P] [1,0]) (opM q1P 1)]=Pl
  rw [MU _ _ _ _ 0 1 (by simp) Zaf (by decide) (by decide),MU _ _ _ _ 1 0 (by simp) Zae (by decide) (by decide)];rfl
theorem Zcm:grL kB 0=SF:=by
  unfold grL;rw [ZbS,if_neg (by decide)]
  show [mpT (clD [q1P,q0P] [0]) (opM q1P 1)]=SF
  rw [MU _ _ _ _ 0 0 (by simp) ZbH (by decide) (by decide)];rfl
theorem Bo:Z7 (Zx 0) Pl=0:=by kernel_rfl
theorem Bp:Z7 (Zx 0) SF=0:=by kernel_rfl
theorem JJ:frI Pl=[0,1]:=NY rfl (fun h=>by
  have e:Vx 2 (SC 1 0)=Vx 2 (SC 0 1):=h
  simp [Vx,SC,laT,nuT,vaT,apT,seT,prT,Yy,YF,YC] at e)
theorem JK:frI SF=[0]:=by
  have e0:firstN SF 0=0:=by have:=TC (l:=SF) (i:=0) (by decide);omega
  unfold frI
  show [(firstN SF 0:Int)]=[0]
  rw [e0];rfl
theorem Ld:firstN Pl 0=0:=by have:=SW JJ (i:=0) (by decide);simp at this;omega
theorem Le:firstN SF 0=0:=by have:=SW JK (i:=0) (by decide);simp at this;omega
theorem Jx:mkL Pl=Pl:=by unfold mkL;rw [JJ];rfl
theorem Jy:mkL SF=SF:=by unfold mkL;rw [JK];rfl
def b1L:List Int:=[168,2,2,131,0,1,137,0,3,1,0,148,0,2,32,0,2,0,148,0,2,31,0,132,0,2,7,1,138,2,2,1,0,2,1,131,0,1,137,0,3,1,0,148,0,2,32,0,2,1,148,0,2,31,0,132,0,2,7,0,138,2,2,1,0,2,1]
theorem en_parQ:Ya (YD Pl 0)=b1L:=by kernel_rfl
theorem en_par1:Ya (YD parT 1)=b1L:=by kernel_rfl
theorem FZ {l:List Tm} {b:List Int} (hc:Z7 (Zx 0) l=0) (h:cR l 0=0) (hb:cB l 0=b):kCe l 0=0∧kCb l 0=b:=by
  have ok:=W2 hc
  have:=PB (i:=0) hc (by have:=ok.lo;omega)
  rw [this.1,this.2]
  exact ⟨h,(EY h).trans hb⟩
theorem Zcj:kCe parT 0=0∧kCb parT 0=b0P:=FZ KD cr_par.1 Ma
theorem Zci:kCe Pl 0=0∧kCb Pl 0=b1P:=FZ Bo (by rw [Tj,Jx,Ld];kernel_rfl) ((P0 Jx Ld).trans ((en_parQ.trans en_par1.symm).trans b1P_def.symm))
theorem Zch:kCe SF 0=0∧kCb SF 0=b2P:=FZ Bp (by rw [Tj,Jy,Le];kernel_rfl) ((P0 Jy Le).trans (by delta b2P;exact Eq.refl _))
theorem H4 {l:List (Sm×Tm)} {i:Nat} {g:List Tm} {b:List Int} (hl:(coL l i).length≤8) (hg:grL l i=g) (hc:kCe g 0=0∧kCb g 0=b):vfS l i=if sha b=(kSm l).getD i zS then 0 else 14:=by
  have e:grE l i=0:=by unfold grE;rw [if_neg (by omega)]
  unfold vfS;rw [if_pos e,hg,if_pos hc.1,hc.2]
theorem ZaW:vfE kA=0:=by
  have h0:vfS kA 0=0:=by
    rw [H4 (g:=parT) (b:=b0P) (by show (coL kA 0).length≤8;rw [ZbU];decide) Zco Zcj];exact if_pos rfl
  have h1:vfS kA 1=0:=by
    rw [H4 (g:=Pl) (b:=b1P) (by show (coL kA 1).length≤8;rw [ZbT];decide) Zcn Zci];exact if_pos rfl
  have hbk:bkE kA=0:=E6 q01 (Ib _ _ (.inr rfl)) (Ib _ _ (.inl rfl))
  unfold vfE
  rw [if_pos hbk]
  exact SU fun i hi=>by
    match i,hi with
    | 0,_=>exact h0
    | 1,_=>exact h1
    | i+2,hi=>exact absurd hi (by show ¬ i+2<2;omega)
theorem Av:vfE kB=14:=by
  have h0:vfS kB 0=14:=by
    rw [H4 (g:=SF) (b:=b2P) (by show (coL kB 0).length≤8;rw [ZbS];decide) Zcm Zch];exact if_neg q21
  have hbk:bkE kB=0:=E6 q10 (Ib _ _ (.inr rfl)) (Ib _ _ (.inl rfl))
  unfold vfE
  rw [if_pos hbk,ST (j:=0) (fun i hi=>absurd hi (by omega)) (by rw [h0];decide) (by decide),h0]
theorem QP {t:Tm} {e:List Value} {k:Zi} (h:OT t e k):OTs [t] [e] k:=by rw [OTs];exact ⟨e,[],k,[],rfl,h,OTs.nil,by simp⟩
theorem QO {t u:Tm} {e f:List Value} {k m:Zi} (h:OT t e k) (h':OT u f m):OTs [t,u] [e,f] (k++m):=by rw [OTs];exact ⟨e,[f],k,m,rfl,h,QP h',rfl⟩
theorem BS {p q:Pt} {t u:Tm} {a b c d:List Value} {ka kb kc kd:Zi} (h1:OP p a ka) (h2:OT t b kb) (h3:OP q c kc) (h4:OT u d kd):OCs [(p,t),(q,u)] [a++b,c++d] (ka++(kb++(kc++kd))):=by
  rw [OCs]
  refine ⟨a,b,[c++d],ka,kb,kc++kd,rfl,h1,h2,?_,rfl⟩
  rw [OCs]
  exact ⟨c,d,[],kc,kd,[],rfl,h3,h4,OCs.nil,by simp⟩
theorem ZaK {kd n:Int} {t:Tm} {ks:Value} {e:List Value} {k1 k:Zi} (hk:inI kd) (hn:inI n) (ho:Own 51 36 ks [e] k1) (h:OT t e k):OT (.mk kd n zS [t] []) (pkT kd n zS ks (.slice none 0 0)) (k1++k):=
  OT_mk.2 ⟨_,_,_,[],k1,k,[],[],rfl,hk,hn,ho,QP h,Own.nil,OCs.nil,by simp,by simp,by simp⟩
theorem Do {kd n:Int} {t u:Tm} {ks:Value} {e f:List Value} {k1 k m:Zi} (hk:inI kd) (hn:inI n) (ho:Own 51 36 ks [e,f] k1) (h:OT t e k) (h':OT u f m):OT (.mk kd n zS [t,u] []) (pkT kd n zS ks (.slice none 0 0)) (k1++(k++m)):=
  OT_mk.2 ⟨_,_,_,[],k1,k++m,[],[],rfl,hk,hn,ho,QO h h',Own.nil,OCs.nil,by simp,by simp,by simp⟩
theorem ZaL {t:Tm} {l:List (Pt×Tm)} {ks w:Value} {e:List Value} {es:List (List Value)} {k1 k k3 k4:Zi} (ho:Own 51 36 ks [e] k1) (h:OT t e k) (hw:Own 117 71 w es k3) (hl:OCs l es k4) (hb:l.length≤1000):OT (.mk 9 0 zS [t] l) (pkT 9 0 zS ks w) (k1++(k++(k3++k4))):=
  OT_mk.2 ⟨_,_,_,es,k1,k,k3,k4,rfl,by unfold inI;omega,by unfold inI;omega,ho,QP h,hw,hl,rfl,by simp,by omega⟩
section
attribute [local irreducible] JL J CT wlo DT
theorem QU (n:Int) (hn:inI n) (H:Heap):CT prog 33 ⟨[iv n]⟩ [] H (fun v N=>∃ cs k,v=.agg ⟨cs⟩∧N=[k]∧OT (vaT n) cs k):=by
 refine Zl func33 rfl rfl<|Zc<|JLr (Zp (l:=pkT 0 0 zS nS nS) zeroValue51 rfl fun b1=>Za<|Zc<|JLM rfl<|JLq (.agg ⟨pkT 1 n zS nS nS⟩) (Pu.build (pv:=[(0,iv 1),(1,iv n)]) (l:=pkT 1 n zS nS nS) rfl (Vc _ _))<|JLr (Ze 0 (vs:=pkT 1 n zS nS nS) (l:=pkT 1 n zS nS nS) Zy rfl rfl rfl rfl rfl (Ys rfl rfl) (Xo ..)<|Za<|ZH<|⟨.agg ⟨pkT 1 n zS nS nS⟩,[[]],Ret.one rfl (RV.cell Zy rfl (Zcu 0 rfl) (YH ..)),(Zcz Sub.nil),?_⟩))
 exact ⟨_,_,rfl,rfl,Rg (by unfold inI;omega) hn⟩
theorem L7 (n:Int) (hn:inI n) (H:Heap):CT prog 37 ⟨[iv n]⟩ [] H (fun v N=>∃ cs k,v=.agg ⟨cs⟩∧N=[k]∧OT (nuT n) cs k):=by
 refine Zl func37 rfl rfl<|Zc<|JLr (Zp (l:=pkT 0 0 zS nS nS) zeroValue51 rfl fun b1=>Za<|Zc<|JLM rfl<|JLq (.agg ⟨pkT 2 n zS nS nS⟩) (Pu.build (pv:=[(0,iv 2),(1,iv n)]) (l:=pkT 2 n zS nS nS) rfl (Vc _ _))<|JLr (Ze 0 (vs:=pkT 2 n zS nS nS) (l:=pkT 2 n zS nS nS) Zy rfl rfl rfl rfl rfl (Ys rfl rfl) (Xo ..)<|Za<|ZH<|⟨.agg ⟨pkT 2 n zS nS nS⟩,[[]],Ret.one rfl (RV.cell Zy rfl (Zcu 0 rfl) (YH ..)),(Zcz Sub.nil),?_⟩))
 exact ⟨_,_,rfl,rfl,Rg (by unfold inI;omega) hn⟩
theorem Rt (n:Int) (hn:inI n) (H:Heap):CT prog 32 ⟨[iv n]⟩ [] H (fun v N=>∃ cs k,v=.agg ⟨cs⟩∧N=[k]∧OT (seT n) cs k):=by
 refine Zl func32 rfl rfl<|Zc<|JLr (Zp (l:=pkT 0 0 zS nS nS) zeroValue51 rfl fun b1=>Za<|Zc<|JLM rfl<|JLq (.agg ⟨pkT 7 n zS nS nS⟩) (Pu.build (pv:=[(0,iv 7),(1,iv n)]) (l:=pkT 7 n zS nS nS) rfl (Vc _ _))<|JLr (Ze 0 (vs:=pkT 7 n zS nS nS) (l:=pkT 7 n zS nS nS) Zy rfl rfl rfl rfl rfl (Ys rfl rfl) (Xo ..)<|Za<|ZH<|⟨.agg ⟨pkT 7 n zS nS nS⟩,[[]],Ret.one rfl (RV.cell Zy rfl (Zcu 0 rfl) (YH ..)),(Zcz Sub.nil),?_⟩))
 exact ⟨_,_,rfl,rfl,Rg (by unfold inI;omega) hn⟩
theorem NW (t:Tm) (cs:List Value) (k:Zi) (H:Heap) (hO:OT t cs k):CT prog 30 ⟨[.agg ⟨cs⟩]⟩ [k] H (fun v N=>∃ cs k,v=.agg ⟨cs⟩∧N=[k]∧OT (laT t) cs k):=by
 refine Zl func30 rfl rfl<|Zc<|JLr (Zr (l:=cs) rfl rfl fun b1=>JLr (Zp (l:=pkT 0 0 zS nS nS) zeroValue51 rfl fun b2=>Za<|Zc<|JLr (Zn Zy rfl (Zcu 1 rfl) (ZE hO.len)<|JLr (Zm (vs:=[.agg ⟨cs⟩]) [cs] ZQ Wo rfl rfl (al1 hO.len) rfl (by decide) fun b3 k3 ho3 hk3=>JLq (.agg ⟨pkT 3 0 zS (.slice (some ⟨b3,0,none⟩) 1 1) nS⟩) (Pu.build (pv:=[(0,iv 3),(3,.slice (some ⟨b3,0,none⟩) 1 1)]) (l:=pkT 3 0 zS (.slice (some ⟨b3,0,none⟩) 1 1) nS) rfl (Ng _ _ _ _))<|JLr (Ze 1 (vs:=pkT 3 0 zS (.slice (some ⟨b3,0,none⟩) 1 1) nS) (l:=pkT 3 0 zS (.slice (some ⟨b3,0,none⟩) 1 1) nS) Zy rfl rfl rfl rfl rfl (Ys rfl rfl) (Xo ..)<|Za ?_)))))
 refine ZH<|⟨.agg ⟨pkT 3 0 zS (.slice (some ⟨b3,0,none⟩) 1 1) nS⟩,[k3++k],Ret.one rfl (RV.cell Zy rfl (Zcu 1 rfl) (YH ..)),(ZcF (Sk (Sd (Sd (Sk Sub.nil))))),?_⟩
 exact ⟨_,_,rfl,rfl,ZaK (by unfold inI;omega) (by unfold inI;omega) ho3 hO⟩
theorem Mg (t u:Tm) (cs ds:List Value) (k m:Zi) (H:Heap) (hO:OT t cs k) (hO2:OT u ds m):CT prog 31 ⟨[.agg ⟨cs⟩,.agg ⟨ds⟩]⟩ [(k++m)] H (fun v N=>∃ cs k,v=.agg ⟨cs⟩∧N=[k]∧OT (apT t u) cs k):=by
 refine Zl func31 rfl rfl<|Zc<|JLr (Zr (l:=cs) rfl rfl fun b1=>JLr (Zr (l:=ds) rfl rfl fun b2=>JLr (Zp (l:=pkT 0 0 zS nS nS) zeroValue51 rfl fun b3=>Za<|Zc<|JLr (Zn Zy rfl (Zcu 2 rfl) (ZE hO.len)<|JLr (Zn Zy rfl (Zcu 1 rfl) (ZE hO2.len)<|JLr (Zm (vs:=[.agg ⟨cs⟩,.agg ⟨ds⟩]) [cs,ds] ZQ Wo rfl rfl (alc hO.len (al1 hO2.len)) rfl (by decide) fun b4 k4 ho4 hk4=>JLq (.agg ⟨pkT 4 0 zS (.slice (some ⟨b4,0,none⟩) 2 2) nS⟩) (Pu.build (pv:=[(0,iv 4),(3,.slice (some ⟨b4,0,none⟩) 2 2)]) (l:=pkT 4 0 zS (.slice (some ⟨b4,0,none⟩) 2 2) nS) rfl (Ng _ _ _ _)) ?_))))))
 refine JLr (Ze 1 (vs:=pkT 4 0 zS (.slice (some ⟨b4,0,none⟩) 2 2) nS) (l:=pkT 4 0 zS (.slice (some ⟨b4,0,none⟩) 2 2) nS) Zy rfl rfl rfl rfl rfl (Ys rfl rfl) (Xo ..)<|Za<|ZH<|⟨.agg ⟨pkT 4 0 zS (.slice (some ⟨b4,0,none⟩) 2 2) nS⟩,[k4++((k++m))],Ret.one rfl (RV.cell Zy rfl (Zcu 1 rfl) (YH ..)),(ZcF (Sk (Sd (Sd (Sd (Sk Sub.nil)))))),?_⟩)
 exact ⟨_,_,rfl,rfl,Do (by unfold inI;omega) (by unfold inI;omega) ho4 hO hO2⟩
theorem G5 (n:Int) (hn:inI n) (t u:Tm) (cs ds:List Value) (k m:Zi) (H:Heap) (hO:OT t cs k) (hO2:OT u ds m):CT prog 38 ⟨[iv n,.agg ⟨cs⟩,.agg ⟨ds⟩]⟩ [(k++m)] H (fun v N=>∃ cs k,v=.agg ⟨cs⟩∧N=[k]∧OT (prT n t u) cs k):=by
 refine Zl func38 rfl rfl<|Zc<|JLr (Zr (l:=cs) rfl rfl fun b1=>JLr (Zr (l:=ds) rfl rfl fun b2=>JLr (Zp (l:=pkT 0 0 zS nS nS) zeroValue51 rfl fun b3=>Za<|Zc<|JLM rfl<|JLr (Zn Zy rfl (Zcu 2 rfl) (ZE hO.len)<|JLr (Zn Zy rfl (Zcu 1 rfl) (ZE hO2.len)<|JLr (Zm (vs:=[.agg ⟨cs⟩,.agg ⟨ds⟩]) [cs,ds] ZQ Wo rfl rfl (alc hO.len (al1 hO2.len)) rfl (by decide) fun b4 k4 ho4 hk4=>?_))))))
 refine JLq (.agg ⟨pkT 10 n zS (.slice (some ⟨b4,0,none⟩) 2 2) nS⟩) (Pu.build (pv:=[(0,iv 10),(1,iv n),(3,.slice (some ⟨b4,0,none⟩) 2 2)]) (l:=pkT 10 n zS (.slice (some ⟨b4,0,none⟩) 2 2) nS) rfl (Lx _ _ _ _ _))<|JLr (Ze 1 (vs:=pkT 10 n zS (.slice (some ⟨b4,0,none⟩) 2 2) nS) (l:=pkT 10 n zS (.slice (some ⟨b4,0,none⟩) 2 2) nS) Zy rfl rfl rfl rfl rfl (Ys rfl rfl) (Xo ..)<|Za<|ZH<|⟨.agg ⟨pkT 10 n zS (.slice (some ⟨b4,0,none⟩) 2 2) nS⟩,[k4++((k++m))],Ret.one rfl (RV.cell Zy rfl (Zcu 1 rfl) (YH ..)),(ZcF (Sk (Sd (Sd (Sd (Sk Sub.nil)))))),?_⟩)
 exact ⟨_,_,rfl,rfl,Do (by unfold inI;omega) hn ho4 hO hO2⟩
theorem A6 (t:Tm) (l:List (Pt×Tm)) (cs:List Value) (sa:Option Addr) (sn sc:Nat) (es:List (List Value)) (k kw kl:Zi) (H:Heap) (hO:OT t cs k) (hw:Own 117 71 (.slice sa sn sc) es kw) (hl:OCs l es kl) (hb:l.length≤1000):CT prog 77 ⟨[.agg ⟨cs⟩,.slice sa sn sc]⟩ [(k++(kw++kl))] H (fun v N=>∃ cs k,v=.agg ⟨cs⟩∧N=[k]∧OT (.mk 9 0 zS [t] l) cs k):=by
 refine Zl func77 rfl rfl<|Zc<|JLr (Zr (l:=cs) rfl rfl fun b1=>JLr (Zp (l:=pkT 0 0 zS nS nS) zeroValue51 rfl fun b2=>Za<|Zc<|JLr (Zn Zy rfl (Zcu 1 rfl) (ZE hO.len)<|JLr (Zm (vs:=[.agg ⟨cs⟩]) [cs] ZQ Wo rfl rfl (al1 hO.len) rfl (by decide) fun b3 k3 ho3 hk3=>JLM rfl<|JLq (.agg ⟨pkT 9 0 zS (.slice (some ⟨b3,0,none⟩) 1 1) (.slice sa sn sc)⟩) (Pu.build (pv:=[(0,iv 9),(3,.slice (some ⟨b3,0,none⟩) 1 1),(4,.slice sa sn sc)]) (l:=pkT 9 0 zS (.slice (some ⟨b3,0,none⟩) 1 1) (.slice sa sn sc)) rfl (Lw _ _ _ _ _ _ _))<|JLr (Ze 1 (vs:=pkT 9 0 zS (.slice (some ⟨b3,0,none⟩) 1 1) (.slice sa sn sc)) (l:=pkT 9 0 zS (.slice (some ⟨b3,0,none⟩) 1 1) (.slice sa sn sc)) Zy rfl rfl rfl rfl rfl (Ys rfl rfl) (Xo ..) ?_)))))
 refine Za<|ZH<|⟨.agg ⟨pkT 9 0 zS (.slice (some ⟨b3,0,none⟩) 1 1) (.slice sa sn sc)⟩,[k3++((k++(kw++kl)))],Ret.one rfl (RV.cell Zy rfl (Zcu 1 rfl) (YH ..)),(ZcF (Sk (Sd (Sd (Sk Sub.nil))))),?_⟩
 exact ⟨_,_,rfl,rfl,ZaL ho3 hO hw hl hb⟩
theorem EX (a b:List Value) (hla:a.length=35) (hka:okc a) (hlb:b.length=36) (hkb:okc b) (H:Heap):CT prog 78 ⟨[.agg ⟨a⟩,.agg ⟨b⟩]⟩ [] H (fun v N=>v=.agg ⟨a++b⟩∧N=[]):=by
 refine Zl func78 rfl rfl<|Zc<|JLr (Zr (l:=a) rfl rfl fun b1=>JLr (Zr (l:=b) rfl rfl fun b2=>JLr (Zp (l:=(pkP 0 0 zS nS)++(pkT 0 0 zS nS nS)) zeroValue117 rfl fun b3=>Za<|Zc<|JLr (Zn ZU rfl (Zcu 2 rfl) (ZE hla)<|JLr (Zn Zy rfl (Zcu 1 rfl) (ZE hlb)<|JLq (.agg ⟨a++b⟩) (Pu.build (pv:=[(0,.agg ⟨a⟩),(1,.agg ⟨b⟩)]) (l:=a++b) rfl (UL hla hlb))<|JLr (Ze 0 (vs:=a++b) (l:=a++b) Yg rfl rfl rfl rfl (ZW hla hlb) (Y5 hka hkb) (Yb (n:=71) rfl (ZW hla hlb)) ?_))))))
 refine Za<|ZH<|⟨.agg ⟨a++b⟩,[],Ret.one rfl (RV.cell Yg rfl (Zcu 0 rfl) (ZE (ZW hla hlb))),Sub.nil,?_⟩
 exact ⟨rfl,rfl⟩
theorem AM (n:Int) (H:Heap):CT prog 79 ⟨[iv n]⟩ [] H (fun r N=>r=.agg ⟨pkP 2 n zS nS⟩∧N=[]):=by
 refine Zl func79 rfl rfl<|Zc<|JLr (Zp (l:=pkP 0 0 zS nS) zeroValue115 rfl fun b1=>Za<|Zc<|JLM rfl<|JLq (.agg ⟨pkP 2 n zS nS⟩) (Pu.build (pv:=[(0,iv 2),(1,iv n)]) (l:=pkP 2 n zS nS) rfl (KN _ _))<|JLr (Ze 0 (vs:=pkP 2 n zS nS) (l:=pkP 2 n zS nS) ZU rfl rfl rfl rfl rfl (W1 rfl) (ON ..)<|Za<|ZH<|⟨.agg ⟨pkP 2 n zS nS⟩,[],Ret.one rfl (RV.cell ZU rfl (Zcu 0 rfl) (SA ..)),Sub.nil,?_⟩))
 exact ⟨rfl,rfl⟩
theorem BM (H:Heap):CT prog 80 ⟨[]⟩ [] H (fun r N=>r=.agg ⟨pkP 1 0 zS nS⟩∧N=[]):=by
 refine Zl func80 rfl rfl<|Zc<|JLr (Zp (l:=pkP 0 0 zS nS) zeroValue115 rfl fun b1=>Za<|Zc<|JLq (.agg ⟨pkP 1 0 zS nS⟩) (Pu.build (pv:=[(0,iv 1)]) (l:=pkP 1 0 zS nS) rfl (LA _))<|JLr (Ze 0 (vs:=pkP 1 0 zS nS) (l:=pkP 1 0 zS nS) ZU rfl rfl rfl rfl rfl (W1 rfl) (ON ..)<|Za<|ZH<|⟨.agg ⟨pkP 1 0 zS nS⟩,[],Ret.one rfl (RV.cell ZU rfl (Zcu 0 rfl) (SA ..)),Sub.nil,?_⟩))
 exact ⟨rfl,rfl⟩
theorem Jo (a b:Int) (ha:inI a) (hb:inI b) (H:Heap):CT prog 76 ⟨[iv a,iv b]⟩ [] H (fun v N=>∃ cs k,v=.agg ⟨cs⟩∧N=[k]∧OT (SC a b) cs k):=by
 have ha1: -9223372036854775808≤a:=ha.1
 have ha2:a≤9223372036854775807:=ha.2
 have hb1: -9223372036854775808≤b:=hb.1
 have hb2:b≤9223372036854775807:=hb.2
 refine Zl func76 rfl rfl<|Zc<|JLr (Zp (l:=pkT 0 0 zS nS nS) zeroValue51 rfl fun b1=>Za<|Zc<|Jc call33 rfl (fun hin=>QU 0 (by unfold inI;omega) _) rfl ?_)
 rintro _ _ ⟨cs2,k2,rfl,rfl,hO2⟩
 refine Jc call79 rfl (fun hin=>AM _ _) rfl ?_
 rintro _ _ ⟨rfl,rfl⟩
 refine JLM rfl<|Jc call37 rfl (fun hin=>L7 a (by unfold inI;omega) _) rfl ?_
 rintro _ _ ⟨cs3,k3,rfl,rfl,hO3⟩
 refine Jc call78 rfl (fun hin=>EX _ _ rfl (W1 rfl) hO3.len hO3.ok _) rfl ?_
 rintro _ _ ⟨rfl,rfl⟩
 refine Jc call80 rfl (fun hin=>BM _) rfl ?_
 rintro _ _ ⟨rfl,rfl⟩
 refine JLM rfl<|Jc call32 rfl (fun hin=>Rt b (by unfold inI;omega) _) rfl ?_
 rintro _ _ ⟨cs4,k4,rfl,rfl,hO4⟩
 refine Jc call33 rfl (fun hin=>QU 0 (by unfold inI;omega) _) rfl ?_
 rintro _ _ ⟨cs5,k5,rfl,rfl,hO5⟩
 refine Jc call37 rfl (fun hin=>L7 1 (by unfold inI;omega) _) rfl ?_
 rintro _ _ ⟨cs6,k6,rfl,rfl,hO6⟩
 refine XI (ZcF (Sub.cons 1 rfl (Sk (Sk (Sk (Sk (Sk Sub.nil)))))))<|ZG 0 rfl call38 rfl rfl (fun hin=>G5 2 (by unfold inI;omega) _ _ _ _ _ _ _ hO5 hO6) rfl ?_
 rintro _ _ ⟨cs7,k7,rfl,rfl,hO7⟩
 refine XI (ZcF (Sub.cons 1 rfl (Sk (Sk (Sk (Sk Sub.nil))))))<|ZG 0 rfl call31 rfl rfl (fun hin=>Mg _ _ _ _ _ _ _ hO4 hO7) rfl ?_
 rintro _ _ ⟨cs8,k8,rfl,rfl,hO8⟩
 refine Jc call78 rfl (fun hin=>EX _ _ rfl (W1 rfl) hO8.len hO8.ok _) rfl ?_
 rintro _ _ ⟨rfl,rfl⟩
 refine JLr (Zm (vs:=[.agg ⟨(pkP 2 0 zS nS)++cs3⟩,.agg ⟨(pkP 1 0 zS nS)++cs8⟩]) [(pkP 2 0 zS nS)++cs3,(pkP 1 0 zS nS)++cs8] Yz PO rfl rfl (alc (ZW rfl hO3.len) (al1 (ZW rfl hO8.len))) rfl (by decide) fun b9 k9 ho9 hk9=>XI (ZcQ (Sub.cons 3 rfl (Sk (Sub.cons 1 rfl (Sk (Sk Sub.nil))))))<|ZG 0 rfl call77 rfl rfl (fun hin=>A6 _ [((.mk 2 0 zS []),nuT a),((.mk 1 0 zS []),apT (seT b) (prT 2 (vaT 0) (nuT 1)))] _ _ _ _ _ _ _ _ _ hO2 ho9 (BS (Im (by unfold inI;omega) (by unfold inI;omega)) hO3 (Im (by unfold inI;omega) (by unfold inI;omega)) hO8) (by simp)) rfl ?_)
 rintro _ _ ⟨cs10,k10,rfl,rfl,hO10⟩
 refine ZG 0 rfl call30 rfl rfl (fun hin=>NW _ _ _ _ hO10) rfl ?_
 rintro _ _ ⟨cs11,k11,rfl,rfl,hO11⟩
 refine JLr (Ze 1 (vs:=cs11) (l:=cs11) Zy rfl rfl rfl rfl hO11.len hO11.ok (Yb (n:=36) rfl hO11.len)<|Za<|ZH<|⟨.agg ⟨cs11⟩,[k11],Ret.one rfl (RV.cell Zy rfl (Zcu 1 rfl) (ZE hO11.len)),(Sk Sub.nil),?_⟩)
 exact ⟨_,_,rfl,rfl,hO11⟩
theorem Jj (H:Heap):CT prog 29 ⟨[]⟩ [] H (fun v N=>∃ k,N=[k]∧OL Xv v k):=by
 refine Zl func29 rfl rfl<|Zc<|JAn rfl<|Zc<|Jc call32 rfl (fun hin=>Rt 1 (by unfold inI;omega) _) rfl ?_
 rintro _ _ ⟨cs1,k1,rfl,rfl,hO1⟩
 refine Jc call33 rfl (fun hin=>QU 0 (by unfold inI;omega) _) rfl ?_
 rintro _ _ ⟨cs2,k2,rfl,rfl,hO2⟩
 refine XI (ZcF (Sub.cons 1 rfl (Sk Sub.nil)))<|ZG 0 rfl call31 rfl rfl (fun hin=>Mg _ _ _ _ _ _ _ hO1 hO2) rfl ?_
 rintro _ _ ⟨cs3,k3,rfl,rfl,hO3⟩
 refine ZG 0 rfl call30 rfl rfl (fun hin=>NW _ _ _ _ hO3) rfl ?_
 rintro _ _ ⟨cs4,k4,rfl,rfl,hO4⟩
 refine Jc call32 rfl (fun hin=>Rt 0 (by unfold inI;omega) _) rfl ?_
 rintro _ _ ⟨cs5,k5,rfl,rfl,hO5⟩
 refine Jc call33 rfl (fun hin=>QU 0 (by unfold inI;omega) _) rfl ?_
 rintro _ _ ⟨cs6,k6,rfl,rfl,hO6⟩
 refine XI (ZcF (Sub.cons 1 rfl (Sk (Sk Sub.nil))))<|ZG 0 rfl call31 rfl rfl (fun hin=>Mg _ _ _ _ _ _ _ hO5 hO6) rfl ?_
 rintro _ _ ⟨cs7,k7,rfl,rfl,hO7⟩
 refine ZG 0 rfl call30 rfl rfl (fun hin=>NW _ _ _ _ hO7) rfl ?_
 rintro _ _ ⟨cs8,k8,rfl,rfl,hO8⟩
 refine JLr (Zm (vs:=[.agg ⟨cs4⟩,.agg ⟨cs8⟩]) [cs4,cs8] ZQ Wo rfl rfl (alc hO4.len (al1 hO8.len)) rfl (by decide) fun b9 k9 ho9 hk9=>JAn rfl<|ZC (.slice (some ⟨b9,0,none⟩) 2 2) [k9++(k4++k8)] (ZcT (Sk (Sub.cons 1 rfl (Sk Sub.nil)))) (?_))
 exact ⟨_,rfl,OL.mk ho9 (QO hO4 hO8) (show (2:Nat)≤1000000 by decide)⟩
theorem RA (H:Heap):CT prog 35 ⟨[]⟩ [] H (fun v N=>∃ k,N=[k]∧OL parT v k):=by
 refine Zl func35 rfl rfl<|Zc<|JAn rfl<|Zc<|JAn rfl<|Zc<|JLM rfl<|Jc call76 rfl (fun hin=>Jo 1 1 (by unfold inI;omega) (by unfold inI;omega) _) rfl ?_
 rintro _ _ ⟨cs1,k1,rfl,rfl,hO1⟩
 refine JLM rfl<|Jc call76 rfl (fun hin=>Jo 0 0 (by unfold inI;omega) (by unfold inI;omega) _) rfl ?_
 rintro _ _ ⟨cs2,k2,rfl,rfl,hO2⟩
 refine JLr (Zm (vs:=[.agg ⟨cs1⟩,.agg ⟨cs2⟩]) [cs1,cs2] ZQ Wo rfl rfl (alc hO1.len (al1 hO2.len)) rfl (by decide) fun b3 k3 ho3 hk3=>JAn rfl<|ZC (.slice (some ⟨b3,0,none⟩) 2 2) [k3++(k1++k2)] (ZcT (Sk (Sub.cons 1 rfl (Sk Sub.nil)))) (?_))
 exact ⟨_,rfl,OL.mk ho3 (QO hO1 hO2) (show (2:Nat)≤1000000 by decide)⟩
theorem L4:∀ (t:Tm) (cs:List Value) (H:Heap),RT H cs t→sizeT t≤1000000→CT prog 23 ⟨[.agg ⟨cs⟩]⟩ [] H (fun v N=>∃ cs k,v=.agg ⟨cs⟩∧N=[k]∧OT t cs k):=by
 intro t
 induction t using Tm.ind with
 | h kind num ref kids cases ih ih'=>
 intro cs H ht hz
 rw [sizeT] at hz
 have hlk:=XN kids
 have hlc:=WG cases
 obtain ⟨ks,cv,rfl,hk,hn,hks,hcv⟩:=RT_mk.1 ht
 refine Zl func23 rfl rfl<|Zc<|JLr (Zr (l:=pkT kind num ref ks cv) rfl rfl fun b1=>JLr (Zp (l:=pkT 0 0 zS nS nS) zeroValue51 rfl fun b2=>Za<|Zf<|ZI mixed #[0,1,0,4,3,31] 5 [some 9,some 10,some 11,some 12,some 3] [] [] rfl (by kernel_rfl) rfl (by kernel_rfl)<|Dq (pp b1 34) (fun _=>Yd rfl rfl)<|Dl1 YZ (Zcu 1 rfl) (Yh ..)<|Dq (pp b1 35) (fun _=>ZY rfl rfl)<|Dl1 YL (Zcu 1 rfl) (Z3 ..)<|Dq ks (fun _=>Pu.assign rfl) ?_))
 refine ZM (M':=[(BX b2 (pkT 0 0 zS nS nS) 51),(BX b1 (pkT kind num ref ks cv) 51)]) rfl ?_
 show JL _ _ _ [_] _ _ _
 refine JLa cv<|Za<|Zc<|JLq (pp b1 34) (Yd rfl rfl)<|JLr (Ze 1 (vs:=[nS]) (l:=pkT kind num ref nS cv) YZ rfl rfl rfl rfl rfl (Zg rfl Zq) (Qz ..)<|JLq (pp b1 35) (ZY rfl rfl)<|JLr (Ze 1 (vs:=[nS]) (l:=pkT kind num ref nS nS) YL rfl rfl rfl rfl rfl (Zg rfl Zq) (Sy ..)<|Za<|Zf<|Zc<|JLm ks ?_))
 obtain ⟨a3,cap3,hv3⟩:=hks.sl
 have hle3:=hks.le
 refine JLn (Zcv ZQ hv3)<|JLM rfl<|Za<|Zh<|Zv (fun k ρ M=>∃ (j:Nat) (v:Value) (es:List (List Value)) (k1 k2:Zi),ZR ρ [(1,pp b1 0),(2,pp b2 0),(4,cv),(15,ks),(16,iv ((kids.length:Int))),(17,iv ((j:Int)))]=ρ∧Sub [(BX b1 (pkT kind num ref v nS) 51),k1,k2,(BX b2 (pkT 0 0 zS nS nS) 51)] M∧j≤kids.length∧Own 51 36 v es k1∧OTs ((kids.take j)) es k2∧k=kids.length-j) _ ⟨0,nS,[],[],[],Zj rfl,(Sub.cons 1 rfl (Zcz (Zcz (Sk Sub.nil)))),Nat.zero_le _,Own.nil,OTs.nil,rfl⟩ ?_
 rintro _ ρ4 _ ⟨j,v,es,k1,k2,e5,hm11,hj,hov,hopv,rfl⟩
 obtain ⟨ρ12,rfl⟩:=Zo e5
 clear e5
 refine ZD hm11 ?_
 have hlen:=hks.le
 refine Zc<|JLn (Pu.lss rfl rfl)<|Za<|Zf<|ZF rfl (fun h13=>?_) (fun h13=>?_)
 ·have h13n:j<kids.length:=by omega
  have helv:=Xr hopv
  rw [length_take] at helv
  have hs1:=Ym _ (getElem_mem h13n)
  refine Zk<|Zf<|Zh<|Zf<|Zd ?_
  obtain ⟨b14,o14,cap14,row14,T14,fr14,cs14,hv14,hb14,hs14,hE14⟩:=hks.get j (by omega)
  refine JLn (Zcw j ZQ Zy hv14 rfl rfl (by omega))<|JLr (Zn Zy rfl (Zcx hb14) hs14<|JLr (Zp (l:=pkT 0 0 zS nS nS) zeroValue51 rfl fun b15=>JLr (Ze 0 (vs:=cs14) (l:=cs14) Zy rfl rfl rfl rfl (ZB hE14) (XA hE14) (Yb (n:=36) rfl (ZB hE14))<|Za<|ZI mixed #[0,1,0,4,12,31,63,127] 5 (sm 21 5) [] [(3,fun _ _ vw qw=>∃ cs k,vw=.agg ⟨cs⟩∧qw=[k]∧OT (kids[j]) cs k),(4,fun r _ vw qw=>∃ b k,vw=.slice (some ⟨b,0,none⟩) 1 1∧qw=[k]∧Own 51 36 (.slice (some ⟨b,0,none⟩) 1 1) [(cel (r 3))] k∧k=(BX b (flatten [(cel (r 3))]) 51))] rfl (by kernel_rfl) rfl (by kernel_rfl)<|Dq (pp b1 34) (fun _=>Yd rfl rfl)<|Dl1 YZ (Zcu 1 rfl) (Yh ..)<|Dl Zy (Zcu 0 rfl) (ZE (ZB hE14)) ?_)))
  refine Dc rfl call23 (fun _=>rfl) (fun hin=>ih _ (getElem_mem h13n) _ _ (RT.mono (Hle.hu _ _) hE14) (by omega)) ?_
  rintro _ _ ⟨cs18,k18,rfl,rfl,hO18⟩
  refine Dr rfl (fun _=>Zm (vs:=[.agg ⟨cs18⟩]) [cs18] ZQ Wo rfl rfl (al1 hO18.len) rfl (by decide) fun b k h1 h2=>⟨[k],by rw [Z4 rfl];exact Sub.refl,b,k,rfl,rfl,h1,h2⟩) (fun _ _ ⟨b19,k19,e1,e2,ho19,hk19⟩=>?_);subst e1 e2
  refine ZM (M':=[k19,k18,(BX b15 cs14 51),(BX b1 (pkT kind num ref v nS) 51),k1,k2,(BX b2 (pkT 0 0 zS nS nS) 51)]) rfl ?_
  show JL _ _ _ [_,_,_] _ _ _
  have hlens20:∀ e∈([cs18]:List (List Value)),List.length e=36:=al1 hO18.len
  have hoks20:∀ e∈([cs18]:List (List Value)),okc e:=al1 hO18.ok
  refine JLr (Zz (i:=4) (n:=1) (es':=[cs18]) ZQ ZQ (Or.inl rfl) Wo rfl rfl rfl hov (fun F w m=>Src.row (((ZcD 0 rfl (by rw [hk19];exact mem_cons_self))).heap m) (ZE (Zw hlens20))) rfl hlens20 hoks20 (by decide) (by omega) fun v20 k20 ho20=>JLq (pp b1 34) (Yd rfl rfl)<|JLr (Ze 3 (vs:=[v20]) (l:=pkT kind num ref v20 nS) YZ rfl rfl rfl (ZS ho20.one) rfl (Zg ho20.one Zq) (Qz ..)<|Za<|Zd<|JLn (Zcy rfl rfl (by omega))<|JLM rfl<|Za<|⟨_,?_,(j+1),v20,(es++[cs18]),k20,(k2++k18),Zj rfl,(Sd (Sub.cons 2 rfl (Sub.cons 2 rfl (ZcF (Sub.cons 2 rfl (Sk (Sd (Sk Sub.nil)))))))),?_,?_,?_,rfl⟩))
  ·omega
  ·omega
  ·assumption
  rw [take_succ_eq_append_getElem h13n];exact OTs.snoc hO18 hopv
 have h13n:kids.length≤j:=by omega
 refine Zu _ rfl<|Zf<|Zc<|JLm cv ?_
 obtain ⟨a21,cap21,hv21⟩:=hcv.sl
 have hle21:=hcv.le
 refine JLn (Zcv Yz hv21)<|JLM rfl<|Za<|Zh ?_
 rw [take_of_length_le h13n] at hopv
 refine Zv (fun k ρ M=>∃ (j:Nat) (w:Value) (es2:List (List Value)) (k3 k4:Zi),ZR ρ [(1,pp b1 0),(2,pp b2 0),(29,cv),(30,iv ((cases.length:Int))),(31,iv ((j:Int)))]=ρ∧Sub [(BX b1 (pkT kind num ref v w) 51),k3,k4,k1,k2,(BX b2 (pkT 0 0 zS nS nS) 51)] M∧j≤cases.length∧Own 117 71 w es2 k3∧OCs ((cases.take j)) es2 k4∧k=cases.length-j) _ ⟨0,nS,[],[],[],Zj rfl,(Sk (Zcz (Zcz (Sk (Sk (Sk Sub.nil)))))),Nat.zero_le _,Own.nil,OCs.nil,rfl⟩ ?_
 rintro _ ρ22 _ ⟨j,w,es2,k3,k4,e23,hm28,hj,how,hopw,rfl⟩
 obtain ⟨ρ29,rfl⟩:=Zo e23
 clear e23
 refine ZD hm28 ?_
 have hlen:=hcv.le
 refine Zc<|JLn (Pu.lss rfl rfl)<|Za<|Zf<|ZF rfl (fun h30=>?_) (fun h30=>?_)
 ·have h30n:j<cases.length:=by omega
  have helw:=UQ hopw
  rw [length_take] at helw
  have hs1:=Y1 _ (getElem_mem h30n)
  refine Zk<|Zf<|Zh<|Zf<|Zd ?_
  obtain ⟨b31,o31,cap31,row31,T31,fr31,cs31,hv31,hb31,hs31,hE31⟩:=hcv.get j (by omega)
  obtain ⟨ca31,cb31,rfl,hA31,hB31⟩:=hE31
  refine JLn (Zcw j Yz Yg hv31 rfl rfl (by omega))<|JLr (Zn Yg rfl (Zcx hb31) hs31<|JLr (Zp (l:=(pkP 0 0 zS nS)++(pkT 0 0 zS nS nS)) zeroValue117 rfl fun b32=>JLr (Ze 0 (vs:=ca31++cb31) (l:=ca31++cb31) Yg rfl rfl rfl rfl (ZW (ZN hA31) (ZB hB31)) (Y5 (Ur hA31) (XA hB31)) (Yb (n:=71) rfl (ZW (ZN hA31) (ZB hB31)))<|Za<|ZI mixed #[0,1,0,4,12,0,32,124,252,508,1023,2047,4095] 10 (sm 35 10) [] [(4,fun _ _ vw qw=>∃ cs k,vw=.agg ⟨cs⟩∧qw=[k]∧OP (cases[j].1) cs k),(7,fun _ _ vw qw=>∃ cs k,vw=.agg ⟨cs⟩∧qw=[k]∧OT (cases[j].2) cs k),(9,fun r _ vw qw=>∃ b k,vw=.slice (some ⟨b,0,none⟩) 1 1∧qw=[k]∧Own 117 71 (.slice (some ⟨b,0,none⟩) 1 1) [((cel (r 4)))++((cel (r 7)))] k∧k=(BX b (flatten [((cel (r 4)))++((cel (r 7)))]) 117))] rfl (by kernel_rfl) rfl (by kernel_rfl)<|Dq (pp b1 35) (fun _=>ZY rfl rfl)<|Dl1 YL (Zcu 1 rfl) (Z3 ..)<|Dq (pp b32 0) (fun _=>YO rfl rfl)<|Dl ZU (Zcu 0 rfl) (XE (ZN hA31)) ?_)))
  refine Dc rfl call66 (fun _=>rfl) (fun hin=>On _ _ _ (RP.mono (Hle.hu _ _) hA31) (by omega)) ?_
  rintro _ _ ⟨cs36,k36,rfl,rfl,hO36⟩
  refine Dq (pp b32 35) (fun _=>YV rfl rfl)<|Dl Zy (Zcu 0 rfl) (XK (ZN hA31) (ZB hB31)) ?_
  refine Dc rfl call23 (fun _=>rfl) (fun hin=>ih' _ (getElem_mem h30n) _ _ (RT.mono (Hle.hu _ _) hB31) (by omega)) ?_
  rintro _ _ ⟨cs37,k37,rfl,rfl,hO37⟩
  refine Dq (.agg ⟨cs36++cs37⟩) (fun _=>Pu.build (pv:=[(0,.agg ⟨cs36⟩),(1,.agg ⟨cs37⟩)]) (l:=cs36++cs37) rfl (UL hO36.len hO37.len))<|Dr rfl (fun _=>Zm (vs:=[.agg ⟨cs36++cs37⟩]) [cs36++cs37] Yz PO rfl rfl (al1 (ZW hO36.len hO37.len)) rfl (by decide) fun b k h1 h2=>⟨[k],by rw [Z4 rfl];exact Sub.refl,b,k,rfl,rfl,h1,h2⟩) (fun _ _ ⟨b38,k38,e1,e2,ho38,hk38⟩=>?_);subst e1 e2
  refine ZM (M':=[k38,k37,k36,(BX b32 (ca31++cb31) 117),(BX b1 (pkT kind num ref v w) 51),k3,k4,k1,k2,(BX b2 (pkT 0 0 zS nS nS) 51)]) rfl ?_
  show JL _ _ _ [_,_,_] _ _ _
  have hlens39:∀ e∈([cs36++cs37]:List (List Value)),List.length e=71:=al1 (ZW hO36.len hO37.len)
  have hoks39:∀ e∈([cs36++cs37]:List (List Value)),okc e:=al1 (Y5 hO36.ok hO37.ok)
  refine JLr (Zz (i:=5) (n:=1) (es':=[cs36++cs37]) Yz Yz (Or.inl rfl) PO rfl rfl rfl how (fun F w m=>Src.row (((ZcD 0 rfl (by rw [hk38];exact mem_cons_self))).heap m) (ZE (Zw hlens39))) rfl hlens39 hoks39 (by decide) (by omega) fun v39 k39 ho39=>JLq (pp b1 35) (ZY rfl rfl)<|JLr (Ze 4 (vs:=[v39]) (l:=pkT kind num ref v v39) YL rfl rfl rfl (ZS ho39.one) rfl (Zg ho39.one Zq) (Sy ..)<|Za<|Zd<|JLn (Zcy rfl rfl (by omega))<|JLM rfl<|Za<|⟨_,?_,(j+1),v39,(es2++[cs36++cs37]),k39,(k4++(k36++k37)),Zj rfl,(Sd (Sub.cons 3 rfl (Sub.cons 3 rfl (ZcT (Sub.cons 3 rfl (Sub.cons 1 rfl (Sk (Sd (Sk (Sk (Sk Sub.nil))))))))))),?_,?_,?_,rfl⟩))
  ·omega
  ·omega
  ·assumption
  rw [take_succ_eq_append_getElem h30n];exact OCs.snoc hO36 hO37 hopw
 have h30n:cases.length≤j:=by omega
 refine Zu _ rfl<|Zc<|JLr (Zn Zy rfl (Zcu 0 rfl) (YH ..)<|JLr (Ze 5 (vs:=pkT kind num ref v w) (l:=pkT kind num ref v w) Zy rfl rfl rfl rfl rfl (Ys hov.one how.one) (Xo ..)<|Za<|ZH<|⟨.agg ⟨pkT kind num ref v w⟩,[k1++(k2++(k3++k4))],Ret.one rfl (RV.cell Zy rfl (Zcu 5 rfl) (YH ..)),(ZcQ (Sd (Sub.cons 2 rfl (Sub.cons 2 rfl (Sk (Sk Sub.nil)))))),?_⟩))
 rw [take_of_length_le h30n] at hopw
 exact ⟨_,_,rfl,rfl,OT_mk.2 ⟨v,w,es,es2,k1,k2,k3,k4,rfl,hk,hn,hov,hopv,how,hopw,rfl,hks.le,hcv.le⟩⟩
set_option maxHeartbeats 2000000 in
theorem ML (l:List Tm) (v:Value) (H:Heap) (hv:Hs.rdS RT 36 H v l) (hn:l.length≤1000000) (hz:∀ t∈l,sizeT t≤400000):CT prog 7 ⟨[v]⟩ [] H (fun v N=>∃ k,N=[k]∧OL l v k):=by
 refine Zl func7 rfl rfl<|Zc<|JAn rfl<|Zc<|JAn rfl<|Zf<|Zc<|JLm v ?_
 obtain ⟨a1,cap1,hv1⟩:=hv.sl
 have hle1:=hv.le
 refine JLn (Zcv ZQ hv1)<|JLM rfl<|Za<|Zh<|Zv (fun k ρ M=>∃ (j:Nat) (y1:Value) (q1 q2:Zi) (es:List (List Value)),ZR ρ [(2,nS),(3,y1),(6,v),(7,iv ((l.length:Int))),(8,iv ((j:Int)))]=ρ∧Sub [q1,q2] M∧j≤l.length∧Own 51 36 y1 es q1∧OTs (l.take j) es q2∧k=l.length-j) _ ⟨0,nS,[],[],[],Zj rfl,(Zcz (Zcz Sub.nil)),Nat.zero_le _,Own.nil,⟨rfl,rfl⟩,rfl⟩ ?_
 rintro _ ρ2 _ ⟨j,y1,q1,q2,es,e3,hm8,hj,how,hos,rfl⟩
 obtain ⟨ρ9,rfl⟩:=Zo e3
 clear e3
 refine ZD hm8 ?_
 have hlen:=hv.le
 have hel:=Xr hos
 rw [length_take] at hel
 refine Zc<|JLn (Pu.lss rfl rfl)<|Za<|Zf<|ZF rfl (fun h10=>?_) (fun h10=>?_)
 ·have h10n:j<l.length:=by omega
  refine Zk<|Zf<|Zh<|Zf<|Zd ?_
  obtain ⟨b11,o11,cap11,row11,T11,fr11,cs11,hv11,hb11,hs11,hE11⟩:=hv.get j (by omega)
  refine JLn (Zcw j ZQ Zy hv11 rfl rfl (by omega))<|JLr (Zn Zy rfl (Zcx hb11) hs11<|JLr (Zp (l:=pkT 0 0 zS nS nS) zeroValue51 rfl fun b12=>JLr (Ze 0 (vs:=cs11) (l:=cs11) Zy rfl rfl rfl rfl (ZB hE11) (XA hE11) (Yb (n:=36) rfl (ZB hE11))<|Za<|Zd<|JLm y1<|JLr (Zn Zy rfl (Zcu 0 rfl) (ZE (ZB hE11))<|Jc call23 rfl (fun hin=>L4 _ _ _ (RT.mono (Hle.hu _ _) hE11) (by have:=hz _ (getElem_mem h10n);omega)) rfl ?_))))
  rintro _ _ ⟨cs13,k13,rfl,rfl,hO13⟩
  refine JLr (Zm (vs:=[.agg ⟨cs13⟩]) [cs13] ZQ Wo rfl rfl (al1 hO13.len) rfl (by decide) fun b14 k14 ho14 hk14=>?_)
  have hlens15:∀ e∈([cs13]:List (List Value)),List.length e=36:=al1 hO13.len
  have hoks15:∀ e∈([cs13]:List (List Value)),okc e:=al1 hO13.ok
  refine JLr (Zz (i:=3) (n:=1) (es':=[cs13]) ZQ ZQ (Or.inl rfl) Wo rfl rfl rfl how (fun F w m=>Src.row (((ZcD 0 rfl (by rw [hk14];exact mem_cons_self))).heap m) (ZE (Zw hlens15))) rfl hlens15 hoks15 (by decide) (by omega) fun v15 k15 ho15=>JLa v15<|Za<|Zd<|JLn (Zcy rfl rfl (by omega))<|JLM rfl<|Za<|⟨_,?_,(j+1),v15,k15,(q2++k13),(es++[cs13]),Zj rfl,(Sd (Sub.cons 2 rfl (ZcF (Sub.cons 2 rfl (Sk Sub.nil))))),?_,?_,?_,rfl⟩)
  ·omega
  ·omega
  ·exact ho15
  rw [take_succ_eq_append_getElem h10n];exact OTs.snoc hO13 hos
 have h10n:l.length≤j:=by omega
 refine Zu _ rfl<|Zc<|JLm y1<|JLa y1<|Za<|ZC y1 [q1++q2] (ZcF (Sk (Sk Sub.nil))) (?_)
 rw [take_of_length_le h10n] at hos
 exact ⟨_,rfl,OL.mk how hos (by omega)⟩
theorem ID (l:List Tm) (ks:Value) (es:List (List Value)) (k1 k2:Zi) (H:Heap) (ho1:Own 51 36 ks es k1) (ho2:OTs l es k2) (hlK:l.length≤1000000):CT prog 59 ⟨[ks]⟩ [k1++k2] H (fun v N=>v=.tuple ⟨[]⟩∧N=[]):=by
 refine Zl func59 rfl rfl<|ZD (M':=[k1,k2]) (Sub.flat Sub.refl (by simp))<|Zc<|JLm ks ?_
 obtain ⟨a1,cap1,hv1⟩:=ho1.sl
 rw [(Xr ho2)] at hv1
 refine JLn (Zcv ZQ hv1)<|JLM rfl<|Za<|Zh<|Zv (fun k ρ M=>∃ (j:Nat) (es5:List (List Value)) (k5 c0:Zi),ZR ρ [(0,ks),(4,iv ((l.length:Int))),(5,iv ((j:Int)))]=ρ∧Sub [k5,c0] M∧j≤l.length∧Own 51 36 ks es5 k5∧es5.length=l.length∧OTs (l.drop j) (es5.drop j) c0∧k=l.length-j) _ ⟨0,es,k1,k2,Zj rfl,(Sk (Sk Sub.nil)),Nat.zero_le _,ho1,Xr ho2,by simpa using ho2,rfl⟩ ?_
 rintro _ ρ2 _ ⟨j,es5,k5,c0,e3,hm6,hj,ho5,hl5,hr5,rfl⟩
 obtain ⟨ρ7,rfl⟩:=Zo e3
 clear e3
 refine ZD hm6<|Zc<|JLn (Pu.lss rfl rfl)<|Za<|Zf<|ZF rfl (fun h8=>?_) (fun h8=>?_)
 ·have h8n:j<l.length:=by omega
  obtain ⟨e5,kc5,c5,hE,hO5,rfl,hR5⟩:=OTs.take hr5 h8n
  refine ZD (M':=[k5,kc5,c5]) (Sub.flat Sub.refl (by simp))<|Zk<|Zf<|Zh<|Zc<|JLM rfl<|JAn rfl<|Zc<|JLm ks<|JLM rfl ?_
  obtain ⟨b9,cap9,row9,hv9,hm9,hs9⟩:=ho5.at' hE
  refine JLn (Zcw j ZQ Zy hv9 rfl rfl (by rw [hl5];exact h8n))<|JLr (Zn Zy rfl (ZcD 0 rfl hm9) hs9<|ZG 1 rfl call109 rfl rfl (fun hin=>Gx _ _ _ _ hO5) rfl ?_)
  rintro _ _ ⟨rfl,rfl⟩
  refine Za<|Zd<|JLm ks<|JLM rfl<|JLq (.agg ⟨pkT 0 0 zS nS nS⟩) (Pu.build (pv:=[]) (l:=pkT 0 0 zS nS nS) rfl (ZaG)) ?_
  obtain ⟨b10,cap10,row10,hv10,hm10,hs10⟩:=ho5.at' hE
  refine JLn (Zcw j ZQ Zy hv10 rfl rfl (by rw [hl5];exact h8n))<|JLr (Yu (i:=0) (j:=j) (b:=b10) Zy rfl ho5 ⟨_,_,hv10⟩ rfl (by rw [hl5];exact h8n) rfl rfl rfl (Ys rfl rfl) fun k11 ho11=>Za<|Zd<|JLn (Zcy rfl rfl (by omega))<|JLM rfl<|Za<|⟨_,?_,(j+1),(es5.set j (pkT 0 0 zS nS nS)),k11,c5,Zj rfl,(Sk (Sk Sub.nil)),?_,?_,?_,?_,rfl⟩)
  ·omega
  ·omega
  ·exact ho11
  ·rw [length_set];exact hl5
  exact hR5 _
 have h8n:l.length≤j:=by omega
 refine Zu _ rfl<|⟨.tuple ⟨[]⟩,[],Ret.none rfl,Sub.nil,?_⟩
 exact ⟨rfl,rfl⟩
theorem Oz (l:List Tm) (v:Value) (k:Zi) (H:Heap) (hO:OL l v k):CT prog 59 ⟨[v]⟩ [k] H (fun v N=>v=.tuple ⟨[]⟩∧N=[]):=by
 obtain ⟨es,k1,k2,h1,h2,rfl,hl⟩:=hO
 exact ID l v es k1 k2 H h1 h2 hl
theorem Gh (l m:List Tm) (e w:Int) (v u:Value) (k:Zi) (H:Heap) (hO:OL l v k) (hv:Hs.rdS RT 36 H u m):CT prog 16 ⟨[v,u,iv e,iv w]⟩ [k] H (fun v N=>v=.bool (decide (e=w)&&decide (l=m))∧N=[]):=by
 refine Zl func16 rfl rfl<|Zc<|JAn rfl<|Zc<|JLM rfl<|JLM rfl<|JLn (Pu.eql rfl rfl)<|JLM rfl ?_
 cases h1:(decide (e=w)) with
 | true=>
  replace h1:=dt h1
  refine JLm v<|JLm u<|Jc call17 rfl (fun hin=>Uw _ _ _ _ _ (hO.rd (hin 0 _ rfl)) (RTs.mono (Hle.hu _ _) hv) (fun x hx y a b h _ ra rb=>R9 x y a b h ra rb)) rfl ?_
  rintro _ _ ⟨rfl,rfl⟩
  refine JLq (.bool (decide (l=m))) (ZcI rfl rfl)<|JAn rfl<|Zc<|JLm v<|ZG 0 rfl call59 rfl rfl (fun hin=>Oz _ _ _ _ hO) rfl ?_
  rintro _ _ ⟨rfl,rfl⟩
  refine Za<|Zc<|JLM rfl<|JAn rfl<|ZC (.bool (decide (l=m))) [] Sub.nil (?_)
  exact ⟨by simp_all,rfl⟩
 | false=>
  replace h1:=df h1
  iterate 3 refine Xs rfl ?_
  refine JLq (.bool false) (ZcH rfl rfl)<|JAn rfl<|Zc<|JLm v<|ZG 0 rfl call59 rfl rfl (fun hin=>Oz _ _ _ _ hO) rfl ?_
  rintro _ _ ⟨rfl,rfl⟩
  refine Za<|Zc<|JLM rfl<|JAn rfl<|ZC (.bool false) [] Sub.nil (?_)
  exact ⟨by simp_all,rfl⟩
theorem CU:frF parT 1=1:=by unfold frF;rw [NZ];rfl
theorem HH (v:Value) (H:Heap) (hv:Hs.rdS RT 36 H v Xv):CT prog 28 ⟨[v]⟩ [] H (fun r N=>∃ u k,r=.tuple ⟨[u,iv 0]⟩∧N=[k]∧Own 3 1 u (Z2 [0,0]) k):=by
 have hz:∀ t∈Xv,sizeT t≤400000:=by decide
 have z:=HT Xv v H hv hz
 rw [Ia,if_pos rfl,QI] at z
 exact z
theorem Iy (v:Value) (H:Heap) (hv:Hs.rdS RT 36 H v Xv) (hGK:GK H):CT prog 13 ⟨[v]⟩ [] H (fun r N=>∃ u k,r=.tuple ⟨[u,iv 0]⟩∧N=[k]∧Own 38 32 u (sms [sha bRP,sha bRP]) k):=by
 have hz:∀ t∈Xv,sizeT t≤400000:=by decide
 have z:=Up Xv v H hv hz hGK
 rw [ks_ring.1,ks_ring.2] at z
 exact z
theorem Gv (v:Value) (H:Heap) (hv:Hs.rdS RT 36 H v UT) (hGK:GK H):CT prog 13 ⟨[v]⟩ [] H (fun r N=>∃ u k,r=.tuple ⟨[u,iv 0]⟩∧N=[k]∧Own 38 32 u (sms [sha bRP]) k):=by
 have hz:∀ t∈UT,sizeT t≤400000:=by decide
 have z:=Up UT v H hv hz hGK
 rw [ks_one.1,ks_one.2] at z
 exact z
theorem Gu (v:Value) (H:Heap) (hv:Hs.rdS RT 36 H v parT) (hGK:GK H):CT prog 13 ⟨[v]⟩ [] H (fun r N=>∃ u k,r=.tuple ⟨[u,iv 0]⟩∧N=[k]∧Own 38 32 u (sms [q0P,q1P]) k):=by
 have hz:∀ t∈parT,sizeT t≤400000:=by decide
 have z:=Up parT v H hv hz hGK
 rw [ks_par.1,ks_par.2] at z
 exact z
theorem Fl (v:Value) (H:Heap) (hv:Hs.rdS RT 36 H v parT):CT prog 34 ⟨[v,iv 1]⟩ [] H (fun r N=>∃ u k,r=.tuple ⟨[u,iv 0]⟩∧N=[k]∧Own 3 1 u (Z2 [1,0]) k):=by
 have hz:∀ t∈parT,sizeT t≤400000:=by decide
 have z:=HP parT v H hv hz 1
 have hf:(1:Int)<0∨(parT.length:Int)≤1↔False:=by decide
 rw [KD] at z
 simp only [hf,if_true,if_false,not_false_iff,and_true,true_and,Py,CU,AX] at z
 exact z
theorem Fc (v:Value) (H:Heap) (hv:Hs.rdS RT 36 H v twoT):CT prog 36 ⟨[v]⟩ [] H (fun r N=>∃ u k,r=.tuple ⟨[u,iv 0]⟩∧N=[k]∧OII [[0],[1]] u k):=by
 have hz:∀ t∈twoT,sizeT t≤400000:=by decide
 have z:=HO twoT v H hv hz
 rw [EP,if_pos rfl,AT] at z
 exact z
theorem Fq (v:Value) (H:Heap) (hv:Hs.rdS RT 36 H v parT) (hGK:GK H):CT prog 14 ⟨[v]⟩ [] H (fun r N=>∃ u k,r=.tuple ⟨[u,iv 0]⟩∧N=[k]∧OL [opM q1P 1,opM q0P 0] u k):=by
 have hz:∀ t∈parT,sizeT t≤400000:=by decide
 have z:=LM parT v H hv hz hGK
 rw [ks_par.1,A1] at z
 exact z
theorem Zaz:∀ (l:List (Sm×Tm)) (o:List Int) (bB bO r:Nat) (vo:Value) (t:Tm) (cs:List Value) (H:Heap) (ht:RT H cs t) (hB:H bB=some (.cells ⟨[.map (some r)]⟩ 131 (0,0))) (hRb:H r=some (gmO smV iV (kSm l) (idF (kSm l)))) (hO:H bO=some (.cells ⟨[vo]⟩ 45 (0,0))) (ho:Hs.rdS RI 1 H vo o),CT prog 129 ⟨[.agg ⟨cs⟩,pp bB 0,pp bO 0]⟩ [] H (fun v N=>∃ kx cx,v=.agg ⟨pkT (clD (kSm l) o t.kind t.num t.ref).1 (clD (kSm l) o t.kind t.num t.ref).2.1 (clD (kSm l) o t.kind t.num t.ref).2.2 kx cx⟩∧N=[]∧kx.oneCell'=true∧cx.oneCell'=true):=by
 intro l o bB bO r vo t cs H ht hB hRb hO ho
 obtain ⟨kind,num,ref,kids,cases⟩:=t
 obtain ⟨ks,cv,rfl,hk,hn,hks,hcv⟩:=RT_mk.1 ht
 simp only [Tm.kind,Tm.num,Tm.ref]
 refine Zl func129 rfl rfl<|Zc<|JLr (Zr (l:=pkT kind num ref ks cv) rfl rfl fun b1=>JLr (Zp (l:=pkT 0 0 zS nS nS) zeroValue51 rfl fun b2=>Za<|Zf<|Zc<|JLq (pp b1 0) (Z1 rfl rfl)<|JLr (Zb ty3 rfl (Zcu 1 rfl) (Yf ..)<|JLn (Pu.neq rfl rfl)<|Za ?_)))
 refine Zs rfl (fun h3=>?_) (fun h3=>?_)
 ·replace h3:=nt h3
  replace h3:=df h3
  refine Zc<|JLr (Zn Zy rfl (Zcu 1 rfl) (YH ..)<|JLr (Ze 0 (vs:=pkT kind num ref ks cv) (l:=pkT kind num ref ks cv) Zy rfl rfl rfl rfl rfl (Ys hks.one hcv.one) (Xo ..)<|Za<|ZH<|⟨.agg ⟨pkT kind num ref ks cv⟩,[],Ret.one rfl (RV.cell Zy rfl (Zcu 0 rfl) (YH ..)),Sub.nil,?_⟩))
  have hD:clD (kSm l) o kind num ref=(kind,num,ref):=by unfold clD;rw [if_neg (fun q=>h3 q.1)]
  exact ⟨_,_,by (rw [hD];try rfl),rfl,hks.one,hcv.one⟩
 replace h3:=nf h3
 replace h3:=dt h3
 refine Zk<|Zf ?_
 have hk6:kind=6:=by first | exact h3 | omega | simpa using h3
 refine Zd<|JLr (Zb KZ rfl (Zcx hB) rfl<|JLq (pp b1 2) (WL rfl rfl)<|JLr (Zn Yq rfl (Zcu 1 rfl) (V5 ..)<|JLr (Tn (kV:=smV) (vV:=iV) (K:=(kSm l)) (f:=idF (kSm l)) (k:=ref) 0 CG underlying131 zeroValue3 rfl rfl hRb<|JLM rfl<|JLn (Pu.extract rfl rfl)<|JLn (Pu.extract rfl rfl)<|JLA rfl<|JAn rfl<|Zf<|Zf ?_)))
 refine Zd<|JLr (Zb Xm rfl (Zcx hO) rfl<|JLM rfl<|Jc call102 rfl (fun hin=>RN _ _ _ _ (RIs.mono (Hle.hu _ _) ho)) rfl ?_)
 rintro _ _ ⟨rfl,rfl⟩
 refine JAn rfl<|Zc<|JLM rfl<|JLM rfl<|ZA 2 [24,25] [(25,cond (decide (ref∈(kSm l))) (.bool (decide (0≤ixI o (if ref∈(kSm l) then (idF (kSm l)) ref else 0)))) undef)] ?_ fun f5=>?_
 ·cases h4:(decide (ref∈(kSm l))) with
  | true=>
   replace h4:=dt h4
   refine JLM rfl<|JLn (Pu.geq rfl rfl) ?_
   exact Za ⟨⟨rfl,trivial⟩,rfl⟩
  | false=>
   exact ZJ rfl ⟨rfl,trivial⟩
 refine JLn (ZcA rfl rfl rfl)<|Za<|Zs rfl (fun h6=>?_) (fun h6=>?_)
 ·obtain ⟨h6a,h6b⟩:=Xa h6
  replace h6a:=dt h6a
  replace h6b:=dt h6b
  refine Zc<|JLM rfl<|JLq (.agg ⟨pkT 7 (ixI o (if ref∈(kSm l) then (idF (kSm l)) ref else 0)) zS nS nS⟩) (Pu.build (pv:=[(0,iv 7),(1,iv (ixI o (if ref∈(kSm l) then (idF (kSm l)) ref else 0)))]) (l:=pkT 7 (ixI o (if ref∈(kSm l) then (idF (kSm l)) ref else 0)) zS nS nS) rfl (Vc _ _))<|JLr (Ze 0 (vs:=pkT 7 (ixI o (if ref∈(kSm l) then (idF (kSm l)) ref else 0)) zS nS nS) (l:=pkT 7 (ixI o (if ref∈(kSm l) then (idF (kSm l)) ref else 0)) zS nS nS) Zy rfl rfl rfl rfl rfl (Ys rfl rfl) (Xo ..)<|Za<|ZH<|⟨.agg ⟨pkT 7 (ixI o (if ref∈(kSm l) then (idF (kSm l)) ref else 0)) zS nS nS⟩,[],Ret.one rfl (RV.cell Zy rfl (Zcu 0 rfl) (YH ..)),Sub.nil,?_⟩)
  have hq:ref∈kSm l∧idF (kSm l) ref∈o:=by
   have z:ref∈kSm l∧0≤ixI o (if ref∈kSm l then idF (kSm l) ref else 0):=by first | exact ⟨h6a,h6b⟩ | simpa using h6
   refine ⟨z.1,?_⟩
   have z2:=z.2;rw [if_pos z.1] at z2;have z3:=decide_eq_true z2;rw [NX] at z3;exact of_decide_eq_true z3
  have hD:clD (kSm l) o kind num ref=(7,ixI o (if ref∈kSm l then idF (kSm l) ref else 0),zS):=by unfold clD ixI;rw [if_pos ⟨hk6,hq.1,hq.2⟩,if_pos hq.1,if_pos hq.2]
  exact ⟨_,_,by (rw [hD];try rfl),rfl,rfl,rfl⟩
 refine Zk<|Zc<|JLr (Zn Zy rfl (Zcu 1 rfl) (YH ..)<|JLr (Ze 0 (vs:=pkT kind num ref ks cv) (l:=pkT kind num ref ks cv) Zy rfl rfl rfl rfl rfl (Ys hks.one hcv.one) (Xo ..)<|Za<|ZH<|⟨.agg ⟨pkT kind num ref ks cv⟩,[],Ret.one rfl (RV.cell Zy rfl (Zcu 0 rfl) (YH ..)),Sub.nil,?_⟩))
 have hq:¬ (ref∈kSm l∧idF (kSm l) ref∈o):=by
  rintro ⟨q1,q2⟩
  have z3:=decide_eq_true q2;rw [← NX] at z3;have z4:=of_decide_eq_true z3
  have z:=h6;rw [if_pos q1] at z;simp [q1] at z;omega
 have hD:clD (kSm l) o kind num ref=(kind,num,ref):=by unfold clD;rw [if_neg (fun q=>hq q.2)]
 exact ⟨_,_,by (rw [hD];try rfl),rfl,hks.one,hcv.one⟩
set_option maxHeartbeats 4000000 in
theorem GY (l:List (Sm×Tm)) (x:Int) (bL bB r:Nat) (v:Value) (H:Heap) (hL:H bL=some (.cells ⟨[v]⟩ 71 (0,0))) (hv:Hs.rdS RKn 68 H v l) (hB:H bB=some (.cells ⟨[.map (some r)]⟩ 131 (0,0))) (hRb:H r=some (gmO smV iV (kSm l) (idF (kSm l)))) (hn:l.length≤1000) (hzl:∀ x∈l,sizeT x.2≤400000) (h0:0≤x) (h1:x<(l.length:Int)):CT prog 127 ⟨[iv x,pp bL 0,pp bB 0]⟩ [] H (fun v N=>∃ b,v=.slice (some ⟨b,0,none⟩) l.length l.length∧N=[(BX b (bls (flL l.length (rqL l x))) 4)]):=by
 refine Zl func127 rfl rfl<|Zc<|JAn rfl<|Zc<|JLr (Zb DG rfl (Zcx hL) rfl ?_)
 obtain ⟨a1,cap1,hv1⟩:=hv.sl
 have hle1:=hv.le
 refine JLn (Zcv R6 hv1)<|JLr (Uq (l.length) W4 el4 rfl rfl (by omega) (by omega) (by omega) (by omega) fun b2 k2 _ hk2=>?_)
 obtain rfl:k2=(BX b2 (bls (replicate (l.length) false)) 4):=hk2.trans (congrArg (fun y=>[(b2,Obj.cells ⟨y⟩ 4 (0,0))]) (Mc _))
 refine JLA rfl ?_
 rw [CV]
 refine Za<|Zc<|JLM rfl<|JLr (Zm (vs:=[iv x]) [[iv x]] ZV el3 rfl rfl (al1 rfl) rfl (by decide) fun b3 k3 ho3 hk3=>JAn rfl<|Zf<|Zc<|JAn rfl<|Zh ?_)
 refine Zv (fun k ρ M=>∃ (a:Nat) (t:List Int) (y1:Value) (q1:Zi),ZR ρ [(1,pp bL 0),(2,pp bB 0),(4,nS),(5,.slice (some ⟨b2,0,none⟩) (l.length) (l.length)),(6,y1),(7,iv ((a:Int)))]=ρ∧Sub [(BX b2 (bls (flL l.length t)) 4),q1] M∧okO l.length t∧a≤t.length+1∧Own 3 1 y1 (Z2 (x::t)) q1∧rqB (dfA l) x (l.length+1-a) a t=rqL l x∧k=l.length+1-a) _ ⟨0,[],(.slice (some ⟨b3,0,none⟩) 1 1),k3,Zj rfl,(Sub.cons 1 rfl (Sk Sub.nil)),(Cs _),Nat.zero_le _,ho3,rfl,rfl⟩ ?_
 rintro _ ρ4 _ ⟨a,t,y1,q1,e5,hm11,hok,ha,how1,hinv,rfl⟩
 obtain ⟨ρ12,rfl⟩:=Zo e5
 clear e5
 refine ZD hm11 ?_
 have htlen:=hok.len
 have hcons:(x::t).length=t.length+1:=rfl
 refine Zf<|Zc<|JLM rfl<|JLm y1 ?_
 obtain ⟨a13,cap13,hv13⟩:=how1.sl
 rw [Zt] at hv13
 refine JLn (Zcv ZV hv13)<|JLn (Pu.lss rfl rfl)<|Za<|ZF rfl (fun h14=>?_) (fun h14=>?_)
 ·have h14n:a<(x::t).length:=by omega
  have hal:=h14n
  have hax:=Bf ⟨h0,h1⟩ hok h14n
  refine Zk<|Zf<|Zh<|Zf<|ZI mixed #[0,0,0,6,14,31,63,127,0,511,1023,0] 12 (sm 21 12) [] [(9,fun _ _ vw qw=>∃ k,qw=[k]∧Own 3 1 vw (Z2 (dfA l (((x::t)[a])))) k)] rfl (by kernel_rfl) rfl (by kernel_rfl)<|Dl1 DG (Zcx hL) rfl<|Dm y1<|DM (fun _=>rfl) ?_
  obtain ⟨b19,cap19,row19,hv19,hm19,hs19⟩:=how1.at (j:=a) (by rw [Zt];first | assumption | omega)
  rw [Z9 _ _ (by omega)] at hs19
  refine Dn (fun _=>Zcw a ZV ty3 hv19 rfl rfl (by rw [Zt];first | assumption | omega))<|Dl1 ty3 (ZcD 1 rfl hm19) (ZT hs19) ?_
  obtain ⟨b20,o20,cap20,row20,T20,fr20,cs20,hv20,hb20,hs20,hE20⟩:=hv.get ((x::t)[a]).toNat (by omega)
  obtain ⟨cb20,rfl,hB20⟩:=hE20
  refine Dq (pp b20 (o20+((x::t)[a]).toNat*68)) (fun _=>Zcw ((x::t)[a]).toNat R6 Qo hv20 rfl (by first | rfl | omega) (by omega))<|Dq (pp b20 (o20+((x::t)[a]).toNat*68+32)) (fun _=>N1 rfl rfl)<|Dl Zy (Zcx hb20) (XS hs20 (XK rfl (ZB hB20)))<|Dl1 KZ (Zcx hB) rfl ?_
  refine Dc rfl call128 (fun _=>rfl) (fun hin=>Ln l (((x::t)[a])) (by omega) _ r _ (RT.mono (Hle.hu _ _) hB20) (hzl _ (getElem_mem _)) (Hle.hu _ _ _ _ hRb)) ?_
  rintro v21 _ ⟨k21,rfl,ho21⟩
  obtain ⟨a22,cap22,hv22⟩:=ho21.sl
  rw [Zt] at hv22
  refine Dn (fun _=>Zcv ZV hv22)<|DM (fun _=>rfl)<|ZM (M':=[k21,(BX b2 (bls (flL l.length t)) 4),q1]) rfl ?_
  show JL _ _ _ [] _ _ _
  refine Za<|Zh<|Zv (fun k ρ M=>∃ (p:Nat) (t2:List Int) (y2:Value) (q2:Zi),ZR ρ [(1,pp bL 0),(2,pp bB 0),(4,nS),(5,.slice (some ⟨b2,0,none⟩) (l.length) (l.length)),(6,y2),(7,iv ((a:Int))),(30,v21),(31,iv (((dfA l (((x::t)[a]))).length:Int))),(32,iv ((p:Int)))]=ρ∧Sub [(BX b2 (bls (flL l.length t2)) 4),q2,k21] M∧p≤(dfA l ((x::t)[a])).length∧okO l.length t2∧Own 3 1 y2 (Z2 (x::t2)) q2∧t2=stO (fun _=>true) ((dfA l ((x::t)[a])).take p) t∧k=(dfA l ((x::t)[a])).length-p) _ ⟨0,t,y1,q1,Zj rfl,(Sub.cons 1 rfl (Sub.cons 1 rfl (Sk Sub.nil))),Nat.zero_le _,hok,how1,rfl,rfl⟩ ?_
  rintro _ ρ23 _ ⟨p,t2,y2,q2,e24,hm33,hp,hok2,how2,hst2,rfl⟩
  obtain ⟨ρ34,rfl⟩:=Zo e24
  clear e24
  refine ZD hm33 ?_
  have ht2len:=hok2.len
  have hcons2:(x::t2).length=t2.length+1:=rfl
  have hdl:=J4 (l:=l) (x:=((x::t)[a])) (by omega)
  have hdz:=hzl _ (getElem_mem (show (((x::t)[a])).toNat<l.length by omega))
  refine Zc<|JLn (Pu.lss rfl rfl)<|Za<|Zf<|ZF rfl (fun h35=>?_) (fun h35=>?_)
  ·have h35n:p<(dfA l (((x::t)[a]))).length:=by omega
   have hpl:=h35n
   have hkx:=PP l ((x::t)[a]) _ (getElem_mem h35n)
   refine Zk<|Zf<|Zh<|Zf<|Zd ?_
   obtain ⟨b36,cap36,row36,hv36,hm36,hs36⟩:=ho21.at (j:=p) (by rw [Zt];first | assumption | omega)
   rw [Z9 _ _ (by omega)] at hs36
   refine JLn (Zcw p ZV ty3 hv36 rfl rfl (by rw [Zt];first | assumption | omega))<|JLr (Zb ty3 rfl (ZcD 2 rfl hm36) (ZT hs36)<|JAn rfl<|Zc<|JLM rfl<|JLM rfl<|JLq (pp b2 (0+((dfA l (((x::t)[a])))[p]).toNat*1)) (Zcw ((dfA l (((x::t)[a])))[p]).toNat W4 ty4 rfl rfl (by omega) (by omega))<|JLr (Zb ty4 rfl (Zcu 0 rfl) (YA (by have hbl:List.length (flL l.length t2)=l.length:=(TA ..);omega))<|JLn (Pu.not rfl)<|Za<|Zs rfl (fun h37=>?_) (fun h37=>?_)))
   ·replace h37:=nt h37
    refine Zf ?_
    have hkn:(dfA l ((x::t)[a]))[p]∉t2:=by have z:=h37;rw [JT hkx.1 hkx.2] at z;simpa using z
    refine Zd<|JLM rfl<|JLM rfl<|JLq (pp b2 (0+((dfA l (((x::t)[a])))[p]).toNat*1)) (Zcw ((dfA l (((x::t)[a])))[p]).toNat W4 ty4 rfl rfl (by omega) (by omega))<|JLr (Ze 0 (vs:=[.bool true]) (l:=bls ((flL l.length t2).set ((dfA l (((x::t)[a])))[p]).toNat true)) ty4 rfl rfl rfl rfl rfl (Zg rfl Zq) (Ra (by have hbl:List.length (flL l.length t2)=l.length:=(TA ..);omega)) ?_)
    rw [CX hkx.1]
    refine Za<|Zd<|JLm y2<|JLM rfl<|JLr (Zm (vs:=[iv ((dfA l (((x::t)[a])))[p])]) [[iv ((dfA l (((x::t)[a])))[p])]] ZV el3 rfl rfl (al1 rfl) rfl (by decide) fun b38 k38 ho38 hk38=>?_)
    have hlens39:∀ e∈([[iv ((dfA l (((x::t)[a])))[p])]]:List (List Value)),List.length e=1:=al1 rfl
    have hoks39:∀ e∈([[iv ((dfA l (((x::t)[a])))[p])]]:List (List Value)),okc e:=al1 (Zg rfl Zq)
    refine JLr (Zz (i:=2) (n:=1) (es':=[[iv ((dfA l (((x::t)[a])))[p])]]) ZV ZV (Or.inl rfl) el3 rfl rfl rfl how2 (fun F w m=>Src.row (((ZcD 0 rfl (by rw [hk38];exact mem_cons_self))).heap m) (ZE (Zw hlens39))) rfl hlens39 hoks39 (by decide) (by rw [Zt];simp only [length_cons];omega) fun v39 k39 ho39=>JLa v39<|Za<|Zd<|JLn (Zcy rfl rfl (by omega))<|JLM rfl<|Za<|⟨_,?_,(p+1),(t2++[(dfA l ((x::t)[a]))[p]]),v39,k39,Zj rfl,(Sd (Sk (Sk (Sk Sub.nil)))),?_,?_,?_,?_,rfl⟩)
    ·omega
    ·omega
    ·exact hok2.add hkn hkx.1 hkx.2
    ·have z:=ho39;rw [← WI] at z;exact z
    rw [Mw hpl,← hst2,if_pos hkn]
   replace h37:=nf h37
   refine Zk<|Zd<|JLn (Zcy rfl rfl (by omega))<|JLM rfl<|Za<|⟨_,?_,(p+1),t2,y2,q2,Zj rfl,(Sk (Sk (Sk Sub.nil))),?_,?_,?_,?_,rfl⟩
   ·omega
   ·omega
   ·exact hok2
   ·exact how2
   have hkn:¬ (dfA l ((x::t)[a]))[p]∉t2:=by (have z:=h37;rw [JT hkx.1 hkx.2] at z;simpa using z)
   rw [Mw hpl,← hst2,if_neg hkn]
  have h35n:(dfA l (((x::t)[a]))).length≤p:=by omega
  refine Zu _ rfl<|Zd<|JLM rfl<|JLn (Zcy rfl rfl (by omega))<|JAn rfl<|⟨_,?_,(a+1),t2,y2,q2,Zj rfl,(Sk (Sk Sub.nil)),?_,?_,?_,?_,rfl⟩
  ·omega
  ·exact hok2
  ·have:=(Ro (P:=fun _=>true) (PP l ((x::t)[a])) hok).2.length_le;rw [hst2,take_of_length_le (by omega)];omega
  ·exact how2
  rw [show l.length+1-a=(l.length+1-(a+1))+1 by omega,GT (by omega),Tz hal] at hinv;rw [hst2,take_of_length_le (by omega)];exact hinv
 have h14n:(x::t).length≤a:=by omega
 refine Zu _ rfl<|Zc<|JLM rfl<|JAn rfl<|ZC (.slice (some ⟨b2,0,none⟩) (l.length) (l.length)) [(BX b2 (bls (flL l.length t)) 4)] (Sk Sub.nil) (?_)
 rw [D3 (by omega)] at hinv
 exact ⟨_,rfl,by rw [← hinv]⟩
set_option maxHeartbeats 8000000 in
theorem KC (l:List (Sm×Tm)) (x:Int) (r:Nat) (v:Value) (H:Heap) (hv:Hs.rdS RKn 68 H v l) (hRb:H r=some (gmO smV iV (kSm l) (idF (kSm l)))) (hn:l.length≤1000) (hzl:∀ x∈l,sizeT x.2≤400000) (h0:0≤x) (h1:x<(l.length:Int)):CT prog 83 ⟨[v,.map (some r),iv x]⟩ [] H (fun v N=>∃ u k,v=.tuple ⟨[u,iv (grE l x)]⟩∧N=[k]∧OL (grL l x) u k):=by
 refine Zl func83 rfl rfl<|Zc<|JLr (Zr (l:=[v]) rfl (ZS hv.one) fun b1=>JLr (Zr (l:=[.map (some r)]) rfl rfl fun b2=>JLA rfl<|JAn rfl<|Zc<|JLq (.func (.func 127) ⟨[]⟩ ⟨[pp b1 0,pp b2 0]⟩) (Pu.makeFunc rfl rfl)<|JLA rfl<|Za ?_))
 refine Zc<|JLM rfl<|JLM rfl<|Jc call127 rfl (fun hin=>GY l x _ _ r _ _ (hin 1 _ rfl _ _ mem_cons_self) (RKns.mono (Hle.hu _ _) hv) (hin 0 _ rfl _ _ mem_cons_self) (Hle.hu _ _ _ _ hRb) hn hzl (by omega) (by omega)) rfl ?_
 rintro _ _ ⟨b3,rfl,rfl⟩
 refine JAn rfl<|Zc<|JLM rfl<|JLr (Zm (vs:=[iv x]) [[iv x]] ZV el3 rfl rfl (al1 rfl) rfl (by decide) fun b4 k4 ho4 hk4=>JLr (Zp (l:=[nS]) zeroValue45 rfl fun b5=>JLr (Ze 0 (vs:=[.slice (some ⟨b4,0,none⟩) 1 1]) (l:=[.slice (some ⟨b4,0,none⟩) 1 1]) Xm rfl rfl rfl rfl rfl (Zg rfl Zq) rfl<|Za<|Zf<|Zc<|JLA rfl ?_)))
 refine Za<|Zh<|Zv (fun k ρ M=>∃ (a:Nat) (out:List Int) (y1:Value) (q1:Zi),ZR ρ [(2,iv x),(3,pp b1 0),(4,pp b2 0),(6,nS),(7,iv 0),(8,.func (.func 127) ⟨[]⟩ ⟨[pp b1 0,pp b2 0]⟩),(9,.slice (some ⟨b3,0,none⟩) l.length l.length),(10,pp b5 0),(11,iv ((a:Int)))]=ρ∧Sub [(BX b5 [y1] 45),q1,(BX b3 (bls (flL l.length (rqL l x))) 4),(BX b2 [.map (some r)] 131),(BX b1 [v] 71)] M∧okO l.length out∧a≤out.length∧Own 3 1 y1 (Z2 out) q1∧W6 (pcB l x) (dfA l) (l.length-a) a out=coL l x∧k=l.length-a) _ ⟨0,[x],(.slice (some ⟨b4,0,none⟩) 1 1),k4,Zj rfl,(Sk (Sk (Sk (Sk (Sk Sub.nil))))),(okO.one h0 h1),Nat.zero_le _,ho4,rfl,rfl⟩ ?_
 rintro _ ρ6 _ ⟨a,out,y1,q1,e7,hm16,hok,ha,how1,hinv,rfl⟩
 obtain ⟨ρ17,rfl⟩:=Zo e7
 clear e7
 refine ZD hm16 ?_
 have holen:=hok.len
 refine Zf<|Zc<|JLM rfl<|JLr (Zb Xm rfl (Zcu 0 rfl) rfl ?_)
 obtain ⟨a18,cap18,hv18⟩:=how1.sl
 rw [Zt] at hv18
 refine JLn (Zcv ZV hv18)<|JLn (Pu.lss rfl rfl)<|Za<|ZF rfl (fun h19=>?_) (fun h19=>?_)
 ·have h19n:a<out.length:=by omega
  have hal:=h19n
  have hax:=hok.2 _ (getElem_mem h19n)
  refine Zk<|Zf<|Zh<|Zf<|ZI mixed #[0,0,0,6,14,31,63,127,0,511,1023,0] 12 (sm 29 12) [] [(9,fun _ _ vw qw=>∃ k,qw=[k]∧Own 3 1 vw (Z2 (dfA l ((out[a])))) k)] rfl (by kernel_rfl) rfl (by kernel_rfl)<|Dl1 DG (Zcu 4 rfl) rfl<|Dl1 Xm (Zcu 0 rfl) rfl<|DM (fun _=>rfl) ?_
  obtain ⟨b24,cap24,row24,hv24,hm24,hs24⟩:=how1.at (j:=a) (by rw [Zt];first | assumption | omega)
  rw [Z9 _ _ (by omega)] at hs24
  refine Dn (fun _=>Zcw a ZV ty3 hv24 rfl rfl (by rw [Zt];first | assumption | omega))<|Dl1 ty3 (ZcD 1 rfl hm24) (ZT hs24) ?_
  obtain ⟨b25,o25,cap25,row25,T25,fr25,cs25,hv25,hb25,hs25,hE25⟩:=hv.get (out[a]).toNat (by omega)
  obtain ⟨cb25,rfl,hB25⟩:=hE25
  refine Dq (pp b25 (o25+(out[a]).toNat*68)) (fun _=>Zcw (out[a]).toNat R6 Qo hv25 rfl (by first | rfl | omega) (by omega))<|Dq (pp b25 (o25+(out[a]).toNat*68+32)) (fun _=>N1 rfl rfl)<|Dl Zy (Zcx hb25) (XS hs25 (XK rfl (ZB hB25)))<|Dl1 KZ (Zcu 3 rfl) rfl ?_
  refine Dc rfl call128 (fun _=>rfl) (fun hin=>Ln l ((out[a])) (by omega) _ r _ (RT.mono (Hle.hu _ _) hB25) (hzl _ (getElem_mem _)) (Hle.hu _ _ _ _ hRb)) ?_
  rintro v26 _ ⟨k26,rfl,ho26⟩
  obtain ⟨a27,cap27,hv27⟩:=ho26.sl
  rw [Zt] at hv27
  refine Dn (fun _=>Zcv ZV hv27)<|DM (fun _=>rfl)<|ZM (M':=[k26,(BX b5 [y1] 45),q1,(BX b3 (bls (flL l.length (rqL l x))) 4),(BX b2 [.map (some r)] 131),(BX b1 [v] 71)]) rfl ?_
  show JL _ _ _ [] _ _ _
  refine Za<|Zh<|Zv (fun k ρ M=>∃ (p:Nat) (out2:List Int) (y2:Value) (q2:Zi),ZR ρ [(2,iv x),(3,pp b1 0),(4,pp b2 0),(6,nS),(7,iv 0),(8,.func (.func 127) ⟨[]⟩ ⟨[pp b1 0,pp b2 0]⟩),(9,.slice (some ⟨b3,0,none⟩) l.length l.length),(10,pp b5 0),(11,iv ((a:Int))),(38,v26),(39,iv (((dfA l ((out[a]))).length:Int))),(40,iv ((p:Int)))]=ρ∧Sub [(BX b5 [y2] 45),q2,k26,(BX b3 (bls (flL l.length (rqL l x))) 4),(BX b2 [.map (some r)] 131),(BX b1 [v] 71)] M∧p≤(dfA l (out[a])).length∧okO l.length out2∧Own 3 1 y2 (Z2 out2) q2∧out2=stO (pcB l x) ((dfA l (out[a])).take p) out∧k=(dfA l (out[a])).length-p) _ ⟨0,out,y1,q1,Zj rfl,(Sub.cons 1 rfl (Sub.cons 1 rfl (Sk (Sk (Sk (Sk Sub.nil)))))),Nat.zero_le _,hok,how1,rfl,rfl⟩ ?_
  rintro _ ρ28 _ ⟨p,out2,y2,q2,e29,hm41,hp,hok2,how2,hst2,rfl⟩
  obtain ⟨ρ42,rfl⟩:=Zo e29
  clear e29
  refine ZD hm41 ?_
  have ho2len:=hok2.len
  have hdl:=J4 (l:=l) (x:=(out[a])) (by omega)
  have hdz:=hzl _ (getElem_mem (show ((out[a])).toNat<l.length by omega))
  refine Zc<|JLn (Pu.lss rfl rfl)<|Za<|Zf<|ZF rfl (fun h43=>?_) (fun h43=>?_)
  ·have h43n:p<(dfA l ((out[a]))).length:=by omega
   have hpl:=h43n
   have hkx:=PP l (out[a]) _ (getElem_mem h43n)
   refine Zk<|Zf<|Zh<|Zf<|Zd ?_
   obtain ⟨b44,cap44,row44,hv44,hm44,hs44⟩:=ho26.at (j:=p) (by rw [Zt];first | assumption | omega)
   rw [Z9 _ _ (by omega)] at hs44
   refine JLn (Zcw p ZV ty3 hv44 rfl rfl (by rw [Zt];first | assumption | omega))<|JLr (Zb ty3 rfl (ZcD 2 rfl hm44) (ZT hs44)<|JAn rfl<|Zc<|JLr (Zb Xm rfl (Zcu 0 rfl) rfl<|JLM rfl<|Jc call54 rfl (fun hin=>WW _ _ _ _ (Yn how2 (by omega) (hin 1 _ rfl))) rfl ?_))
   rintro _ _ ⟨rfl,rfl⟩
   refine JLn (Pu.not rfl)<|JLM rfl ?_
   cases h45:(!(decide ((dfA l ((out[a])))[p]∈out2))) with
   | true=>
    replace h45:=nt h45
    replace h45:=df h45
    refine JLM rfl<|JLM rfl<|JLq (pp b3 (0+((dfA l ((out[a])))[p]).toNat*1)) (Zcw ((dfA l ((out[a])))[p]).toNat W4 ty4 rfl rfl (by omega) (by omega))<|JLr (Zb ty4 rfl (Zcu 3 rfl) (YA (by have hbl:List.length (flL l.length (rqL l x))=l.length:=(TA ..);omega))<|JLq (.bool ((flL l.length (rqL l x)).getD ((dfA l ((out[a])))[p]).toNat false)) (ZcI rfl rfl)<|JLM rfl ?_)
    cases h46:((flL l.length (rqL l x)).getD ((dfA l ((out[a])))[p]).toNat false) with
    | true=>
     refine JLM rfl<|JLM rfl<|Jc call127 rfl (fun hin=>GY l ((dfA l ((out[a])))[p]) _ _ r _ _ (hin 5 _ rfl _ _ mem_cons_self) (RKns.mono (Hle.hu _ _) hv) (hin 4 _ rfl _ _ mem_cons_self) (Hle.hu _ _ _ _ hRb) hn hzl (by omega) (by omega)) rfl ?_
     rintro _ _ ⟨b47,rfl,rfl⟩
     refine JLM rfl<|JLq (pp b47 (0+x.toNat*1)) (Zcw x.toNat W4 ty4 rfl rfl (by omega) (by omega))<|JLr (Zb ty4 rfl (Zcu 0 rfl) (YA (by have hbl:List.length (flL l.length (rqL l ((dfA l ((out[a])))[p])))=l.length:=(TA ..);omega))<|JLq (.bool ((flL l.length (rqL l ((dfA l ((out[a])))[p]))).getD x.toNat false)) (ZcI rfl rfl)<|Za<|Zs rfl (fun h48=>?_) (fun h48=>?_))
     ·refine Zd<|JLr (Zb Xm rfl (Zcu 1 rfl) rfl<|JLM rfl<|JLr (Zm (vs:=[iv ((dfA l ((out[a])))[p])]) [[iv ((dfA l ((out[a])))[p])]] ZV el3 rfl rfl (al1 rfl) rfl (by decide) fun b49 k49 ho49 hk49=>?_))
      have hlens50:∀ e∈([[iv ((dfA l ((out[a])))[p])]]:List (List Value)),List.length e=1:=al1 rfl
      have hoks50:∀ e∈([[iv ((dfA l ((out[a])))[p])]]:List (List Value)),okc e:=al1 (Zg rfl Zq)
      refine JLr (Zz (i:=3) (n:=1) (es':=[[iv ((dfA l ((out[a])))[p])]]) ZV ZV (Or.inl rfl) el3 rfl rfl rfl how2 (fun F w m=>Src.row (((ZcD 0 rfl (by rw [hk49];exact mem_cons_self))).heap m) (ZE (Zw hlens50))) rfl hlens50 hoks50 (by decide) (by first | omega | (rw [Zt];omega)) fun v50 k50 ho50=>JLr (Ze 2 (vs:=[v50]) (l:=[v50]) Xm rfl rfl rfl (ZS ho50.one) rfl (Zg ho50.one Zq) rfl<|Za<|Zd<|JLn (Zcy rfl rfl (by omega))<|JLM rfl<|Za<|⟨_,?_,(p+1),(out2++[(dfA l (out[a]))[p]]),v50,k50,Zj rfl,(Sd (Sd (Sk (Sk (Sk (Sk (Sk (Sk Sub.nil)))))))),?_,?_,?_,?_,rfl⟩))
      ·omega
      ·omega
      ·have hkn:((pcB l x) ((dfA l (out[a]))[p])=true∧((dfA l (out[a]))[p])∉out2):=by (rw [SB h0 h1 hkx.1 hkx.2];simp_all)
       exact hok2.add hkn.2 hkx.1 hkx.2
      ·rw [WI];exact ho50
      have hkn:((pcB l x) ((dfA l (out[a]))[p])=true∧((dfA l (out[a]))[p])∉out2):=by (rw [SB h0 h1 hkx.1 hkx.2];simp_all)
      rw [Wg hpl,← hst2,if_pos hkn]
     refine Zk<|Zd<|JLn (Zcy rfl rfl (by omega))<|JLM rfl<|Za<|⟨_,?_,(p+1),out2,y2,q2,Zj rfl,(Sd (Sk (Sk (Sk (Sk (Sk (Sk Sub.nil))))))),?_,?_,?_,?_,rfl⟩
     ·omega
     ·omega
     ·exact hok2
     ·exact how2
     have hkn:¬ ((pcB l x) ((dfA l (out[a]))[p])=true∧((dfA l (out[a]))[p])∉out2):=by (rw [SB h0 h1 hkx.1 hkx.2];simp_all)
     rw [Wg hpl,← hst2,if_neg hkn]
    | false=>
     iterate 6 refine Xs rfl ?_
     refine JLq (.bool false) (ZcH rfl rfl)<|Za<|Zs (b:=false) rfl (fun h=>absurd h (by simp)) (fun _=>Zk<|Zd<|JLn (Zcy rfl rfl (by omega))<|JLM rfl<|Za<|⟨_,?_,(p+1),out2,y2,q2,Zj rfl,(Sk (Sk (Sk (Sk (Sk (Sk Sub.nil)))))),?_,?_,?_,?_,rfl⟩)
     ·omega
     ·omega
     ·exact hok2
     ·exact how2
     have hkn:¬ ((pcB l x) ((dfA l (out[a]))[p])=true∧((dfA l (out[a]))[p])∉out2):=by (rw [SB h0 h1 hkx.1 hkx.2];simp_all)
     rw [Wg hpl,← hst2,if_neg hkn]
   | false=>
    replace h45:=nf h45
    replace h45:=dt h45
    iterate 4 refine Xs rfl ?_
    refine JLq (.bool false) (ZcH rfl rfl)<|JLM rfl ?_
    iterate 6 refine Xs rfl ?_
    refine JLq (.bool false) (ZcH rfl rfl)<|Za<|Zs (b:=false) rfl (fun h=>absurd h (by simp)) (fun _=>Zk<|Zd<|JLn (Zcy rfl rfl (by omega))<|JLM rfl<|Za<|⟨_,?_,(p+1),out2,y2,q2,Zj rfl,(Sk (Sk (Sk (Sk (Sk (Sk Sub.nil)))))),?_,?_,?_,?_,rfl⟩)
    ·omega
    ·omega
    ·exact hok2
    ·exact how2
    have hkn:¬ ((pcB l x) ((dfA l (out[a]))[p])=true∧((dfA l (out[a]))[p])∉out2):=by (rw [SB h0 h1 hkx.1 hkx.2];simp_all)
    rw [Wg hpl,← hst2,if_neg hkn]
  have h43n:(dfA l ((out[a]))).length≤p:=by omega
  refine Zu _ rfl<|Zd<|JLM rfl<|JLn (Zcy rfl rfl (by omega))<|JAn rfl<|⟨_,?_,(a+1),out2,y2,q2,Zj rfl,(Sk (Sk (Sd (Sk (Sk (Sk Sub.nil)))))),?_,?_,?_,?_,rfl⟩
  ·omega
  ·exact hok2
  ·have:=(Ro (P:=(pcB l x)) (PP l (out[a])) hok).2.length_le;rw [hst2,take_of_length_le (by omega)];omega
  ·exact how2
  rw [show l.length-a=(l.length-(a+1))+1 by omega,RE hal,Tz hal] at hinv;rw [hst2,take_of_length_le (by omega)];exact hinv
 have h19n:out.length≤a:=by omega
 refine Zu _ rfl<|Zf<|Zc<|JLr (Zb Xm rfl (Zcu 0 rfl) rfl ?_)
 obtain ⟨a51,cap51,hv51⟩:=how1.sl
 rw [Zt] at hv51
 refine JLn (Zcv ZV hv51)<|JLn (Pu.gtr rfl rfl)<|Za<|ZF rfl (fun h52=>?_) (fun h52=>?_)
 ·refine Zc<|JLA rfl<|JAn rfl<|ZH<|⟨.tuple ⟨[nS,iv 2]⟩,[[]],ZcE rfl (RV.tmp rfl) (RV.tmp rfl),(Zcz Sub.nil),?_⟩
  rw [SE (by omega)] at hinv
  have hlong:8<(coL l x).length:=by rw [← hinv];omega
  exact ⟨_,_,by unfold grE;rw [if_pos hlong],rfl,by unfold grL;rw [if_pos hlong];exact OL.nil⟩
 refine Zk<|Zc<|JAn rfl<|Zf<|Zc<|JLr (Zb Xm rfl (Zcu 0 rfl) rfl ?_)
 obtain ⟨a53,cap53,hv53⟩:=how1.sl
 rw [Zt] at hv53
 refine JLn (Zcv ZV hv53)<|JLM rfl<|Za<|Zh<|Zv (fun k ρ M=>∃ (j:Nat) (y3:Value) (q3 q4:Zi) (es:List (List Value)),ZR ρ [(3,pp b1 0),(4,pp b2 0),(6,nS),(7,iv 0),(10,pp b5 0),(14,y3),(70,y1),(71,iv ((out.length:Int))),(72,iv ((j:Int)))]=ρ∧Sub [q3,q4,(BX b5 [y1] 45),q1,(BX b3 (bls (flL l.length (rqL l x))) 4),(BX b2 [.map (some r)] 131),(BX b1 [v] 71)] M∧j≤out.length∧Own 51 36 y3 es q3∧OTs ((out.map (clB l out)).take j) es q4∧k=out.length-j) _ ⟨0,nS,[],[],[],Zj rfl,(Zcz (Zcz (Sk (Sk (Sk (Sk (Sk Sub.nil))))))),Nat.zero_le _,Own.nil,⟨rfl,rfl⟩,rfl⟩ ?_
 rintro _ ρ54 _ ⟨j,y3,q3,q4,es,e55,hm64,hj,how,hos,rfl⟩
 obtain ⟨ρ65,rfl⟩:=Zo e55
 clear e55
 refine ZD hm64 ?_
 have hel:=Xr hos
 rw [length_take,length_map] at hel
 refine Zc<|JLn (Pu.lss rfl rfl)<|Za<|Zf<|ZF rfl (fun h66=>?_) (fun h66=>?_)
 ·have h66n:j<out.length:=by omega
  have hjx:=hok.2 _ (getElem_mem h66n)
  refine Zk<|Zf<|Zh<|Zf<|Zd ?_
  obtain ⟨b67,cap67,row67,hv67,hm67,hs67⟩:=how1.at (j:=j) (by rw [Zt];first | assumption | omega)
  rw [Z9 _ _ (by omega)] at hs67
  refine JLn (Zcw j ZV ty3 hv67 rfl rfl (by rw [Zt];first | assumption | omega))<|JLr (Zb ty3 rfl (ZcD 3 rfl hm67) (ZT hs67)<|JAn rfl<|Zd<|JLm y3<|JLr (Zb DG rfl (Zcu 6 rfl) rfl<|JLM rfl ?_))
  obtain ⟨b68,o68,cap68,row68,T68,fr68,cs68,hv68,hb68,hs68,hE68⟩:=hv.get (out[j]).toNat (by omega)
  obtain ⟨cb68,rfl,hB68⟩:=hE68
  refine JLq (pp b68 (o68+(out[j]).toNat*68)) (Zcw (out[j]).toNat R6 Qo hv68 rfl (by first | rfl | omega) (by omega))<|JLq (pp b68 (o68+(out[j]).toNat*68+32)) (N1 rfl rfl)<|JLr (Zn Zy rfl (Zcx hb68) (XS hs68 (XK rfl (ZB hB68)))<|JLq (.func (.func 129) ⟨[]⟩ ⟨[pp b2 0,pp b5 0]⟩) (Pu.makeFunc rfl rfl)<|Jc call57 rfl (fun hin=>Tx (clD (kSm l) out) (fun _ _ _=>True) 129 [] _ call129 (Zay (by omega) _) _ _ _ (RT.mono (Hle.hu _ _) hB68) (by have:=hzl _ (getElem_mem (show (out[j]).toNat<l.length by omega));omega) (TJ (fun _ _ _=>trivial) _) (fun y b h hh ra _=>Zaz l out _ _ r _ y b h ra (hh _ _ (hin 5 _ rfl _ _ mem_cons_self)) (hh _ _ (Hle.hu _ _ _ _ hRb)) (hh _ _ (hin 2 _ rfl _ _ mem_cons_self)) (RIs.mono hh (Yn how1 (by omega) (hin 3 _ rfl))))) rfl ?_)
  rintro _ _ ⟨cs69,k69,rfl,rfl,hO69⟩
  refine JLr (Zm (vs:=[.agg ⟨cs69⟩]) [cs69] ZQ Wo rfl rfl (al1 hO69.len) rfl (by decide) fun b70 k70 ho70 hk70=>?_)
  have hlens71:∀ e∈([cs69]:List (List Value)),List.length e=36:=al1 hO69.len
  have hoks71:∀ e∈([cs69]:List (List Value)),okc e:=al1 hO69.ok
  refine JLr (Zz (i:=2) (n:=1) (es':=[cs69]) ZQ ZQ (Or.inl rfl) Wo rfl rfl rfl how (fun F w m=>Src.row (((ZcD 0 rfl (by rw [hk70];exact mem_cons_self))).heap m) (ZE (Zw hlens71))) rfl hlens71 hoks71 (by decide) (by first | omega | (rw [Zt];omega)) fun v71 k71 ho71=>JLa v71<|Za<|Zd<|JLn (Zcy rfl rfl (by omega))<|JLM rfl<|Za<|⟨_,?_,(j+1),v71,k71,(q4++k69),(es++[cs69]),Zj rfl,(Sd (Sub.cons 1 rfl (ZcF (Sub.cons 1 rfl (Sk (Sk (Sk (Sk (Sk (Sk Sub.nil)))))))))),?_,?_,?_,rfl⟩)
  ·omega
  ·omega
  ·exact ho71
  rw [EN h66n,EO (show (out[j]).toNat<l.length by omega)];exact OTs.snoc hO69 hos
 have h66n:out.length≤j:=by omega
 refine Zu _ rfl<|Zc<|JLm y3<|JLa y3<|JAn rfl<|ZH<|⟨.tuple ⟨[y3,iv 0]⟩,[q3++q4],ZcE rfl (RV.tmp rfl) (RV.tmp rfl),(ZcF (Sk (Sk Sub.nil))),?_⟩
 rw [SE (by omega)] at hinv
 have hlong:¬ 8<(coL l x).length:=by rw [← hinv];omega
 rw [take_of_length_le (by rw [length_map];exact h66n)] at hos
 exact ⟨_,_,by unfold grE;rw [if_neg hlong],rfl,by unfold grL;rw [if_neg hlong,← hinv];exact OL.mk how hos (by rw [length_map];omega)⟩
end
end Go.Proofs.YtjdjmjgleadcfaaGreatDoor.Hs
