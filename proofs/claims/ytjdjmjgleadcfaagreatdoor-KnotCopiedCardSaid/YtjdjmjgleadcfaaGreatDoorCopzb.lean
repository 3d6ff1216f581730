import Derived.Test.YtjdjmjgleadcfaaGreatDoorCopza
import Derived.Test.YtjdjmjgleadcfaaGreatDoorChecked
import Derived.OpenShut
import Derived.ReadAgain
import Derived.Test.YtjdjmjgleadcfaaGreatDoorProg
import Derived.Laws.RangeString
import Derived.Lib.SlicesCompact
import Derived.Laws.BytesArg
import Derived.Laws.StructEq
set_option linter.unusedVariables false
set_option linter.unusedSimpArgs false
set_option maxRecDepth 100000
open Go.Proofs.Tryz
open List (getElem_mem replicate mem_cons_self mem_cons not_mem_nil append_assoc take_of_length_le length_append getD_eq_getElem?_getD getElem?_eq_getElem length_take take_succ_eq_append_getElem length_cons length_map length_set flatten_cons mem_map mem_range map_append length_drop flatten map_cons append_nil take_succ_cons cons_append eq_nil_of_length_eq_zero ext_getElem getElem?_cons_zero getElem_map drop_eq_getElem_cons mem_singleton nil_append getElem?_eq_none drop_drop flatten_nil mem_filter map_congr_left map_nil getElem?_drop getElem?_take getElem?_cons_succ mem_of_getElem? set_cons_succ getElem_append_left getElem_append_right set_cons_zero)
namespace Go.Proofs.YtjdjmjgleadcfaaGreatDoor.Hs
section
variable {σ:Type} (rf:Sm→Sm) (vf:Int→Int→σ→Tm×σ)
end
theorem RIs.mono {h h':Heap} (hh:Hle h h') {v:Value} {l:List Int} (q:Hs.rdS RI 1 h v l):Hs.rdS RI 1 h' v l:=rdS.mono q hh fun _ _ _ e=>e
theorem ZdD {T:TypeId} {v:Value} {e:List Value} {k:Zf} {h:Heap} {t:Tm} (o:Own T 36 v [e] k) (hk:Has k h) (ht:RT h e t):Hs.rdS RT 36 h v [t]:=
  o.rdS rfl (by simp) hk fun i h1 _=>by
    have:i=0:=by simpa using h1
    subst this;exact ht
def Half (H:Heap) (kids new:List Tm) (j:Nat) (es:List (List Value)) (c:Zf):Prop:=
  es.length=kids.length∧OTs new (es.take j) c∧∀ i (h1:i<es.length) (h2:i<kids.length),j≤i→RT H es[i] kids[i]
theorem Half.step {H:Heap} {kids new:List Tm} {j:Nat} {es:List (List Value)} {c:Zf} (h:Half H kids new j es c) (hj:j<kids.length) {t:Tm} {e:List Value} {k:Zf} (ht:OT t e k):Half H kids (new++[t]) (j+1) (es.set j e) (c++k):=by
  obtain ⟨h1,h2,h3⟩:=h
  refine ⟨by rw [length_set];exact h1,?_,fun i hi1 hi2 hji=>?_⟩
  · have:(es.set j e).take (j+1)=es.take j++[e]:=by
      rw [List.take_add_one,List.getElem?_set_self (by omega),List.take_set_of_le (Nat.le_refl _)];rfl
    rw [this]
    exact h2.snoc ht
  · rw [List.getElem_set_ne (by omega)]
    exact h3 i (by simpa using hi1) hi2 (by omega)
theorem Half.mono {H H':Heap} {kids new:List Tm} {j:Nat} {es:List (List Value)} {c:Zf} (hh:Hle H H') (h:Half H kids new j es c):Half H' kids new j es c:=
  ⟨h.1,h.2.1,fun i h1 h2 h3=>(h.2.2 i h1 h2 h3).mono hh⟩
theorem Half.done {H:Heap} {kids new:List Tm} {es:List (List Value)} {c:Zf} {j:Nat} (h:Half H kids new j es c) (hj:kids.length≤j):OTs new es c:=by
  have h2:=h.2.1
  rwa [take_of_length_le (by rw [h.1];exact hj)] at h2
theorem Zds {H:Heap} {kids:List Tm} {es:List (List Value)} (h1:es.length=kids.length) (h2:∀ i (h1:i<es.length) (h2:i<kids.length),RT H es[i] kids[i]):Half H kids [] 0 es []:=
  ⟨h1,by simpa using OTs.nil,fun i a b _=>h2 i a b⟩
theorem rows.cells {α:Type} {E:List Value→α→Prop} {sz:Nat} {row:List Value} {l:List α}:∀ {o:Nat},rows E sz row o l→∃ es:List (List Value),es.length=l.length∧(∀ i (h1:i<es.length) (h2:i<l.length),E es[i] l[i])∧
    (∀ e∈es,e.length=sz)∧es.flatten=(row.drop o).take (l.length*sz)∧(l≠[]→o+l.length*sz≤row.length):=by
  induction l with
  | nil=>intro o _;exact ⟨[],rfl,fun i h1=>absurd h1 (by simp),by simp,by simp,fun h=>absurd rfl h⟩
  | cons x l ih=>
    intro o h
    obtain ⟨⟨cs,h1,h2⟩,h3⟩:=h
    obtain ⟨es,e1,e2,e3,e4,e5⟩:=ih h3
    obtain ⟨hle,hcs⟩:=Wg h1
    have hl:cs.length=sz:=by rw [hcs,length_take,length_drop];omega
    refine ⟨cs::es,by simp [e1],fun i h4 h5=>?_,fun e he=>?_,?_,fun _=>?_⟩
    · cases i with
      | zero=>exact h2
      | succ i=>exact e2 i (by simpa using h4) (by simpa using h5)
    · rcases mem_cons.1 he with rfl | he
      · exact hl
      · exact e3 e he
    · rw [flatten_cons,e4,length_cons,Nat.succ_mul,Nat.add_comm (l.length*sz) sz,List.take_add,drop_drop,← hcs]
    · by_cases hn:l=[]
      · subst hn;simpa using hle
      · have:=e5 hn;rw [length_cons,Nat.succ_mul];omega
theorem rdS.src {P:Program} {α:Type} {E:Heap→List Value→α→Prop} {sz:Nat} {h:Heap} {v:Value} {l:List α} (o:rdS E sz h v l):∃ es:List (List Value),es.length=l.length∧(∀ i (h1:i<es.length) (h2:i<l.length),E h es[i] l[i])∧
    (∀ e∈es,e.length=sz)∧∀ w L h',Hle h h'→Mem w L h'→Src P sz w v l.length es.flatten:=by
  obtain ⟨a,cap,rfl,hn,h0 | ⟨b,o,row,T,fr,rfl,hb,hr⟩⟩:=o
  · have:l=[]:=eq_nil_of_length_eq_zero h0
    subst this
    refine ⟨[],rfl,fun i h1=>absurd h1 (by simp),by simp,fun w L h' _ m=>⟨by simp [Builtin.lenOf],fun m hm=>?_,by simp⟩⟩
    have:m=0:=by simpa using hm
    subst this
    cases a with
    | none=>simp [Builtin.firstCells]
    | some a=>simpa using run_firstCells_some (P:=P) w sz 0 a 0 cap [] (by simp) (fun j v hv=>by simp at hv)
  · obtain ⟨es,e1,e2,e3,e4,e5⟩:=rows.cells hr
    refine ⟨es,e1,e2,e3,fun w L h' hh m=>?_⟩
    by_cases hn:l=[]
    · subst hn
      have:es=[]:=eq_nil_of_length_eq_zero e1
      subst this
      refine ⟨by simp [Builtin.lenOf],fun m hm=>?_,by simp⟩
      have:m=0:=by simpa using hm
      subst this
      simpa using run_firstCells_some (P:=P) w sz 0 ⟨b,o,none⟩ 0 cap [] (by simp) (fun j v hv=>by simp at hv)
    · exact Src.row (m.imm _ _ (hh _ _ hb)) (by rw [Wp (e5 hn),e4])
theorem FW {P:Program} {H:Heap} {ks:Value} {kids:List Tm} (hks:rdS RT 36 H ks kids):∃ es:List (List Value),es.length=kids.length∧Half H kids [] 0 es []∧(∀ e∈es,e.length=36)∧(∀ e∈es,okc e)∧
    ∀ w L,Mem w L H→Src P 36 w ks kids.length es.flatten:=by
  obtain ⟨es,e1,e2,e3,e4⟩:=rdS.src (P:=P) hks
  refine ⟨es,e1,Zds e1 e2,e3,fun e he=>?_,fun w L m=>e4 w L H (Hle.refl _) m⟩
  obtain ⟨i,hi,rfl⟩:=List.getElem_of_mem he
  exact Y5 (e2 i hi (by omega))
theorem Half.at {H:Heap} {kids new:List Tm} {j:Nat} {es:List (List Value)} {c k:Zf} {T:TypeId} {v:Value} (h:Half H kids new j es c) (o:Own T 36 v es k) (hj:j<kids.length):
    ∃ b cap row e,v=.slice (some ⟨b,0,none⟩) es.length cap∧(b,Obj.cells ⟨row⟩ T (0,0))∈k∧sub row (0+j*36) 36=some e∧RT H e kids[j]:=by
  obtain ⟨b,cap,row,h1,h2,h3⟩:=o.at (j:=j) (by rw [h.1];exact hj)
  exact ⟨b,cap,row,_,h1,h2,h3,h.2.2 j (by rw [h.1];exact hj) hj (Nat.le_refl _)⟩
section
variable {c:Cx} {H:Heap} {ρ:Nat→Value} {M:List Zf} {K:Value→List Zf→Prop} {d:Option Nat} {ot:TypeId} {pos:String} {af:Array Edge} {g:Option (Nat×Bool)} {x y:Operand}
theorem Uj {T el:TypeId} {sz by_:Nat} {z:Value} {k k':IntKind} (n:Nat) {a b:Int} (hT:∀ w,(underlying T).run c.P w=.ok (.slice el) w) (hel:El c.P el sz by_ z)
    (hx:ev c.n ρ x=.int k a) (hy:ev c.n ρ y=.int k' b) (ha:a=n) (hb:b=n) (hbig:n*by_≤281474976710656) (hbig':n≤140737488355328)
    (h:∀ v k,Own el sz v (replicate n z.cells.toList) k→K v (k::M)):
    Runs c H ⟨d,.makeSlice T x y,ot,pos,af,g⟩ ρ M K:=OM n hT hel hx hy ha hb hbig hbig' fun _ k ho _=>h _ k ho
end
def XT (t:Tm) (v:Value) (n s:Zf):Prop:=∃ k,v=.agg ⟨cel v⟩∧n=k++s∧OT t (cel v) k
theorem XT.v {t:Tm} {v:Value} {n s:Zf} (h:XT t v n s):v=.agg ⟨cel v⟩:=by obtain ⟨k,h,_⟩:=h;exact h
theorem XT.len {t:Tm} {v:Value} {n s:Zf} (h:XT t v n s):(cel v).length=36:=by obtain ⟨k,_,_,h⟩:=h;exact h.len
theorem XT.ok {t:Tm} {v:Value} {n s:Zf} (h:XT t v n s):okc (cel v):=by obtain ⟨k,_,_,h⟩:=h;exact h.ok
section
variable {σ:Type} {rf:Sm→Sm} {vf:Int→Int→σ→Tm×σ} {Inv:σ→Prop} 
end
theorem Sub.split {a b:Zf} {R M:List Zf} (h:Sub ((a++b)::R) M):Sub (a::b::R) M:=h.flat (by simp)
theorem IR (k n:Int) (r:Sm) (l:Nat):VE k n r l=Tq k n r l:=by
  unfold VE Tq Rv pfN pfR
  by_cases h0:k<1∨3<k
  · rw [if_pos h0,if_pos h0]
  · rw [if_neg h0,if_neg h0]
    have hk:k=1∨k=2∨k=3:=by omega
    by_cases hr:r=zS <;> rcases hk with rfl | rfl | rfl <;> simp [hr] <;> (repeat' split) <;> first | rfl | omega | (exfalso;simp_all;done) | (exfalso;simp_all;omega)
theorem Fa (p:Pt):VD p=Xn p:=by
  induction p using Pt.ind with
  | h k n r kids ih=>
    rw [VD,Xn,IR]
    have:Ri kids=XC kids:=by
      clear k n r
      induction kids with
      | nil=>rfl
      | cons p l ih'=>rw [Ri,XC,ih p (by simp),ih' (fun x hx=>ih x (by simp [hx]))]
    rw [this]
theorem IQ (l:List (Pt×Tm)):Vk l=YZ l:=by
  induction l with
  | nil=>rfl
  | cons c l ih=>rw [Vk,YZ,Fa,ih]
theorem Gm (d m b k n:Int) (r:Sm) (l lc:Nat):Xb d m b k n r l lc=YF d m b k n r l lc:=by
  unfold Xb YF Rv fN fR fC Vf Yx Ys loK hiK Kd
  by_cases h0:k<1∨12<k
  · rw [if_pos h0,if_pos h0]
  · rw [if_neg h0,if_neg h0]
    have hk:k=1∨k=2∨k=3∨k=4∨k=5∨k=6∨k=7∨k=8∨k=9∨k=10∨k=11∨k=12:=by omega
    by_cases hr:r=zS <;> rcases hk with rfl | rfl | rfl | rfl | rfl | rfl | rfl | rfl | rfl | rfl | rfl | rfl <;> simp [hr] <;> (repeat' split) <;> first | rfl | omega | (exfalso;simp_all;done) | (exfalso;simp_all;omega)
theorem K5 (d m:Int) (t:Tm):∀ b,XG d m b t=ZV d m b t:=by
  induction t using Tm.ind with
  | h k n r kids cases ih ih'=>
    intro b
    have hK:∀ (l:List Tm),(∀ t∈l,∀ b,XG d m b t=ZV d m b t)→∀ b i,Vr d m b k i l=Z0 d m b k i l:=by
      intro l
      induction l with
      | nil=>intro _ b i;simp [Vr,Z0]
      | cons t l ihl=>intro hl b i;rw [Vr,Z0,hl t (by simp),ihl (fun x hx=>hl x (by simp [hx]))]
    have hC:∀ (l:List (Pt×Tm)),(∀ t∈l,∀ b,XG d m b t.2=ZV d m b t.2)→∀ b,TY d m b l=Yc d m b l:=by
      intro l
      induction l with
      | nil=>intro _ b;simp [TY,Yc]
      | cons t l ihl=>obtain ⟨p,t⟩:=t;intro hl b;rw [TY,Yc,hl (p,t) (by simp),ihl (fun x hx=>hl x (by simp [hx]))]
    rw [XG,ZV,Gm,IQ,hK kids ih,hC cases ih']
mutual
def UP:Pt→Int
  | .mk _ _ _ kids=>XX kids+1
def XX:List Pt→Int
  | []=>0
  | p::l=>max (UP p) (XX l)
end
mutual
def Yj:Tm→Int
  | .mk _ _ _ kids cases=>max (Yi kids) (Yo cases)+1
def Yi:List Tm→Int
  | []=>0
  | p::l=>max (Yj p) (Yi l)
def Yo:List (Pt×Tm)→Int
  | []=>0
  | (p,t)::l=>max (max (UP p) (Yj t)) (Yo l)
end
theorem Pp (l:List Pt):0≤XX l:=by
  induction l with
  | nil=>rw [XX];omega
  | cons p l ih=>rw [XX];omega
theorem UO (l:List Tm):0≤Yi l:=by
  induction l with
  | nil=>rw [Yi];omega
  | cons p l ih=>rw [Yi];omega
theorem SN (l:List (Pt×Tm)):0≤Yo l:=by
  induction l with
  | nil=>rw [Yo];omega
  | cons p l ih=>obtain ⟨p,t⟩:=p;rw [Yo];omega
def ExP (p:Pt):Prop:=∀ m:Int,0≤m→((sizeP p:Int)≤m→VL m p=((sizeP p:Int),UP p))∧(m<sizeP p→m<(VL m p).1)
def ExT (p:Tm):Prop:=∀ m:Int,0≤m→((sizeT p:Int)≤m→Wm m p=((sizeT p:Int),Yj p))∧(m<sizeT p→m<(Wm m p).1)
theorem MX (l:List Pt):(∀ p∈l,ExP p)→∀ (m n d:Int),1≤n→0≤m→0≤d→
    (n+sizePs l≤m→VK m l n d=(n+sizePs l,max d (XX l)))∧(m<n+sizePs l→m<(VK m l n d).1):=by
  induction l with
  | nil=>intro _ m n d h1 h0 hd;simp only [VK,sizePs,XX];exact ⟨fun h=>Prod.ext (by simp) (by simp only;omega),fun h=>by omega⟩
  | cons p l ih=>
    intro hl m n d h1 h0 hd
    have ih:=ih (fun x hx=>hl x (by simp [hx]))
    have hp:=hl p (by simp)
    rw [VK,sizePs,XX]
    refine ⟨fun h=>?_,fun h=>?_⟩
    · rw [if_pos (by omega),(hp (m-1) (by omega)).1 (by omega)]
      have hd':0≤max d (UP p):=by omega
      rw [(ih m _ _ (by simp only;omega) h0 hd').1 (by simp only;omega)]
      exact Prod.ext (by simp only;omega) (by simp only;omega)
    · by_cases hn:n≤m
      · rw [if_pos hn]
        by_cases hq:(sizeP p:Int)≤m-1
        · rw [(hp (m-1) (by omega)).1 hq]
          exact (ih m _ _ (by simp only;omega) h0 (by simp only;omega)).2 (by simp only;omega)
        · have h2:=(hp (m-1) (by omega)).2 (by omega)
          have h3:=NB p (m-1)
          exact (ih m _ _ (by omega) h0 (by omega)).2 (by omega)
      · rw [if_neg hn];simp only;omega
theorem Ks (p:Pt):ExP p:=by
  induction p using Pt.ind with
  | h k n r kids ih=>
    intro m hm
    have:=MX kids ih m 1 0 (by omega) hm (by omega)
    rw [VL,sizeP,UP]
    refine ⟨fun h=>?_,fun h=>?_⟩
    · rw [this.1 (by omega)]
      have:=Pp kids
      exact Prod.ext (by simp only;omega) (by simp only;omega)
    · exact this.2 (by omega)
theorem MW (l:List Tm):(∀ p∈l,ExT p)→∀ (m n d:Int),1≤n→0≤m→0≤d→
    (n+sizeTs l≤m→X7 m l n d=(n+sizeTs l,max d (Yi l)))∧(m<n+sizeTs l→m<(X7 m l n d).1):=by
  induction l with
  | nil=>intro _ m n d h1 h0 hd;simp only [X7,sizeTs,Yi];exact ⟨fun h=>Prod.ext (by simp) (by simp only;omega),fun h=>by omega⟩
  | cons p l ih=>
    intro hl m n d h1 h0 hd
    have ih:=ih (fun x hx=>hl x (by simp [hx]))
    have hp:=hl p (by simp)
    rw [X7,sizeTs,Yi]
    refine ⟨fun h=>?_,fun h=>?_⟩
    · rw [if_pos (by omega),(hp (m-1) (by omega)).1 (by omega)]
      rw [(ih m _ _ (by simp only;omega) h0 (by simp only;omega)).1 (by simp only;omega)]
      exact Prod.ext (by simp only;omega) (by simp only;omega)
    · by_cases hn:n≤m
      · rw [if_pos hn]
        by_cases hq:(sizeT p:Int)≤m-1
        · rw [(hp (m-1) (by omega)).1 hq]
          exact (ih m _ _ (by simp only;omega) h0 (by simp only;omega)).2 (by simp only;omega)
        · have h2:=(hp (m-1) (by omega)).2 (by omega)
          have h3:=NA p (m-1)
          exact (ih m _ _ (by omega) h0 (by omega)).2 (by omega)
      · rw [if_neg hn];simp only;omega
theorem RX (l:List (Pt×Tm)):(∀ p∈l,ExT p.2)→∀ (m n d:Int),1≤n→0≤m→0≤d→
    (n+sizeCs l≤m→VM m l n d=(n+sizeCs l,max d (Yo l)))∧(m<n+sizeCs l→m<(VM m l n d).1):=by
  induction l with
  | nil=>intro _ m n d h1 h0 hd;simp only [VM,sizeCs,Yo];exact ⟨fun h=>Prod.ext (by simp) (by simp only;omega),fun h=>by omega⟩
  | cons p l ih=>
    obtain ⟨p,t⟩:=p
    intro hl m n d h1 h0 hd
    have ih:=ih (fun x hx=>hl x (by simp [hx]))
    have ht:=hl (p,t) (by simp)
    have hp:=Ks p
    have s1:=Rb p
    have s2:=Vv t
    rw [VM,sizeCs,Yo]
    refine ⟨fun h=>?_,fun h=>?_⟩
    · rw [if_pos (by omega),(hp (m-1) (by omega)).1 (by omega),(ht (m-1) (by omega)).1 (by simp only;omega)]
      rw [(ih m _ _ (by simp only;omega) h0 (by simp only;omega)).1 (by simp only;omega)]
      exact Prod.ext (by simp only;omega) (by simp only;omega)
    · by_cases hn:n≤m
      · rw [if_pos hn]
        have h3:=NA t (m-1)
        have h4:=NB p (m-1)
        by_cases hq:(sizeP p:Int)≤m-1
        · rw [(hp (m-1) (by omega)).1 hq]
          by_cases hr:(sizeT t:Int)≤m-1
          · have e:=(ht (m-1) (by omega)).1 hr
            simp only at e
            rw [e]
            exact (ih m _ _ (by simp only;omega) h0 (by simp only;omega)).2 (by simp only;omega)
          · have h2:=(ht (m-1) (by omega)).2 (by simp only;omega)
            simp only at h2
            exact (ih m _ _ (by simp only;omega) h0 (by simp only;omega)).2 (by simp only;omega)
        · have h2:=(hp (m-1) (by omega)).2 (by omega)
          exact (ih m _ _ (by omega) h0 (by omega)).2 (by omega)
      · rw [if_neg hn];simp only;omega
theorem Kr (p:Tm):ExT p:=by
  induction p using Tm.ind with
  | h k n r kids cases ih ih'=>
    intro m hm
    have h1:=MW kids ih m 1 0 (by omega) hm (by omega)
    have nn:=UO kids
    have nc:=SN cases
    rw [Wm,sizeT,Yj]
    refine ⟨fun h=>?_,fun h=>?_⟩
    · rw [h1.1 (by omega),(RX cases ih' m _ _ (by simp only;omega) hm (by simp only;omega)).1 (by simp only;omega)]
      exact Prod.ext (by simp only;omega) (by simp only;omega)
    · have h2:=MV (fun p _=>NA p) (l:=kids) m 1 0 (by omega) (by omega)
      simp only
      refine (RX cases ih' m _ _ (by omega) hm (by omega)).2 ?_
      by_cases hq:(1:Int)+sizeTs kids≤m
      · rw [h1.1 hq];simp only;omega
      · have:=h1.2 (by omega);omega
theorem WW (t:Tm):Sv t=true↔(300<sizeT t∨60<Yj t):=by
  unfold Sv
  have:=Kr t 400 (by omega)
  by_cases h:(sizeT t:Int)≤400
  · rw [this.1 h];simp;omega
  · have:=this.2 (by omega);simp;omega
def CnP (p:Pt):Prop:=∀ d n:Int,((cnP stL d p n).1=false↔n+sizeP p≤300∧d+UP p≤61)
def CnT (p:Tm):Prop:=∀ d n:Int,((cnT stL d p n).1=false↔n+sizeT p≤300∧d+Yj p≤61)
theorem EJ (l:List Pt):(∀ p∈l,CnP p)→∀ d n:Int,n≤300→d≤61→((R8 stL d l n).1=false↔n+sizePs l≤300∧d+XX l≤61):=by
  induction l with
  | nil=>intro _ d n h1 h2;simp only [R8,sizePs,XX];simp;omega
  | cons p l ih=>
    intro hl d n h1 h2
    have hp:=hl p (by simp) d n
    have nn:=Pp l
    rw [R8,sizePs,XX]
    by_cases h:(cnP stL d p n).1=true
    · rw [if_pos h]
      have:¬ (n+sizeP p≤300∧d+UP p≤61):=fun hh=>by rw [hp.2 hh] at h;cases h
      simp only [Bool.true_eq_false,false_iff];omega
    · have h:=Bool.not_eq_true _▸h
      rw [if_neg (by rw [h];decide),SQ p d n h]
      have h3:=hp.1 h
      rw [ih (fun x hx=>hl x (by simp [hx])) d _ (by omega) h2];omega
theorem Br (p:Pt):CnP p:=by
  induction p using Pt.ind with
  | h k m r kids ih=>
    intro d n
    have nn:=Pp kids
    rw [cnP,sizeP,UP]
    by_cases h:stL (n+1) d=true
    · rw [if_pos h]
      have:300<n+1∨60<d:=by simpa [stL] using h
      simp only [Bool.true_eq_false,false_iff];omega
    · rw [if_neg h]
      have:¬ (300<n+1)∧¬ (60<d):=by simpa [stL] using h
      rw [EJ kids ih _ _ (by omega) (by omega)];omega
theorem EH (l:List Tm):(∀ p∈l,CnT p)→∀ d n:Int,n≤300→d≤61→((VP stL d l n).1=false↔n+sizeTs l≤300∧d+Yi l≤61):=by
  induction l with
  | nil=>intro _ d n h1 h2;simp only [VP,sizeTs,Yi];simp;omega
  | cons p l ih=>
    intro hl d n h1 h2
    have hp:=hl p (by simp) d n
    have nn:=UO l
    rw [VP,sizeTs,Yi]
    by_cases h:(cnT stL d p n).1=true
    · rw [if_pos h]
      have:¬ (n+sizeT p≤300∧d+Yj p≤61):=fun hh=>by rw [hp.2 hh] at h;cases h
      simp only [Bool.true_eq_false,false_iff];omega
    · have h:=Bool.not_eq_true _▸h
      rw [if_neg (by rw [h];decide),UQ p d n h]
      have h3:=hp.1 h
      rw [ih (fun x hx=>hl x (by simp [hx])) d _ (by omega) h2];omega
theorem EK (l:List (Pt×Tm)):(∀ p∈l,CnT p.2)→∀ d n:Int,n≤300→d≤61→((R9 stL d l n).1=false↔n+sizeCs l≤300∧d+Yo l≤61):=by
  induction l with
  | nil=>intro _ d n h1 h2;simp only [R9,sizeCs,Yo];simp;omega
  | cons p l ih=>
    obtain ⟨p,t⟩:=p
    intro hl d n h1 h2
    have hp:=Br p d n
    have nn:=SN l
    rw [R9,sizeCs,Yo]
    by_cases h:(cnP stL d p n).1=true
    · rw [if_pos h]
      have:¬ (n+sizeP p≤300∧d+UP p≤61):=fun hh=>by rw [hp.2 hh] at h;cases h
      simp only [Bool.true_eq_false,false_iff];omega
    · have h:=Bool.not_eq_true _▸h
      rw [if_neg (by rw [h];decide),SQ p d n h]
      have h3:=hp.1 h
      have ht:=hl (p,t) (by simp) d (n+sizeP p)
      simp only at ht
      by_cases h':(cnT stL d t (n+sizeP p)).1=true
      · rw [if_pos h']
        have:¬ (n+sizeP p+sizeT t≤300∧d+Yj t≤61):=fun hh=>by rw [ht.2 hh] at h';cases h'
        simp only [Bool.true_eq_false,false_iff];omega
      · have h':=Bool.not_eq_true _▸h'
        rw [if_neg (by rw [h'];decide),UQ t d _ h']
        have h4:=ht.1 h'
        rw [ih (fun x hx=>hl x (by simp [hx])) d _ (by omega) h2];omega
theorem J4 (p : Tm):CnT p:=by
  induction p using Tm.ind with
  | h k m r kids cases ih ih'=>
    intro d n
    have nn:=UO kids
    have nc:=SN cases
    rw [cnT,sizeT,Yj]
    by_cases h:stL (n+1) d=true
    · rw [if_pos h]
      have:300<n+1∨60<d:=by simpa [stL] using h
      simp only [Bool.true_eq_false,false_iff];omega
    · rw [if_neg h]
      have:¬ (300<n+1)∧¬ (60<d):=by simpa [stL] using h
      have hk:=EH kids ih (d+1) (n+1) (by omega) (by omega)
      by_cases h':(VP stL (d+1) kids (n+1)).1=true
      · rw [if_pos h']
        have:¬ (n+1+sizeTs kids≤300∧d+1+Yi kids≤61):=fun hh=>by rw [hk.2 hh] at h';cases h'
        simp only [Bool.true_eq_false,false_iff];omega
      · have h' :=Bool.not_eq_true _▸h'
        have hz :(VP stL (d+1) kids (n+1)).2=n+1+sizeTs kids:=by
          clear hk ih ih'
          have:∀ (l:List Tm) d n,(VP stL d l n).1=false→(VP stL d l n).2=n+sizeTs l:=by
            intro l
            induction l with
            | nil=>intro d n _;simp [VP,sizeTs]
            | cons q l ihl=>
              intro d n h
              rw [VP] at h ⊢
              split at h
              · cases h
              · rename_i h1
                rw [if_neg h1,ihl _ _ h,UQ q _ _ (by simpa using h1),sizeTs];omega
          exact this kids _ _ h'
        have h4:=hk.1 h'
        rw [if_neg (by rw [h'];decide),hz,EK cases ih' _ _ (by omega) (by omega)];omega
theorem CA (t:Tm):(cnT stL 1 t 0).1=Sv t:=by
  have h1:=J4 t 1 0
  have h2:=WW t
  cases h:(cnT stL 1 t 0).1 with
  | false=>have:=h1.1 h;cases h':Sv t with
    | false=>rfl
    | true=>have:=h2.1 h';omega
  | true=>
    have:¬ (0+(sizeT t:Int)≤300∧1+Yj t≤61):=fun hh=>by rw [h1.2 hh] at h;cases h
    exact (h2.2 (by omega)).symm
theorem SS (d m:Int) (t:Tm):Xv d m t=ZG d m t:=by
  unfold Xv ZG
  rw [CA,K5]
mutual
def Im:Tm→Prop
  | .mk k _ r kids cases=>(k=1→r=zS∧kids=[]∧cases=[])∧Gg kids∧Gh cases
def Gg:List Tm→Prop
  | []=>True
  | t::l=>Im t∧Gg l
def Gh:List (Pt×Tm)→Prop
  | []=>True
  | (_,t)::l=>Im t∧Gh l
end
theorem Rl {d m b n:Int} {r:Sm} {l lc:Nat} (h:YF d m b 1 n r l lc=0):r=zS∧l=0∧lc=0∧0≤n∧(n<b∨n-b<d):=by
  unfold YF Yx Ys loK hiK at h
  simp at h
  by_cases hr:r=zS
  · simp [hr] at h ⊢
    (repeat' split at h) <;> first | omega | (exfalso;simp_all;done) | (exfalso;simp_all;omega)
  · simp [hr] at h
def NT (d m:Int) (t:Tm):Prop:=∀ b,ZV d m b t=0→Im t∧(0≤b→0≤d→b+2*sizeT t+d≤2000000→vOK t)
theorem LR {d m:Int} {k:Int} {b:Int} {l:List Tm} (hl:∀ t∈l,NT d m t):∀ i,Z0 d m b k i l=0→Gg l∧(0≤b→0≤d→b+2+2*sizeTs l+d≤2000000→H7 l):=by
  induction l with
  | nil=>intro i _;exact ⟨trivial,fun _ _ _=>trivial⟩
  | cons t l ih=>
    intro i h
    rw [Z0] at h
    split at h
    · rename_i h0
      have h1:=hl t (by simp) _ h0
      have h2:=ih (fun x hx=>hl x (by simp [hx])) _ h
      have hm:=Jy k i
      exact ⟨⟨h1.1,h2.1⟩,fun hb hd hs=>by rw [sizeTs] at hs;exact ⟨h1.2 (by omega) hd (by omega),h2.2 hb hd (by omega)⟩⟩
    · rename_i h0;exact absurd h h0
theorem Mg {d m:Int} {b:Int} {l:List (Pt×Tm)} (hl:∀ t∈l,NT d m t.2):Yc d m b l=0→Gh l∧(0≤b→0≤d→b+2*sizeCs l+d≤2000000→H8 l):=by
  induction l with
  | nil=>intro _;exact ⟨trivial,fun _ _ _=>trivial⟩
  | cons t l ih=>
    obtain ⟨p,t⟩:=t
    intro h
    rw [Yc] at h
    split at h
    · rename_i h0
      have h1:=hl (p,t) (by simp) _ h0
      simp only at h1
      have h2:=ih (fun x hx=>hl x (by simp [hx])) h
      have hm:=VU p
      exact ⟨⟨h1.1,h2.1⟩,fun hb hd hs=>by rw [sizeCs] at hs;exact ⟨h1.2 (by omega) hd (by omega),h2.2 hb hd (by omega)⟩⟩
    · rename_i h0;exact absurd h h0
theorem GS (d m:Int) (t:Tm):NT d m t:=by
  induction t using Tm.ind with
  | h k n r kids cases ih ih'=>
    intro b h
    rw [ZV] at h
    split at h
    · rename_i hh
      split at h
      · split at h
        · rename_i hk
          have h1:=LR ih _ hk
          have h2:=Mg ih' h
          have hv:k=1→r=zS∧kids=[]∧cases=[]∧0≤n∧(n<b∨n-b<d):=fun e=>by
            subst e
            obtain ⟨a1,a2,a3,a4⟩:=Rl hh
            exact ⟨a1,eq_nil_of_length_eq_zero a2,eq_nil_of_length_eq_zero a3,a4⟩
          refine ⟨⟨fun e=>⟨(hv e).1,(hv e).2.1,(hv e).2.2.1⟩,h1.1,h2.1⟩,fun hb hd hs=>?_⟩
          rw [sizeT] at hs
          exact ⟨fun e=>by have:=(hv e).2.2.2;omega,h1.2 hb hd (by omega),h2.2 hb hd (by omega)⟩
        · rename_i h0;exact absurd h h0
      · rename_i h0;exact absurd h h0
    · rename_i h0;exact absurd h h0
theorem Hm {t:Tm} (h:Xv 60 8 t=0):sizeT t≤300∧vOK t∧Im t∧(cnT stL 1 t 0).1=false:=by
  unfold Xv at h
  split at h
  · omega
  · rename_i h0
    have h0:=Bool.not_eq_true _▸h0
    have h1:=(J4 t 1 0).1 h0
    rw [K5] at h
    have h2:=GS 60 8 t 0 h
    exact ⟨by omega,h2.2 (by omega) (by omega) (by omega),h2.1,h0⟩
theorem QO (t:Tm):Wq [t]=ZG 60 8 t:=by
  rw [← SS]
  simp only [Wq]
  split
  · rename_i h;rw [h]
  · rfl
theorem Own.at' {T:TypeId} {sz:Nat} {v:Value} {es:List (List Value)} {k:Zf} (o:Own T sz v es k) {j:Nat} {e:List Value} (he:es[j]?=some e):
    ∃ b cap row,v=.slice (some ⟨b,0,none⟩) es.length cap∧(b,Obj.cells ⟨row⟩ T (0,0))∈k∧sub row (0+j*sz) sz=some e:=by
  obtain ⟨hj,rfl⟩:=List.getElem?_eq_some_iff.1 he
  exact o.at hj
theorem OTs.take {l:List Tm} {es:List (List Value)} {c:Zf} {j:Nat} (h:OTs (l.drop j) (es.drop j) c) (hj:j<l.length):
    ∃ e k c',es[j]?=some e∧OT l[j] e k∧c=k++c'∧∀ x,OTs (l.drop (j+1)) ((es.set j x).drop (j+1)) c':=by
  rw [drop_eq_getElem_cons hj,OTs] at h
  obtain ⟨e,es',k,c',h1,h2,h3,h4⟩:=h
  have hj':es[j]?=some e:=by
    have:=congrArg (fun l=>l[0]?) h1
    simpa [getElem?_drop] using this
  refine ⟨e,k,c',hj',h2,h4,fun x=>?_⟩
  rw [List.drop_set_of_lt (by omega)]
  have:es.drop (j+1)=es':=by rw [← drop_drop,h1];rfl
  rw [this];exact h3
theorem OCs.take {l:List (Pt×Tm)} {es:List (List Value)} {c:Zf} {j:Nat} (h:OCs (l.drop j) (es.drop j) c) (hj:j<l.length):
    ∃ kk n r ks b esp q kp1 kp2 kb c',es[j]?=some (pkP kk n r ks++b)∧Own 115 35 ks esp kp1∧esp.length=q∧q≤9223372036854775807∧OT l[j].2 b kb∧c=(kp1++kp2)++(kb++c')∧∀ x,OCs (l.drop (j+1)) ((es.set j x).drop (j+1)) c':=by
  rw [drop_eq_getElem_cons hj] at h
  cases hlj:l[j] with
  | mk p t=>
    rw [hlj,OCs] at h
    obtain ⟨a,b,es',ka,kb,c',h1,h2,h3,h4,h5⟩:=h
    obtain ⟨kk,n,r,kids⟩:=p
    obtain ⟨ks,esp,kp1,kp2,rfl,_,_,h6,h7,rfl,h8⟩:=OP_mk.1 h2
    have hj':es[j]?=some (pkP kk n r ks++b):=by
      have:=congrArg (fun l=>l[0]?) h1
      simpa [getElem?_drop] using this
    refine ⟨kk,n,r,ks,b,esp,esp.length,kp1,kp2,kb,c',hj',h6,rfl,by rw [S0 h7];exact h8,h3,h5,fun x=>?_⟩
    rw [List.drop_set_of_lt (by omega)]
    have:es.drop (j+1)=es':=by rw [← drop_drop,h1];rfl
    rw [this];exact h4
theorem CC {α:Type} {n:Nat} {R:Nat→α→Prop} (h:∀ i,i<n→∃ x,R i x):∃ l:List α,l.length=n∧∀ i (hi:i<l.length),R i l[i]:=by
  induction n with
  | zero=>exact ⟨[],rfl,fun i hi=>absurd hi (by simp)⟩
  | succ n ih=>
    obtain ⟨l,h1,h2⟩:=ih fun i hi=>h i (by omega)
    obtain ⟨x,hx⟩:=h n (by omega)
    refine ⟨l++[x],by simp [h1],fun i hi=>?_⟩
    by_cases hin:i<l.length
    · rw [getElem_append_left hin];exact h2 i hin
    · have:i=n:=by simp at hi;omega
      subst this
      rw [getElem_append_right (by omega)]
      simpa [h1] using hx
section
variable {Ht:Type} {enc:TypeId×Value→Ht} {P:Program} {w:World} {base:Nat} {spare:Nat→Bool} {held:Bool} {H:Heap}
theorem OH {a:Addr} {n:Nat} {cs:List Value} (h:w.cells? base a n=some cs) (hn:0<n):
    (a.spot=none)∧∃ row T fr,w.heap[a.block]?=some (.cells ⟨row⟩ T fr)∧sub row a.off n=some cs:=by
  obtain ⟨_,hl,hc⟩:=World.cells?_some h
  have get:∀ i,i<n→∃ v,cs[i]?=some v∧w.cell? (a.add i)=some v:=fun i hi=>by
    have h1:i<cs.length:=by omega
    exact ⟨cs[i],getElem?_eq_getElem h1,by rw [hc i hi,getElem?_eq_getElem h1]⟩
  obtain ⟨v0,_,h0⟩:=get 0 hn
  rw [Addr.add,if_pos rfl] at h0
  unfold World.cell? at h0
  cases hb:w.heap[a.block]? with
  | none=>rw [hb] at h0;cases h0
  | some o=>
    rw [hb] at h0
    cases o with
    | cells c T fr=>
      simp only at h0
      have hsp:a.spot=none:=by
        cases hs:a.spot with
        | none=>rfl
        | some s=>rw [hs] at h0;simp at h0
      refine ⟨hsp,c.toList,T,fr,rfl,?_⟩
      have hall:∀ i,i<n→c.toList[a.off+i]?=cs[i]?:=fun i hi=>by
        rw [← hc i hi]
        unfold World.cell?
        by_cases hi0:i=0
        · subst hi0;simp [Addr.add,hb,hsp]
        · simp [Addr.add,hi0,hb]
      have hlen:a.off+n≤c.toList.length:=by
        obtain ⟨v,hv,_⟩:=get (n-1) (by omega)
        have:=hall (n-1) (by omega)
        rw [hv] at this
        have:=(List.getElem?_eq_some_iff.1 this).1
        omega
      rw [Wp hlen]
      congr 1
      apply List.ext_getElem?
      intro i
      rw [getElem?_take]
      split
      · rename_i hi;rw [getElem?_drop];exact hall i hi
      · rename_i hi;rw [getElem?_eq_none (by omega)]
    | _=>cases h0
theorem slice_rd {α:Type} {E:Heap→List Value→α→Prop} {T e:TypeId} {sz fuel:Nat} {cs:List Value} {x:DataW Ht×List MemPlace} (hH:∀ b o,w.heap[b]?=some o→H b=some o)
    (hT:P.underlying T=some (.slice e)) (hsz:P.cellsOf e=sz) (hpos:0<sz) (hE:∀ m,m<fuel→∀ cs x,DataW.trod enc P w base spare held m e cs=some x→∃ p,E H cs p)
    (h:DataW.trod enc P w base spare held fuel T cs=some x):∃ ks l,cs=[ks]∧rdS E sz H ks l:=by
  rcases DataW.trod_slice hT h with ⟨rfl,_⟩ | ⟨a,len,cap,elems,rest,n,rfl,rfl,_,_,hlc,hcm,hel,hget,_⟩
  · exact ⟨_,[],rfl,rdS.nil⟩
  · rw [hsz] at hget
    have key:∀ i,i<len→∃ p cs',w.cells? base (a.add (i*sz)) sz=some cs'∧E H cs' p:=fun i hi=>by
      have h1:=hget i hi
      rw [getElem?_eq_getElem (by omega)] at h1
      obtain ⟨cs',h2,h3⟩:=Option.bind_eq_some_iff.1 h1
      obtain ⟨p,hp⟩:=hE n (by omega) cs' _ h3
      exact ⟨p,cs',h2,hp⟩
    obtain ⟨l,hl,hr⟩:=CC key
    refine ⟨_,l,rfl,some a,cap,by rw [hl],by rw [hl];have:maxLen=9223372036854775807:=rfl;omega,?_⟩
    by_cases h0:l.length=0
    · exact .inl h0
    · right
      obtain ⟨cs0,hc0,_⟩:=hr 0 (by omega)
      rw [Nat.zero_mul,Addr.add,if_pos rfl] at hc0
      obtain ⟨hsp,row,T',fr,hb,_⟩:=OH hc0 hpos
      obtain ⟨b,o,sp⟩:=a
      simp only at hsp hb
      subst hsp
      refine ⟨b,o,row,T',fr,rfl,hH _ _ hb,rows.mk fun i hi=>?_⟩
      obtain ⟨cs',hc',he'⟩:=hr i hi
      obtain ⟨_,row',T2,fr',hb',hs'⟩:=OH hc' hpos
      have e1:(Addr.add ⟨b,o,none⟩ (i*sz)).block=b:=by unfold Addr.add;split <;> rfl
      have e2:(Addr.add ⟨b,o,none⟩ (i*sz)).off=o+i*sz:=by unfold Addr.add;split <;> simp_all
      rw [e1,hb] at hb'
      cases hb'
      rw [e2] at hs'
      exact ⟨cs',hs',he'⟩
end
section
variable {Ht:Type} {enc:TypeId×Value→Ht} {w:World} {base:Nat} {spare:Nat→Bool} {held:Bool} {H:Heap}
end
theorem ty3:Ty prog 3 false 1:=⟨isAgg3,sizeOf3⟩
theorem ty4:Ty prog 4 false 1:=⟨isAgg4,sizeOf4⟩
theorem ty5:Ty prog 5 false 1:=⟨isAgg5,sizeOf5⟩
theorem ty9:Ty prog 9 false 1:=⟨isAgg9,sizeOf9⟩
theorem XE:Ty prog 22 false 1:=⟨isAgg22,sizeOf22⟩
theorem PS:Ty prog 26 false 1:=⟨isAgg26,sizeOf26⟩
theorem Ul:Ty prog 28 false 1:=⟨isAgg28,sizeOf28⟩
theorem Za5:Ty prog 29 false 1:=⟨isAgg29,sizeOf29⟩
theorem Yv:Ty prog 38 true 32:=⟨isAgg38,sizeOf38⟩
theorem W5:Ty prog 42 false 1:=⟨isAgg42,sizeOf42⟩
theorem YL:Ty prog 45 false 1:=⟨isAgg45,sizeOf45⟩
theorem Zcp:Ty prog 47 false 1:=⟨isAgg47,sizeOf47⟩
theorem Zco:Ty prog 48 false 1:=⟨isAgg48,sizeOf48⟩
theorem WN:Ty prog 49 false 1:=⟨isAgg49,sizeOf49⟩
theorem Zu:Ty prog 51 true 36:=⟨isAgg51,sizeOf51⟩
theorem LK:Ty prog 52 false 1:=⟨isAgg52,sizeOf52⟩
theorem OQ:Ty prog 56 false 1:=⟨isAgg56,sizeOf56⟩
theorem Ay:Ty prog 61 false 1:=⟨isAgg61,sizeOf61⟩
theorem DI:Ty prog 63 false 1:=⟨isAgg63,sizeOf63⟩
theorem R3:Ty prog 70 true 68:=⟨isAgg70,sizeOf70⟩
theorem DH:Ty prog 71 false 1:=⟨isAgg71,sizeOf71⟩
theorem S8:Ty prog 80 false 1:=⟨isAgg80,sizeOf80⟩
theorem XY:Ty prog 82 true 4:=⟨isAgg82,sizeOf82⟩
theorem Qz:Ty prog 86 false 1:=⟨isAgg86,sizeOf86⟩
theorem Zcn:Ty prog 89 true 2:=⟨isAgg89,sizeOf89⟩
theorem DG:Ty prog 93 true 8:=⟨isAgg93,sizeOf93⟩
theorem Zcm:Ty prog 95 false 1:=⟨isAgg95,sizeOf95⟩
theorem Zbb:Ty prog 105 false 1:=⟨isAgg105,sizeOf105⟩
theorem TV:Ty prog 107 false 1:=⟨isAgg107,sizeOf107⟩
theorem Zba:Ty prog 111 false 1:=⟨isAgg111,sizeOf111⟩
theorem XF:Ty prog 113 false 1:=⟨isAgg113,sizeOf113⟩
theorem ZO:Ty prog 115 true 35:=⟨isAgg115,sizeOf115⟩
theorem YD:Ty prog 117 true 71:=⟨isAgg117,sizeOf117⟩
theorem Za9:Ty prog 123 false 1:=⟨isAgg123,sizeOf123⟩
theorem K1:Ty prog 131 false 1:=⟨isAgg131,sizeOf131⟩
theorem Z3:Ty prog 137 false 1:=⟨isAgg137,sizeOf137⟩
theorem Uu:Ty prog 138 true 8:=⟨isAgg138,sizeOf138⟩
theorem Gf:Ty prog 148 false 1:=⟨isAgg148,sizeOf148⟩
theorem XZ:Ty prog 156 false 1:=⟨isAgg156,sizeOf156⟩
theorem W9:Ty prog 166 true 2:=⟨isAgg166,sizeOf166⟩
theorem Za8:Ty prog 169 false 1:=⟨isAgg169,sizeOf169⟩
theorem Ge:Ty prog 174 true 10:=⟨isAgg174,sizeOf174⟩
theorem Za7:Ty prog 177 true 10:=⟨isAgg177,sizeOf177⟩
theorem QA:Ty prog 189 false 1:=⟨isAgg189,sizeOf189⟩
theorem B2:Ty prog 193 false 1:=⟨isAgg193,sizeOf193⟩
theorem KZ:Ty prog 195 true 2:=⟨isAgg195,sizeOf195⟩
theorem Ut:Ty prog 213 false 1:=⟨isAgg213,sizeOf213⟩
theorem Gd:Ty prog 219 true 64:=⟨isAgg219,sizeOf219⟩
theorem Za6:Ty prog 230 true 37:=⟨isAgg230,sizeOf230⟩
theorem Yq:Ty prog 235 true 3:=⟨isAgg235,sizeOf235⟩
theorem KY:Ty prog 247 false 1:=⟨isAgg247,sizeOf247⟩
theorem Gc:Ty prog 249 true 2:=⟨isAgg249,sizeOf249⟩
theorem KX:Ty prog 265 false 1:=⟨isAgg265,sizeOf265⟩
theorem KW:Ty prog 267 true 4:=⟨isAgg267,sizeOf267⟩
abbrev FA (T k n:Nat):Prop:=∀ {e:Operand→Value} {d:Option Nat} {ot:TypeId} {pos:String} {af:Array Edge} {g:Option (Nat×Bool)} {x:Operand} {b o q:Nat},e x=.pointer (some ⟨b,o,none⟩)→o+n=q→Pu prog e ⟨d,.fieldAddr T x k,ot,pos,af,g⟩ (.pointer (some ⟨b,q,none⟩))
theorem Yh:FA 51 0 0:=fun hx ho=>Pu.fieldAddr runUnderlying51 rfl ty3 hx ho
theorem Y1:FA 51 1 1:=fun hx ho=>Pu.fieldAddr runUnderlying51 rfl ty3 hx ho
theorem TO:FA 51 2 2:=fun hx ho=>Pu.fieldAddr runUnderlying51 rfl Yv hx ho
theorem YS:FA 51 3 34:=fun hx ho=>Pu.fieldAddr runUnderlying51 rfl XE hx ho
theorem Y0:FA 51 4 35:=fun hx ho=>Pu.fieldAddr runUnderlying51 rfl WN hx ho
theorem Kq:FA 70 0 0:=fun hx ho=>Pu.fieldAddr runUnderlying70 rfl Yv hx ho
theorem Nu:FA 70 1 32:=fun hx ho=>Pu.fieldAddr runUnderlying70 rfl Zu hx ho
theorem Kp:FA 82 0 0:=fun hx ho=>Pu.fieldAddr runUnderlying82 rfl ty3 hx ho
theorem Ko:FA 82 1 1:=fun hx ho=>Pu.fieldAddr runUnderlying82 rfl ty3 hx ho
theorem Nt:FA 82 2 2:=fun hx ho=>Pu.fieldAddr runUnderlying82 rfl ty9 hx ho
theorem Ws:FA 82 3 3:=fun hx ho=>Pu.fieldAddr runUnderlying82 rfl S8 hx ho
theorem TN:FA 89 0 0:=fun hx ho=>Pu.fieldAddr runUnderlying89 rfl XE hx ho
theorem Kn:FA 89 1 1:=fun hx ho=>Pu.fieldAddr runUnderlying89 rfl DI hx ho
theorem Vo:FA 91 0 0:=fun hx ho=>Pu.fieldAddr runUnderlying91 rfl Zcn hx ho
theorem UM:FA 91 1 2:=fun hx ho=>Pu.fieldAddr runUnderlying91 rfl YL hx ho
theorem Em:FA 91 2 3:=fun hx ho=>Pu.fieldAddr runUnderlying91 rfl Ay hx ho
theorem Nz:FA 109 0 0:=fun hx ho=>Pu.fieldAddr runUnderlying109 rfl Ul hx ho
theorem Ny:FA 109 1 1:=fun hx ho=>Pu.fieldAddr runUnderlying109 rfl ty3 hx ho
theorem Vh:FA 109 2 2:=fun hx ho=>Pu.fieldAddr runUnderlying109 rfl TV hx ho
theorem Xa:FA 115 0 0:=fun hx ho=>Pu.fieldAddr runUnderlying115 rfl ty3 hx ho
theorem WE:FA 115 1 1:=fun hx ho=>Pu.fieldAddr runUnderlying115 rfl ty3 hx ho
theorem SH:FA 115 2 2:=fun hx ho=>Pu.fieldAddr runUnderlying115 rfl Yv hx ho
theorem YG:FA 115 3 34:=fun hx ho=>Pu.fieldAddr runUnderlying115 rfl XF hx ho
theorem WD:FA 117 0 0:=fun hx ho=>Pu.fieldAddr runUnderlying117 rfl ZO hx ho
theorem WC:FA 117 1 35:=fun hx ho=>Pu.fieldAddr runUnderlying117 rfl Zu hx ho
theorem Y9:FA 158 0 0:=fun hx ho=>Pu.fieldAddr runUnderlying158 rfl W5 hx ho
theorem Nx:FA 158 1 1:=fun hx ho=>Pu.fieldAddr runUnderlying158 rfl ty3 hx ho
theorem Nw:FA 166 0 0:=fun hx ho=>Pu.fieldAddr runUnderlying166 rfl ty3 hx ho
theorem C7:FA 166 1 1:=fun hx ho=>Pu.fieldAddr runUnderlying166 rfl ty3 hx ho
theorem Nv:FA 174 0 0:=fun hx ho=>Pu.fieldAddr runUnderlying174 rfl Uu hx ho
theorem WB:FA 174 1 8:=fun hx ho=>Pu.fieldAddr runUnderlying174 rfl Ul hx ho
theorem JX:FA 174 2 9:=fun hx ho=>Pu.fieldAddr runUnderlying174 rfl ty3 hx ho
theorem Xo:FA 177 0 0:=fun hx ho=>Pu.fieldAddr runUnderlying177 rfl Ge hx ho
theorem Th:FA 191 0 0:=fun hx ho=>Pu.fieldAddr runUnderlying191 rfl ty3 hx ho
theorem C6:FA 195 0 0:=fun hx ho=>Pu.fieldAddr runUnderlying195 rfl ty3 hx ho
theorem C5:FA 195 1 1:=fun hx ho=>Pu.fieldAddr runUnderlying195 rfl B2 hx ho
theorem C4:FA 230 0 0:=fun hx ho=>Pu.fieldAddr runUnderlying230 rfl Zu hx ho
theorem C3:FA 230 1 36:=fun hx ho=>Pu.fieldAddr runUnderlying230 rfl ty3 hx ho
theorem C2:FA 249 0 0:=fun hx ho=>Pu.fieldAddr runUnderlying249 rfl KY hx ho
theorem C1:FA 249 1 1:=fun hx ho=>Pu.fieldAddr runUnderlying249 rfl KY hx ho
theorem JW:FA 267 0 0:=fun hx ho=>Pu.fieldAddr runUnderlying267 rfl ty3 hx ho
theorem JV:FA 267 1 1:=fun hx ho=>Pu.fieldAddr runUnderlying267 rfl ty3 hx ho
theorem JU:FA 267 2 2:=fun hx ho=>Pu.fieldAddr runUnderlying267 rfl ty3 hx ho
theorem C0:FA 267 3 3:=fun hx ho=>Pu.fieldAddr runUnderlying267 rfl ty4 hx ho
theorem el3:El prog 3 1 8 (.int .i64 0):=⟨⟨t3,typeInfo3,rfl,rfl,rfl⟩,rfl⟩
theorem el4:El prog 4 1 1 (.bool false):=⟨⟨t4,typeInfo4,rfl,rfl,rfl⟩,rfl⟩
theorem el5:El prog 5 1 1 (.int .u8 0):=⟨⟨t5,typeInfo5,rfl,rfl,rfl⟩,rfl⟩
theorem Zas:El prog 28 1 24 (.slice none 0 0):=⟨⟨t28,typeInfo28,rfl,rfl,rfl⟩,rfl⟩
theorem Zb1:El prog 38 32 32 (.agg ⟨sC zS⟩):=⟨⟨t38,typeInfo38,rfl,rfl,rfl⟩,rfl⟩
theorem Bh:El prog 45 1 24 (.slice none 0 0):=⟨⟨t45,typeInfo45,rfl,rfl,rfl⟩,rfl⟩
theorem YM:El prog 51 36 96 (.agg ⟨pkT 0 0 zS (.slice none 0 0) (.slice none 0 0)⟩):=⟨⟨t51,typeInfo51,rfl,rfl,rfl⟩,rfl⟩
theorem Zb0:El prog 70 68 128 (.agg ⟨[.int .u8 0,.int .u8 0,.int .u8 0,.int .u8 0,.int .u8 0,.int .u8 0,.int .u8 0,.int .u8 0,.int .u8 0,.int .u8 0,.int .u8 0,.int .u8 0,.int .u8 0,.int .u8 0,.int .u8 0,.int .u8 0,.int .u8 0,.int .u8 0,.int .u8 0,.int .u8 0,.int .u8 0,.int .u8 0,.int .u8 0,.int .u8 0,.int .u8 0,.int .u8 0,.int .u8 0,.int .u8 0,.int .u8 0,.int .u8 0,.int .u8 0,.int .u8 0,.int .i64 0,.int .i64 0,.int .u8 0,.int .u8 0,.int .u8 0,.int .u8 0,.int .u8 0,.int .u8 0,.int .u8 0,.int .u8 0,.int .u8 0,.int .u8 0,.int .u8 0,.int .u8 0,.int .u8 0,.int .u8 0,.int .u8 0,.int .u8 0,.int .u8 0,.int .u8 0,.int .u8 0,.int .u8 0,.int .u8 0,.int .u8 0,.int .u8 0,.int .u8 0,.int .u8 0,.int .u8 0,.int .u8 0,.int .u8 0,.int .u8 0,.int .u8 0,.int .u8 0,.int .u8 0,.slice none 0 0,.slice none 0 0]⟩):=⟨⟨t70,typeInfo70,rfl,rfl,rfl⟩,rfl⟩
theorem NE:El prog 82 4 56 (.agg ⟨[.int .i64 0,.int .i64 0,.string ⟨#[]⟩,.slice none 0 0]⟩):=⟨⟨t82,typeInfo82,rfl,rfl,rfl⟩,rfl⟩
theorem Oz:El prog 115 35 72 (.agg ⟨pkP 0 0 zS (.slice none 0 0)⟩):=⟨⟨t115,typeInfo115,rfl,rfl,rfl⟩,rfl⟩
theorem SL:El prog 117 71 168 (.agg ⟨(pkP 0 0 zS (.slice none 0 0))++(pkT 0 0 zS (.slice none 0 0) (.slice none 0 0))⟩):=⟨⟨t117,typeInfo117,rfl,rfl,rfl⟩,rfl⟩
theorem Pm:El prog 137 1 4 (.int .u32 0):=⟨⟨t137,typeInfo137,rfl,rfl,rfl⟩,rfl⟩
theorem Zb2:El prog 166 2 16 (.agg ⟨[.int .i64 0,.int .i64 0]⟩):=⟨⟨t166,typeInfo166,rfl,rfl,rfl⟩,rfl⟩
theorem ZaP:∀ w,(Instr.build 38 ⟨[]⟩).run prog w=.ok (.agg ⟨sC zS⟩) w:=V1 zeroValue38 runUnderlying38 sizeOf5 rfl
theorem Mj (w:World):(Sem.run prog ((#[{name:= "Kind",type:=3,offset:=0,embedded:=false,tag:= "",pkgPath:= "",byteOffset:=0},{name:= "Num",type:=3,offset:=1,embedded:=false,tag:= "",pkgPath:= "",byteOffset:=8},{name:= "Ref",type:=38,offset:=2,embedded:=false,tag:= "",pkgPath:= "",byteOffset:=16},{name:= "Kids",type:=22,offset:=34,embedded:=false,tag:= "",pkgPath:= "",byteOffset:=48},{name:= "Cases",type:=49,offset:=35,embedded:=false,tag:= "",pkgPath:= "",byteOffset:=72}]:Array Field).mapM fun f=>(do pure (f.offset,← Go.sizeOf f.type):Sem (Nat×Nat))) w)=.ok #[(0,1),(1,1),(2,32),(34,1),(35,1)] w:=by simp [sizeOf22,sizeOf3,sizeOf38,sizeOf49]
theorem WL (k:Int) (n:Int):∀ w,(Instr.build 51 ⟨[(0,.int .i64 k),(1,.int .i64 n)]⟩).run prog w=.ok (.agg ⟨pkT k n zS (.slice none 0 0) (.slice none 0 0)⟩) w:=ZT zeroValue51 runUnderlying51 Mj (by kernel_rfl)
theorem Lk (k:Int) (n:Int) (r:Sm):∀ w,(Instr.build 51 ⟨[(0,.int .i64 k),(1,.int .i64 n),(2,.agg ⟨sC r⟩)]⟩).run prog w=.ok (.agg ⟨pkT k n r (.slice none 0 0) (.slice none 0 0)⟩) w:=ZT zeroValue51 runUnderlying51 Mj (by kernel_rfl)
theorem R1 (k:Int) (n:Int) (a3:Option Addr) (n3 c3:Nat):∀ w,(Instr.build 51 ⟨[(0,.int .i64 k),(1,.int .i64 n),(3,(.slice a3 n3 c3))]⟩).run prog w=.ok (.agg ⟨pkT k n zS (.slice a3 n3 c3) (.slice none 0 0)⟩) w:=ZT zeroValue51 runUnderlying51 Mj (by kernel_rfl)
theorem Rx (k:Int) (r:Sm):∀ w,(Instr.build 51 ⟨[(0,.int .i64 k),(2,.agg ⟨sC r⟩)]⟩).run prog w=.ok (.agg ⟨pkT k 0 r (.slice none 0 0) (.slice none 0 0)⟩) w:=ZT zeroValue51 runUnderlying51 Mj (by kernel_rfl)
theorem Tt (k:Int) (r:Sm) (n:Int) (a3:Option Addr) (n3 c3:Nat):∀ w,(Instr.build 51 ⟨[(0,.int .i64 k),(2,.agg ⟨sC r⟩),(1,.int .i64 n),(3,(.slice a3 n3 c3))]⟩).run prog w=.ok (.agg ⟨pkT k n r (.slice a3 n3 c3) (.slice none 0 0)⟩) w:=ZT zeroValue51 runUnderlying51 Mj (by kernel_rfl)
theorem Lj (k:Int) (r:Sm) (a3:Option Addr) (n3 c3:Nat):∀ w,(Instr.build 51 ⟨[(0,.int .i64 k),(2,.agg ⟨sC r⟩),(3,(.slice a3 n3 c3))]⟩).run prog w=.ok (.agg ⟨pkT k 0 r (.slice a3 n3 c3) (.slice none 0 0)⟩) w:=ZT zeroValue51 runUnderlying51 Mj (by kernel_rfl)
theorem VR (k:Int) (a3:Option Addr) (n3 c3:Nat):∀ w,(Instr.build 51 ⟨[(0,.int .i64 k),(3,(.slice a3 n3 c3))]⟩).run prog w=.ok (.agg ⟨pkT k 0 zS (.slice a3 n3 c3) (.slice none 0 0)⟩) w:=ZT zeroValue51 runUnderlying51 Mj (by kernel_rfl)
theorem R0 (k:Int) (a3:Option Addr) (n3 c3:Nat) (a4:Option Addr) (n4 c4:Nat):∀ w,(Instr.build 51 ⟨[(0,.int .i64 k),(3,(.slice a3 n3 c3)),(4,(.slice a4 n4 c4))]⟩).run prog w=.ok (.agg ⟨pkT k 0 zS (.slice a3 n3 c3) (.slice a4 n4 c4)⟩) w:=ZT zeroValue51 runUnderlying51 Mj (by kernel_rfl)
theorem Zct (w:World):(Sem.run prog ((#[{name:= "Sum",type:=38,offset:=0,embedded:=false,tag:= "",pkgPath:= "",byteOffset:=0},{name:= "Body",type:=51,offset:=32,embedded:=false,tag:= "",pkgPath:= "",byteOffset:=32}]:Array Field).mapM fun f=>(do pure (f.offset,← Go.sizeOf f.type):Sem (Nat×Nat))) w)=.ok #[(0,32),(32,36)] w:=by simp [sizeOf38,sizeOf51]
theorem Cj (w:World):(Sem.run prog ((#[{name:= "Kind",type:=3,offset:=0,embedded:=false,tag:= "",pkgPath:= "",byteOffset:=0},{name:= "Num",type:=3,offset:=1,embedded:=false,tag:= "",pkgPath:= "",byteOffset:=8},{name:= "Text",type:=9,offset:=2,embedded:=false,tag:= "",pkgPath:= "",byteOffset:=16},{name:= "Kids",type:=80,offset:=3,embedded:=false,tag:= "",pkgPath:= "",byteOffset:=32}]:Array Field).mapM fun f=>(do pure (f.offset,← Go.sizeOf f.type):Sem (Nat×Nat))) w)=.ok #[(0,1),(1,1),(2,1),(3,1)] w:=by simp [sizeOf3,sizeOf80,sizeOf9]
theorem ZaO:∀ w,(Instr.build 82 ⟨[]⟩).run prog w=.ok (.agg ⟨[.int .i64 0,.int .i64 0,.string ⟨#[]⟩,.slice none 0 0]⟩) w:=ZT zeroValue82 runUnderlying82 Cj rfl
theorem Zcs (w:World):(Sem.run prog ((#[{name:= "members",type:=89,offset:=0,embedded:=true,tag:= "",pkgPath:= "hoarstone/knot",byteOffset:=0},{name:= "firsts",type:=45,offset:=2,embedded:=false,tag:= "",pkgPath:= "hoarstone/knot",byteOffset:=48},{name:= "self",type:=61,offset:=3,embedded:=false,tag:= "",pkgPath:= "hoarstone/knot",byteOffset:=72}]:Array Field).mapM fun f=>(do pure (f.offset,← Go.sizeOf f.type):Sem (Nat×Nat))) w)=.ok #[(0,2),(2,1),(3,1)] w:=by simp [sizeOf45,sizeOf61,sizeOf89]
theorem ZbA (w:World):(Sem.run prog ((#[{name:= "bytes",type:=28,offset:=0,embedded:=false,tag:= "",pkgPath:= "hoarstone/hoarstonekit",byteOffset:=0},{name:= "at",type:=3,offset:=1,embedded:=false,tag:= "",pkgPath:= "hoarstone/hoarstonekit",byteOffset:=24},{name:= "seed",type:=107,offset:=2,embedded:=false,tag:= "",pkgPath:= "hoarstone/hoarstonekit",byteOffset:=32}]:Array Field).mapM fun f=>(do pure (f.offset,← Go.sizeOf f.type):Sem (Nat×Nat))) w)=.ok #[(0,1),(1,1),(2,1)] w:=by simp [sizeOf107,sizeOf28,sizeOf3]
theorem GZ (w:World):(Sem.run prog ((#[{name:= "Kind",type:=3,offset:=0,embedded:=false,tag:= "",pkgPath:= "",byteOffset:=0},{name:= "Num",type:=3,offset:=1,embedded:=false,tag:= "",pkgPath:= "",byteOffset:=8},{name:= "Ref",type:=38,offset:=2,embedded:=false,tag:= "",pkgPath:= "",byteOffset:=16},{name:= "Kids",type:=113,offset:=34,embedded:=false,tag:= "",pkgPath:= "",byteOffset:=48}]:Array Field).mapM fun f=>(do pure (f.offset,← Go.sizeOf f.type):Sem (Nat×Nat))) w)=.ok #[(0,1),(1,1),(2,32),(34,1)] w:=by simp [sizeOf113,sizeOf3,sizeOf38]
theorem Lm (k:Int):∀ w,(Instr.build 115 ⟨[(0,.int .i64 k)]⟩).run prog w=.ok (.agg ⟨pkP k 0 zS (.slice none 0 0)⟩) w:=ZT zeroValue115 runUnderlying115 GZ (by kernel_rfl)
theorem PE (k:Int) (n:Int):∀ w,(Instr.build 115 ⟨[(0,.int .i64 k),(1,.int .i64 n)]⟩).run prog w=.ok (.agg ⟨pkP k n zS (.slice none 0 0)⟩) w:=ZT zeroValue115 runUnderlying115 GZ (by kernel_rfl)
theorem PD (k:Int) (r:Sm) (n:Int) (a3:Option Addr) (n3 c3:Nat):∀ w,(Instr.build 115 ⟨[(0,.int .i64 k),(2,.agg ⟨sC r⟩),(1,.int .i64 n),(3,(.slice a3 n3 c3))]⟩).run prog w=.ok (.agg ⟨pkP k n r (.slice a3 n3 c3)⟩) w:=ZT zeroValue115 runUnderlying115 GZ (by kernel_rfl)
theorem Zbz (w:World):(Sem.run prog ((#[{name:= "Pat",type:=115,offset:=0,embedded:=false,tag:= "",pkgPath:= "",byteOffset:=0},{name:= "Body",type:=51,offset:=35,embedded:=false,tag:= "",pkgPath:= "",byteOffset:=72}]:Array Field).mapM fun f=>(do pure (f.offset,← Go.sizeOf f.type):Sem (Nat×Nat))) w)=.ok #[(0,35),(35,36)] w:=by simp [sizeOf115,sizeOf51]
theorem W0 {p t:List Value} (hp:p.length=35) (ht:t.length=36):∀ w,(Instr.build 117 ⟨[(0,.agg ⟨p⟩),(1,.agg ⟨t⟩)]⟩).run prog w=.ok (.agg ⟨p++t⟩) w:=ZT zeroValue117 runUnderlying117 Zbz (WK (pre:=[]) (mid:=pkP 0 0 zS (.slice none 0 0)) (post:=pkT 0 0 zS (.slice none 0 0) (.slice none 0 0)) rfl rfl hp rfl rfl (by have:=WK (place:=(#[(0,35),(35,36)][·]?)) (i:=1) (v:=.agg ⟨t⟩) (rest:=[]) (pre:=p) (mid:=pkT 0 0 zS (.slice none 0 0) (.slice none 0 0)) (post:=[]) rfl rfl ht hp rfl rfl;simpa [Instr.fill] using this))
theorem Zby (w:World):(Sem.run prog ((#[{name:= "Store",type:=42,offset:=0,embedded:=true,tag:= "",pkgPath:= "",byteOffset:=0},{name:= "left",type:=3,offset:=1,embedded:=false,tag:= "",pkgPath:= "hoarstone/hoarstonekit",byteOffset:=8}]:Array Field).mapM fun f=>(do pure (f.offset,← Go.sizeOf f.type):Sem (Nat×Nat))) w)=.ok #[(0,1),(1,1)] w:=by simp [sizeOf3,sizeOf42]
theorem Zbx (w:World):(Sem.run prog ((#[{name:= "own",type:=3,offset:=0,embedded:=false,tag:= "",pkgPath:= "hoarstone/knot",byteOffset:=0},{name:= "called",type:=3,offset:=1,embedded:=false,tag:= "",pkgPath:= "hoarstone/knot",byteOffset:=8}]:Array Field).mapM fun f=>(do pure (f.offset,← Go.sizeOf f.type):Sem (Nat×Nat))) w)=.ok #[(0,1),(1,1)] w:=by simp [sizeOf3]
theorem Zbw (w:World):(Sem.run prog ((#[{name:= "Words",type:=138,offset:=0,embedded:=false,tag:= "",pkgPath:= "",byteOffset:=0},{name:= "Rest",type:=28,offset:=8,embedded:=false,tag:= "",pkgPath:= "",byteOffset:=32},{name:= "Long",type:=3,offset:=9,embedded:=false,tag:= "",pkgPath:= "",byteOffset:=56}]:Array Field).mapM fun f=>(do pure (f.offset,← Go.sizeOf f.type):Sem (Nat×Nat))) w)=.ok #[(0,8),(8,1),(9,1)] w:=by simp [sizeOf138,sizeOf28,sizeOf3]
theorem Zbv (w:World):(Sem.run prog ((#[{name:= "State",type:=174,offset:=0,embedded:=true,tag:= "",pkgPath:= "",byteOffset:=0}]:Array Field).mapM fun f=>(do pure (f.offset,← Go.sizeOf f.type):Sem (Nat×Nat))) w)=.ok #[(0,10)] w:=by simp [sizeOf174]
theorem Zbu (w:World):(Sem.run prog ((#[{name:= "count",type:=3,offset:=0,embedded:=false,tag:= "",pkgPath:= "hoarstone/term",byteOffset:=0}]:Array Field).mapM fun f=>(do pure (f.offset,← Go.sizeOf f.type):Sem (Nat×Nat))) w)=.ok #[(0,1)] w:=by simp [sizeOf3]
theorem BI:∀ w,(Instr.build 191 ⟨[]⟩).run prog w=.ok (.agg ⟨[.int .i64 0]⟩) w:=ZT zeroValue191 runUnderlying191 Zbu rfl
theorem Zbt (w:World):(Sem.run prog ((#[{name:= "members",type:=3,offset:=0,embedded:=false,tag:= "",pkgPath:= "hoarstone/term",byteOffset:=0},{name:= "known",type:=193,offset:=1,embedded:=false,tag:= "",pkgPath:= "hoarstone/term",byteOffset:=8}]:Array Field).mapM fun f=>(do pure (f.offset,← Go.sizeOf f.type):Sem (Nat×Nat))) w)=.ok #[(0,1),(1,1)] w:=by simp [sizeOf193,sizeOf3]
theorem KN (a0:Int) (a1:Fn) (x1 y1:Array Value):∀ w,(Instr.build 195 ⟨[(0,.int .i64 a0),(1,.func a1 x1 y1)]⟩).run prog w=.ok (.agg ⟨[.int .i64 a0,.func a1 x1 y1]⟩) w:=ZT zeroValue195 runUnderlying195 Zbt (by kernel_rfl)
theorem Zbs (w:World):(Sem.run prog ((#[{name:= "Term",type:=51,offset:=0,embedded:=true,tag:= "",pkgPath:= "",byteOffset:=0},{name:= "more",type:=3,offset:=36,embedded:=false,tag:= "",pkgPath:= "hoarstone/term",byteOffset:=96}]:Array Field).mapM fun f=>(do pure (f.offset,← Go.sizeOf f.type):Sem (Nat×Nat))) w)=.ok #[(0,36),(36,1)] w:=by simp [sizeOf3,sizeOf51]
theorem PC {t:List Value} {m:Int} (ht:t.length=36):∀ w,(Instr.build 230 ⟨[(0,.agg ⟨t⟩),(1,.int .i64 m)]⟩).run prog w=.ok (.agg ⟨t++[.int .i64 m]⟩) w:=ZT zeroValue230 runUnderlying230 Zbs (WK (pre:=[]) (mid:=pkT 0 0 zS (.slice none 0 0) (.slice none 0 0)) (post:=[.int .i64 0]) rfl rfl ht rfl rfl (by have:=WK (place:=(#[(0,36),(36,1)][·]?)) (i:=1) (v:=.int .i64 m) (rest:=[]) (pre:=t) (mid:=[.int .i64 0]) (post:=[]) rfl rfl rfl ht rfl rfl;simpa [Instr.fill] using this))
theorem BH:∀ w,(Instr.build 235 ⟨[]⟩).run prog w=.ok (.agg ⟨[.bool false,.bool false,.bool false]⟩) w:=V1 zeroValue235 runUnderlying235 sizeOf4 rfl
theorem Ue (a0 a1 a2:Bool):∀ w,(Instr.build 235 ⟨[(0,.bool a0),(1,.bool a1),(2,.bool a2)]⟩).run prog w=.ok (.agg ⟨[.bool a0,.bool a1,.bool a2]⟩) w:=V1 zeroValue235 runUnderlying235 sizeOf4 rfl
theorem Zbr (w:World):(Sem.run prog ((#[{name:= "kind",type:=3,offset:=0,embedded:=false,tag:= "",pkgPath:= "hoarstone/term",byteOffset:=0},{name:= "num",type:=3,offset:=1,embedded:=false,tag:= "",pkgPath:= "hoarstone/term",byteOffset:=8},{name:= "ref",type:=38,offset:=2,embedded:=false,tag:= "",pkgPath:= "hoarstone/term",byteOffset:=16}]:Array Field).mapM fun f=>(do pure (f.offset,← Go.sizeOf f.type):Sem (Nat×Nat))) w)=.ok #[(0,1),(1,1),(2,32)] w:=by simp [sizeOf3,sizeOf38]
theorem Zbq (w:World):(Sem.run prog ((#[{name:= "first",type:=247,offset:=0,embedded:=false,tag:= "",pkgPath:= "hoarstone/sum",byteOffset:=0},{name:= "second",type:=247,offset:=1,embedded:=false,tag:= "",pkgPath:= "hoarstone/sum",byteOffset:=8}]:Array Field).mapM fun f=>(do pure (f.offset,← Go.sizeOf f.type):Sem (Nat×Nat))) w)=.ok #[(0,1),(1,1)] w:=by simp [sizeOf247]
theorem KM (a0:Fn) (x0 y0:Array Value) (a1:Fn) (x1 y1:Array Value):∀ w,(Instr.build 249 ⟨[(0,.func a0 x0 y0),(1,.func a1 x1 y1)]⟩).run prog w=.ok (.agg ⟨[.func a0 x0 y0,.func a1 x1 y1]⟩) w:=ZT zeroValue249 runUnderlying249 Zbq (by kernel_rfl)
theorem Zbp (w:World):(Sem.run prog ((#[{name:= "a",type:=3,offset:=0,embedded:=false,tag:= "",pkgPath:= "hoarstone/sum",byteOffset:=0},{name:= "b",type:=3,offset:=1,embedded:=false,tag:= "",pkgPath:= "hoarstone/sum",byteOffset:=8},{name:= "c",type:=3,offset:=2,embedded:=false,tag:= "",pkgPath:= "hoarstone/sum",byteOffset:=16},{name:= "lost",type:=4,offset:=3,embedded:=false,tag:= "",pkgPath:= "hoarstone/sum",byteOffset:=24}]:Array Field).mapM fun f=>(do pure (f.offset,← Go.sizeOf f.type):Sem (Nat×Nat))) w)=.ok #[(0,1),(1,1),(2,1),(3,1)] w:=by simp [sizeOf3,sizeOf4]
theorem X3 (a0:Int) (a1:Int) (a2:Int) (a3:Bool):∀ w,(Instr.build 267 ⟨[(0,.int .i64 a0),(1,.int .i64 a1),(2,.int .i64 a2),(3,.bool a3)]⟩).run prog w=.ok (.agg ⟨[.int .i64 a0,.int .i64 a1,.int .i64 a2,.bool a3]⟩) w:=ZT zeroValue267 runUnderlying267 Zbp (by kernel_rfl)
theorem eqS {e:Operand→Value} {d:Option Nat} {ot:TypeId} {pos:String} {af:Array Edge} {g:Option (Nat×Bool)} {T':TypeId} {x y:Operand} {r s:Sm} (hx:e x=.agg ⟨sC r⟩) (hy:e y=.agg ⟨sC s⟩):Pu prog e ⟨d,.binOp .eql 38 x y T',ot,pos,af,g⟩ (.bool (decide (r=s))):=HK eqGuardType38 underlying38 underlying5 sizeOf5 hx hy
theorem neqS {e:Operand→Value} {d:Option Nat} {ot:TypeId} {pos:String} {af:Array Edge} {g:Option (Nat×Bool)} {T':TypeId} {x y:Operand} {r s:Sm} (hx:e x=.agg ⟨sC r⟩) (hy:e y=.agg ⟨sC s⟩):Pu prog e ⟨d,.binOp .neq 38 x y T',ot,pos,af,g⟩ (.bool (!decide (r=s))):=HJ eqGuardType38 underlying38 underlying5 sizeOf5 hx hy
theorem ZbG {e:Operand→Value} {d:Option Nat} {ot:TypeId} {pos:String} {af:Array Edge} {g:Option (Nat×Bool)} {T':TypeId} {x y:Operand} {a b c a' b' c':Bool} (hx:e x=.agg ⟨[.bool a,.bool b,.bool c]⟩) (hy:e y=.agg ⟨[.bool a',.bool b',.bool c']⟩):Pu prog e ⟨d,.binOp .neq 235 x y T',ot,pos,af,g⟩ (.bool (!(a==a'&&(b==b'&&c==c')))):=Dg eqGuardType235 underlying235 underlying4 sizeOf4 hx hy
theorem mixed:prog.follows .mixedOrders=true:=checked.mixed
theorem Ru3:type_of% @runUnderlying3:=runUnderlying3
theorem Ru5:type_of% @runUnderlying5:=runUnderlying5
theorem ZI:type_of% @runUnderlying22:=runUnderlying22
theorem YV:type_of% @runUnderlying28:=runUnderlying28
theorem Vp:type_of% @runUnderlying29:=runUnderlying29
theorem ZS:type_of% @runUnderlying45:=runUnderlying45
theorem Xp:type_of% @runUnderlying49:=runUnderlying49
theorem RF:type_of% @runUnderlying63:=runUnderlying63
theorem RE:type_of% @runUnderlying71:=runUnderlying71
theorem Df:type_of% @runUnderlying78:=runUnderlying78
theorem Uk:type_of% @runUnderlying80:=runUnderlying80
theorem LA:type_of% @runUnderlying93:=runUnderlying93
theorem LB:type_of% @runUnderlying107:=runUnderlying107
theorem YX:type_of% @runUnderlying113:=runUnderlying113
theorem Xz:type_of% @runUnderlying138:=runUnderlying138
theorem ON:type_of% @runUnderlying163:=runUnderlying163
theorem SX:type_of% @runUnderlying219:=runUnderlying219
theorem XI:type_of% @runUnderlying235:=runUnderlying235
theorem PO:type_of% @runUnderlying245:=runUnderlying245
theorem Tv:type_of% @runUnderlying253:=runUnderlying253
def Zcq (l:List ByteArray):List (List Value):=l.map fun n=>[.string n]
def RS (_:Heap) (cs:List Value) (n:ByteArray):Prop:=cs=[.string n]
theorem RSs.mono {h h':Heap} (hh:Hle h h') {v:Value} {l:List ByteArray} (q:Hs.rdS RS 1 h v l):Hs.rdS RS 1 h' v l:=rdS.mono q hh fun _ _ _ e=>e
theorem rdS.none {α:Type} {E:Heap→List Value→α→Prop} {sz:Nat} {h:Heap} {a:Option Addr} {cap:Nat}:Hs.rdS E sz h (.slice a 0 cap) []:=⟨a,cap,rfl,by simp,.inl rfl⟩
section
variable {c:Cx} {H:Heap} {ρ:Nat→Value} {M:List Zf} {K:Value→List Zf→Prop} {d:Option Nat} {ot:TypeId} {pos:String} {af:Array Edge} {g:Option (Nat×Bool)} {x y z:Operand}
end
section
variable {P:Program} {e:Operand→Value} {T T':TypeId} {x:Operand} {k:IntKind} {a:Int} {d:Option Nat} {ot:TypeId} {pos:String} {af:Array Edge} {g:Option (Nat×Bool)}
end
section
variable {c:Cx} {H:Heap} {ρ:Nat→Value} {M:List Zf} {K:Value→List Zf→Prop} {d:Option Nat} {ot:TypeId} {pos:String} {af:Array Edge} {g:Option (Nat×Bool)} {x:Operand}
end
def NC:List (List ByteArray)→List Value→Zf→Prop
  | [],cs,_=>cs.length=37∧okc cs
  | x::xs,cs,c=>∃ k n r ns ks cv e k1 k2 k3,cs=pkT k n r ns ks++[cv]∧cv.oneCell'=true∧Own 9 1 ns (Zcq x) k1∧Own 297 37 ks [e] k2∧NC xs e k3∧c=k1++(k2++k3)
theorem NC.len:∀ {xs:List (List ByteArray)} {cs:List Value} {c:Zf},NC xs cs c→cs.length=37
  | [],_,_,h=>h.1
  | _::_,_,_,⟨_,_,_,_,_,_,_,_,_,_,h,_⟩=>by rw [h];rfl
theorem NC.ok:∀ {xs:List (List ByteArray)} {cs:List Value} {c:Zf},NC xs cs c→okc cs
  | [],_,_,h=>h.2
  | _::_,_,_,⟨_,_,_,_,_,_,_,_,_,_,h,h1,h2,h3,_⟩=>by rw [h];exact YB (ZR h2.one h3.one) (Zh h1 Zq)
theorem Zbg {a b a' vs:List Value} {off:Nat} (h:spl a off vs=some a'):spl (a++b) off vs=some (a'++b):=by
  obtain ⟨h1,h2⟩:=WP h
  rw [Vj (by rw [length_append];omega),h2,List.take_append_of_le_length (by omega),List.drop_append_of_le_length (by omega)]
  simp
theorem K9 {a b b' vs:List Value} {n i:Nat} (hn:a.length=n) (h:spl b i vs=some b'):spl (a++b) (n+i) vs=some (a++b'):=by
  obtain ⟨h1,h2⟩:=WP h
  rw [Vj (by rw [length_append];omega),h2,← hn,List.take_length_add_append,Nat.add_assoc,List.drop_length_add_append]
  simp
theorem ZbT {P:Program} {f:FuncId} {a:Array Value} {M:List Zf} {H:Heap} {x r:Int} (h:CT P f a M H (fun v N=>v=.int .i64 x∧N=[])) (hr:x=r):CT P f a M H (fun v N=>v=.int .i64 r∧N=[]):=hr▸h
noncomputable def eqL {α:Type} (l m:List α):Bool:=@decide (l=m) (Classical.propDecidable _)
theorem UN {α:Type} {l m:List α} (h:l=m):eqL l m=true:=by unfold eqL;simp [h]
theorem Oy {α:Type} {l m:List α} (h:¬ l=m):eqL l m=false:=by unfold eqL;simp [h]
theorem NL {P:Program} {f:FuncId} {a:Array Value} {M:List Zf} {H:Heap} {x r:Bool} (h:CT P f a M H (fun v N=>v=.bool x∧N=[])) (hr:x=r):CT P f a M H (fun v N=>v=.bool r∧N=[]):=hr▸h
section
variable {c:Cx} {H:Heap} {ρ:Nat→Value} {M:List Zf} {K:Value→List Zf→Prop} {d:Option Nat} {ot:TypeId} {pos:String} {af:Array Edge} {g:Option (Nat×Bool)} {x y:Operand}
end
theorem OG {t:Tm} (h:ZG 60 8 t=0):sizeT t≤300∧vOK t∧Im t:=by
  have:=Hm (by rw [SS];exact h:Xv 60 8 t=0)
  exact ⟨this.1,this.2.1,this.2.2.1⟩
theorem Q6 {d d' m m' b b' k n:Int} {r:Sm} {l lc:Nat} (h:YF d m b k n r l lc=0) (hv:k=1→n<b'∨n-b'<d') (hm:m≤m'):YF d' m' b' k n r l lc=0:=by
  unfold YF at h ⊢
  by_cases h1:k<1∨12<k
  · rw [if_pos h1] at h;cases h
  rw [if_neg h1] at h ⊢
  by_cases h2:((Yx k=false∧¬ n=0)∨(Ys k=false∧¬ r=zS))∨(¬ k=9∧0<(lc:Int))
  · rw [if_pos h2] at h;cases h
  rw [if_neg h2] at h ⊢
  by_cases h3:((l:Int)<loK k∨hiK k<(l:Int))∨8<(lc:Int)
  · rw [if_pos h3] at h;cases h
  rw [if_neg h3] at h ⊢
  by_cases h4:((k=2∧(n<0∨1073741824<n))∨(k=10∧(n<1∨5<n)))∨((k=8∨k=11)∧(n<0∨7<n))
  · rw [if_pos h4] at h;cases h
  rw [if_neg h4] at h ⊢
  by_cases h5:(k=1∧(n<0∨(b≤n∧d≤n-b)))∨(k=7∧(n<0∨m≤n))
  · rw [if_pos h5] at h;cases h
  rw [if_neg (by
    rintro (⟨e,h6⟩ | ⟨e,h6⟩)
    · have:=hv e;omega
    · omega)]
theorem nErr_iff {d m b k n:Int} {r:Sm} {kids:List Tm} {cases:List (Pt×Tm)}:ZV d m b (.mk k n r kids cases)=0↔YF d m b k n r kids.length cases.length=0∧YZ cases=0∧Z0 d m b k 0 kids=0∧Yc d m b cases=0:=by
  rw [ZV]
  constructor
  · intro h
    split at h
    · split at h
      · split at h
        · exact ⟨by assumption,by assumption,by assumption,h⟩
        · rename_i h0;exact absurd h h0
      · rename_i h0;exact absurd h h0
    · rename_i h0;exact absurd h h0
  · rintro ⟨h1,h2,h3,h4⟩
    rw [if_pos h1,if_pos h2,if_pos h3,h4]
theorem nErrK_cons {d m b k:Int} {i:Nat} {t:Tm} {l:List Tm}:Z0 d m b k i (t::l)=0↔ZV d m (b+more k i) t=0∧Z0 d m b k (i+1) l=0:=by
  rw [Z0]
  constructor
  · intro h
    split at h
    · exact ⟨by assumption,h⟩
    · rename_i h0;exact absurd h h0
  · rintro ⟨h1,h2⟩;rw [if_pos h1,h2]
theorem nErrC_cons {d m b:Int} {p:Pt} {t:Tm} {l:List (Pt×Tm)}:Yc d m b ((p,t)::l)=0↔ZV d m (b+(binds p:Int)) t=0∧Yc d m b l=0:=by
  rw [Yc]
  constructor
  · intro h
    split at h
    · exact ⟨by assumption,h⟩
    · rename_i h0;exact absurd h h0
  · rintro ⟨h1,h2⟩;rw [if_pos h1,h2]
theorem Fx {d m b n:Int} (h0:0≤n) (h1:n-b<d):ZV d m b (.mk 1 n zS [] [])=0:=by
  refine nErr_iff.2 ⟨?_,rfl,rfl,rfl⟩
  unfold YF Yx Ys loK hiK
  simp
  omega
theorem IV {d d' m m':Int} (hd:d≤d') (hm:m≤m') (t:Tm):∀ b,ZV d m b t=0→ZV d' m' b t=0:=by
  induction t using Tm.ind with
  | h k n r kids cases ih ih'=>
    intro b h
    obtain ⟨h1,h2,h3,h4⟩:=nErr_iff.1 h
    have hK:∀ (l:List Tm),(∀ t∈l,∀ b,ZV d m b t=0→ZV d' m' b t=0)→∀ i,Z0 d m b k i l=0→Z0 d' m' b k i l=0:=by
      intro l
      induction l with
      | nil=>intro _ i _;simp [Z0]
      | cons t l ihl=>
        intro hl i hh
        obtain ⟨a1,a2⟩:=nErrK_cons.1 hh
        exact nErrK_cons.2 ⟨hl t (by simp) _ a1,ihl (fun x hx=>hl x (by simp [hx])) _ a2⟩
    have hC:∀ (l:List (Pt×Tm)),(∀ t∈l,∀ b,ZV d m b t.2=0→ZV d' m' b t.2=0)→Yc d m b l=0→Yc d' m' b l=0:=by
      intro l
      induction l with
      | nil=>intro _ _;simp [Yc]
      | cons t l ihl=>
        obtain ⟨p,t⟩:=t
        intro hl hh
        obtain ⟨a1,a2⟩:=nErrC_cons.1 hh
        exact nErrC_cons.2 ⟨hl (p,t) (by simp) _ a1,ihl (fun x hx=>hl x (by simp [hx])) a2⟩
    exact nErr_iff.2 ⟨Q6 h1 (fun e=>by subst e;have:=(Rl h1).2.2.2;omega) hm,h2,hK kids ih 0 h3,hC cases ih' h4⟩
theorem checkR_iff {d m:Int} {t:Tm}:ZG d m t=0↔Sv t=false∧ZV d m 0 t=0:=by
  unfold ZG
  cases Sv t <;> simp
theorem La {d d' m m':Int} (hd:d≤d') (hm:m≤m') {t:Tm} (h:ZG d m t=0):ZG d' m' t=0:=by
  rw [checkR_iff] at h ⊢
  exact ⟨h.1,IV hd hm t 0 h.2⟩
theorem Fv {d m b c k n:Int} {r:Sm} {l lc:Nat} (hc:0≤c) (h:YF (d+c) m b k n r l lc=0):YF d m (b+c) k n r l lc=0:=by
  refine Q6 h (fun e=>?_) (Int.le_refl m)
  subst e
  have:=(Rl h).2.2.2
  omega
theorem Cu {d m c:Int} (hc:0≤c) (t:Tm):∀ b,ZV (d+c) m b t=0→ZV d m (b+c) t=0:=by
  induction t using Tm.ind with
  | h k n r kids cases ih ih'=>
    intro b h
    obtain ⟨h1,h2,h3,h4⟩:=nErr_iff.1 h
    have hK:∀ (l:List Tm),(∀ t∈l,∀ b,ZV (d+c) m b t=0→ZV d m (b+c) t=0)→∀ i,Z0 (d+c) m b k i l=0→Z0 d m (b+c) k i l=0:=by
      intro l
      induction l with
      | nil=>intro _ i _;simp [Z0]
      | cons t l ihl=>
        intro hl i hh
        obtain ⟨a1,a2⟩:=nErrK_cons.1 hh
        have:=hl t (by simp) _ a1
        exact nErrK_cons.2 ⟨by rwa [show b+c+more k i=b+more k i+c from by omega],ihl (fun x hx=>hl x (by simp [hx])) _ a2⟩
    have hC:∀ (l:List (Pt×Tm)),(∀ t∈l,∀ b,ZV (d+c) m b t.2=0→ZV d m (b+c) t.2=0)→Yc (d+c) m b l=0→Yc d m (b+c) l=0:=by
      intro l
      induction l with
      | nil=>intro _ _;simp [Yc]
      | cons t l ihl=>
        obtain ⟨p,t⟩:=t
        intro hl hh
        obtain ⟨a1,a2⟩:=nErrC_cons.1 hh
        have:=hl (p,t) (by simp) _ a1
        exact nErrC_cons.2 ⟨by rwa [show b+c+(binds p:Int)=b+(binds p:Int)+c from by omega],ihl (fun x hx=>hl x (by simp [hx])) a2⟩
    exact nErr_iff.2 ⟨Fv hc h1,h2,hK kids ih 0 h3,hC cases ih' h4⟩
theorem UI {d m c:Int} (hc:0≤c) {t:Tm} (h:ZV (d+c) m 0 t=0):ZV d m (0+c) t=0:=Cu hc t 0 h
theorem Q7 {d m b k:Int} {t:Tm} {l:List Tm}:∀ {i:Nat},Z0 d m b k i l=0→ZV d m (b+more k ((i+l.length:Nat):Int)) t=0→Z0 d m b k i (l++[t])=0:=by
  induction l with
  | nil=>intro i _ h;exact nErrK_cons.2 ⟨by simpa using h,by simp [Z0]⟩
  | cons x l ih=>
    intro i h h'
    obtain ⟨a1,a2⟩:=nErrK_cons.1 h
    simp only [cons_append]
    exact nErrK_cons.2 ⟨a1,ih a2 (by rwa [show i+1+l.length=i+(x::l).length from by simp;omega])⟩
theorem L9 {d m b:Int} {p:Pt} {t:Tm} {l:List (Pt×Tm)}:Yc d m b l=0→ZV d m (b+(binds p:Int)) t=0→Yc d m b (l++[(p,t)])=0:=by
  induction l with
  | nil=>intro _ h;exact nErrC_cons.2 ⟨h,by simp [Yc]⟩
  | cons x l ih=>
    obtain ⟨q,x⟩:=x
    intro h h'
    obtain ⟨a1,a2⟩:=nErrC_cons.1 h
    simp only [cons_append]
    exact nErrC_cons.2 ⟨a1,ih a2 h'⟩
theorem Mm {p:Pt} {t:Tm} {l:List (Pt×Tm)} (h:YZ l=0) (hp:Xn p=0):YZ (l++[(p,t)])=0:=by
  induction l with
  | nil=>simp [YZ,hp]
  | cons x l ih=>
    rw [YZ] at h
    split at h
    · rename_i h0;simp only [cons_append];rw [YZ,if_pos h0];exact ih h
    · rename_i h0;exact absurd h h0
theorem Ml {p:Pt} {l:List Pt} (h:XC l=0) (hp:Xn p=0):XC (l++[p])=0:=by
  induction l with
  | nil=>simp [XC,hp]
  | cons x l ih=>
    rw [XC] at h
    split at h
    · rename_i h0;simp only [cons_append];rw [XC,if_pos h0];exact ih h
    · rename_i h0;exact absurd h h0
theorem IU:Xn (.mk 1 0 zS [])=0:=by rfl
theorem IS {n:Int} (h0:0≤n) (h1:n≤1000):Xn (.mk 2 n zS [])=0:=by
  have:Tq 2 n zS 0=0:=by unfold Tq;simp;omega
  rw [Xn];simp only [List.length_nil];rw [if_pos this];rfl
theorem IT {n:Int} {r:Sm} {l:List Pt} (h0:0≤n) (h1:n≤7) (hl:l.length≤4) (h:XC l=0):Xn (.mk 3 n r l)=0:=by
  have:Tq 3 n r l.length=0:=by unfold Tq;simp;omega
  rw [Xn,if_pos this,h]
section
variable {d m:Int} {t u:Tm} {r:Sm} {n:Int}
theorem Oh (h0:0≤n) (h1:n<m):ZV d m 0 (.mk 7 n zS [] [])=0:=nErr_iff.2 ⟨by unfold YF Yx Ys loK hiK;simp;omega,rfl,rfl,rfl⟩
theorem FE:ZV d m 0 (.mk 6 0 r [] [])=0:=nErr_iff.2 ⟨by unfold YF Yx Ys loK hiK;simp,rfl,rfl,rfl⟩
theorem Fy (h0:0≤n) (h1:n≤1000):ZV d m 0 (.mk 2 n zS [] [])=0:=nErr_iff.2 ⟨by unfold YF Yx Ys loK hiK;simp;omega,rfl,rfl,rfl⟩
theorem FC (h:ZV (d+1) m 0 t=0):ZV d m 0 (.mk 3 0 zS [t] [])=0:=
  nErr_iff.2 ⟨by unfold YF Yx Ys loK hiK;simp,rfl,nErrK_cons.2 ⟨UI (by decide) h,by simp [Z0]⟩,rfl⟩
theorem Mu (h:ZV d m 0 t=0) (h':ZV d m 0 u=0):ZV d m 0 (.mk 4 0 zS [t,u] [])=0:=
  nErr_iff.2 ⟨by unfold YF Yx Ys loK hiK;simp,rfl,nErrK_cons.2 ⟨h,nErrK_cons.2 ⟨h',by simp [Z0]⟩⟩,rfl⟩
theorem FB (h:ZV d m 0 t=0) (h':ZV (d+1) m 0 u=0):ZV d m 0 (.mk 5 0 zS [t,u] [])=0:=
  nErr_iff.2 ⟨by unfold YF Yx Ys loK hiK;simp,rfl,nErrK_cons.2 ⟨h,nErrK_cons.2 ⟨UI (by decide) h',by simp [Z0]⟩⟩,rfl⟩
theorem Oi (h0:1≤n) (h1:n≤5) (h:ZV d m 0 t=0) (h':ZV d m 0 u=0):ZV d m 0 (.mk 10 n zS [t,u] [])=0:=
  nErr_iff.2 ⟨by unfold YF Yx Ys loK hiK;simp;omega,rfl,nErrK_cons.2 ⟨h,nErrK_cons.2 ⟨h',by simp [Z0]⟩⟩,rfl⟩
theorem FG (h0:0≤n) (h1:n≤7) (h:ZV d m 0 t=0):ZV d m 0 (.mk 11 n r [t] [])=0:=
  nErr_iff.2 ⟨by unfold YF Yx Ys loK hiK;simp;omega,rfl,nErrK_cons.2 ⟨h,by simp [Z0]⟩,rfl⟩
theorem IW (h:ZV d m 0 t=0) (h':ZV (d+1) m 0 u=0):Z0 d m 0 12 0 [t,u]=0:=
  nErrK_cons.2 ⟨h,nErrK_cons.2 ⟨UI (by decide) h',by simp [Z0]⟩⟩
theorem Q8 {l:List Tm} (hl:2≤l.length) (h:Z0 d m 0 12 0 l=0) (h':ZV (d+2) m 0 t=0):Z0 d m 0 12 0 (l++[t])=0:=by
  refine Q7 h ?_
  have:more 12 ((0+l.length:Nat):Int)=2:=by unfold more;simp;omega
  rw [this];exact UI (by decide) h'
theorem FD {l:List Tm} (h0:2≤l.length) (h1:l.length≤10) (h:Z0 d m 0 12 0 l=0):ZV d m 0 (.mk 12 0 r l [])=0:=
  nErr_iff.2 ⟨by unfold YF Yx Ys loK hiK;simp;omega,rfl,h,rfl⟩
theorem Fz {l:List (Pt×Tm)} (h1:l.length≤8) (h:ZV d m 0 t=0) (hp:YZ l=0) (hc:Yc d m 0 l=0):ZV d m 0 (.mk 9 0 zS [t] l)=0:=
  nErr_iff.2 ⟨by unfold YF Yx Ys loK hiK;simp;omega,hp,nErrK_cons.2 ⟨h,by simp [Z0]⟩,hc⟩
theorem IY {l:List (Pt×Tm)} {p:Pt} (h:Yc d m 0 l=0) (h':ZV (d+(binds p:Int)) m 0 t=0):Yc d m 0 (l++[(p,t)])=0:=L9 h (UI (by omega) h')
theorem IX {l:List Tm} (h:Z0 d m 0 8 0 l=0) (h':ZV d m 0 t=0):Z0 d m 0 8 0 (l++[t])=0:=Q7 h (by simpa [more] using h')
theorem FF {l:List Tm} (h0:0≤n) (h1:n≤7) (hl:l.length≤4) (h:Z0 d m 0 8 0 l=0):ZV d m 0 (.mk 8 n r l [])=0:=
  nErr_iff.2 ⟨by unfold YF Yx Ys loK hiK;simp;omega,rfl,h,rfl⟩
end
theorem BR {t:Tm} {a:List Value} {k:Zf} (h:OT t a k):OTs [t] [a] k:=by
  rw [OTs];exact ⟨a,[],k,[],rfl,h,OTs.nil,by simp⟩
theorem Dj {t u:Tm} {a b:List Value} {k k':Zf} (h:OT t a k) (h':OT u b k'):OTs [t,u] [a,b] (k++k'):=by
  rw [OTs];exact ⟨a,[b],k,k',rfl,h,BR h',rfl⟩
theorem U0 {k n:Int} {r:Sm} {v:Value} {es:List (List Value)} {kids:List Tm} {k1 k2:Zf} (hk:inI k) (hn:inI n) (ho:Own 51 36 v es k1) (hs:OTs kids es k2) (hl:kids.length≤1000):
    OT (.mk k n r kids []) (pkT k n r v (.slice none 0 0)) (k1++k2):=
  OT_mk.2 ⟨_,_,es,[],k1,k2,[],[],rfl,hk,hn,ho,hs,Own.nil,OCs.nil,by simp,by omega,by simp⟩
theorem LZ {l:List Pt} (h:XC l=0):∀ p∈l,Xn p=0:=by
  induction l with
  | nil=>intro p hp;cases hp
  | cons q l ih=>
    rw [XC] at h
    split at h
    · rename_i h0
      intro p hp
      rcases mem_cons.1 hp with rfl | hp
      · exact h0
      · exact ih h p hp
    · rename_i h0;exact absurd h h0
theorem LY {k n:Int} {r:Sm} {kids:List Pt} (h:Xn (.mk k n r kids)=0):XC kids=0∧(k=1∨k=3∨(k=2∧kids=[])):=by
  rw [Xn] at h
  split at h
  · rename_i h0
    refine ⟨h,?_⟩
    unfold Tq at h0
    by_cases h1:k<1∨3<k
    · rw [if_pos h1] at h0;cases h0
    rw [if_neg h1] at h0
    split at h0
    · cases h0
    split at h0
    · cases h0
    rename_i h3
    by_cases e:k=2
    · right;right
      refine ⟨e,eq_nil_of_length_eq_zero ?_⟩
      omega
    · omega
  · rename_i h0;exact absurd h h0
def pz:Nat→Nat
  | 0=>1
  | d+1=>1+2*pz d
def dz:Nat→Nat
  | 0=>2
  | d+1=>4+2*dz d
theorem AN {d:Nat} (h:0<d):pz d=1+2*pz (d-1):=by
  obtain ⟨e,rfl⟩:∃ e,d=e+1:=⟨d-1,by omega⟩
  rfl
theorem Eu {d:Nat} (h:0<d):dz d=4+2*dz (d-1):=by
  obtain ⟨e,rfl⟩:∃ e,d=e+1:=⟨d-1,by omega⟩
  rfl
theorem B7 (d:Nat):1≤pz d:=by cases d <;> simp [pz]
theorem Ev (d:Nat):2≤dz d:=by cases d <;> simp [dz];omega
theorem Zb3 {d:Nat} (h:d≤2):dz d≤20:=by
  rcases d with _ | _ | _ | d
  · decide
  · decide
  · decide
  · omega
theorem RL (l:List Tm) (t:Tm):sizeTs (l++[t])=sizeTs l+sizeT t:=by
  induction l with
  | nil=>simp [sizeTs]
  | cons x l ih=>simp only [cons_append,sizeTs,ih];omega
theorem N7 (l:List (Pt×Tm)) (p:Pt) (t:Tm):sizeCs (l++[(p,t)])=sizeCs l+sizeP p+sizeT t:=by
  induction l with
  | nil=>simp [sizeCs]
  | cons x l ih=>obtain ⟨q,x⟩:=x;simp only [cons_append,sizeCs,ih];omega
theorem N5 (l:List Pt) (p:Pt):sizePs (l++[p])=sizePs l+sizeP p:=by
  induction l with
  | nil=>simp [sizePs]
  | cons x l ih=>simp only [cons_append,sizePs,ih];omega
section
variable {c:Cx} {H:Heap} {ρ:Nat→Value} {M:List Zf} {K:Value→List Zf→Prop} {d:Option Nat} {ot:TypeId} {pos:String} {af:Array Edge} {g:Option (Nat×Bool)} {x y:Operand}
end
def ZbC (t:Tm) (k:Int):Option Tm:=
  if k<0 then none else if k<(t.kids.length:Int) then t.kids[k.toNat]? else (t.cases[(k-t.kids.length).toNat]?).map (·.2)
def atT (t:Tm):List Int→Option Tm
  | []=>some t
  | k::l=>(ZbC t k).bind fun x=>atT x l
theorem YO {α:Type} {l:List α} {j:Nat} {z:α} (h:j<l.length):l.getD j z=l[j]:=by
  rw [getD_eq_getElem?_getD,getElem?_eq_getElem h];rfl
def atR (t:Tm) (l:List Int):Tm×Int:=match atT t l with | some x=>(x,0) | none=>(zT,1)
theorem OTs.pick {l:List Tm}:∀ {es:List (List Value)} {c:Zf} {j:Nat} (_:OTs l es c) (hj:j<l.length),
    ∃ e k c',es[j]?=some e∧OT l[j] e k∧c.Perm (k++c')∧∀ x e' k',OT x e' k'→∃ c'',OTs (l.set j x) (es.set j e') c''∧(k'++c').Perm c'':=by
  induction l with
  | nil=>intro es c j _ hj;exact absurd hj (by simp)
  | cons y l ih=>
    intro es c j h hj
    rw [OTs] at h
    obtain ⟨e,es',k,c1,rfl,ho,hs,rfl⟩:=h
    cases j with
    | zero=>
      refine ⟨e,k,c1,rfl,ho,List.Perm.refl _,fun x e' k' hx=>⟨k'++c1,?_,List.Perm.refl _⟩⟩
      simp only [set_cons_zero];rw [OTs];exact ⟨e',es',k',c1,rfl,hx,hs,rfl⟩
    | succ j=>
      obtain ⟨e2,k2,c2,h1,h2,h3,h4⟩:=ih hs (by simpa using hj)
      refine ⟨e2,k2,k++c2,by simpa using h1,h2,?_,fun x e' k' hx=>?_⟩
      · refine (List.Perm.append_left k h3).trans ?_
        rw [← append_assoc,← append_assoc];exact List.perm_append_comm.append_right c2
      · obtain ⟨c3,h5,h6⟩:=h4 x e' k' hx
        refine ⟨k++c3,?_,?_⟩
        · simp only [set_cons_succ];rw [OTs];exact ⟨e,_,k,c3,rfl,ho,h5,rfl⟩
        · refine List.Perm.trans ?_ (List.Perm.append_left k h6)
          rw [← append_assoc,← append_assoc];exact List.perm_append_comm.append_right c2
theorem OCs.pick {l:List (Pt×Tm)}:∀ {es:List (List Value)} {c:Zf} {j:Nat} (_:OCs l es c) (hj:j<l.length),
    ∃ a b k c',es[j]?=some (a++b)∧a.length=35∧okc a∧OT l[j].2 b k∧c.Perm (k++c')∧∀ x b' k',OT x b' k'→∃ c'',OCs (l.set j (l[j].1,x)) (es.set j (a++b')) c''∧(k'++c').Perm c'':=by
  induction l with
  | nil=>intro es c j _ hj;exact absurd hj (by simp)
  | cons y l ih=>
    obtain ⟨p,y⟩:=y
    intro es c j h hj
    rw [OCs] at h
    obtain ⟨a,b,es',ka,kb,c1,rfl,hp,ho,hs,rfl⟩:=h
    cases j with
    | zero=>
      refine ⟨a,b,kb,ka++c1,rfl,hp.len,hp.ok,ho,?_,fun x e' k' hx=>⟨ka++(k'++c1),?_,?_⟩⟩
      · rw [← append_assoc,← append_assoc];exact List.perm_append_comm.append_right c1
      · simp only [set_cons_zero];rw [OCs];exact ⟨a,e',es',ka,k',c1,rfl,hp,hx,hs,rfl⟩
      · rw [← append_assoc,← append_assoc];exact List.perm_append_comm.append_right c1
    | succ j=>
      obtain ⟨a2,b2,k2,c2,h1,ha,hb,h2,h3,h4⟩:=ih hs (by simpa using hj)
      refine ⟨a2,b2,k2,(ka++kb)++c2,by simpa using h1,ha,hb,h2,?_,fun x e' k' hx=>?_⟩
      · rw [← append_assoc ka]
        refine (List.Perm.append_left (ka++kb) h3).trans ?_
        rw [← append_assoc,← append_assoc k2];exact List.perm_append_comm.append_right c2
      · obtain ⟨c3,h5,h6⟩:=h4 x e' k' hx
        refine ⟨ka++(kb++c3),?_,?_⟩
        · simp only [set_cons_succ];rw [OCs];exact ⟨a,b,_,ka,kb,c3,rfl,hp,ho,h5,rfl⟩
        · rw [← append_assoc ka kb c3]
          refine List.Perm.trans ?_ (List.Perm.append_left (ka++kb) h6)
          rw [← append_assoc,← append_assoc (ka++kb)];exact List.perm_append_comm.append_right c2
def pathR (H:Heap) (v:Value) (l:List Int):Prop:=∃ a cap,v=.slice a l.length cap∧l.length≤cap∧l.length≤9223372036854775807∧(l.length=0∨∃ b o row T fr,a=some ⟨b,o,none⟩∧H b=some (.cells ⟨row⟩ T fr)∧rows (RI H) 1 row o l)
theorem pathR.rd {H:Heap} {v:Value} {l:List Int} (h:pathR H v l):Hs.rdS RI 1 H v l:=by
  obtain ⟨a,cap,rfl,_,h2,h3⟩:=h
  exact ⟨a,cap,rfl,h2,h3⟩
theorem pathR.mono {H H':Heap} {v:Value} {l:List Int} (hh:Hle H H') (h:pathR H v l):pathR H' v l:=by
  obtain ⟨a,cap,rfl,h1,h2,h3⟩:=h
  refine ⟨a,cap,rfl,h1,h2,h3.imp id ?_⟩
  rintro ⟨b,o,row,T,fr,e1,e2,e3⟩
  exact ⟨b,o,row,T,fr,e1,hh _ _ e2,e3⟩
theorem pathR.own {T:TypeId} {v:Value} {l:List Int} {k:Zf} {h:Heap} (o:Own T 1 v (Z2 l) k) (hn:l.length≤9223372036854775807) (hk:Has k h):pathR h v l:=by
  have hr:=Yr o hn hk
  rcases o.2 with ⟨rfl,h1,_⟩ | ⟨b,cap,sp,rfl,rfl,h3,h4⟩
  · have:l=[]:=by cases l;rfl;simp [Z2] at h1
    subst this;exact ⟨none,0,rfl,by simp,by simp,.inl rfl⟩
  · rw [Zv] at hr h4 ⊢
    obtain ⟨a,c,e,q1,q2⟩:=hr
    cases e
    exact ⟨_,_,rfl,h4,q1,q2⟩
theorem pathR.tail {H:Heap} {v:Value} {l:List Int} (h:pathR H v l) (hl:0<l.length) {a:Option Addr} {n cap:Nat} (hv:v=.slice a n cap):
    1≤n∧pathR H (.slice (if cap=1 then a else a.map (·.add (1*1))) (n-1) (cap-1)) l.tail:=by
  obtain ⟨a',cap',e,h1,h2,h3⟩:=h
  rw [hv] at e;cases e
  refine ⟨hl,_,_,by rw [List.length_tail],by rw [List.length_tail];omega,by rw [List.length_tail];omega,?_⟩
  cases l with
  | nil=>exact absurd hl (by simp)
  | cons x l=>
    simp only [List.tail_cons]
    by_cases h0:l.length=0
    · exact .inl h0
    right
    have hc:¬ cap=1:=by intro e;subst e;simp only [length_cons] at h1;omega
    rcases h3 with h3 | ⟨b,o,row,T,fr,rfl,e2,e3⟩
    · simp at h3
    · refine ⟨b,o+1,row,T,fr,?_,e2,e3.2⟩
      rw [if_neg hc];simp [Addr.add]
theorem Sub.mid {M:List Zf} {a b c d:Zf} (h:Sub [a++(b++d)] M) (e:b.Perm c):Sub [a++(c++d)] M:=h.perm (by
  simp only [flatten_cons,flatten_nil,append_nil]
  exact (e.append_right d).append_left a)
section
variable {c:Cx} {H:Heap} {ρ:Nat→Value} {M:List Zf} {K:Value→List Zf→Prop} {d:Option Nat} {ot:TypeId} {pos:String} {af:Array Edge} {g:Option (Nat×Bool)} {x y:Operand}
end
section
variable {c:Cx} {H:Heap} {ρ:Nat→Value} {M:List Zf} {K:Value→List Zf→Prop} {d:Option Nat} {ot:TypeId} {pos:String} {af:Array Edge} {g:Option (Nat×Bool)} {x y:Operand}
end
theorem Bl (p:Pt):1≤UP p:=by
  cases p with
  | mk k n r kids=>
    rw [UP]
    have:0≤XX kids:=by
      induction kids with
      | nil=>rw [XX];omega
      | cons x l ih=>rw [XX];omega
    omega
section
variable {l:List Int} {f a c:Nat} {n:Int} {t:ByteArray} {a' c' w e w0:Int} {x:It}
end
section
variable {l:List Int} {f a c:Nat} {n:Int} {t:ByteArray} {a' c' e:Int} {x:It} {ok:Bool}
variable {w w0:Int}
end
theorem PQ {c:Cx} {H:Heap} {ρ:Nat→Value} {R:List Zf} {k₁ k₂:Zf} {Q:Post} {ops:Array Oper} {rest:List Oper} {d:Option Nat} {ot:TypeId} {pos:String} {af:Array Edge} {g:Option (Nat×Bool)} {x:Operand} {ars:List Operand} {ats:Array TypeId} {f:FuncId} {fv vs cv:List Value} {post:Value→List Zf→Prop}
    (hg:wnt ops c.n ρ ⟨d,.call {callee:=.value x,args:=ars.toArray,argTypes:=ats},ot,pos,af,g⟩=true)
    (hcall:∀ args w,(callFunc f args).run c.P w=.ok (.enter f args) w)
    (hx:ev c.n ρ x=.func (.func f) ⟨fv⟩ ⟨cv⟩)
    (hc:(∀ (j:Nat) k,R[j]?=some k→Has k (hu R.flatten H))→CT c.P f ⟨fv++vs++cv⟩ [k₁,k₂] (hu R.flatten H) post)
    (ha:ars.map (ev c.n ρ)=vs)
    (h:∀ v N,post v N→JL c H ops rest (Xj ρ d v) (N++R) Q):
    JL c H ops (⟨d,.call {callee:=.value x,args:=ars.toArray,argTypes:=ats},ot,pos,af,g⟩::rest) ρ (k₁::k₂::R) Q:=
  PP (M₁:=[k₁,k₂]) (M₂:=R) hg (TP hx ha hcall) (by simp) hc h
theorem ZbY (k n k' n':Int) (r r':Sm) (l l':List Pt):(((decide (k=k'))&&((decide (n=n'))&&(decide (r=r'))))&&(decide (l=l')))=decide (Pt.mk k n r l=Pt.mk k' n' r' l'):=by
  rw [Bool.eq_iff_iff];simp [and_assoc]
theorem ZcG (k n:Int) (r:Sm) (l:List Pt) (q:Pt):(((decide (k=q.kind))&&((decide (n=q.num))&&(decide (r=q.ref))))&&(decide (l=q.kids)))=decide (Pt.mk k n r l=q):=by
  cases q;exact ZbY ..
section
variable {P:Program} {e:Operand→Value} {i:Oper}
end
theorem Zcc (k n:Int) (r:Sm):∀ w,(Instr.build 243 ⟨[(0,.int .i64 k),(1,.int .i64 n),(2,.agg ⟨sC r⟩)]⟩).run prog w=.ok (.agg ⟨[.int .i64 k,.int .i64 n]++sC r⟩) w:=
  ZT zeroValue243 runUnderlying243 Zbr (by kernel_rfl)
theorem AU (k n:Int) (r:Sm) (w:World):(part 3 ⟨[.int .i64 k,.int .i64 n]++sC r⟩ 0).run prog w=.ok (.int .i64 k) w:=by
  simp [part,isAgg,runUnderlying3]
theorem AT (k n:Int) (r:Sm) (w:World):(part 3 ⟨[.int .i64 k,.int .i64 n]++sC r⟩ 1).run prog w=.ok (.int .i64 n) w:=by
  simp [part,isAgg,runUnderlying3]
theorem AS (k n:Int) (r:Sm) (w:World):(part 38 ⟨[.int .i64 k,.int .i64 n]++sC r⟩ 2).run prog w=.ok (.agg ⟨sC r⟩) w:=by
  have h:(⟨[.int .i64 k,.int .i64 n]++sC r⟩:Array Value).extract 2 (2+32)=⟨sC r⟩:=by
    apply Array.toList_inj.1
    simpa using take_of_length_le (by rw [VZ];decide)
  simp only [part,Sem.run_bind,isAgg38,Result.andThen_ok,if_true,sizeOf38,Sem.run_pure,h]
theorem eqK {e:Operand→Value} {d:Option Nat} {ot:TypeId} {pos:String} {af:Array Edge} {g:Option (Nat×Bool)} {T':TypeId} {x y:Operand} {a b a' b':Int} {r s:Sm}
    (hx:e x=.agg ⟨[.int .i64 a,.int .i64 b]++sC r⟩) (hy:e y=.agg ⟨[.int .i64 a',.int .i64 b']++sC s⟩):
    Pu prog e ⟨d,.binOp .eql 243 x y T',ot,pos,af,g⟩ (.bool (decide (a=a')&&(decide (b=b')&&decide (r=s)))):=fun w=>by
  have hg:=run_eqGuard_agg (P:=prog) w .eql 243 x y ⟨[.int .i64 a,.int .i64 b]++sC r⟩ ⟨[.int .i64 a',.int .i64 b']++sC s⟩ (by kernel_rfl)
  have hF:prog.underlying 243=some (.struct (prog.fieldsOf 243)):=by simp only [Program.fieldsOf,underlying243]
  have hL:∃ f1 f2 f3:Field,(prog.fieldsOf 243).toList=[f1,f2,f3]∧f1.name≠ "_" ∧f1.type=3∧f1.offset=0∧f2.name≠ "_" ∧f2.type=3∧f2.offset=1∧f3.name≠ "_" ∧f3.type=38∧f3.offset=2:=by
    simp only [Program.fieldsOf,underlying243]
    exact ⟨_,_,_,rfl,by decide,rfl,rfl,by decide,rfl,rfl,by decide,rfl,rfl⟩
  obtain ⟨f1,f2,f3,hl,n1,t1,o1,n2,t2,o2,n3,t3,o3⟩:=hL
  simp only [execOp,hx,hy,Sem.run_bind]
  rw [hg,Result.andThen_ok,run_eql_struct,run_equalIn_struct w 9999 243 _ _ hF (by kernel_rfl),hl]
  have hs:=run_equalIn_bytes (P:=prog) w 9997 38 _ 32 underlying38 underlying5 sizeOf5 r.toList s.toList (by simp) (by simp)
  rw [← Uz,← Uz] at hs
  have hd:(r.toList==s.toList)=decide (r=s):=by
    rw [Bool.eq_iff_iff];simp
  rw [hd] at hs
  change (Op.equalIn 9999 38 (.agg ⟨sC r⟩) (.agg ⟨sC s⟩)).run prog w=_ at hs
  have hi:∀ u v:Int,(Op.equalIn 9999 3 (.int .i64 u) (.int .i64 v)).run prog w=.ok (u==v) w:=fun u v=>run_equalIn_int w 9998 3 .i64 .i64 u v underlying3
  simp only [Op.eqFields,n1,n2,n3,t1,t2,t3,o1,o2,o3,if_true,ne_eq,not_false_eq_true,Sem.run_bind,Sem.run_ite,AU,AT,AS,Result.andThen_ok,hi,hs,Sem.run_pure]
  by_cases h1:a=a' <;> by_cases h2:b=b' <;> by_cases h3:r=s <;> simp [h1,h2,h3]
theorem Po (l:List Tm) (t:Tm):Yi (l++[t])=max (Yi l) (Yj t):=by
  induction l with
  | nil=>simp only [nil_append,Yi];omega
  | cons u l ih=>simp only [cons_append,Yi,ih];omega
theorem KD (l:List (Pt×Tm)) (p:Pt) (t:Tm):Yo (l++[(p,t)])=max (Yo l) (max (UP p) (Yj t)):=by
  induction l with
  | nil=>simp only [nil_append,Yo];omega
  | cons u l ih=>obtain ⟨q,u⟩:=u;simp only [cons_append,Yo,ih];omega
mutual
theorem J2:∀ p:Pt,UP p≤(sizeP p:Int)
  | .mk _ _ _ kids=>by have:=M3 kids;rw [UP,sizeP];omega
theorem M3:∀ l:List Pt,XX l≤(sizePs l:Int)
  | []=>by rw [XX,sizePs];omega
  | p::l=>by have:=J2 p;have:=M3 l;rw [XX,sizePs];omega
end
def RB (_:Heap) (cs:List Value) (n:Int):Prop:=cs=[.int .u8 n]
theorem RBs.mono {h h':Heap} (hh:Hle h h') {v:Value} {l:List Int} (q:Hs.rdS RB 1 h v l):Hs.rdS RB 1 h' v l:=rdS.mono q hh fun _ _ _ e=>e
def YU (l:List Int):List (List Value):=l.map fun n=>[.int .u8 n]
theorem Yu (l:List Int):(YU l).length=l.length:=by simp [YU]
theorem Rw (l:List Int):∀ e∈YU l,e.length=1:=by
  intro e he;obtain ⟨x,_,rfl⟩:=mem_map.1 he;rfl
theorem NJ (l:List Int):∀ e∈YU l,okc e:=by
  intro e he v hv;obtain ⟨x,_,rfl⟩:=mem_map.1 he;simp only [mem_singleton] at hv;subst hv;rfl
theorem Hc (l:List Int):∀ e∈Z2 l,e.length=1:=by
  intro e he;obtain ⟨x,_,rfl⟩:=mem_map.1 he;rfl
theorem Cq {P:Program} {H:Heap} {v:Value} {l:List Int} {E:Heap→List Value→Int→Prop} {f:Int→Value} (hE:∀ h cs x,E h cs x→cs=[f x]) (h:Hs.rdS E 1 H v l):∀ w L,Mem w L H→Src P 1 w v l.length (l.map fun n=>[f n]).flatten:=by
  obtain ⟨es,e1,e2,e3,e4⟩:=rdS.src (P:=P) h
  have:es=l.map fun n=>[f n]:=by
    apply ext_getElem
    · rw [e1,length_map]
    · intro i h1 h2
      have:=hE _ _ _ (e2 i h1 (by omega))
      rw [this,getElem_map]
  subst this
  intro w L m
  exact e4 w L H (Hle.refl _) m
theorem Lc {P:Program} {H:Heap} {v:Value} {l:List Int} (h:Hs.rdS RB 1 H v l):∀ w L,Mem w L H→Src P 1 w v l.length (YU l).flatten:=Cq (fun _ _ _ e=>e) h
theorem Wj {T:TypeId} {v:Value} {l:List Int} {k:Zf} {h:Heap} (o:Own T 1 v (YU l) k) (hn:l.length≤9223372036854775807) (hk:Has k h):Hs.rdS RB 1 h v l:=
  o.rdS (Yu l).symm hn hk fun i h1 h2=>by simp [YU,RB]
theorem D9 {E:Heap→List Value→Int→Prop} {sz:Nat} {h:Heap} {v:Value} {l:List Int} {a:Option Addr} {n cap:Nat} (r:Hs.rdS E sz h v l) (hv:v=.slice a n cap) (ha:a.isNone=true):l=[]:=by
  obtain ⟨a',c',e,_,h0 | ⟨b,o,row,T,fr,e1,_⟩⟩:=r
  · exact eq_nil_of_length_eq_zero h0
  · rw [hv] at e;cases e;subst e1;cases ha
section
variable {P:Program} {e:Operand→Value} {d:Option Nat} {ot:TypeId} {pos:String} {af:Array Edge} {g:Option (Nat×Bool)} {T T':TypeId} {x y z:Operand}
theorem R4 {el:TypeId} {a:Option Addr} {n c n' c':Nat} (m:Nat) (w:World) (hT:∀ w,(underlying T).run P w=.ok (.slice el) w):(Op.equalIn (m+1) T (.slice a n c) (.slice none n' c')).run P w=.ok a.isNone w:=by
  cases a <;> simp [Op.equalIn,hT]
theorem Zdu {el:TypeId} {a:Option Addr} {n c n' c':Nat} (hT:∀ w,(underlying T).run P w=.ok (.slice el) w) (hx:e x=.slice a n c) (hy:e y=.slice none n' c'):Pu P e ⟨d,.binOp .eql T x y T',ot,pos,af,g⟩ (.bool a.isNone):=fun w=>by
  have:=R4 (P:=P) (a:=a) (n:=n) (c:=c) (n':=n') (c':=c') 9999 w hT
  simp only [execOp,hx,hy,eqGuard,binOp,Op.equal,Op.maxDepth]
  simp [this]
end
theorem EC (zs:List Int):∀ j,j<zs.length→zs.toArray[j]! ∈Lib.compact zs:=by
  intro j
  induction j with
  | zero=>intro h;unfold Lib.compact Lib.compactUpTo;exact mem_map.2 ⟨0,mem_filter.2 ⟨mem_range.2 h,by simp [Lib.keeps]⟩,rfl⟩
  | succ j ih=>
    intro h
    by_cases e:zs.toArray[j+1]! =zs.toArray[j]!
    · rw [e];exact ih (by omega)
    · unfold Lib.compact Lib.compactUpTo
      refine mem_map.2 ⟨j+1,mem_filter.2 ⟨mem_range.2 h,?_⟩,rfl⟩
      unfold Lib.keeps
      simp only [decide_eq_true_eq]
      right;exact e
theorem ED (zs:List Int) (x:Int):x∈Lib.compact zs↔x∈zs:=by
  constructor
  · intro h
    unfold Lib.compact Lib.compactUpTo at h
    obtain ⟨i,hi,rfl⟩:=mem_map.1 h
    have:=mem_range.1 (mem_filter.1 hi).1
    simp [this]
  · intro h
    obtain ⟨j,hj,rfl⟩:=List.getElem_of_mem h
    have:=EC zs j hj
    simpa [hj] using this
abbrev Hd:=Int×Sm
def srt (k:Int):Int:=if k=6 then 6 else if k=8 then 8 else if k=11∨k=12 then 11 else 0
def ZcI (l:List Hd) (h:Hd):List Hd:=if h∈l then l else l++[h]
def hd0 (k:Int) (r:Sm) (l:List Hd):List Hd:=if srt k=0 then l else ZcI l (srt k,r)
structure L3 where
  a:List Sm
  b:List Sm
  c:List Sm
theorem OPs.take {l:List Pt} {es:List (List Value)} {c:Zf} {j:Nat} (h:OPs (l.drop j) (es.drop j) c) (hj:j<l.length):
    ∃ e k c',es[j]?=some e∧OP l[j] e k∧c=k++c'∧∀ x,OPs (l.drop (j+1)) ((es.set j x).drop (j+1)) c':=by
  rw [drop_eq_getElem_cons hj,OPs] at h
  obtain ⟨e,es',k,c',h1,h2,h3,h4⟩:=h
  have hj':es[j]?=some e:=by
    have:=congrArg (fun l=>l[0]?) h1
    simpa [getElem?_drop] using this
  refine ⟨e,k,c',hj',h2,h4,fun x=>?_⟩
  rw [List.drop_set_of_lt (by omega)]
  have:es.drop (j+1)=es':=by rw [← drop_drop,h1];rfl
  rw [this];exact h3
theorem Gj {es:List (List Value)} {x e:List Value} {j:Nat} (h:es[j]?=some e):(es.set j x).take (j+1)=es.take j++[x]:=by
  have hj:=(List.getElem?_eq_some_iff.1 h).1
  rw [take_succ_eq_append_getElem (by simpa using hj),List.take_set_of_le (by omega)]
  simp
def RSm (_:Heap) (cs:List Value) (r:Sm):Prop:=cs=sC r
theorem RSms.mono {h h':Heap} (hh:Hle h h') {v:Value} {l:List Sm} (q:Hs.rdS RSm 32 h v l):Hs.rdS RSm 32 h' v l:=rdS.mono q hh fun _ _ _ e=>e
def sms (l:List Sm):List (List Value):=l.map sC
theorem XJ (l:List Sm):(sms l).length=l.length:=by simp [sms]
theorem Gy (l:List Sm) (r:Sm):sms (l++[r])=sms l++[sC r]:=by simp [sms]
theorem DU (l:List Sm) (j:Nat) (h:j<l.length):(sms l)[j]'(by rw [XJ];exact h)=sC l[j]:=by simp [sms]
theorem Si {T:TypeId} {v:Value} {l:List Sm} {k:Zf} {h:Heap} (o:Own T 32 v (sms l) k) (hn:l.length≤9223372036854775807) (hk:Has k h):Hs.rdS RSm 32 h v l:=
  o.rdS (XJ l).symm hn hk fun i h1 h2=>by simp [sms,RSm]
section
attribute [local irreducible] JL J CT wlo DT
theorem Cv (k j:Int) (H:Heap):CT prog 216 ⟨[iv k,iv j]⟩ [] H (fun v N=>v=iv (more k j)∧N=[]):=by
 refine Zl func216 rfl rfl<|Zd<|JAn rfl<|Zg<|Zm<|Zg<|Zd<|JLM rfl<|JLn (Pu.eql rfl rfl)<|JLA rfl ?_
 refine Za<|ZN rfl (fun h1=>?_) (fun h1=>?_)
 ·refine Zo<|Zt rfl (fun _=>?_) (fun h2=>absurd h1 (df h2))
  refine Zd<|JAn rfl<|ZE (iv 1) [] Sub.nil (?_)
  exact ⟨by first | (simp_all [more];done) | (congr 1;unfold more;simp_all;try omega),rfl⟩
 refine Zd<|JLM rfl<|JLn (Pu.eql rfl rfl)<|JLM rfl<|ZK 2 [11,12] [(12,cond (decide (k=5)) (.bool (decide (j=1))) undef)] ?_ fun f4=>?_
 ·cases h3:(decide (k=5)) with
  | true=>
   replace h3:=dt h3
   refine JLM rfl<|JLn (Pu.eql rfl rfl) ?_
   exact Za ⟨⟨rfl,trivial⟩,rfl⟩
  | false=>
   exact Z1 rfl ⟨rfl,trivial⟩
 refine JLn (ZcR rfl rfl rfl)<|JAn rfl<|Zt rfl (fun h5=>?_) (fun h5=>?_)
 ·obtain ⟨h5a,h5b⟩:=Xx h5
  replace h5a:=dt h5a
  replace h5b:=dt h5b
  refine Zo<|Zt rfl (fun h6=>?_) (fun h6=>?_)
  ·obtain ⟨h6a,h6b⟩:=Xx h6
   replace h6a:=dt h6a
   replace h6b:=dt h6b
   refine Zd<|JAn rfl<|ZE (iv 1) [] Sub.nil (?_)
   exact ⟨by first | (simp_all [more];done) | (congr 1;unfold more;simp_all;try omega),rfl⟩
  refine Zd<|JLM rfl<|JLn (Pu.eql rfl rfl)<|JLM rfl<|ZK 2 [24,25] [(25,cond (decide (k=12)) (.bool (decide (1<j))) undef)] ?_ fun f8=>?_
  ·cases h7:(decide (k=12)) with
   | true=>
    replace h7:=dt h7
    refine JLM rfl<|JLn (Pu.gtr rfl rfl) ?_
    exact Za ⟨⟨rfl,trivial⟩,rfl⟩
   | false=>
    exact Z1 rfl ⟨rfl,trivial⟩
  refine JLn (ZcR rfl rfl rfl)<|JAn rfl<|Zt rfl (fun h9=>?_) (fun h9=>?_)
  ·obtain ⟨h9a,h9b⟩:=Xx h9
   replace h9a:=dt h9a
   replace h9b:=dt h9b
   refine Zd<|JAn rfl<|ZE (iv 2) [] Sub.nil (?_)
   exact ⟨by first | (simp_all [more];done) | (congr 1;unfold more;simp_all;try omega),rfl⟩
  refine Zo<|Zd<|JAn rfl<|ZE (iv 0) [] Sub.nil (?_)
  exact ⟨by first | (simp_all [more];done) | (congr 1;unfold more;simp_all;try omega),rfl⟩
 refine Ze<|JLM rfl<|JLn (Pu.eql rfl rfl)<|JLM rfl<|ZK 2 [17,18] [(18,cond (decide (k=12)) (.bool (decide (j=1))) undef)] ?_ fun f11=>?_
 ·cases h10:(decide (k=12)) with
  | true=>
   replace h10:=dt h10
   refine JLM rfl<|JLn (Pu.eql rfl rfl) ?_
   exact Za ⟨⟨rfl,trivial⟩,rfl⟩
  | false=>
   exact Z1 rfl ⟨rfl,trivial⟩
 refine JLn (ZcR rfl rfl rfl)<|JAn rfl<|Zt rfl (fun h12=>?_) (fun h12=>?_)
 ·obtain ⟨h12a,h12b⟩:=Xx h12
  replace h12a:=dt h12a
  replace h12b:=dt h12b
  refine Zd<|JAn rfl<|ZE (iv 1) [] Sub.nil (?_)
  exact ⟨by first | (simp_all [more];done) | (congr 1;unfold more;simp_all;try omega),rfl⟩
 refine Zd<|JLM rfl<|JLn (Pu.eql rfl rfl)<|JLM rfl<|ZK 2 [24,25] [(25,cond (decide (k=12)) (.bool (decide (1<j))) undef)] ?_ fun f14=>?_
 ·cases h13:(decide (k=12)) with
  | true=>
   replace h13:=dt h13
   refine JLM rfl<|JLn (Pu.gtr rfl rfl) ?_
   exact Za ⟨⟨rfl,trivial⟩,rfl⟩
  | false=>
   exact Z1 rfl ⟨rfl,trivial⟩
 refine JLn (ZcR rfl rfl rfl)<|JAn rfl<|Zt rfl (fun h15=>?_) (fun h15=>?_)
 ·obtain ⟨h15a,h15b⟩:=Xx h15
  replace h15a:=dt h15a
  replace h15b:=dt h15b
  refine Zd<|JAn rfl<|ZE (iv 2) [] Sub.nil (?_)
  exact ⟨by first | (simp_all [more];done) | (congr 1;unfold more;simp_all;try omega),rfl⟩
 refine Zo<|Zd<|JAn rfl<|ZE (iv 0) [] Sub.nil (?_)
 exact ⟨by first | (simp_all [more];done) | (congr 1;unfold more;simp_all;try omega),rfl⟩
theorem XP (n lo hi:Int) (H:Heap):CT prog 211 ⟨[iv n,iv lo,iv hi]⟩ [] H (fun v N=>v=.bool (decide (n<lo∨hi<n))∧N=[]):=by
 refine Zl func211 rfl rfl<|Zd<|JAn rfl<|Zd<|JLM rfl<|JLM rfl<|JLn (Pu.lss rfl rfl)<|JLM rfl<|ZK 3 [11,12,13] [(13,cond (decide (n<lo)) undef (.bool (decide (hi<n))))] ?_ fun f2=>?_
 ·cases h1:(decide (n<lo)) with
  | false=>
   replace h1:=df h1
   refine JLM rfl<|JLM rfl<|JLn (Pu.gtr rfl rfl) ?_
   exact Za ⟨⟨rfl,trivial⟩,rfl⟩
  | true=>
   exact Z1 rfl ⟨rfl,trivial⟩
 refine JLn (ZcT rfl rfl rfl)<|JAn rfl<|ZE (.bool ((decide (n<lo))||(decide (hi<n)))) [] Sub.nil (?_)
 exact ⟨by simp,rfl⟩
theorem E5:∀ (p:Pt) (cs:List Value) (H:Heap),RP H cs p→binds p≤1000000→CT prog 217 ⟨[.agg ⟨cs⟩]⟩ [] H (fun v N=>v=iv (binds p:Int)∧N=[]):=by
 intro p
 induction p using Pt.ind with
 | h kind num ref kids ih=>
 intro cs H hp hb
 obtain ⟨ks,rfl,hk,hn,hks⟩:=RP_mk.1 hp
 rw [binds] at hb ⊢
 refine Zl func217 rfl rfl<|Zd<|JLr (Zr (l:=pkP kind num ref ks) rfl rfl fun b1=>JAn rfl<|Zg<|Zd<|JLq (pp b1 0) (Xa rfl rfl)<|JLr (Zc ty3 rfl (ZcK 0 rfl) (Wu ..)<|JLn (Pu.eql rfl rfl)<|Za ?_))
 refine ZN rfl (fun h2=>?_) (fun h2=>?_)
 ·refine Zd<|JAn rfl<|ZE (iv 1) [] Sub.nil (?_)
  exact ⟨by rw [if_pos (by assumption)];rfl,rfl⟩
 refine Zo<|Zd<|JAn rfl<|Zg<|Zd<|JLq (pp b1 34) (YG rfl rfl)<|JLr (Zc XF rfl (ZcK 0 rfl) (XO ..) ?_)
 obtain ⟨a3,cap3,hv3⟩:=hks.sl
 have hle3:=hks.le
 refine JLn (ZcM YX hv3)<|JLM rfl<|Za<|Zm<|ZD (fun k ρ M=>∃ (j:Nat),ρ 2=iv 0∧ρ 3=iv ((Xg (kids.take j):Int))∧ρ 10=ks∧ρ 11=iv ((kids.length:Int))∧ρ 12=iv ((j:Int))∧Sub [(BX b1 (pkP kind num ref ks) 115)] M∧j≤kids.length∧k=kids.length-j) _ ⟨0,rfl,rfl,rfl,rfl,rfl,(Sk Sub.nil),Nat.zero_le _,rfl⟩ ?_
 rintro _ ρ4 _ ⟨j,e5,e6,e7,e8,e9,hm10,hj,rfl⟩
 obtain ⟨ρ11,rfl⟩:=Zi (uc e5 (uc e6 (uc e7 (uc e8 (uc e9 un)))))
 clear e5 e6 e7 e8 e9
 refine ZF hm10 ?_
 have hlen:=hks.le
 refine Zd<|JLn (Pu.lss rfl rfl)<|Za<|Zg<|ZN rfl (fun h12=>?_) (fun h12=>?_)
 ·have h12n:j<kids.length:=by omega
  have hm1:=OI kids _ (getElem_mem h12n)
  have hm2:=R2 kids _ h12n
  have hm3:=UU kids (j+1)
  rw [if_neg (by assumption)] at hb
  refine Zo<|Zg<|Zm<|Zg<|Ze ?_
  obtain ⟨b13,o13,cap13,row13,T13,fr13,cs13,hv13,hb13,hs13,hE13⟩:=hks.get j (by omega)
  refine JLn (Pu.idx j YX ZO hv13 rfl rfl (by omega))<|JLr (Zn ZO rfl (ZcN hb13) hs13<|JLr (Zk (l:=pkP 0 0 zS nS) zeroValue115 rfl fun b14=>JLr (Zb 0 (vs:=cs13) (l:=cs13) ZO rfl rfl rfl rfl (ZL hE13) (W3 hE13) (ZY (n:=35) rfl (ZL hE13))<|Za<|Ze<|JLM rfl<|JLr (Zn ZO rfl (ZcK 0 rfl) (Zx (ZL hE13))<|Jc call217 rfl (fun hin=>ih _ (getElem_mem h12n) _ _ (RP.mono (Hle.hu _ _) hE13) (by omega)) rfl ?_))))
  rintro _ _ ⟨rfl,rfl⟩
  refine JLn (ZcV rfl rfl (by first | omega | (constructor <;> omega)))<|JAn rfl<|Ze<|JLn (ZcP rfl rfl (by omega))<|JLM rfl<|Za<|⟨_,?_,(j+1),rfl,(ieq rfl (by omega)),rfl,rfl,rfl,(Sd (Sk Sub.nil)),?_,rfl⟩
  ·omega
  omega
 have h12n:kids.length≤j:=by omega
 refine ZC _ rfl<|Zd<|JLM rfl<|JAn rfl<|ZE (iv ((Xg (kids.take j):Int))) [] Sub.nil (?_)
 exact ⟨by rw [if_neg (by assumption),take_of_length_le h12n],rfl⟩
theorem Ox (k:Int) (H:Heap):CT prog 193 ⟨[iv k]⟩ [] H (fun v N=>v=.agg ⟨[.bool (fN k),.bool (fR k),.bool (fC k)]⟩∧N=[]):=by
 refine Zl func193 rfl rfl<|Zd<|JLr (Zk (l:=[.bool false,.bool false,.bool false]) zeroValue235 rfl fun b1=>Za<|Zd<|JLr (Zk (l:=[.bool false,.bool false,.bool false]) zeroValue235 rfl fun b2=>Za<|Zg<|Zd<|JLM rfl ?_))
 refine Za<|Zm<|Zg<|Zd<|JLn (Pu.eql rfl rfl)<|JAn rfl<|ZN rfl (fun h3=>?_) (fun h3=>?_)
 ·refine Zo<|Zt rfl (fun _=>?_) (fun h4=>absurd h3 (df h4))
  refine Ze<|JLq (pp b2 0) (ZcQ 0 XI ty4 rfl rfl (by decide) (by decide))<|JLr (Zb 0 (vs:=[.bool true]) (l:=[.bool true,.bool false,.bool false]) ty4 rfl rfl rfl rfl rfl (Zh rfl Zq) rfl<|Za<|Zd<|JLr (Zn Yq rfl (ZcK 0 rfl) rfl<|JLr (Zb 1 (vs:=[.bool true,.bool false,.bool false]) (l:=[.bool true,.bool false,.bool false]) Yq rfl rfl rfl rfl rfl (Zh rfl (Zh rfl (Zh rfl Zq))) rfl<|Za<|Zz<|⟨.agg ⟨[.bool true,.bool false,.bool false]⟩,[],Ret.one rfl (RV.cell Yq rfl (ZcK 1 rfl) rfl),Sub.nil,?_⟩)))
  exact ⟨by simp_all [fN,fR,fC],rfl⟩
 refine Zd<|JLn (Pu.eql rfl rfl)<|JAn rfl<|ZN rfl (fun h5=>?_) (fun h5=>?_)
 ·refine Zo<|Zt rfl (fun _=>?_) (fun h6=>absurd h5 (df h6))
  refine Ze<|JLq (pp b2 0) (ZcQ 0 XI ty4 rfl rfl (by decide) (by decide))<|JLr (Zb 0 (vs:=[.bool true]) (l:=[.bool true,.bool false,.bool false]) ty4 rfl rfl rfl rfl rfl (Zh rfl Zq) rfl<|Za<|Zd<|JLr (Zn Yq rfl (ZcK 0 rfl) rfl<|JLr (Zb 1 (vs:=[.bool true,.bool false,.bool false]) (l:=[.bool true,.bool false,.bool false]) Yq rfl rfl rfl rfl rfl (Zh rfl (Zh rfl (Zh rfl Zq))) rfl<|Za<|Zz<|⟨.agg ⟨[.bool true,.bool false,.bool false]⟩,[],Ret.one rfl (RV.cell Yq rfl (ZcK 1 rfl) rfl),Sub.nil,?_⟩)))
  exact ⟨by simp_all [fN,fR,fC],rfl⟩
 refine Zd<|JLn (Pu.eql rfl rfl)<|JAn rfl<|ZN rfl (fun h7=>?_) (fun h7=>?_)
 ·refine Zo<|Zt rfl (fun _=>?_) (fun h8=>absurd h7 (df h8))
  refine Ze<|JLq (pp b2 0) (ZcQ 0 XI ty4 rfl rfl (by decide) (by decide))<|JLr (Zb 0 (vs:=[.bool true]) (l:=[.bool true,.bool false,.bool false]) ty4 rfl rfl rfl rfl rfl (Zh rfl Zq) rfl<|Za<|Zd<|JLr (Zn Yq rfl (ZcK 0 rfl) rfl<|JLr (Zb 1 (vs:=[.bool true,.bool false,.bool false]) (l:=[.bool true,.bool false,.bool false]) Yq rfl rfl rfl rfl rfl (Zh rfl (Zh rfl (Zh rfl Zq))) rfl<|Za<|Zz<|⟨.agg ⟨[.bool true,.bool false,.bool false]⟩,[],Ret.one rfl (RV.cell Yq rfl (ZcK 1 rfl) rfl),Sub.nil,?_⟩)))
  exact ⟨by simp_all [fN,fR,fC],rfl⟩
 refine Ze<|JLn (Pu.eql rfl rfl)<|JAn rfl<|ZN rfl (fun h9=>?_) (fun h9=>?_)
 ·refine Ze<|JLq (pp b2 0) (ZcQ 0 XI ty4 rfl rfl (by decide) (by decide))<|JLr (Zb 0 (vs:=[.bool true]) (l:=[.bool true,.bool false,.bool false]) ty4 rfl rfl rfl rfl rfl (Zh rfl Zq) rfl<|Za<|Zd<|JLr (Zn Yq rfl (ZcK 0 rfl) rfl<|JLr (Zb 1 (vs:=[.bool true,.bool false,.bool false]) (l:=[.bool true,.bool false,.bool false]) Yq rfl rfl rfl rfl rfl (Zh rfl (Zh rfl (Zh rfl Zq))) rfl<|Za<|Zz<|⟨.agg ⟨[.bool true,.bool false,.bool false]⟩,[],Ret.one rfl (RV.cell Yq rfl (ZcK 1 rfl) rfl),Sub.nil,?_⟩)))
  exact ⟨by simp_all [fN,fR,fC],rfl⟩
 refine Zg<|Zd<|JLn (Pu.eql rfl rfl)<|JAn rfl<|ZN rfl (fun h10=>?_) (fun h10=>?_)
 ·refine Zo<|Zt rfl (fun _=>?_) (fun h11=>absurd h10 (df h11))
  refine Ze<|JLq (pp b2 0) (ZcQ 0 XI ty4 rfl rfl (by decide) (by decide))<|JLr (Zb 0 (vs:=[.bool true]) (l:=[.bool true,.bool false,.bool false]) ty4 rfl rfl rfl rfl rfl (Zh rfl Zq) rfl<|JLq (pp b2 1) (ZcQ 1 XI ty4 rfl rfl (by decide) (by decide))<|JLr (Zb 0 (vs:=[.bool true]) (l:=[.bool true,.bool true,.bool false]) ty4 rfl rfl rfl rfl rfl (Zh rfl Zq) rfl<|Za<|Zd<|JLr (Zn Yq rfl (ZcK 0 rfl) rfl<|JLr (Zb 1 (vs:=[.bool true,.bool true,.bool false]) (l:=[.bool true,.bool true,.bool false]) Yq rfl rfl rfl rfl rfl (Zh rfl (Zh rfl (Zh rfl Zq))) rfl<|Za<|Zz<|⟨.agg ⟨[.bool true,.bool true,.bool false]⟩,[],Ret.one rfl (RV.cell Yq rfl (ZcK 1 rfl) rfl),Sub.nil,?_⟩))))
  exact ⟨by simp_all [fN,fR,fC],rfl⟩
 refine Ze<|JLn (Pu.eql rfl rfl)<|JAn rfl<|ZN rfl (fun h12=>?_) (fun h12=>?_)
 ·refine Ze<|JLq (pp b2 0) (ZcQ 0 XI ty4 rfl rfl (by decide) (by decide))<|JLr (Zb 0 (vs:=[.bool true]) (l:=[.bool true,.bool false,.bool false]) ty4 rfl rfl rfl rfl rfl (Zh rfl Zq) rfl<|JLq (pp b2 1) (ZcQ 1 XI ty4 rfl rfl (by decide) (by decide))<|JLr (Zb 0 (vs:=[.bool true]) (l:=[.bool true,.bool true,.bool false]) ty4 rfl rfl rfl rfl rfl (Zh rfl Zq) rfl<|Za<|Zd<|JLr (Zn Yq rfl (ZcK 0 rfl) rfl<|JLr (Zb 1 (vs:=[.bool true,.bool true,.bool false]) (l:=[.bool true,.bool true,.bool false]) Yq rfl rfl rfl rfl rfl (Zh rfl (Zh rfl (Zh rfl Zq))) rfl<|Za<|Zz<|⟨.agg ⟨[.bool true,.bool true,.bool false]⟩,[],Ret.one rfl (RV.cell Yq rfl (ZcK 1 rfl) rfl),Sub.nil,?_⟩))))
  exact ⟨by simp_all [fN,fR,fC],rfl⟩
 refine Zg<|Zd<|JLn (Pu.eql rfl rfl)<|JAn rfl<|ZN rfl (fun h13=>?_) (fun h13=>?_)
 ·refine Zo<|Zt rfl (fun _=>?_) (fun h14=>absurd h13 (df h14))
  refine Ze<|JLq (pp b2 1) (ZcQ 1 XI ty4 rfl rfl (by decide) (by decide))<|JLr (Zb 0 (vs:=[.bool true]) (l:=[.bool false,.bool true,.bool false]) ty4 rfl rfl rfl rfl rfl (Zh rfl Zq) rfl<|Za<|Zd<|JLr (Zn Yq rfl (ZcK 0 rfl) rfl<|JLr (Zb 1 (vs:=[.bool false,.bool true,.bool false]) (l:=[.bool false,.bool true,.bool false]) Yq rfl rfl rfl rfl rfl (Zh rfl (Zh rfl (Zh rfl Zq))) rfl<|Za<|Zz<|⟨.agg ⟨[.bool false,.bool true,.bool false]⟩,[],Ret.one rfl (RV.cell Yq rfl (ZcK 1 rfl) rfl),Sub.nil,?_⟩)))
  exact ⟨by simp_all [fN,fR,fC],rfl⟩
 refine Ze<|JLn (Pu.eql rfl rfl)<|JAn rfl<|ZN rfl (fun h15=>?_) (fun h15=>?_)
 ·refine Ze<|JLq (pp b2 1) (ZcQ 1 XI ty4 rfl rfl (by decide) (by decide))<|JLr (Zb 0 (vs:=[.bool true]) (l:=[.bool false,.bool true,.bool false]) ty4 rfl rfl rfl rfl rfl (Zh rfl Zq) rfl<|Za<|Zd<|JLr (Zn Yq rfl (ZcK 0 rfl) rfl<|JLr (Zb 1 (vs:=[.bool false,.bool true,.bool false]) (l:=[.bool false,.bool true,.bool false]) Yq rfl rfl rfl rfl rfl (Zh rfl (Zh rfl (Zh rfl Zq))) rfl<|Za<|Zz<|⟨.agg ⟨[.bool false,.bool true,.bool false]⟩,[],Ret.one rfl (RV.cell Yq rfl (ZcK 1 rfl) rfl),Sub.nil,?_⟩)))
  exact ⟨by simp_all [fN,fR,fC],rfl⟩
 refine Zd<|JLn (Pu.eql rfl rfl)<|JAn rfl<|ZN rfl (fun h16=>?_) (fun h16=>?_)
 ·refine Ze<|JLq (pp b2 2) (ZcQ 2 XI ty4 rfl rfl (by decide) (by decide))<|JLr (Zb 0 (vs:=[.bool true]) (l:=[.bool false,.bool false,.bool true]) ty4 rfl rfl rfl rfl rfl (Zh rfl Zq) rfl<|Za<|Zd<|JLr (Zn Yq rfl (ZcK 0 rfl) rfl<|JLr (Zb 1 (vs:=[.bool false,.bool false,.bool true]) (l:=[.bool false,.bool false,.bool true]) Yq rfl rfl rfl rfl rfl (Zh rfl (Zh rfl (Zh rfl Zq))) rfl<|Za<|Zz<|⟨.agg ⟨[.bool false,.bool false,.bool true]⟩,[],Ret.one rfl (RV.cell Yq rfl (ZcK 1 rfl) rfl),Sub.nil,?_⟩)))
  exact ⟨by simp_all [fN,fR,fC],rfl⟩
 refine Zo<|Zd<|JLr (Zn Yq rfl (ZcK 0 rfl) rfl<|JLr (Zb 1 (vs:=[.bool false,.bool false,.bool false]) (l:=[.bool false,.bool false,.bool false]) Yq rfl rfl rfl rfl rfl (Zh rfl (Zh rfl (Zh rfl Zq))) rfl<|Za<|Zz<|⟨.agg ⟨[.bool false,.bool false,.bool false]⟩,[],Ret.one rfl (RV.cell Yq rfl (ZcK 1 rfl) rfl),Sub.nil,?_⟩))
 exact ⟨by simp_all [fN,fR,fC],rfl⟩
theorem VB (k:Int) (H:Heap):CT prog 236 ⟨[iv k]⟩ [] H (fun v N=>v=.agg ⟨[.bool (pfN k),.bool (pfR k),.bool false]⟩∧N=[]):=by
 refine Zl func236 rfl rfl<|Zd<|JLr (Zk (l:=[.bool false,.bool false,.bool false]) zeroValue235 rfl fun b1=>Za<|Zg<|Zd<|JLM rfl<|Za<|Zm<|Zg<|Ze ?_)
 refine JLn (Pu.eql rfl rfl)<|JAn rfl<|ZN rfl (fun h2=>?_) (fun h2=>?_)
 ·refine Zd<|JLq (.agg ⟨[.bool true,.bool false,.bool false]⟩) (Pu.build (pv:=[(0,.bool true),(1,.bool false),(2,.bool false)]) (l:=[.bool true,.bool false,.bool false]) rfl (Ue _ _ _))<|JLr (Zb 0 (vs:=[.bool true,.bool false,.bool false]) (l:=[.bool true,.bool false,.bool false]) Yq rfl rfl rfl rfl rfl (Zh rfl (Zh rfl (Zh rfl Zq))) rfl<|Za<|Zz<|⟨.agg ⟨[.bool true,.bool false,.bool false]⟩,[],Ret.one rfl (RV.cell Yq rfl (ZcK 0 rfl) rfl),Sub.nil,?_⟩)
  exact ⟨by simp_all [pfN,pfR],rfl⟩
 refine Zd<|JLn (Pu.eql rfl rfl)<|JAn rfl<|ZN rfl (fun h3=>?_) (fun h3=>?_)
 ·refine Zd<|JLq (.agg ⟨[.bool true,.bool true,.bool false]⟩) (Pu.build (pv:=[(0,.bool true),(1,.bool true),(2,.bool false)]) (l:=[.bool true,.bool true,.bool false]) rfl (Ue _ _ _))<|JLr (Zb 0 (vs:=[.bool true,.bool true,.bool false]) (l:=[.bool true,.bool true,.bool false]) Yq rfl rfl rfl rfl rfl (Zh rfl (Zh rfl (Zh rfl Zq))) rfl<|Za<|Zz<|⟨.agg ⟨[.bool true,.bool true,.bool false]⟩,[],Ret.one rfl (RV.cell Yq rfl (ZcK 0 rfl) rfl),Sub.nil,?_⟩)
  exact ⟨by simp_all [pfN,pfR],rfl⟩
 refine Zo<|Zd<|JLq (.agg ⟨[.bool false,.bool false,.bool false]⟩) (Pu.build (pv:=[]) (l:=[.bool false,.bool false,.bool false]) rfl BH)<|JLr (Zb 0 (vs:=[.bool false,.bool false,.bool false]) (l:=[.bool false,.bool false,.bool false]) Yq rfl rfl rfl rfl rfl (Zh rfl (Zh rfl (Zh rfl Zq))) rfl<|Za<|Zz<|⟨.agg ⟨[.bool false,.bool false,.bool false]⟩,[],Ret.one rfl (RV.cell Yq rfl (ZcK 0 rfl) rfl),Sub.nil,?_⟩)
 exact ⟨by simp_all [pfN,pfR],rfl⟩
theorem Pw (a b c:Bool) (n:Int) (r:Sm) (m:Int) (H:Heap):CT prog 212 ⟨[.agg ⟨[.bool a,.bool b,.bool c]⟩,iv n,.agg ⟨sC r⟩,iv m]⟩ [] H (fun v N=>v=.bool (Rv a b c n r m)∧N=[]):=by
 refine Zl func212 rfl rfl<|Zd<|JLr (Zr (l:=[.bool a,.bool b,.bool c]) rfl rfl fun b1=>JLr (Zr (l:=sC r) rfl rfl fun b2=>JAn rfl<|Zd<|JLM rfl<|JLn (Pu.neq rfl rfl)<|JLr (Zn Yv rfl (ZcK 0 rfl) (Zx rfl)<|JLq (.agg ⟨sC zS⟩) (Pu.build (pv:=[]) (l:=sC zS) rfl ZaP) ?_)))
 refine JLn (neqS rfl rfl)<|JLM rfl<|JLn (Pu.gtr rfl rfl)<|JLq (.agg ⟨[.bool (!decide (n=0)),.bool (!decide (r=zS)),.bool (decide (0<m))]⟩) (Pu.build (pv:=[(0,.bool (!decide (n=0))),(1,.bool (!decide (r=zS))),(2,.bool (decide (0<m)))]) (l:=[.bool (!decide (n=0)),.bool (!decide (r=zS)),.bool (decide (0<m))]) rfl (Ue _ _ _))<|JLr (Zk (l:=[.bool false,.bool false,.bool false]) zeroValue235 rfl fun b3=>JLr (Zb 0 (vs:=[.bool (!decide (n=0)),.bool (!decide (r=zS)),.bool (decide (0<m))]) (l:=[.bool (!decide (n=0)),.bool (!decide (r=zS)),.bool (decide (0<m))]) Yq rfl rfl rfl rfl rfl (Zh rfl (Zh rfl (Zh rfl Zq))) rfl<|Za<|Zd<|JLr (Zn Yq rfl (ZcK 0 rfl) rfl<|JLr (Zk (l:=[.bool false,.bool false,.bool false]) zeroValue235 rfl fun b4=>JLr (Zb 0 (vs:=[.bool (!decide (n=0)),.bool (!decide (r=zS)),.bool (decide (0<m))]) (l:=[.bool (!decide (n=0)),.bool (!decide (r=zS)),.bool (decide (0<m))]) Yq rfl rfl rfl rfl rfl (Zh rfl (Zh rfl (Zh rfl Zq))) rfl<|Za ?_)))))
 refine Zg<|Zd<|JLM rfl<|Za<|Zm<|Dw 4<|S4<|Zd<|JLq (.bool true) (show Pu _ _ _ (.bool (decide ((0:Int)<3))) from Pu.lss rfl rfl)<|Za<|Zg ?_
 refine Zt (b:=true) rfl (fun _=>?_) (fun h=>absurd h (by simp))
 refine Zo<|Zg<|Zm<|Zd<|JLM rfl<|JAn rfl<|Ze<|JLM rfl<|JLM rfl<|JLq (pp b3 0) (ZcQ 0 XI ty4 rfl rfl (by decide) (by decide))<|JLr (Zc ty4 rfl (ZcK 1 rfl) rfl ?_)
 refine JLM rfl<|ZK 3 [29,30,31] [(31,cond (!decide (n=0)) (.bool a) undef)] ?_ fun f6=>?_
 ·cases h5:(!decide (n=0)) with
  | true=>
   replace h5:=nt h5
   replace h5:=df h5
   refine JLM rfl<|JLq (pp b1 0) (ZcQ 0 XI ty4 rfl rfl (by decide) (by decide))<|JLr (Zc ty4 rfl (ZcK 3 rfl) rfl ?_)
   exact Za ⟨⟨rfl,trivial⟩,rfl⟩
  | false=>
   exact Z1 rfl ⟨rfl,trivial⟩
 refine JLn (ZcR rfl rfl rfl)<|JLq (pp b4 0) (ZcQ 0 XI ty4 rfl rfl (by decide) (by decide))<|JLr (Zb 0 (vs:=[.bool ((!decide (n=0))&&a)]) (l:=[.bool ((!decide (n=0))&&a),.bool (!decide (r=zS)),.bool (decide (0<m))]) ty4 rfl rfl rfl rfl rfl (Zh rfl Zq) rfl<|Za<|Ze<|JLq (iv 1) (Zc1 rfl rfl rfl)<|JLM rfl<|Za<|S4<|Zd<|JLq (.bool true) (show Pu _ _ _ (.bool (decide ((1:Int)<3))) from Pu.lss rfl rfl)<|Za ?_)
 refine Zg<|Zt (b:=true) rfl (fun _=>?_) (fun h=>absurd h (by simp))
 refine Zo<|Zg<|Zm<|Zd<|JLM rfl<|JAn rfl<|Ze<|JLM rfl<|JLM rfl<|JLq (pp b3 1) (ZcQ 1 XI ty4 rfl rfl (by decide) (by decide))<|JLr (Zc ty4 rfl (ZcK 1 rfl) rfl ?_)
 refine JLM rfl<|ZK 3 [29,30,31] [(31,cond (!decide (r=zS)) (.bool b) undef)] ?_ fun f8=>?_
 ·cases h7:(!decide (r=zS)) with
  | true=>
   replace h7:=nt h7
   replace h7:=df h7
   refine JLM rfl<|JLq (pp b1 1) (ZcQ 1 XI ty4 rfl rfl (by decide) (by decide))<|JLr (Zc ty4 rfl (ZcK 3 rfl) rfl ?_)
   exact Za ⟨⟨rfl,trivial⟩,rfl⟩
  | false=>
   exact Z1 rfl ⟨rfl,trivial⟩
 refine JLn (ZcR rfl rfl rfl)<|JLq (pp b4 1) (ZcQ 1 XI ty4 rfl rfl (by decide) (by decide))<|JLr (Zb 0 (vs:=[.bool ((!decide (r=zS))&&b)]) (l:=[.bool ((!decide (n=0))&&a),.bool ((!decide (r=zS))&&b),.bool (decide (0<m))]) ty4 rfl rfl rfl rfl rfl (Zh rfl Zq) rfl<|Za<|Ze<|JLq (iv 2) (Zc1 rfl rfl rfl)<|JLM rfl<|Za<|S4<|Zd<|JLq (.bool true) (show Pu _ _ _ (.bool (decide ((2:Int)<3))) from Pu.lss rfl rfl)<|Za ?_)
 refine Zg<|Zt (b:=true) rfl (fun _=>?_) (fun h=>absurd h (by simp))
 refine Zo<|Zg<|Zm<|Zd<|JLM rfl<|JAn rfl<|Ze<|JLM rfl<|JLM rfl<|JLq (pp b3 2) (ZcQ 2 XI ty4 rfl rfl (by decide) (by decide))<|JLr (Zc ty4 rfl (ZcK 1 rfl) rfl ?_)
 refine JLM rfl<|ZK 3 [29,30,31] [(31,cond (decide (0<m)) (.bool c) undef)] ?_ fun f10=>?_
 ·cases h9:(decide (0<m)) with
  | true=>
   replace h9:=dt h9
   refine JLM rfl<|JLq (pp b1 2) (ZcQ 2 XI ty4 rfl rfl (by decide) (by decide))<|JLr (Zc ty4 rfl (ZcK 3 rfl) rfl ?_)
   exact Za ⟨⟨rfl,trivial⟩,rfl⟩
  | false=>
   exact Z1 rfl ⟨rfl,trivial⟩
 refine JLn (ZcR rfl rfl rfl)<|JLq (pp b4 2) (ZcQ 2 XI ty4 rfl rfl (by decide) (by decide))<|JLr (Zb 0 (vs:=[.bool ((decide (0<m))&&c)]) (l:=[.bool ((!decide (n=0))&&a),.bool ((!decide (r=zS))&&b),.bool ((decide (0<m))&&c)]) ty4 rfl rfl rfl rfl rfl (Zh rfl Zq) rfl<|Za<|Ze<|JLq (iv 3) (Zc1 rfl rfl rfl)<|JLM rfl<|Za<|S4<|Zd<|JLq (.bool false) (show Pu _ _ _ (.bool (decide ((3:Int)<3))) from Pu.lss rfl rfl)<|Za ?_)
 refine Zg<|Zt (b:=false) rfl (fun h=>absurd h (by simp)) (fun _=>ZC _ rfl<|Zd<|JLr (Zn Yq rfl (ZcK 0 rfl) rfl<|JLr (Zn Yq rfl (ZcK 1 rfl) rfl<|JLq (.bool (!((((!decide (n=0))&&a)==(!decide (n=0)))&&((((!decide (r=zS))&&b)==(!decide (r=zS)))&&(((decide (0<m))&&c)==(decide (0<m))))))) (ZbG rfl rfl)<|JAn rfl<|ZE (.bool (!((((!decide (n=0))&&a)==(!decide (n=0)))&&((((!decide (r=zS))&&b)==(!decide (r=zS)))&&(((decide (0<m))&&c)==(decide (0<m))))))) [] Sub.nil (?_))))
 exact ⟨by unfold Rv;congr 1;cases a <;> cases b <;> cases c <;> simp,rfl⟩
theorem FX (k n:Int) (H:Heap):CT prog 213 ⟨[iv k,iv n]⟩ [] H (fun v N=>v=.bool (Vf k n)∧N=[]):=by
 refine Zl func213 rfl rfl<|Zd<|JAn rfl<|Zg<|Zd<|JLM rfl<|Za<|Zm<|Zg<|Zg ?_
 refine Ze<|JLn (Pu.eql rfl rfl)<|JAn rfl<|ZN rfl (fun h1=>?_) (fun h1=>?_)
 ·refine Zo<|Zt rfl (fun _=>?_) (fun h2=>absurd h1 (df h2))
  refine Zd<|JLM rfl<|JLn (Pu.eql rfl rfl)<|JAn rfl<|ZE (.bool (decide (n=1))) [] Sub.nil (?_)
  exact ⟨by simp_all [Vf],rfl⟩
 refine Zd<|JLn (Pu.eql rfl rfl)<|JAn rfl<|ZN rfl (fun h3=>?_) (fun h3=>?_)
 ·refine Zo<|Zt rfl (fun _=>?_) (fun h4=>absurd h3 (df h4))
  refine Zd<|JLM rfl<|JLn (Pu.eql rfl rfl)<|JAn rfl<|ZE (.bool (decide (n=1))) [] Sub.nil (?_)
  exact ⟨by simp_all [Vf],rfl⟩
 refine Ze<|JLn (Pu.eql rfl rfl)<|JAn rfl<|ZN rfl (fun h5=>?_) (fun h5=>?_)
 ·refine Zd<|JLM rfl<|JLn (Pu.eql rfl rfl)<|JAn rfl<|ZE (.bool (decide (n=1))) [] Sub.nil (?_)
  exact ⟨by simp_all [Vf],rfl⟩
 refine Zg<|Zd<|JLn (Pu.eql rfl rfl)<|JAn rfl<|ZN rfl (fun h6=>?_) (fun h6=>?_)
 ·refine Zo<|Zt rfl (fun _=>?_) (fun h7=>absurd h6 (df h7))
  refine Zd<|JLM rfl<|JLn (Pu.eql rfl rfl)<|JAn rfl<|ZE (.bool (decide (n=2))) [] Sub.nil (?_)
  exact ⟨by simp_all [Vf],rfl⟩
 refine Zd<|JLn (Pu.eql rfl rfl)<|JAn rfl<|ZN rfl (fun h8=>?_) (fun h8=>?_)
 ·refine Zo<|Zt rfl (fun _=>?_) (fun h9=>absurd h8 (df h9))
  refine Zd<|JLM rfl<|JLn (Pu.eql rfl rfl)<|JAn rfl<|ZE (.bool (decide (n=2))) [] Sub.nil (?_)
  exact ⟨by simp_all [Vf],rfl⟩
 refine Ze<|JLn (Pu.eql rfl rfl)<|JAn rfl<|ZN rfl (fun h10=>?_) (fun h10=>?_)
 ·refine Zd<|JLM rfl<|JLn (Pu.eql rfl rfl)<|JAn rfl<|ZE (.bool (decide (n=2))) [] Sub.nil (?_)
  exact ⟨by simp_all [Vf],rfl⟩
 refine Zd<|JLn (Pu.eql rfl rfl)<|JAn rfl<|ZN rfl (fun h11=>?_) (fun h11=>?_)
 ·refine Zd<|JLM rfl<|JLn (Pu.leq rfl rfl)<|JAn rfl<|ZE (.bool (decide (n≤4))) [] Sub.nil (?_)
  exact ⟨by simp_all [Vf],rfl⟩
 refine Zd<|JLn (Pu.eql rfl rfl)<|JAn rfl<|ZN rfl (fun h12=>?_) (fun h12=>?_)
 ·refine Zd<|JLM rfl<|Jc call211 rfl (fun hin=>XP _ _ _ _) rfl ?_
  rintro _ _ ⟨rfl,rfl⟩
  refine JLn (Pu.not rfl)<|JAn rfl<|ZE (.bool (!(decide (n<2∨10<n)))) [] Sub.nil (?_)
  exact ⟨by simp_all [Vf],rfl⟩
 refine Zo<|Zd<|JLM rfl<|JLn (Pu.eql rfl rfl)<|JAn rfl<|ZE (.bool (decide (n=0))) [] Sub.nil (?_)
 exact ⟨by simp_all [Vf],rfl⟩
theorem R6 (kind num:Int) (ref:Sm) (ks:Value) (kids:List Pt) (H:Heap) (hks:rdS RP 35 H ks kids):CT prog 214 ⟨[.agg ⟨pkP kind num ref ks⟩]⟩ [] H (fun v N=>v=iv (VE kind num ref kids.length)∧N=[]):=by
 refine Zl func214 rfl rfl<|Zd<|JLr (Zr (l:=pkP kind num ref ks) rfl rfl fun b1=>JAn rfl<|Zd<|JAn rfl<|Zg<|Zg<|Ze ?_)
 refine JLq (pp b1 0) (Xa rfl rfl)<|JLr (Zc ty3 rfl (ZcK 0 rfl) (Wu ..)<|JLn (Pu.eql rfl rfl)<|Za<|ZN rfl (fun h2=>?_) (fun h2=>?_))
 ·refine Ze<|JAn rfl<|Zg<|Zm<|Zd<|JLq (pp b1 0) (Xa rfl rfl)<|JLr (Zc ty3 rfl (ZcK 0 rfl) (Wu ..)<|Jc call211 rfl (fun hin=>XP _ _ _ _) rfl ?_)
  rintro _ _ ⟨rfl,rfl⟩
  refine JAn rfl<|ZN rfl (fun h3=>?_) (fun h3=>?_)
  ·refine Zd<|JAn rfl<|ZE (iv 3) [] Sub.nil (?_)
   exact ⟨by refine congrArg (Value.int .i64) ?_;simp only [VE];(repeat' split) <;> first | omega | grind,rfl⟩
  refine Zg<|ZM mixed #[0,1,3,0,8,0,32,127,255] 7 (sm 12 7) [] [(2,fun _ _ vw qw=>vw=.agg ⟨[.bool (pfN kind),.bool (pfR kind),.bool false]⟩∧qw=[])] rfl (by kernel_rfl) rfl (by kernel_rfl)<|Dq (pp b1 0) (fun _=>Xa rfl rfl)<|Dl1 ty3 (ZcK 0 rfl) (Wu ..)<|Dc rfl call236 (fun _=>rfl) (fun hin=>VB _ _) ?_
  rintro _ _ ⟨rfl,rfl⟩
  refine Dq (pp b1 1) (fun _=>WE rfl rfl)<|Dl1 ty3 (ZcK 0 rfl) (Sa ..)<|Dq (pp b1 2) (fun _=>SH rfl rfl)<|Dl Yv (ZcK 0 rfl) (Mk ..)<|ZX (M':=[(BX b1 (pkP kind num ref ks) 115)]) rfl ?_
  show JL _ _ _ [_,_] _ _ _
  refine Jc call212 rfl (fun hin=>Pw _ _ _ _ _ _ _) rfl ?_
  rintro _ _ ⟨rfl,rfl⟩
  refine JAn rfl<|Zt rfl (fun h4=>?_) (fun h4=>?_)
  ·refine Zd<|JAn rfl<|ZE (iv 7) [] Sub.nil (?_)
   exact ⟨by refine congrArg (Value.int .i64) ?_;simp only [VE];(repeat' split) <;> first | omega | grind,rfl⟩
  refine Zd<|JLq (pp b1 34) (YG rfl rfl)<|JLr (Zc XF rfl (ZcK 0 rfl) (XO ..) ?_)
  obtain ⟨a5,cap5,hv5⟩:=hks.sl
  have hle5:=hks.le
  refine JLn (ZcM YX hv5)<|JLM rfl<|JLn (Pu.gtr rfl rfl)<|JAn rfl<|ZN rfl (fun h6=>?_) (fun h6=>?_)
  ·refine Zd<|JAn rfl<|ZE (iv 2) [] Sub.nil (?_)
   exact ⟨by refine congrArg (Value.int .i64) ?_;simp only [VE];(repeat' split) <;> first | omega | grind,rfl⟩
  refine Zg<|Zd<|JLq (pp b1 0) (Xa rfl rfl)<|JLr (Zc ty3 rfl (ZcK 0 rfl) (Wu ..)<|JLn (Pu.eql rfl rfl)<|JLM rfl<|ZK 3 [31,32,33] [(33,cond (decide (kind=2)) (.bool (decide (num<0∨1073741824<num))) undef)] ?_ fun f8=>?_)
  ·cases h7:(decide (kind=2)) with
   | true=>
    replace h7:=dt h7
    refine JLq (pp b1 1) (WE rfl rfl)<|JLr (Zc ty3 rfl (ZcK 0 rfl) (Sa ..)<|Jc call211 rfl (fun hin=>XP _ _ _ _) rfl ?_)
    rintro _ _ ⟨rfl,rfl⟩
    exact Za ⟨⟨rfl,trivial⟩,rfl⟩
   | false=>
    exact Z1 rfl ⟨rfl,trivial⟩
  refine JLn (ZcR rfl rfl rfl)<|JAn rfl<|Zt rfl (fun h9=>?_) (fun h9=>?_)
  ·obtain ⟨h9a,h9b⟩:=Xx h9
   replace h9a:=dt h9a
   replace h9b:=dt h9b
   refine Zo<|Zt rfl (fun h10=>?_) (fun h10=>?_)
   ·obtain ⟨h10a,h10b⟩:=Xx h10
    replace h10a:=dt h10a
    replace h10b:=dt h10b
    refine Zd<|JAn rfl<|ZE (iv 3) [] Sub.nil (?_)
    exact ⟨by refine congrArg (Value.int .i64) ?_;simp only [VE];(repeat' split) <;> first | omega | grind,rfl⟩
   refine Zo<|Zd<|JAn rfl<|ZE (iv 0) [] Sub.nil (?_)
   exact ⟨by refine congrArg (Value.int .i64) ?_;simp only [VE];(repeat' split) <;> first | omega | grind,rfl⟩
  refine Ze<|JLq (pp b1 0) (Xa rfl rfl)<|JLr (Zc ty3 rfl (ZcK 0 rfl) (Wu ..)<|JLn (Pu.eql rfl rfl)<|JLM rfl<|ZK 3 [39,40,41] [(41,cond (decide (kind=3)) (.bool (decide (num<0∨7<num))) undef)] ?_ fun f12=>?_)
  ·cases h11:(decide (kind=3)) with
   | true=>
    replace h11:=dt h11
    refine JLq (pp b1 1) (WE rfl rfl)<|JLr (Zc ty3 rfl (ZcK 0 rfl) (Sa ..)<|Jc call211 rfl (fun hin=>XP _ _ _ _) rfl ?_)
    rintro _ _ ⟨rfl,rfl⟩
    exact Za ⟨⟨rfl,trivial⟩,rfl⟩
   | false=>
    exact Z1 rfl ⟨rfl,trivial⟩
  refine JLn (ZcR rfl rfl rfl)<|JAn rfl<|Zt rfl (fun h13=>?_) (fun h13=>?_)
  ·obtain ⟨h13a,h13b⟩:=Xx h13
   replace h13a:=dt h13a
   replace h13b:=dt h13b
   refine Zd<|JAn rfl<|ZE (iv 3) [] Sub.nil (?_)
   exact ⟨by refine congrArg (Value.int .i64) ?_;simp only [VE];(repeat' split) <;> first | omega | grind,rfl⟩
  refine Zo<|Zd<|JAn rfl<|ZE (iv 0) [] Sub.nil (?_)
  exact ⟨by refine congrArg (Value.int .i64) ?_;simp only [VE];(repeat' split) <;> first | omega | grind,rfl⟩
 refine Zo<|Zg<|Zm<|Zd<|JLq (pp b1 0) (Xa rfl rfl)<|JLr (Zc ty3 rfl (ZcK 0 rfl) (Wu ..)<|Jc call211 rfl (fun hin=>XP _ _ _ _) rfl ?_)
 rintro _ _ ⟨rfl,rfl⟩
 refine JAn rfl<|ZN rfl (fun h14=>?_) (fun h14=>?_)
 ·refine Zd<|JAn rfl<|ZE (iv 3) [] Sub.nil (?_)
  exact ⟨by refine congrArg (Value.int .i64) ?_;simp only [VE];(repeat' split) <;> first | omega | grind,rfl⟩
 refine Zg<|ZM mixed #[0,1,3,0,8,0,32,127,255] 7 (sm 12 7) [] [(2,fun _ _ vw qw=>vw=.agg ⟨[.bool (pfN kind),.bool (pfR kind),.bool false]⟩∧qw=[])] rfl (by kernel_rfl) rfl (by kernel_rfl)<|Dq (pp b1 0) (fun _=>Xa rfl rfl)<|Dl1 ty3 (ZcK 0 rfl) (Wu ..)<|Dc rfl call236 (fun _=>rfl) (fun hin=>VB _ _) ?_
 rintro _ _ ⟨rfl,rfl⟩
 refine Dq (pp b1 1) (fun _=>WE rfl rfl)<|Dl1 ty3 (ZcK 0 rfl) (Sa ..)<|Dq (pp b1 2) (fun _=>SH rfl rfl)<|Dl Yv (ZcK 0 rfl) (Mk ..)<|ZX (M':=[(BX b1 (pkP kind num ref ks) 115)]) rfl ?_
 show JL _ _ _ [_,_] _ _ _
 refine Jc call212 rfl (fun hin=>Pw _ _ _ _ _ _ _) rfl ?_
 rintro _ _ ⟨rfl,rfl⟩
 refine JAn rfl<|Zt rfl (fun h15=>?_) (fun h15=>?_)
 ·refine Zd<|JAn rfl<|ZE (iv 7) [] Sub.nil (?_)
  exact ⟨by refine congrArg (Value.int .i64) ?_;simp only [VE];(repeat' split) <;> first | omega | grind,rfl⟩
 refine Zd<|JLq (pp b1 34) (YG rfl rfl)<|JLr (Zc XF rfl (ZcK 0 rfl) (XO ..) ?_)
 obtain ⟨a16,cap16,hv16⟩:=hks.sl
 have hle16:=hks.le
 refine JLn (ZcM YX hv16)<|JLM rfl<|JLn (Pu.gtr rfl rfl)<|JAn rfl<|ZN rfl (fun h17=>?_) (fun h17=>?_)
 ·refine Zd<|JAn rfl<|ZE (iv 2) [] Sub.nil (?_)
  exact ⟨by refine congrArg (Value.int .i64) ?_;simp only [VE];(repeat' split) <;> first | omega | grind,rfl⟩
 refine Zg<|Zd<|JLq (pp b1 0) (Xa rfl rfl)<|JLr (Zc ty3 rfl (ZcK 0 rfl) (Wu ..)<|JLn (Pu.eql rfl rfl)<|JLM rfl<|ZK 3 [31,32,33] [(33,cond (decide (kind=2)) (.bool (decide (num<0∨1073741824<num))) undef)] ?_ fun f19=>?_)
 ·cases h18:(decide (kind=2)) with
  | true=>
   replace h18:=dt h18
   refine JLq (pp b1 1) (WE rfl rfl)<|JLr (Zc ty3 rfl (ZcK 0 rfl) (Sa ..)<|Jc call211 rfl (fun hin=>XP _ _ _ _) rfl ?_)
   rintro _ _ ⟨rfl,rfl⟩
   exact Za ⟨⟨rfl,trivial⟩,rfl⟩
  | false=>
   exact Z1 rfl ⟨rfl,trivial⟩
 refine JLn (ZcR rfl rfl rfl)<|JAn rfl<|Zt rfl (fun h20=>?_) (fun h20=>?_)
 ·obtain ⟨h20a,h20b⟩:=Xx h20
  replace h20a:=dt h20a
  replace h20b:=dt h20b
  refine Zo<|Zt rfl (fun h21=>?_) (fun h21=>?_)
  ·obtain ⟨h21a,h21b⟩:=Xx h21
   replace h21a:=dt h21a
   replace h21b:=dt h21b
   refine Zd<|JAn rfl<|ZE (iv 3) [] Sub.nil (?_)
   exact ⟨by refine congrArg (Value.int .i64) ?_;simp only [VE];(repeat' split) <;> first | omega | grind,rfl⟩
  refine Zo<|Zd<|JAn rfl<|ZE (iv 0) [] Sub.nil (?_)
  exact ⟨by refine congrArg (Value.int .i64) ?_;simp only [VE];(repeat' split) <;> first | omega | grind,rfl⟩
 refine Ze<|JLq (pp b1 0) (Xa rfl rfl)<|JLr (Zc ty3 rfl (ZcK 0 rfl) (Wu ..)<|JLn (Pu.eql rfl rfl)<|JLM rfl<|ZK 3 [39,40,41] [(41,cond (decide (kind=3)) (.bool (decide (num<0∨7<num))) undef)] ?_ fun f23=>?_)
 ·cases h22:(decide (kind=3)) with
  | true=>
   replace h22:=dt h22
   refine JLq (pp b1 1) (WE rfl rfl)<|JLr (Zc ty3 rfl (ZcK 0 rfl) (Sa ..)<|Jc call211 rfl (fun hin=>XP _ _ _ _) rfl ?_)
   rintro _ _ ⟨rfl,rfl⟩
   exact Za ⟨⟨rfl,trivial⟩,rfl⟩
  | false=>
   exact Z1 rfl ⟨rfl,trivial⟩
 refine JLn (ZcR rfl rfl rfl)<|JAn rfl<|Zt rfl (fun h24=>?_) (fun h24=>?_)
 ·obtain ⟨h24a,h24b⟩:=Xx h24
  replace h24a:=dt h24a
  replace h24b:=dt h24b
  refine Zd<|JAn rfl<|ZE (iv 3) [] Sub.nil (?_)
  exact ⟨by refine congrArg (Value.int .i64) ?_;simp only [VE];(repeat' split) <;> first | omega | grind,rfl⟩
 refine Zo<|Zd<|JAn rfl<|ZE (iv 0) [] Sub.nil (?_)
 exact ⟨by refine congrArg (Value.int .i64) ?_;simp only [VE];(repeat' split) <;> first | omega | grind,rfl⟩
theorem Rg:∀ (p:Pt) (cs:List Value) (H:Heap),RP H cs p→CT prog 188 ⟨[.agg ⟨cs⟩]⟩ [] H (fun v N=>v=iv (VD p)∧N=[]):=by
 intro p
 induction p using Pt.ind with
 | h kind num ref kids ih=>
 intro cs H hp
 obtain ⟨ks,rfl,hk,hn,hks⟩:=RP_mk.1 hp
 refine Zl func188 rfl rfl<|Zd<|JLr (Zr (l:=pkP kind num ref ks) rfl rfl fun b1=>JAn rfl<|Zd<|JLr (Zn ZO rfl (ZcK 0 rfl) (Ve ..)<|Jc call214 rfl (fun hin=>R6 _ _ _ _ _ _ (RPs.mono (Hle.hu _ _) hks)) rfl ?_))
 rintro _ _ ⟨rfl,rfl⟩
 refine JAn rfl<|Zg<|Zd<|JAn rfl<|Zm<|ZD (fun k ρ M=>∃ (j:Nat) (e:Int),Z7 ρ [(1,pp b1 0),(2,iv 0),(3,iv e),(4,iv ((j:Int)))]=ρ∧Sub [(BX b1 (pkP kind num ref ks) 115)] M∧j≤kids.length∧(if e=0 then Ri (kids.drop j) else e)=VD (.mk kind num ref kids)∧k=kids.length-j) _ ⟨0,(VE kind num ref kids.length),Zp rfl,(Sk Sub.nil),Nat.zero_le _,(by rw [VD];rfl),rfl⟩ ?_
 rintro _ ρ2 _ ⟨j,e,e3,hm7,hj,hinv,rfl⟩
 obtain ⟨ρ8,rfl⟩:=Zi e3
 clear e3
 refine ZF hm7 ?_
 have hlen:=hks.le
 refine Zg<|Zd<|JLM rfl<|JLq (pp b1 34) (YG rfl rfl)<|JLr (Zc XF rfl (ZcK 0 rfl) (XO ..) ?_)
 obtain ⟨a9,cap9,hv9⟩:=hks.sl
 have hle9:=hks.le
 refine JLn (ZcM YX hv9)<|JLn (Pu.lss rfl rfl)<|JLM rfl<|ZK 2 [13,14] [(14,cond (decide ((j:Int)<(kids.length:Int))) (.bool (decide (e=0))) undef)] ?_ fun f11=>?_
 ·cases h10:(decide ((j:Int)<(kids.length:Int))) with
  | true=>
   replace h10:=dt h10
   have h10n:j<kids.length:=by omega
   refine JLM rfl<|JLn (Pu.eql rfl rfl) ?_
   exact Za ⟨⟨rfl,trivial⟩,rfl⟩
  | false=>
   exact Z1 rfl ⟨rfl,trivial⟩
 refine JLn (ZcR rfl rfl rfl)<|Za<|Zt rfl (fun h12=>?_) (fun h12=>?_)
 ·obtain ⟨h12a,h12b⟩:=Xx h12
  replace h12a:=dt h12a
  have h12an:j<kids.length:=by omega
  replace h12b:=dt h12b
  refine Zo<|Zg<|Zm<|Ze<|JLq (pp b1 34) (YG rfl rfl)<|JLr (Zc XF rfl (ZcK 0 rfl) (XO ..)<|JLM rfl ?_)
  obtain ⟨b13,o13,cap13,row13,T13,fr13,cs13,hv13,hb13,hs13,hE13⟩:=hks.get j (by omega)
  refine JLn (Pu.idx j YX ZO hv13 rfl rfl (by omega))<|JLr (Zn ZO rfl (ZcN hb13) hs13<|Jc call188 rfl (fun hin=>ih _ (getElem_mem h12an) _ _ (RP.mono (Hle.hu _ _) hE13)) rfl ?_)
  rintro _ _ ⟨rfl,rfl⟩
  refine JAn rfl<|Ze<|JLM rfl<|JLn (ZcP rfl rfl (by omega))<|JAn rfl<|⟨_,?_,(j+1),(VD (kids[j])),Zp rfl,(Sk Sub.nil),?_,?_,rfl⟩
  ·omega
  ·omega
  rw [if_pos (by assumption),Wv h12an,Ri] at hinv;exact hinv
 refine ZC _ rfl<|Zd<|JLM rfl<|JAn rfl<|ZE (iv e) [] Sub.nil (?_)
 refine ⟨?_,rfl⟩
 rw [← hinv];by_cases he:e=0
 ·have hj2:kids.length≤j:=by
   apply Nat.le_of_not_lt;intro hlt;have:(j:Int)<(kids.length:Int):=by omega
   simp_all
  rw [if_pos he,SM hj2,he];rfl
 rw [if_neg he]
theorem CM (g:Nat) (fs cv:List Value) (hcall:∀ args w,(callFunc g args).run prog w=.ok (.enter g args) w) {σ:Type} (Sc:σ→Zf) (Inv:σ→Prop) (step:Pt→σ→Bool×σ) (l:List Pt) (v:Value) (H:Heap) (hl:rdS RP 35 H v l) (s0:σ) (h0:Inv s0) (hI:∀ x∈l,∀ s,Inv s→(step x s).1=false→Inv (step x s).2) (hg:∀ x∈l,∀ s,Inv s→∀ a h,Hle H h→RP h a x→CT prog g ⟨fs++[.agg ⟨a⟩]++cv⟩ [Sc s] h (fun v N=>v=.bool (step x s).1∧N=[Sc (step x s).2])):CT prog 114 ⟨[v,.func (.func g) ⟨fs⟩ ⟨cv⟩]⟩ [Sc s0] H (fun v N=>v=iv (idxS step l 0 s0).1∧N=[Sc (idxS step l 0 s0).2]):=by
 refine Zl func114 rfl rfl<|Zd<|JAn rfl<|Zg<|Zd<|JLm v ?_
 obtain ⟨a1,cap1,hv1⟩:=hl.sl
 have hle1:=hl.le
 refine JLn (ZcM YX hv1)<|JLM rfl<|Za<|Zm<|ZD (fun k ρ M=>∃ (j:Nat) (s:σ),Z7 ρ [(0,v),(1,.func (.func g) ⟨fs⟩ ⟨cv⟩),(4,iv 0),(7,iv ((l.length:Int))),(8,iv ((j:Int)))]=ρ∧Sub [Sc s] M∧j≤l.length∧Inv s∧idxS step (l.drop j) j s=idxS step l 0 s0∧k=l.length-j) _ ⟨0,s0,Zp rfl,(Sk Sub.nil),Nat.zero_le _,h0,rfl,rfl⟩ ?_
 rintro _ ρ2 _ ⟨j,s,e3,hm8,hj,hs,hinv,rfl⟩
 obtain ⟨ρ9,rfl⟩:=Zi e3
 clear e3
 refine ZF hm8<|Zd<|JLn (Pu.lss rfl rfl)<|Za<|Zg<|ZN rfl (fun h10=>?_) (fun h10=>?_)
 ·have h10n:j<l.length:=by omega
  have hlenl:=hl.le
  refine Zo<|Zg<|Zm<|Zd<|JLM rfl<|JAn rfl<|Zd<|JLM rfl<|JLm v<|JLM rfl ?_
  obtain ⟨b11,o11,cap11,row11,T11,fr11,cs11,hv11,hb11,hs11,hE11⟩:=hl.get j (by omega)
  refine JLn (Pu.idx j YX ZO hv11 rfl rfl (by omega))<|JLr (Zn ZO rfl (ZcN hb11) hs11<|Zs 0 rfl hcall rfl rfl (fun hin=>hg _ (getElem_mem h10n) _ hs _ _ (Hle.hu _ _) (RP.mono (Hle.hu _ _) hE11)) rfl ?_)
  rintro _ _ ⟨rfl,rfl⟩
  refine Za<|Zt rfl (fun h12=>?_) (fun h12=>?_)
  ·refine Zd<|JLM rfl<|JAn rfl<|ZE (iv ((j:Int))) [Sc (step (l[j]) s).2] (Sk Sub.nil) (?_)
   refine ⟨?_,?_⟩ <;> rw [← hinv,Wv h10n,idxS,if_pos h12]
  refine Zo<|Ze<|JLn (ZcP rfl rfl (by omega))<|JLM rfl<|Za<|⟨_,?_,(j+1),((step (l[j]) s).2),Zp rfl,(Sk Sub.nil),?_,?_,?_,rfl⟩
  ·omega
  ·omega
  ·exact hI _ (getElem_mem h10n) s hs h12
  rw [Wv h10n,idxS,if_neg (by simp [h12])] at hinv;exact hinv
 have h10n:l.length≤j:=by omega
 refine ZC _ rfl<|Zd<|JAn rfl<|ZE (iv (-1)) [Sc s] (Sk Sub.nil) (?_)
 refine ⟨?_,?_⟩ <;> rw [← hinv,SM h10n] <;> rfl
theorem CL (g:Nat) (fs cv:List Value) (hcall:∀ args w,(callFunc g args).run prog w=.ok (.enter g args) w) {σ:Type} (Sc:σ→Zf) (Inv:σ→Prop) (step:Tm→σ→Bool×σ) (l:List Tm) (v:Value) (H:Heap) (hl:rdS RT 36 H v l) (s0:σ) (h0:Inv s0) (hI:∀ x∈l,∀ s,Inv s→(step x s).1=false→Inv (step x s).2) (hg:∀ x∈l,∀ s,Inv s→∀ a h,Hle H h→RT h a x→CT prog g ⟨fs++[.agg ⟨a⟩]++cv⟩ [Sc s] h (fun v N=>v=.bool (step x s).1∧N=[Sc (step x s).2])):CT prog 68 ⟨[v,.func (.func g) ⟨fs⟩ ⟨cv⟩]⟩ [Sc s0] H (fun v N=>v=iv (idxS step l 0 s0).1∧N=[Sc (idxS step l 0 s0).2]):=by
 refine Zl func68 rfl rfl<|Zd<|JAn rfl<|Zg<|Zd<|JLm v ?_
 obtain ⟨a1,cap1,hv1⟩:=hl.sl
 have hle1:=hl.le
 refine JLn (ZcM ZI hv1)<|JLM rfl<|Za<|Zm<|ZD (fun k ρ M=>∃ (j:Nat) (s:σ),Z7 ρ [(0,v),(1,.func (.func g) ⟨fs⟩ ⟨cv⟩),(4,iv 0),(7,iv ((l.length:Int))),(8,iv ((j:Int)))]=ρ∧Sub [Sc s] M∧j≤l.length∧Inv s∧idxS step (l.drop j) j s=idxS step l 0 s0∧k=l.length-j) _ ⟨0,s0,Zp rfl,(Sk Sub.nil),Nat.zero_le _,h0,rfl,rfl⟩ ?_
 rintro _ ρ2 _ ⟨j,s,e3,hm8,hj,hs,hinv,rfl⟩
 obtain ⟨ρ9,rfl⟩:=Zi e3
 clear e3
 refine ZF hm8<|Zd<|JLn (Pu.lss rfl rfl)<|Za<|Zg<|ZN rfl (fun h10=>?_) (fun h10=>?_)
 ·have h10n:j<l.length:=by omega
  have hlenl:=hl.le
  refine Zo<|Zg<|Zm<|Zd<|JLM rfl<|JAn rfl<|Zd<|JLM rfl<|JLm v<|JLM rfl ?_
  obtain ⟨b11,o11,cap11,row11,T11,fr11,cs11,hv11,hb11,hs11,hE11⟩:=hl.get j (by omega)
  refine JLn (Pu.idx j ZI Zu hv11 rfl rfl (by omega))<|JLr (Zn Zu rfl (ZcN hb11) hs11<|Zs 0 rfl hcall rfl rfl (fun hin=>hg _ (getElem_mem h10n) _ hs _ _ (Hle.hu _ _) (RT.mono (Hle.hu _ _) hE11)) rfl ?_)
  rintro _ _ ⟨rfl,rfl⟩
  refine Za<|Zt rfl (fun h12=>?_) (fun h12=>?_)
  ·refine Zd<|JLM rfl<|JAn rfl<|ZE (iv ((j:Int))) [Sc (step (l[j]) s).2] (Sk Sub.nil) (?_)
   refine ⟨?_,?_⟩ <;> rw [← hinv,Wv h10n,idxS,if_pos h12]
  refine Zo<|Ze<|JLn (ZcP rfl rfl (by omega))<|JLM rfl<|Za<|⟨_,?_,(j+1),((step (l[j]) s).2),Zp rfl,(Sk Sub.nil),?_,?_,?_,rfl⟩
  ·omega
  ·omega
  ·exact hI _ (getElem_mem h10n) s hs h12
  rw [Wv h10n,idxS,if_neg (by simp [h12])] at hinv;exact hinv
 have h10n:l.length≤j:=by omega
 refine ZC _ rfl<|Zd<|JAn rfl<|ZE (iv (-1)) [Sc s] (Sk Sub.nil) (?_)
 refine ⟨?_,?_⟩ <;> rw [← hinv,SM h10n] <;> rfl
theorem CO (g:Nat) (fs cv:List Value) (hcall:∀ args w,(callFunc g args).run prog w=.ok (.enter g args) w) {σ:Type} (Sc:σ→Zf) (Inv:σ→Prop) (step:(Pt×Tm)→σ→Bool×σ) (l:List (Pt×Tm)) (v:Value) (H:Heap) (hl:rdS RC 71 H v l) (s0:σ) (h0:Inv s0) (hI:∀ x∈l,∀ s,Inv s→(step x s).1=false→Inv (step x s).2) (hg:∀ x∈l,∀ s,Inv s→∀ a h,Hle H h→RC h a x→CT prog g ⟨fs++[.agg ⟨a⟩]++cv⟩ [Sc s] h (fun v N=>v=.bool (step x s).1∧N=[Sc (step x s).2])):CT prog 115 ⟨[v,.func (.func g) ⟨fs⟩ ⟨cv⟩]⟩ [Sc s0] H (fun v N=>v=iv (idxS step l 0 s0).1∧N=[Sc (idxS step l 0 s0).2]):=by
 refine Zl func115 rfl rfl<|Zd<|JAn rfl<|Zg<|Zd<|JLm v ?_
 obtain ⟨a1,cap1,hv1⟩:=hl.sl
 have hle1:=hl.le
 refine JLn (ZcM Xp hv1)<|JLM rfl<|Za<|Zm<|ZD (fun k ρ M=>∃ (j:Nat) (s:σ),Z7 ρ [(0,v),(1,.func (.func g) ⟨fs⟩ ⟨cv⟩),(4,iv 0),(7,iv ((l.length:Int))),(8,iv ((j:Int)))]=ρ∧Sub [Sc s] M∧j≤l.length∧Inv s∧idxS step (l.drop j) j s=idxS step l 0 s0∧k=l.length-j) _ ⟨0,s0,Zp rfl,(Sk Sub.nil),Nat.zero_le _,h0,rfl,rfl⟩ ?_
 rintro _ ρ2 _ ⟨j,s,e3,hm8,hj,hs,hinv,rfl⟩
 obtain ⟨ρ9,rfl⟩:=Zi e3
 clear e3
 refine ZF hm8<|Zd<|JLn (Pu.lss rfl rfl)<|Za<|Zg<|ZN rfl (fun h10=>?_) (fun h10=>?_)
 ·have h10n:j<l.length:=by omega
  have hlenl:=hl.le
  refine Zo<|Zg<|Zm<|Zd<|JLM rfl<|JAn rfl<|Zd<|JLM rfl<|JLm v<|JLM rfl ?_
  obtain ⟨b11,o11,cap11,row11,T11,fr11,cs11,hv11,hb11,hs11,hE11⟩:=hl.get j (by omega)
  obtain ⟨ca11,cb11,rfl,hA11,hB11⟩:=hE11
  refine JLn (Pu.idx j Xp YD hv11 rfl rfl (by omega))<|JLr (Zn YD rfl (ZcN hb11) hs11<|Zs 0 rfl hcall rfl rfl (fun hin=>hg _ (getElem_mem h10n) _ hs _ _ (Hle.hu _ _) (RC.mono (Hle.hu _ _) (LE hA11 hB11))) rfl ?_)
  rintro _ _ ⟨rfl,rfl⟩
  refine Za<|Zt rfl (fun h12=>?_) (fun h12=>?_)
  ·refine Zd<|JLM rfl<|JAn rfl<|ZE (iv ((j:Int))) [Sc (step (l[j]) s).2] (Sk Sub.nil) (?_)
   refine ⟨?_,?_⟩ <;> rw [← hinv,Wv h10n,idxS,if_pos h12]
  refine Zo<|Ze<|JLn (ZcP rfl rfl (by omega))<|JLM rfl<|Za<|⟨_,?_,(j+1),((step (l[j]) s).2),Zp rfl,(Sk Sub.nil),?_,?_,?_,rfl⟩
  ·omega
  ·omega
  ·exact hI _ (getElem_mem h10n) s hs h12
  rw [Wv h10n,idxS,if_neg (by simp [h12])] at hinv;exact hinv
 have h10n:l.length≤j:=by omega
 refine ZC _ rfl<|Zd<|JAn rfl<|ZE (iv (-1)) [Sc s] (Sk Sub.nil) (?_)
 refine ⟨?_,?_⟩ <;> rw [← hinv,SM h10n] <;> rfl
theorem NG (g:Nat) (fs cv:List Value) (hcall:∀ args w,(callFunc g args).run prog w=.ok (.enter g args) w) {σ:Type} (Sc:σ→Zf) (Inv:σ→Prop) (step:Pt→σ→Bool×σ) (l:List Pt) (v:Value) (H:Heap) (hl:rdS RP 35 H v l) (s0:σ) (h0:Inv s0) (hI:∀ x∈l,∀ s,Inv s→(step x s).1=false→Inv (step x s).2) (hg:∀ x∈l,∀ s,Inv s→∀ a h,Hle H h→RP h a x→CT prog g ⟨fs++[.agg ⟨a⟩]++cv⟩ [Sc s] h (fun v N=>v=.bool (step x s).1∧N=[Sc (step x s).2])):CT prog 70 ⟨[v,.func (.func g) ⟨fs⟩ ⟨cv⟩]⟩ [Sc s0] H (fun v N=>v=.bool (Xl step l s0).1∧N=[Sc (Xl step l s0).2]):=by
 refine Zl func70 rfl rfl<|Zd<|JAn rfl<|Zd<|JLm v<|JLM rfl<|Zs 0 rfl call114 rfl rfl (fun hin=>CM g fs cv hcall Sc Inv step _ _ _ (RPs.mono (Hle.hu _ _) hl) s0 h0 hI (fun x hx s hs a h hh ra=>hg x hx s hs a h (Hle.trans (Hle.hu _ _) hh) ra)) rfl ?_
 rintro _ _ ⟨rfl,rfl⟩
 refine JLn (Pu.geq rfl rfl)<|JAn rfl<|ZE (.bool (decide (0≤(idxS step l 0 s0).1))) [Sc (idxS step l 0 s0).2] (Sk Sub.nil) (?_)
 exact ⟨by rw [(VI step l 0 s0).1],by rw [(VI step l 0 s0).2]⟩
theorem NF (g:Nat) (fs cv:List Value) (hcall:∀ args w,(callFunc g args).run prog w=.ok (.enter g args) w) {σ:Type} (Sc:σ→Zf) (Inv:σ→Prop) (step:Tm→σ→Bool×σ) (l:List Tm) (v:Value) (H:Heap) (hl:rdS RT 36 H v l) (s0:σ) (h0:Inv s0) (hI:∀ x∈l,∀ s,Inv s→(step x s).1=false→Inv (step x s).2) (hg:∀ x∈l,∀ s,Inv s→∀ a h,Hle H h→RT h a x→CT prog g ⟨fs++[.agg ⟨a⟩]++cv⟩ [Sc s] h (fun v N=>v=.bool (step x s).1∧N=[Sc (step x s).2])):CT prog 26 ⟨[v,.func (.func g) ⟨fs⟩ ⟨cv⟩]⟩ [Sc s0] H (fun v N=>v=.bool (Xl step l s0).1∧N=[Sc (Xl step l s0).2]):=by
 refine Zl func26 rfl rfl<|Zd<|JAn rfl<|Zd<|JLm v<|JLM rfl<|Zs 0 rfl call68 rfl rfl (fun hin=>CL g fs cv hcall Sc Inv step _ _ _ (RTs.mono (Hle.hu _ _) hl) s0 h0 hI (fun x hx s hs a h hh ra=>hg x hx s hs a h (Hle.trans (Hle.hu _ _) hh) ra)) rfl ?_
 rintro _ _ ⟨rfl,rfl⟩
 refine JLn (Pu.geq rfl rfl)<|JAn rfl<|ZE (.bool (decide (0≤(idxS step l 0 s0).1))) [Sc (idxS step l 0 s0).2] (Sk Sub.nil) (?_)
 exact ⟨by rw [(VI step l 0 s0).1],by rw [(VI step l 0 s0).2]⟩
theorem NH (g:Nat) (fs cv:List Value) (hcall:∀ args w,(callFunc g args).run prog w=.ok (.enter g args) w) {σ:Type} (Sc:σ→Zf) (Inv:σ→Prop) (step:(Pt×Tm)→σ→Bool×σ) (l:List (Pt×Tm)) (v:Value) (H:Heap) (hl:rdS RC 71 H v l) (s0:σ) (h0:Inv s0) (hI:∀ x∈l,∀ s,Inv s→(step x s).1=false→Inv (step x s).2) (hg:∀ x∈l,∀ s,Inv s→∀ a h,Hle H h→RC h a x→CT prog g ⟨fs++[.agg ⟨a⟩]++cv⟩ [Sc s] h (fun v N=>v=.bool (step x s).1∧N=[Sc (step x s).2])):CT prog 72 ⟨[v,.func (.func g) ⟨fs⟩ ⟨cv⟩]⟩ [Sc s0] H (fun v N=>v=.bool (Xl step l s0).1∧N=[Sc (Xl step l s0).2]):=by
 refine Zl func72 rfl rfl<|Zd<|JAn rfl<|Zd<|JLm v<|JLM rfl<|Zs 0 rfl call115 rfl rfl (fun hin=>CO g fs cv hcall Sc Inv step _ _ _ (RCs.mono (Hle.hu _ _) hl) s0 h0 hI (fun x hx s hs a h hh ra=>hg x hx s hs a h (Hle.trans (Hle.hu _ _) hh) ra)) rfl ?_
 rintro _ _ ⟨rfl,rfl⟩
 refine JLn (Pu.geq rfl rfl)<|JAn rfl<|ZE (.bool (decide (0≤(idxS step l 0 s0).1))) [Sc (idxS step l 0 s0).2] (Sk Sub.nil) (?_)
 exact ⟨by rw [(VI step l 0 s0).1],by rw [(VI step l 0 s0).2]⟩
theorem I4:∀ (x:Pt) (d s:Int) (a:List Value) (H:Heap) (bL bA bD:Nat),RP H a x→H bA=some (.cells ⟨[pp bL 0]⟩ 189 (0,0))→H bD=some (.cells ⟨[iv d]⟩ 3 (0,0))→0≤d→d≤100→(∀ h a,Hle H h→RP h a x→CT prog 186 ⟨[pp bL 0,.agg ⟨a⟩,iv (d+1)]⟩ [(BX bL [iv s] 191)] h (fun v N=>v=.bool (cnP stL (d+1) x s).1∧N=[(BX bL [iv ((cnP stL (d+1) x s).2)] 191)]))→CT prog 210 ⟨[.agg ⟨a⟩,pp bA 0,pp bD 0]⟩ [(BX bL [iv s] 191)] H (fun v N=>v=.bool (cnP stL (d+1) x s).1∧N=[(BX bL [iv ((cnP stL (d+1) x s).2)] 191)]):=by
 intro x d s a H bL bA bD ra hH1 hH5 hd0 hd1 hg
 refine Zl func210 rfl rfl<|Zd<|JLr (Zr (l:=a) rfl rfl fun b1=>JAn rfl<|Zd<|JLr (Zc QA rfl (ZcN hH1) rfl<|JLr (Zn ZO rfl (ZcK 0 rfl) (Zx (ZL ra))<|JLr (Zc ty3 rfl (ZcN hH5) rfl<|JLn (ZcV rfl rfl (by first | omega | (constructor <;> omega)))<|Zs 1 rfl call186 rfl rfl (fun hin=>hg _ _ (Hle.hu _ _) (RP.mono (Hle.hu _ _) ra)) rfl ?_))))
 rintro _ _ ⟨rfl,rfl⟩
 refine JAn rfl<|ZE (.bool ((cnP stL (d+1) x s).1)) [(BX bL [iv ((cnP stL (d+1) x s).2)] 191)] (Sk Sub.nil) (?_)
 exact ⟨rfl,rfl⟩
theorem Om:∀ (x:Tm) (d s:Int) (a:List Value) (H:Heap) (bL bA bD:Nat),RT H a x→H bA=some (.cells ⟨[pp bL 0]⟩ 189 (0,0))→H bD=some (.cells ⟨[iv d]⟩ 3 (0,0))→0≤d→d≤100→(∀ h a,Hle H h→RT h a x→CT prog 145 ⟨[pp bL 0,.agg ⟨a⟩,iv (d+1)]⟩ [(BX bL [iv s] 191)] h (fun v N=>v=.bool (cnT stL (d+1) x s).1∧N=[(BX bL [iv ((cnT stL (d+1) x s).2)] 191)]))→CT prog 184 ⟨[.agg ⟨a⟩,pp bA 0,pp bD 0]⟩ [(BX bL [iv s] 191)] H (fun v N=>v=.bool (cnT stL (d+1) x s).1∧N=[(BX bL [iv ((cnT stL (d+1) x s).2)] 191)]):=by
 intro x d s a H bL bA bD ra hH1 hH5 hd0 hd1 hg
 refine Zl func184 rfl rfl<|Zd<|JLr (Zr (l:=a) rfl rfl fun b1=>JAn rfl<|Zd<|JLr (Zc QA rfl (ZcN hH1) rfl<|JLr (Zn Zu rfl (ZcK 0 rfl) (Zx (Zy ra))<|JLr (Zc ty3 rfl (ZcN hH5) rfl<|JLn (ZcV rfl rfl (by first | omega | (constructor <;> omega)))<|Zs 1 rfl call145 rfl rfl (fun hin=>hg _ _ (Hle.hu _ _) (RT.mono (Hle.hu _ _) ra)) rfl ?_))))
 rintro _ _ ⟨rfl,rfl⟩
 refine JAn rfl<|ZE (.bool ((cnT stL (d+1) x s).1)) [(BX bL [iv ((cnT stL (d+1) x s).2)] 191)] (Sk Sub.nil) (?_)
 exact ⟨rfl,rfl⟩
theorem FO:∀ (p:Pt) (d n:Int) (cs:List Value) (H:Heap) (bL:Nat),RP H cs p→0≤n→n≤300→0≤d→d≤61→CT prog 186 ⟨[pp bL 0,.agg ⟨cs⟩,iv d]⟩ [(BX bL [iv n] 191)] H (fun v N=>v=.bool (cnP stL d p n).1∧N=[(BX bL [iv ((cnP stL d p n).2)] 191)]):=by
 intro p
 induction p using Pt.ind with
 | h kind num ref kids ih=>
 intro d n cs H bL hp hn0 hn1 hd0 hd1
 obtain ⟨ks,rfl,hk,hn,hks⟩:=RP_mk.1 hp
 refine Zl func186 rfl rfl<|Zd<|JLr (Zr (l:=[pp bL 0]) rfl rfl fun b1=>JLr (Zr (l:=pkP kind num ref ks) rfl rfl fun b2=>JLr (Zr (l:=[iv d]) rfl rfl fun b3=>JAn rfl<|Zg<|Zd<|JLr (Zc QA rfl (ZcK 2 rfl) rfl<|JLq (pp bL 0) (Pu.nilCheck rfl) ?_))))
 refine JLq (pp bL 0) (Th rfl rfl)<|JLr (Zc ty3 rfl (ZcK 3 rfl) rfl<|JLn (ZcV rfl rfl (by first | omega | (constructor <;> omega)))<|JLq (pp bL 0) (Pu.nilCheck rfl)<|JLq (pp bL 0) (Th rfl rfl)<|JLr (Zb 3 (vs:=[iv (n+1)]) (l:=[iv (n+1)]) ty3 rfl rfl rfl rfl rfl (Zh rfl Zq) rfl<|Za<|Zd<|JLr (Zc QA rfl (ZcK 2 rfl) rfl<|JLq (pp bL 0) (Pu.nilCheck rfl)<|JLq (pp bL 0) (Th rfl rfl)<|JLr (Zc ty3 rfl (ZcK 3 rfl) rfl ?_))))
 refine JLn (Pu.gtr rfl rfl)<|JLM rfl<|ZK 2 [20,21] [(21,cond (decide (300<n+1)) undef (.bool (decide (60<d))))] ?_ fun f5=>?_
 ·cases h4:(decide (300<n+1)) with
  | false=>
   replace h4:=df h4
   refine JLr (Zc ty3 rfl (ZcK 0 rfl) rfl<|JLn (Pu.gtr rfl rfl) ?_)
   exact Za ⟨⟨rfl,trivial⟩,rfl⟩
  | true=>
   exact Z1 rfl ⟨rfl,trivial⟩
 refine JLn (ZcT rfl rfl rfl)<|Za<|Zt rfl (fun h6=>?_) (fun h6=>?_)
 ·refine Zd<|JAn rfl<|ZE (.bool true) [(BX bL [iv (n+1)] 191)] (Sd (Sd (Sd (Sk Sub.nil)))) (?_)
  refine ⟨?_,?_⟩ <;> rw [cnP,if_pos (by simpa [stL] using h6)]
 obtain ⟨h6a,h6b⟩:=orF h6
 replace h6a:=df h6a
 replace h6b:=df h6b
 refine Zo<|Zd<|JLq (pp b2 34) (YG rfl rfl)<|JLr (Zc XF rfl (ZcK 1 rfl) (XO ..)<|JLq (.func (.func 210) ⟨[]⟩ ⟨[pp b1 0,pp b3 0]⟩) (Pu.makeFunc rfl rfl)<|Zs 3 rfl call70 rfl rfl (fun hin=>NG 210 [] [pp b1 0,pp b3 0] (fun _ _=>rfl) (fun n=>(BX bL [iv n] 191)) (fun n=>0≤n∧n≤300) (cnP stL (d+1)) _ _ _ (RPs.mono (Hle.hu _ _) hks) (n+1) ⟨by omega,by omega⟩ (fun x hx s hs hf=>SR Tw x _ s hs.1 hf) (fun x hx s hs a h hh ra=>I4 x d s a h bL b1 b3 ra (hh _ _ (hin 2 _ rfl _ _ mem_cons_self)) (hh _ _ (hin 0 _ rfl _ _ mem_cons_self)) (by omega) (by omega) (fun h' a' hh' ra'=>ih x hx (d+1) s a' h' bL ra' hs.1 hs.2 (by omega) (by omega)))) rfl ?_)
 rintro _ _ ⟨rfl,rfl⟩
 refine JAn rfl<|ZE (.bool ((Xl (cnP stL (d+1)) kids (n+1)).1)) [(BX bL [iv ((Xl (cnP stL (d+1)) kids (n+1)).2)] 191)] (Sk Sub.nil) (?_)
 refine ⟨?_,?_⟩ <;> rw [cnP,if_neg (by simp [stL];omega),M7]
theorem FP:∀ (c:Pt×Tm) (d n:Int) (a:List Value) (H:Heap) (bL bA bD bK:Nat),RC H a c→0≤n→n≤300→0≤d→d≤60→H bA=some (.cells ⟨[pp bL 0]⟩ 189 (0,0))→H bD=some (.cells ⟨[iv d]⟩ 3 (0,0))→H bK=some (.cells ⟨[.func (.func 184) ⟨[]⟩ ⟨[pp bA 0,pp bD 0]⟩]⟩ 56 (0,0))→(∀ s a h,Hle H h→RT h a c.2→0≤s→s≤300→CT prog 145 ⟨[pp bL 0,.agg ⟨a⟩,iv (d+1)]⟩ [(BX bL [iv s] 191)] h (fun v N=>v=.bool (cnT stL (d+1) c.2 s).1∧N=[(BX bL [iv ((cnT stL (d+1) c.2 s).2)] 191)]))→CT prog 185 ⟨[.agg ⟨a⟩,pp bA 0,pp bD 0,pp bK 0]⟩ [(BX bL [iv n] 191)] H (fun v N=>v=.bool (cnC stL (d+1) c n).1∧N=[(BX bL [iv ((cnC stL (d+1) c n).2)] 191)]):=by
 intro c d n a H bL bA bD bK ⟨ca,cb,e1,ra1,ra2⟩ hn0 hn1 hd0 hd1 hH1 hH5 hH7 hg
 subst e1
 refine Zl func185 rfl rfl<|Zd<|JLr (Zr (l:=ca++cb) rfl rfl fun b1=>JAn rfl<|Zd<|JLr (Zc QA rfl (ZcN hH1) rfl<|JLq (pp b1 0) (WD rfl rfl)<|JLr (Zn ZO rfl (ZcK 0 rfl) (Va (ZL ra1))<|JLr (Zc ty3 rfl (ZcN hH5) rfl<|JLn (ZcV rfl rfl (by first | omega | (constructor <;> omega))) ?_))))
 refine Zs 1 rfl call186 rfl rfl (fun hin=>FO _ _ _ _ _ _ (RP.mono (Hle.hu _ _) ra1) (by omega) (by omega) (by omega) (by omega)) rfl ?_
 rintro _ _ ⟨rfl,rfl⟩
 refine JLM rfl ?_
 cases h3:((cnP stL (d+1) (c.1) n).1) with
 | true=>
  iterate 4 refine WG rfl ?_
  refine JLq (.bool true) (ZcZ rfl rfl)<|JAn rfl<|ZE (.bool true) [(BX bL [iv ((cnP stL (d+1) (c.1) n).2)] 191)] (Sk Sub.nil) (?_)
  refine ⟨?_,?_⟩ <;> rw [cnC,if_pos h3]
 | false=>
  refine JLr (Zc OQ rfl (ZcN hH7) rfl<|JLq (pp b1 35) (WC rfl rfl)<|JLr (Zn Zu rfl (ZcK 1 rfl) (Vt (ZL ra1) (Zy ra2))<|Zs 0 rfl call184 rfl rfl (fun hin=>Om _ d _ _ _ bL bA bD (RT.mono (Hle.hu _ _) ra2) (Hle.hu _ _ _ _ hH1) (Hle.hu _ _ _ _ hH5) (by omega) (by omega) (fun h' a' hh' ra'=>hg _ _ _ (Hle.trans (Hle.hu _ _) hh') ra' (SR Tw _ _ _ hn0 h3).1 (SR Tw _ _ _ hn0 h3).2)) rfl ?_))
  rintro _ _ ⟨rfl,rfl⟩
  refine JLq (.bool ((cnT stL (d+1) (c.2) ((cnP stL (d+1) (c.1) n).2)).1)) (ZcX rfl rfl)<|JAn rfl<|ZE (.bool ((cnT stL (d+1) (c.2) ((cnP stL (d+1) (c.1) n).2)).1)) [(BX bL [iv ((cnT stL (d+1) (c.2) ((cnP stL (d+1) (c.1) n).2)).2)] 191)] (Sk Sub.nil) (?_)
  refine ⟨?_,?_⟩ <;> rw [cnC,if_neg (by simp [h3])]
theorem FN:∀ (t:Tm) (d n:Int) (cs:List Value) (H:Heap) (bL:Nat),RT H cs t→0≤n→n≤300→0≤d→d≤61→CT prog 145 ⟨[pp bL 0,.agg ⟨cs⟩,iv d]⟩ [(BX bL [iv n] 191)] H (fun v N=>v=.bool (cnT stL d t n).1∧N=[(BX bL [iv ((cnT stL d t n).2)] 191)]):=by
 intro t
 induction t using Tm.ind with
 | h kind num ref kids cases ih ih'=>
 intro d n cs H bL ht hn0 hn1 hd0 hd1
 obtain ⟨ks,cv,rfl,hk,hn,hks,hcv⟩:=RT_mk.1 ht
 refine Zl func145 rfl rfl<|Zd<|JLr (Zr (l:=[pp bL 0]) rfl rfl fun b1=>JLr (Zr (l:=pkT kind num ref ks cv) rfl rfl fun b2=>JLr (Zr (l:=[iv d]) rfl rfl fun b3=>JAn rfl<|Zg<|Zd<|JLr (Zc QA rfl (ZcK 2 rfl) rfl<|JLq (pp bL 0) (Pu.nilCheck rfl) ?_))))
 refine JLq (pp bL 0) (Th rfl rfl)<|JLr (Zc ty3 rfl (ZcK 3 rfl) rfl<|JLn (ZcV rfl rfl (by first | omega | (constructor <;> omega)))<|JLq (pp bL 0) (Pu.nilCheck rfl)<|JLq (pp bL 0) (Th rfl rfl)<|JLr (Zb 3 (vs:=[iv (n+1)]) (l:=[iv (n+1)]) ty3 rfl rfl rfl rfl rfl (Zh rfl Zq) rfl<|Za<|Zd<|JLr (Zc QA rfl (ZcK 2 rfl) rfl<|JLq (pp bL 0) (Pu.nilCheck rfl)<|JLq (pp bL 0) (Th rfl rfl)<|JLr (Zc ty3 rfl (ZcK 3 rfl) rfl ?_))))
 refine JLn (Pu.gtr rfl rfl)<|JLM rfl<|ZK 2 [21,22] [(22,cond (decide (300<n+1)) undef (.bool (decide (60<d))))] ?_ fun f5=>?_
 ·cases h4:(decide (300<n+1)) with
  | false=>
   replace h4:=df h4
   refine JLr (Zc ty3 rfl (ZcK 0 rfl) rfl<|JLn (Pu.gtr rfl rfl) ?_)
   exact Za ⟨⟨rfl,trivial⟩,rfl⟩
  | true=>
   exact Z1 rfl ⟨rfl,trivial⟩
 refine JLn (ZcT rfl rfl rfl)<|Za<|Zt rfl (fun h6=>?_) (fun h6=>?_)
 ·refine Zd<|JAn rfl<|ZE (.bool true) [(BX bL [iv (n+1)] 191)] (Sd (Sd (Sd (Sk Sub.nil)))) (?_)
  refine ⟨?_,?_⟩ <;> rw [cnT,if_pos (by simpa [stL] using h6)]
 obtain ⟨h6a,h6b⟩:=orF h6
 replace h6a:=df h6a
 replace h6b:=df h6b
 refine Zo<|Zd<|JLq (.func (.func 184) ⟨[]⟩ ⟨[pp b1 0,pp b3 0]⟩) (Pu.makeFunc rfl rfl)<|JLr (Zk (l:=[.nilFunc]) zeroValue56 rfl fun b7=>JLr (Zb 0 (vs:=[.func (.func 184) ⟨[]⟩ ⟨[pp b1 0,pp b3 0]⟩]) (l:=[.func (.func 184) ⟨[]⟩ ⟨[pp b1 0,pp b3 0]⟩]) OQ rfl rfl rfl rfl rfl (Zh rfl Zq) rfl<|Za<|Zd<|JLq (pp b2 34) (YS rfl rfl)<|JLr (Zc XE rfl (ZcK 2 rfl) (Xq ..)<|JLr (Zc OQ rfl (ZcK 0 rfl) rfl<|Zs 4 rfl call26 rfl rfl (fun hin=>NF 184 [] [pp b1 0,pp b3 0] (fun _ _=>rfl) (fun n=>(BX bL [iv n] 191)) (fun n=>0≤n∧n≤300) (cnT stL (d+1)) _ _ _ (RTs.mono (Hle.hu _ _) hks) (n+1) ⟨by omega,by omega⟩ (fun x hx s hs hf=>Pv Tw x _ s hs.1 hf) (fun x hx s hs a h hh ra=>Om x d s a h bL b1 b3 ra (hh _ _ (hin 3 _ rfl _ _ mem_cons_self)) (hh _ _ (hin 1 _ rfl _ _ mem_cons_self)) (by omega) (by omega) (fun h' a' hh' ra'=>ih x hx (d+1) s a' h' bL ra' hs.1 hs.2 (by omega) (by omega)))) rfl ?_))))
 rintro _ _ ⟨rfl,rfl⟩
 refine JLM rfl ?_
 cases h9:((Xl (cnT stL (d+1)) kids (n+1)).1) with
 | true=>
  iterate 4 refine WG rfl ?_
  refine JLq (.bool true) (ZcZ rfl rfl)<|JAn rfl<|ZE (.bool true) [(BX bL [iv ((Xl (cnT stL (d+1)) kids (n+1)).2)] 191)] (Sk Sub.nil) (?_)
  refine ⟨?_,?_⟩ <;> rw [cnT,if_neg (by simp [stL];omega),Ps,if_pos h9]
 | false=>
  refine JLq (pp b2 35) (Y0 rfl rfl)<|JLr (Zc WN rfl (ZcK 3 rfl) (XA ..)<|JLq (.func (.func 185) ⟨[]⟩ ⟨[pp b1 0,pp b3 0,pp b7 0]⟩) (Pu.makeFunc rfl rfl)<|Zs 0 rfl call72 rfl rfl (fun hin=>NH 185 [] [pp b1 0,pp b3 0,pp b7 0] (fun _ _=>rfl) (fun n=>(BX bL [iv n] 191)) (fun n=>0≤n∧n≤300) (cnC stL (d+1)) _ _ _ (RCs.mono (Hle.hu _ _) hcv) ((Xl (cnT stL (d+1)) kids (n+1)).2) (Hz Tw _ _ _ (by omega) (by omega) h9) (fun x hx s hs hf=>EL Tw x _ s hs.1 hf) (fun x hx s hs a h hh ra=>FP x d s a h bL b1 b3 b7 ra hs.1 hs.2 (by omega) (by omega) (hh _ _ (hin 3 _ rfl _ _ mem_cons_self)) (hh _ _ (hin 1 _ rfl _ _ mem_cons_self)) (hh _ _ (hin 0 _ rfl _ _ mem_cons_self)) (fun s' a' h' hh' ra' k1 k2=>ih' x hx (d+1) s' a' h' bL ra' k1 k2 (by omega) (by omega)))) rfl ?_)
  rintro _ _ ⟨rfl,rfl⟩
  refine JLq (.bool ((Xl (cnC stL (d+1)) cases ((Xl (cnT stL (d+1)) kids (n+1)).2)).1)) (ZcX rfl rfl)<|JAn rfl<|ZE (.bool ((Xl (cnC stL (d+1)) cases ((Xl (cnT stL (d+1)) kids (n+1)).2)).1)) [(BX bL [iv ((Xl (cnC stL (d+1)) cases ((Xl (cnT stL (d+1)) kids (n+1)).2)).2)] 191)] (Sk Sub.nil) (?_)
  refine ⟨?_,?_⟩ <;> rw [cnT,if_neg (by simp [stL];omega),Ps,if_neg (by simp [h9]),M8]
theorem FS (n b d:Int) (H:Heap) (bD:Nat) (hD:H bD=some (.cells ⟨[iv d]⟩ 3 (0,0))) (hb0:0≤b) (hb1:b≤1000000) (hn1: -9223372036854775808≤n) (hn2:n≤9223372036854775807):CT prog 146 ⟨[iv n,iv b,pp bD 0]⟩ [] H (fun v N=>v=.bool (Kd d n b)∧N=[]):=by
 refine Zl func146 rfl rfl<|Zd<|JAn rfl<|Zd<|JLM rfl<|JLn (Pu.geq rfl rfl)<|JLM rfl<|ZK 10 [9,10,11,12,13,14,15,16,17,18] [(18,cond (decide (0≤n)) (.bool ((decide (n<b))||(decide (n-b<d)))) undef)] ?_ fun f4=>?_
 ·cases h1:(decide (0≤n)) with
  | true=>
   replace h1:=dt h1
   refine JLM rfl<|JLM rfl<|JLn (Pu.lss rfl rfl)<|JLM rfl<|ZK 5 [13,14,15,16,17] [(17,cond (decide (n<b)) undef (.bool (decide (n-b<d))))] ?_ fun f3=>?_
   ·cases h2:(decide (n<b)) with
    | false=>
     replace h2:=df h2
     refine JLM rfl<|JLM rfl<|JLn (Zc2 rfl rfl (by first | omega | (constructor <;> omega)))<|JLr (Zc ty3 rfl (ZcN hD) rfl<|JLn (Pu.lss rfl rfl) ?_)
     exact Za ⟨⟨rfl,trivial⟩,rfl⟩
    | true=>
     exact Z1 rfl ⟨rfl,trivial⟩
   refine JLn (ZcT rfl rfl rfl) ?_
   exact Za ⟨⟨rfl,trivial⟩,rfl⟩
  | false=>
   exact Z1 rfl ⟨rfl,trivial⟩
 refine JLn (ZcR rfl rfl rfl)<|JAn rfl<|ZE (.bool ((decide (0≤n))&&((decide (n<b))||(decide (n-b<d))))) [] Sub.nil (?_)
 exact ⟨rfl,rfl⟩
set_option maxHeartbeats 2000000 in
theorem KJ (kind num:Int) (ref:Sm) (ks cv:Value) (kids:List Tm) (cases:List (Pt×Tm)) (d m b:Int) (H:Heap) (bD:Nat) (hks:rdS RT 36 H ks kids) (hcv:rdS RC 71 H cv cases) (hD:H bD=some (.cells ⟨[iv d]⟩ 3 (0,0))) (hb0:0≤b) (hb1:b≤1000000) (hn1: -9223372036854775808≤num) (hn2:num≤9223372036854775807):CT prog 187 ⟨[.agg ⟨[iv m,.func (.func 146) ⟨[]⟩ ⟨[pp bD 0]⟩]⟩,.agg ⟨pkT kind num ref ks cv⟩,iv b]⟩ [] H (fun v N=>v=iv (Xb d m b kind num ref kids.length cases.length)∧N=[]):=by
 refine Zl func187 rfl rfl<|Zd<|JLr (Zr (l:=[iv m,.func (.func 146) ⟨[]⟩ ⟨[pp bD 0]⟩]) rfl rfl fun b1=>JLr (Zr (l:=pkT kind num ref ks cv) rfl rfl fun b2=>JAn rfl<|Zg<|Zm<|Zd<|JLq (pp b2 0) (Yh rfl rfl)<|JLr (Zc ty3 rfl (ZcK 0 rfl) (YE ..) ?_)))
 refine Jc call211 rfl (fun hin=>XP _ _ _ _) rfl ?_
 rintro _ _ ⟨rfl,rfl⟩
 refine JAn rfl<|ZN rfl (fun h3=>?_) (fun h3=>?_)
 ·refine Zd<|JAn rfl<|ZE (iv 3) [] Sub.nil (?_)
  exact ⟨by refine congrArg (Value.int .i64) ?_;simp only [Xb];(repeat' split) <;> first | omega | grind,rfl⟩
 refine Zg<|ZM mixed #[0,1,3,0,8,0,32,0,128,384,1023,2047] 10 (sm 13 10) [] [(2,fun _ _ vw qw=>vw=.agg ⟨[.bool (fN kind),.bool (fR kind),.bool (fC kind)]⟩∧qw=[])] rfl (by kernel_rfl) rfl (by kernel_rfl)<|Dq (pp b2 0) (fun _=>Yh rfl rfl)<|Dl1 ty3 (ZcK 0 rfl) (YE ..)<|Dc rfl call193 (fun _=>rfl) (fun hin=>Ox _ _) ?_
 rintro _ _ ⟨rfl,rfl⟩
 refine Dq (pp b2 1) (fun _=>Y1 rfl rfl)<|Dl1 ty3 (ZcK 0 rfl) (XV ..)<|Dq (pp b2 2) (fun _=>TO rfl rfl)<|Dl Yv (ZcK 0 rfl) (QV ..)<|Dq (pp b2 35) (fun _=>Y0 rfl rfl)<|Dl1 WN (ZcK 0 rfl) (XA ..) ?_
 obtain ⟨a5,cap5,hv5⟩:=hcv.sl
 have hle5:=hcv.le
 refine Dn (fun _=>ZcM Xp hv5)<|ZX (M':=[(BX b2 (pkT kind num ref ks cv) 51),(BX b1 [iv m,.func (.func 146) ⟨[]⟩ ⟨[pp bD 0]⟩] 195)]) rfl ?_
 show JL _ _ _ [_,_] _ _ _
 refine Jc call212 rfl (fun hin=>Pw _ _ _ _ _ _ _) rfl ?_
 rintro _ _ ⟨rfl,rfl⟩
 refine JAn rfl<|Zt rfl (fun h6=>?_) (fun h6=>?_)
 ·refine Zd<|JAn rfl<|ZE (iv 7) [] Sub.nil (?_)
  exact ⟨by refine congrArg (Value.int .i64) ?_;simp only [Xb];(repeat' split) <;> first | omega | grind,rfl⟩
 refine Zd<|JLq (pp b2 0) (Yh rfl rfl)<|JLr (Zc ty3 rfl (ZcK 0 rfl) (YE ..)<|JLq (pp b2 34) (YS rfl rfl)<|JLr (Zc XE rfl (ZcK 0 rfl) (Xq ..) ?_))
 obtain ⟨a7,cap7,hv7⟩:=hks.sl
 have hle7:=hks.le
 refine JLn (ZcM ZI hv7)<|Jc call213 rfl (fun hin=>FX _ _ _) rfl ?_
 rintro _ _ ⟨rfl,rfl⟩
 refine JLn (Pu.not rfl)<|JLM rfl<|ZK 4 [33,34,35,36] [(36,cond (!(Vf kind ((kids.length:Int)))) undef (.bool (decide (8<(cases.length:Int)))))] ?_ fun f10=>?_
 ·cases h8:(!(Vf kind ((kids.length:Int)))) with
  | false=>
   replace h8:=nf h8
   refine JLq (pp b2 35) (Y0 rfl rfl)<|JLr (Zc WN rfl (ZcK 0 rfl) (XA ..) ?_)
   obtain ⟨a9,cap9,hv9⟩:=hcv.sl
   have hle9:=hcv.le
   refine JLn (ZcM Xp hv9)<|JLn (Pu.gtr rfl rfl) ?_
   exact Za ⟨⟨rfl,trivial⟩,rfl⟩
  | true=>
   exact Z1 rfl ⟨rfl,trivial⟩
 refine JLn (ZcT rfl rfl rfl)<|JAn rfl<|Zt rfl (fun h11=>?_) (fun h11=>?_)
 ·refine Zd<|JAn rfl<|ZE (iv 2) [] Sub.nil (?_)
  exact ⟨by refine congrArg (Value.int .i64) ?_;simp only [Xb];(repeat' split) <;> first | omega | grind,rfl⟩
 obtain ⟨h11a,h11b⟩:=orF h11
 replace h11a:=nf h11a
 replace h11b:=df h11b
 refine Zo<|Zd<|JAn rfl<|Zg<|Zd<|JLq (pp b2 0) (Yh rfl rfl)<|JLr (Zc ty3 rfl (ZcK 0 rfl) (YE ..)<|Za<|Zm<|Zg ?_)
 refine Ze<|JLn (Pu.eql rfl rfl)<|JAn rfl<|ZN rfl (fun h12=>?_) (fun h12=>?_)
 ·refine Zd<|JLq (pp b2 1) (Y1 rfl rfl)<|JLr (Zc ty3 rfl (ZcK 0 rfl) (XV ..)<|Jc call211 rfl (fun hin=>XP _ _ _ _) rfl ?_)
  rintro _ _ ⟨rfl,rfl⟩
  refine Za<|ZN rfl (fun h13=>?_) (fun h13=>?_)
  ·refine Zd<|JAn rfl<|ZE (iv 3) [] Sub.nil (?_)
   exact ⟨by refine congrArg (Value.int .i64) ?_;simp only [Xb];(repeat' split) <;> first | omega | grind,rfl⟩
  refine Zo<|Zg<|Zd<|JLq (pp b2 0) (Yh rfl rfl)<|JLr (Zc ty3 rfl (ZcK 0 rfl) (YE ..)<|JLn (Pu.eql rfl rfl)<|JLM rfl<|ZK 3 [73,74,75] [(75,cond (decide (kind=2)) undef (.bool (decide (kind=8))))] ?_ fun f15=>?_)
  ·cases h14:(decide (kind=2)) with
   | false=>
    replace h14:=df h14
    refine JLq (pp b2 0) (Yh rfl rfl)<|JLr (Zc ty3 rfl (ZcK 0 rfl) (YE ..)<|JLn (Pu.eql rfl rfl) ?_)
    exact Za ⟨⟨rfl,trivial⟩,rfl⟩
   | true=>
    exact Z1 rfl ⟨rfl,trivial⟩
  refine JLn (ZcT rfl rfl rfl)<|JLM rfl<|ZK 3 [78,79,80] [(80,cond ((decide (kind=2))||(decide (kind=8))) undef (.bool (decide (kind=11))))] ?_ fun f17=>?_
  ·cases h16:((decide (kind=2))||(decide (kind=8))) with
   | false=>
    obtain ⟨h16a,h16b⟩:=orF h16
    replace h16a:=df h16a
    replace h16b:=df h16b
    refine JLq (pp b2 0) (Yh rfl rfl)<|JLr (Zc ty3 rfl (ZcK 0 rfl) (YE ..)<|JLn (Pu.eql rfl rfl) ?_)
    exact Za ⟨⟨rfl,trivial⟩,rfl⟩
   | true=>
    exact Z1 rfl ⟨rfl,trivial⟩
  refine JLn (ZcT rfl rfl rfl)<|JLM rfl<|ZK 4 [83,84,85,86] [(86,cond (((decide (kind=2))||(decide (kind=8)))||(decide (kind=11))) (.bool (decide (num<0∨1073741824<num))) undef)] ?_ fun f19=>?_
  ·cases h18:(((decide (kind=2))||(decide (kind=8)))||(decide (kind=11))) with
   | true=>
    refine JLq (pp b2 1) (Y1 rfl rfl)<|JLr (Zc ty3 rfl (ZcK 0 rfl) (XV ..)<|JLM rfl<|Jc call211 rfl (fun hin=>XP _ _ _ _) rfl ?_)
    rintro _ _ ⟨rfl,rfl⟩
    exact Za ⟨⟨rfl,trivial⟩,rfl⟩
   | false=>
    exact Z1 rfl ⟨rfl,trivial⟩
  refine JLn (ZcR rfl rfl rfl)<|Za<|Zt rfl (fun h20=>?_) (fun h20=>?_)
  ·obtain ⟨h20a,h20b⟩:=Xx h20
   replace h20b:=dt h20b
   refine Zd<|JAn rfl<|ZE (iv 3) [] Sub.nil (?_)
   exact ⟨by refine congrArg (Value.int .i64) ?_;simp only [Xb];(repeat' split) <;> first | omega | grind,rfl⟩
  refine Zo<|Zd<|JAn rfl<|ZE (iv 0) [] Sub.nil (?_)
  exact ⟨by refine congrArg (Value.int .i64) ?_;simp only [Xb];(repeat' split) <;> first | omega | grind,rfl⟩
 refine Zg<|Zd<|JLn (Pu.eql rfl rfl)<|JAn rfl<|ZN rfl (fun h21=>?_) (fun h21=>?_)
 ·refine Zo<|Zt rfl (fun _=>?_) (fun h22=>absurd h21 (df h22))
  refine Ze<|JAn rfl<|Zg<|Zd<|JLq (pp b2 0) (Yh rfl rfl)<|JLr (Zc ty3 rfl (ZcK 0 rfl) (YE ..)<|JLn (Pu.eql rfl rfl)<|JLM rfl<|ZK 3 [73,74,75] [(75,cond (decide (kind=2)) undef (.bool (decide (kind=8))))] ?_ fun f24=>?_)
  ·cases h23:(decide (kind=2)) with
   | false=>
    replace h23:=df h23
    refine JLq (pp b2 0) (Yh rfl rfl)<|JLr (Zc ty3 rfl (ZcK 0 rfl) (YE ..)<|JLn (Pu.eql rfl rfl) ?_)
    exact Za ⟨⟨rfl,trivial⟩,rfl⟩
   | true=>
    exact Z1 rfl ⟨rfl,trivial⟩
  refine JLn (ZcT rfl rfl rfl)<|JLM rfl<|ZK 3 [78,79,80] [(80,cond ((decide (kind=2))||(decide (kind=8))) undef (.bool (decide (kind=11))))] ?_ fun f26=>?_
  ·cases h25:((decide (kind=2))||(decide (kind=8))) with
   | false=>
    obtain ⟨h25a,h25b⟩:=orF h25
    replace h25a:=df h25a
    replace h25b:=df h25b
    refine JLq (pp b2 0) (Yh rfl rfl)<|JLr (Zc ty3 rfl (ZcK 0 rfl) (YE ..)<|JLn (Pu.eql rfl rfl) ?_)
    exact Za ⟨⟨rfl,trivial⟩,rfl⟩
   | true=>
    exact Z1 rfl ⟨rfl,trivial⟩
  refine JLn (ZcT rfl rfl rfl)<|JLM rfl<|ZK 4 [83,84,85,86] [(86,cond (((decide (kind=2))||(decide (kind=8)))||(decide (kind=11))) (.bool (decide (num<0∨7<num))) undef)] ?_ fun f28=>?_
  ·cases h27:(((decide (kind=2))||(decide (kind=8)))||(decide (kind=11))) with
   | true=>
    refine JLq (pp b2 1) (Y1 rfl rfl)<|JLr (Zc ty3 rfl (ZcK 0 rfl) (XV ..)<|JLM rfl<|Jc call211 rfl (fun hin=>XP _ _ _ _) rfl ?_)
    rintro _ _ ⟨rfl,rfl⟩
    exact Za ⟨⟨rfl,trivial⟩,rfl⟩
   | false=>
    exact Z1 rfl ⟨rfl,trivial⟩
  refine JLn (ZcR rfl rfl rfl)<|Za<|Zt rfl (fun h29=>?_) (fun h29=>?_)
  ·obtain ⟨h29a,h29b⟩:=Xx h29
   replace h29b:=dt h29b
   refine Zd<|JAn rfl<|ZE (iv 3) [] Sub.nil (?_)
   exact ⟨by refine congrArg (Value.int .i64) ?_;simp only [Xb];(repeat' split) <;> first | omega | grind,rfl⟩
  refine Zo<|Zd<|JAn rfl<|ZE (iv 0) [] Sub.nil (?_)
  exact ⟨by refine congrArg (Value.int .i64) ?_;simp only [Xb];(repeat' split) <;> first | omega | grind,rfl⟩
 refine Ze<|JLn (Pu.eql rfl rfl)<|JAn rfl<|ZN rfl (fun h30=>?_) (fun h30=>?_)
 ·refine Ze<|JAn rfl<|Zg<|Zd<|JLq (pp b2 0) (Yh rfl rfl)<|JLr (Zc ty3 rfl (ZcK 0 rfl) (YE ..)<|JLn (Pu.eql rfl rfl)<|JLM rfl<|ZK 3 [73,74,75] [(75,cond (decide (kind=2)) undef (.bool (decide (kind=8))))] ?_ fun f32=>?_)
  ·cases h31:(decide (kind=2)) with
   | false=>
    replace h31:=df h31
    refine JLq (pp b2 0) (Yh rfl rfl)<|JLr (Zc ty3 rfl (ZcK 0 rfl) (YE ..)<|JLn (Pu.eql rfl rfl) ?_)
    exact Za ⟨⟨rfl,trivial⟩,rfl⟩
   | true=>
    exact Z1 rfl ⟨rfl,trivial⟩
  refine JLn (ZcT rfl rfl rfl)<|JLM rfl<|ZK 3 [78,79,80] [(80,cond ((decide (kind=2))||(decide (kind=8))) undef (.bool (decide (kind=11))))] ?_ fun f34=>?_
  ·cases h33:((decide (kind=2))||(decide (kind=8))) with
   | false=>
    obtain ⟨h33a,h33b⟩:=orF h33
    replace h33a:=df h33a
    replace h33b:=df h33b
    refine JLq (pp b2 0) (Yh rfl rfl)<|JLr (Zc ty3 rfl (ZcK 0 rfl) (YE ..)<|JLn (Pu.eql rfl rfl) ?_)
    exact Za ⟨⟨rfl,trivial⟩,rfl⟩
   | true=>
    exact Z1 rfl ⟨rfl,trivial⟩
  refine JLn (ZcT rfl rfl rfl)<|JLM rfl<|ZK 4 [83,84,85,86] [(86,cond (((decide (kind=2))||(decide (kind=8)))||(decide (kind=11))) (.bool (decide (num<0∨7<num))) undef)] ?_ fun f36=>?_
  ·cases h35:(((decide (kind=2))||(decide (kind=8)))||(decide (kind=11))) with
   | true=>
    refine JLq (pp b2 1) (Y1 rfl rfl)<|JLr (Zc ty3 rfl (ZcK 0 rfl) (XV ..)<|JLM rfl<|Jc call211 rfl (fun hin=>XP _ _ _ _) rfl ?_)
    rintro _ _ ⟨rfl,rfl⟩
    exact Za ⟨⟨rfl,trivial⟩,rfl⟩
   | false=>
    exact Z1 rfl ⟨rfl,trivial⟩
  refine JLn (ZcR rfl rfl rfl)<|Za<|Zt rfl (fun h37=>?_) (fun h37=>?_)
  ·obtain ⟨h37a,h37b⟩:=Xx h37
   replace h37b:=dt h37b
   refine Zd<|JAn rfl<|ZE (iv 3) [] Sub.nil (?_)
   exact ⟨by refine congrArg (Value.int .i64) ?_;simp only [Xb];(repeat' split) <;> first | omega | grind,rfl⟩
  refine Zo<|Zd<|JAn rfl<|ZE (iv 0) [] Sub.nil (?_)
  exact ⟨by refine congrArg (Value.int .i64) ?_;simp only [Xb];(repeat' split) <;> first | omega | grind,rfl⟩
 refine Zd<|JLn (Pu.eql rfl rfl)<|JAn rfl<|ZN rfl (fun h38=>?_) (fun h38=>?_)
 ·refine Zd<|JLq (pp b1 1) (C5 rfl rfl)<|JLr (Zc B2 rfl (ZcK 1 rfl) rfl<|JLq (pp b2 1) (Y1 rfl rfl)<|JLr (Zc ty3 rfl (ZcK 0 rfl) (XV ..)<|JLM rfl<|Jc call146 rfl (fun hin=>FS _ _ _ _ bD (Hle.hu _ _ _ _ hD) hb0 hb1 hn1 hn2) rfl ?_))
  rintro _ _ ⟨rfl,rfl⟩
  refine JLn (Pu.not rfl)<|Za<|Zt rfl (fun h39=>?_) (fun h39=>?_)
  ·replace h39:=nt h39
   refine Zd<|JAn rfl<|ZE (iv 1) [] Sub.nil (?_)
   exact ⟨by refine congrArg (Value.int .i64) ?_;simp only [Xb];(repeat' split) <;> first | omega | grind,rfl⟩
  replace h39:=nf h39
  refine Zo<|Zg<|Zd<|JLq (pp b2 0) (Yh rfl rfl)<|JLr (Zc ty3 rfl (ZcK 0 rfl) (YE ..)<|JLn (Pu.eql rfl rfl)<|JLM rfl<|ZK 3 [73,74,75] [(75,cond (decide (kind=2)) undef (.bool (decide (kind=8))))] ?_ fun f41=>?_)
  ·cases h40:(decide (kind=2)) with
   | false=>
    replace h40:=df h40
    refine JLq (pp b2 0) (Yh rfl rfl)<|JLr (Zc ty3 rfl (ZcK 0 rfl) (YE ..)<|JLn (Pu.eql rfl rfl) ?_)
    exact Za ⟨⟨rfl,trivial⟩,rfl⟩
   | true=>
    exact Z1 rfl ⟨rfl,trivial⟩
  refine JLn (ZcT rfl rfl rfl)<|JLM rfl<|ZK 3 [78,79,80] [(80,cond ((decide (kind=2))||(decide (kind=8))) undef (.bool (decide (kind=11))))] ?_ fun f43=>?_
  ·cases h42:((decide (kind=2))||(decide (kind=8))) with
   | false=>
    obtain ⟨h42a,h42b⟩:=orF h42
    replace h42a:=df h42a
    replace h42b:=df h42b
    refine JLq (pp b2 0) (Yh rfl rfl)<|JLr (Zc ty3 rfl (ZcK 0 rfl) (YE ..)<|JLn (Pu.eql rfl rfl) ?_)
    exact Za ⟨⟨rfl,trivial⟩,rfl⟩
   | true=>
    exact Z1 rfl ⟨rfl,trivial⟩
  refine JLn (ZcT rfl rfl rfl)<|JLM rfl<|ZK 4 [83,84,85,86] [(86,cond (((decide (kind=2))||(decide (kind=8)))||(decide (kind=11))) (.bool (decide (num<0∨1073741824<num))) undef)] ?_ fun f45=>?_
  ·cases h44:(((decide (kind=2))||(decide (kind=8)))||(decide (kind=11))) with
   | true=>
    refine JLq (pp b2 1) (Y1 rfl rfl)<|JLr (Zc ty3 rfl (ZcK 0 rfl) (XV ..)<|JLM rfl<|Jc call211 rfl (fun hin=>XP _ _ _ _) rfl ?_)
    rintro _ _ ⟨rfl,rfl⟩
    exact Za ⟨⟨rfl,trivial⟩,rfl⟩
   | false=>
    exact Z1 rfl ⟨rfl,trivial⟩
  refine JLn (ZcR rfl rfl rfl)<|Za<|Zt rfl (fun h46=>?_) (fun h46=>?_)
  ·obtain ⟨h46a,h46b⟩:=Xx h46
   replace h46b:=dt h46b
   refine Zd<|JAn rfl<|ZE (iv 3) [] Sub.nil (?_)
   exact ⟨by refine congrArg (Value.int .i64) ?_;simp only [Xb];(repeat' split) <;> first | omega | grind,rfl⟩
  refine Zo<|Zd<|JAn rfl<|ZE (iv 0) [] Sub.nil (?_)
  exact ⟨by refine congrArg (Value.int .i64) ?_;simp only [Xb];(repeat' split) <;> first | omega | grind,rfl⟩
 refine Zd<|JLn (Pu.eql rfl rfl)<|JAn rfl<|ZN rfl (fun h47=>?_) (fun h47=>?_)
 ·refine Zd<|JLq (pp b2 1) (Y1 rfl rfl)<|JLr (Zc ty3 rfl (ZcK 0 rfl) (XV ..)<|JLn (Pu.lss rfl rfl)<|JLM rfl<|ZK 5 [63,64,65,66,67] [(67,cond (decide (num<0)) undef (.bool (decide (m≤num))))] ?_ fun f49=>?_)
  ·cases h48:(decide (num<0)) with
   | false=>
    replace h48:=df h48
    refine JLq (pp b2 1) (Y1 rfl rfl)<|JLr (Zc ty3 rfl (ZcK 0 rfl) (XV ..)<|JLq (pp b1 0) (C6 rfl rfl)<|JLr (Zc ty3 rfl (ZcK 1 rfl) rfl<|JLn (Pu.geq rfl rfl) ?_))
    exact Za ⟨⟨rfl,trivial⟩,rfl⟩
   | true=>
    exact Z1 rfl ⟨rfl,trivial⟩
  refine JLn (ZcT rfl rfl rfl)<|Za<|Zt rfl (fun h50=>?_) (fun h50=>?_)
  ·refine Zd<|JAn rfl<|ZE (iv 1) [] Sub.nil (?_)
   exact ⟨by refine congrArg (Value.int .i64) ?_;simp only [Xb];(repeat' split) <;> first | omega | grind,rfl⟩
  obtain ⟨h50a,h50b⟩:=orF h50
  replace h50a:=df h50a
  replace h50b:=df h50b
  refine Zo<|Zg<|Zd<|JLq (pp b2 0) (Yh rfl rfl)<|JLr (Zc ty3 rfl (ZcK 0 rfl) (YE ..)<|JLn (Pu.eql rfl rfl)<|JLM rfl<|ZK 3 [73,74,75] [(75,cond (decide (kind=2)) undef (.bool (decide (kind=8))))] ?_ fun f52=>?_)
  ·cases h51:(decide (kind=2)) with
   | false=>
    replace h51:=df h51
    refine JLq (pp b2 0) (Yh rfl rfl)<|JLr (Zc ty3 rfl (ZcK 0 rfl) (YE ..)<|JLn (Pu.eql rfl rfl) ?_)
    exact Za ⟨⟨rfl,trivial⟩,rfl⟩
   | true=>
    exact Z1 rfl ⟨rfl,trivial⟩
  refine JLn (ZcT rfl rfl rfl)<|JLM rfl<|ZK 3 [78,79,80] [(80,cond ((decide (kind=2))||(decide (kind=8))) undef (.bool (decide (kind=11))))] ?_ fun f54=>?_
  ·cases h53:((decide (kind=2))||(decide (kind=8))) with
   | false=>
    obtain ⟨h53a,h53b⟩:=orF h53
    replace h53a:=df h53a
    replace h53b:=df h53b
    refine JLq (pp b2 0) (Yh rfl rfl)<|JLr (Zc ty3 rfl (ZcK 0 rfl) (YE ..)<|JLn (Pu.eql rfl rfl) ?_)
    exact Za ⟨⟨rfl,trivial⟩,rfl⟩
   | true=>
    exact Z1 rfl ⟨rfl,trivial⟩
  refine JLn (ZcT rfl rfl rfl)<|JLM rfl<|ZK 4 [83,84,85,86] [(86,cond (((decide (kind=2))||(decide (kind=8)))||(decide (kind=11))) (.bool (decide (num<0∨1073741824<num))) undef)] ?_ fun f56=>?_
  ·cases h55:(((decide (kind=2))||(decide (kind=8)))||(decide (kind=11))) with
   | true=>
    refine JLq (pp b2 1) (Y1 rfl rfl)<|JLr (Zc ty3 rfl (ZcK 0 rfl) (XV ..)<|JLM rfl<|Jc call211 rfl (fun hin=>XP _ _ _ _) rfl ?_)
    rintro _ _ ⟨rfl,rfl⟩
    exact Za ⟨⟨rfl,trivial⟩,rfl⟩
   | false=>
    exact Z1 rfl ⟨rfl,trivial⟩
  refine JLn (ZcR rfl rfl rfl)<|Za<|Zt rfl (fun h57=>?_) (fun h57=>?_)
  ·obtain ⟨h57a,h57b⟩:=Xx h57
   replace h57b:=dt h57b
   refine Zd<|JAn rfl<|ZE (iv 3) [] Sub.nil (?_)
   exact ⟨by refine congrArg (Value.int .i64) ?_;simp only [Xb];(repeat' split) <;> first | omega | grind,rfl⟩
  refine Zo<|Zd<|JAn rfl<|ZE (iv 0) [] Sub.nil (?_)
  exact ⟨by refine congrArg (Value.int .i64) ?_;simp only [Xb];(repeat' split) <;> first | omega | grind,rfl⟩
 refine Zo<|Zg<|Zd<|JLq (pp b2 0) (Yh rfl rfl)<|JLr (Zc ty3 rfl (ZcK 0 rfl) (YE ..)<|JLn (Pu.eql rfl rfl)<|JLM rfl<|ZK 3 [73,74,75] [(75,cond (decide (kind=2)) undef (.bool (decide (kind=8))))] ?_ fun f59=>?_)
 ·cases h58:(decide (kind=2)) with
  | false=>
   replace h58:=df h58
   refine JLq (pp b2 0) (Yh rfl rfl)<|JLr (Zc ty3 rfl (ZcK 0 rfl) (YE ..)<|JLn (Pu.eql rfl rfl) ?_)
   exact Za ⟨⟨rfl,trivial⟩,rfl⟩
  | true=>
   exact Z1 rfl ⟨rfl,trivial⟩
 refine JLn (ZcT rfl rfl rfl)<|JLM rfl<|ZK 3 [78,79,80] [(80,cond ((decide (kind=2))||(decide (kind=8))) undef (.bool (decide (kind=11))))] ?_ fun f61=>?_
 ·cases h60:((decide (kind=2))||(decide (kind=8))) with
  | false=>
   obtain ⟨h60a,h60b⟩:=orF h60
   replace h60a:=df h60a
   replace h60b:=df h60b
   refine JLq (pp b2 0) (Yh rfl rfl)<|JLr (Zc ty3 rfl (ZcK 0 rfl) (YE ..)<|JLn (Pu.eql rfl rfl) ?_)
   exact Za ⟨⟨rfl,trivial⟩,rfl⟩
  | true=>
   exact Z1 rfl ⟨rfl,trivial⟩
 refine JLn (ZcT rfl rfl rfl)<|JLM rfl<|ZK 4 [83,84,85,86] [(86,cond (((decide (kind=2))||(decide (kind=8)))||(decide (kind=11))) (.bool (decide (num<0∨1073741824<num))) undef)] ?_ fun f63=>?_
 ·cases h62:(((decide (kind=2))||(decide (kind=8)))||(decide (kind=11))) with
  | true=>
   refine JLq (pp b2 1) (Y1 rfl rfl)<|JLr (Zc ty3 rfl (ZcK 0 rfl) (XV ..)<|JLM rfl<|Jc call211 rfl (fun hin=>XP _ _ _ _) rfl ?_)
   rintro _ _ ⟨rfl,rfl⟩
   exact Za ⟨⟨rfl,trivial⟩,rfl⟩
  | false=>
   exact Z1 rfl ⟨rfl,trivial⟩
 refine JLn (ZcR rfl rfl rfl)<|Za<|Zt rfl (fun h64=>?_) (fun h64=>?_)
 ·obtain ⟨h64a,h64b⟩:=Xx h64
  replace h64b:=dt h64b
  refine Zd<|JAn rfl<|ZE (iv 3) [] Sub.nil (?_)
  exact ⟨by refine congrArg (Value.int .i64) ?_;simp only [Xb];(repeat' split) <;> first | omega | grind,rfl⟩
 refine Zo<|Zd<|JAn rfl<|ZE (iv 0) [] Sub.nil (?_)
 exact ⟨by refine congrArg (Value.int .i64) ?_;simp only [Xb];(repeat' split) <;> first | omega | grind,rfl⟩
theorem G2 (cs:List Value) (H:Heap) (hl:cs.length=36):CT prog 189 ⟨[.agg ⟨cs⟩]⟩ [] H (fun v N=>∃ b,v=.func (.func 215) ⟨[]⟩ ⟨[pp b 0]⟩∧N=[(BX b cs 51)]):=by
 refine Zl func189 rfl rfl<|Zd<|JLr (Zr (l:=cs) rfl rfl fun b1=>JLa .nilFunc<|Za<|Zd<|JLq (.func (.func 215) ⟨[]⟩ ⟨[pp b1 0]⟩) (Pu.makeFunc rfl rfl)<|JAn rfl<|ZE (.func (.func 215) ⟨[]⟩ ⟨[pp b1 0]⟩) [(BX b1 cs 51)] (Sk Sub.nil) (?_))
 exact ⟨_,rfl,rfl⟩
theorem IO (kind num:Int) (ref:Sm) (ks cv:Value) (kids:List Tm) (cases:List (Pt×Tm)) (H:Heap) (bT:Nat) (hks:rdS RT 36 H ks kids) (hcv:rdS RC 71 H cv cases) (hT:H bT=some (.cells ⟨pkT kind num ref ks cv⟩ 51 (0,0))) (hsz:∀ c∈cases,binds c.1≤1000000) (hkl:kids.length≤1000000) (hcl:cases.length≤1000000) (l:Nat) {σ:Type} (yc:σ→Zf) (Inv:σ→Prop) (step:Tm→Int→σ→Bool×σ) (s0:σ) (h0:Inv s0) (It:Tm→Int→Prop) (hIK:∀ (j:Nat) (hj:j<kids.length),It kids[j] (more kind j)) (hIC:∀ (j:Nat) (hj:j<cases.length),It cases[j].2 (binds cases[j].1:Int)) (hI:∀ x mo s,Inv s→(step x mo s).1=true→Inv (step x mo s).2) (hy:∀ x mo,It x mo→∀ s (i:Int) a h,Inv s→Hle H h→RT h a x→YT prog l ⟨[iv i,.agg ⟨a++[iv mo]⟩]⟩ [yc s] h (fun v N=>v=.bool (step x mo s).1∧N=[yc (step x mo s).2])):CT prog 215 ⟨[.func (.yield l) ⟨[]⟩ ⟨[]⟩,pp bT 0]⟩ [yc s0] H (fun _ N=>N=[yc (yP step kind kids cases s0)]):=by
 refine Zl func215 rfl rfl<|Zg<|Zd<|JLq (pp bT 34) (YS rfl rfl)<|JLr (Zc XE rfl (ZcN hT) (Xq ..) ?_)
 obtain ⟨a1,cap1,hv1⟩:=hks.sl
 have hle1:=hks.le
 refine JLn (ZcM ZI hv1)<|JLM rfl<|Za<|Zm<|ZD (fun k ρ M=>∃ (j:Nat) (s:σ),Z7 ρ [(0,.func (.yield l) ⟨[]⟩ ⟨[]⟩),(1,pp bT 0),(8,ks),(9,iv ((kids.length:Int))),(10,iv ((j:Int)))]=ρ∧Sub [yc s] M∧j≤kids.length∧Inv s∧yK step kind j (kids.drop j) s=yK step kind 0 kids s0∧k=kids.length-j) _ ⟨0,s0,Zp rfl,(Sk Sub.nil),Nat.zero_le _,h0,rfl,rfl⟩ ?_
 rintro _ ρ2 _ ⟨j,s,e3,hm8,hj,hs,hinv,rfl⟩
 obtain ⟨ρ9,rfl⟩:=Zi e3
 clear e3
 refine ZF hm8 ?_
 have hlen:=hks.le
 refine Zd<|JLn (Pu.lss rfl rfl)<|Za<|Zg<|ZN rfl (fun h10=>?_) (fun h10=>?_)
 ·have h10n:j<kids.length:=by omega
  refine Zo<|Zg<|Zm<|Zd<|JLM rfl ?_
  obtain ⟨b11,o11,cap11,row11,T11,fr11,cs11,hv11,hb11,hs11,hE11⟩:=hks.get j (by omega)
  refine JLn (Pu.idx j ZI Zu hv11 rfl rfl (by omega))<|JLr (Zn Zu rfl (ZcN hb11) hs11<|JLr (Zk (l:=pkT 0 0 zS nS nS) zeroValue51 rfl fun b12=>JLA rfl<|JLr (Zb 0 (vs:=cs11) (l:=cs11) Zu rfl rfl rfl rfl (Zy hE11) (Y5 hE11) (ZY (n:=36) rfl (Zy hE11))<|Za<|Zg<|ZM mixed #[0,0,0,0,8,0,56,124,255,511] 8 (sm 15 8) [] [(6,fun _ _ vw qw=>vw=iv (more kind ((j:Int)))∧qw=[])] rfl (by kernel_rfl) rfl (by kernel_rfl)<|DM (fun _=>rfl)<|DM (fun _=>rfl)<|Dl Zu (ZcK 0 rfl) (Zx (Zy hE11))<|Dq (pp bT 0) (fun _=>Yh rfl rfl)<|Dl1 ty3 (ZcN hT) (YE ..) ?_)))
  refine DM (fun _=>rfl)<|Dc rfl call216 (fun _=>rfl) (fun hin=>Cv _ _ _) ?_
  rintro _ _ ⟨rfl,rfl⟩
  refine Dq (.agg ⟨cs11++([iv (more kind ((j:Int)))]:List Value)⟩) (fun _=>Pu.build (pv:=[(0,.agg ⟨cs11⟩),(1,iv (more kind ((j:Int))))]) (l:=cs11++([iv (more kind ((j:Int)))]:List Value)) rfl (PC (Zy hE11)))<|ZX (M':=[(BX b12 cs11 51),yc s]) rfl ?_
  show JL _ _ _ [_,_] _ _ _
  refine Tn 1 rfl rfl rfl (fun hin=>hy _ _ (hIK j h10n) _ _ _ _ hs (Hle.hu _ _) (RT.mono (Hle.hu _ _) hE11)) rfl ?_
  rintro _ _ ⟨rfl,rfl⟩
  refine JLn (Pu.not rfl)<|Za<|Zt rfl (fun h13=>?_) (fun h13=>?_)
  ·replace h13:=nt h13
   refine Zz<|⟨.tuple ⟨[]⟩,[yc (step (kids[j]) (more kind ((j:Int))) s).2],Ret.none rfl,(Sk Sub.nil),?_⟩
   rw [Wv h10n,yK,if_neg (by simp [h13])] at hinv
   show _=_;rw [yP,← hinv];rfl
  replace h13:=nf h13
  refine Zo<|Ze<|JLn (ZcP rfl rfl (by omega))<|JLM rfl<|Za<|⟨_,?_,(j+1),((step (kids[j]) (more kind ((j:Int))) s).2),Zp rfl,(Sk Sub.nil),?_,?_,?_,rfl⟩
  ·omega
  ·omega
  ·exact hI _ _ s hs h13
  rw [Wv h10n,yK,if_pos h13] at hinv;exact hinv
 have h10n:kids.length≤j:=by omega
 refine ZC _ rfl<|Zd<|JLq (pp bT 35) (Y0 rfl rfl)<|JLr (Zc WN rfl (ZcN hT) (XA ..) ?_)
 obtain ⟨a14,cap14,hv14⟩:=hcv.sl
 have hle14:=hcv.le
 refine JLn (ZcM Xp hv14)<|JLM rfl<|Za<|Zm ?_
 have hk1:yK step kind 0 kids s0=(true,s):=by rw [← hinv,SM h10n];rfl
 refine ZD (fun k ρ M=>∃ (j:Nat) (s2:σ),Z7 ρ [(0,.func (.yield l) ⟨[]⟩ ⟨[]⟩),(1,pp bT 0),(27,cv),(28,iv ((cases.length:Int))),(29,iv ((j:Int)))]=ρ∧Sub [yc s2] M∧j≤cases.length∧Inv s2∧yC step (cases.drop j) s2=yC step cases s∧k=cases.length-j) _ ⟨0,s,Zp rfl,(Sk Sub.nil),Nat.zero_le _,hs,rfl,rfl⟩ ?_
 rintro _ ρ15 _ ⟨j,s2,e16,hm21,hj,hs,hinv,rfl⟩
 obtain ⟨ρ22,rfl⟩:=Zi e16
 clear e16
 refine ZF hm21 ?_
 have hlen:=hcv.le
 refine Zd<|JLn (Pu.lss rfl rfl)<|Za<|Zg<|ZN rfl (fun h23=>?_) (fun h23=>?_)
 ·have h23n:j<cases.length:=by omega
  have hbm:=hsz _ (getElem_mem h23n)
  have hlenk:=hks.le
  refine Zo<|Zg<|Zm<|Zd<|JLM rfl ?_
  obtain ⟨b24,o24,cap24,row24,T24,fr24,cs24,hv24,hb24,hs24,hE24⟩:=hcv.get j (by omega)
  obtain ⟨ca24,cb24,rfl,hA24,hB24⟩:=hE24
  refine JLn (Pu.idx j Xp YD hv24 rfl rfl (by omega))<|JLr (Zn YD rfl (ZcN hb24) hs24<|JLr (Zk (l:=(pkP 0 0 zS nS)++(pkT 0 0 zS nS nS)) zeroValue117 rfl fun b25=>JLA rfl<|JLr (Zb 0 (vs:=ca24++cb24) (l:=ca24++cb24) YD rfl rfl rfl rfl (ZJ (ZL hA24) (Zy hB24)) (YB (W3 hA24) (Y5 hB24)) (ZY (n:=71) rfl (ZJ (ZL hA24) (Zy hB24)))<|Za<|Zg<|ZM mixed #[0,0,2,6,0,30,0,64,0,256,768,1984,4095,8191] 12 (sm 34 12) [] [(10,fun _ _ vw qw=>vw=iv ((binds (cases[j].1):Int))∧qw=[])] rfl (by kernel_rfl) rfl (by kernel_rfl)<|DM (fun _=>rfl)<|Dq (pp bT 34) (fun _=>YS rfl rfl)<|Dl1 XE (ZcN hT) (Xq ..) ?_)))
  obtain ⟨a27,cap27,hv27⟩:=hks.sl
  have hle27:=hks.le
  refine Dn (fun _=>ZcM ZI hv27)<|DM (fun _=>rfl) ?_
  refine Dn (fun _=>ZcV rfl rfl (by first | omega | (constructor <;> omega)))<|Dq (pp b25 35) (fun _=>WC rfl rfl)<|Dl Zu (ZcK 0 rfl) (Vt (ZL hA24) (Zy hB24))<|Dq (pp b25 0) (fun _=>WD rfl rfl)<|Dl ZO (ZcK 0 rfl) (Va (ZL hA24)) ?_
  refine Dc rfl call217 (fun _=>rfl) (fun hin=>E5 _ _ _ (RP.mono (Hle.hu _ _) hA24) (by omega)) ?_
  rintro _ _ ⟨rfl,rfl⟩
  refine Dq (.agg ⟨cb24++([iv ((binds (cases[j].1):Int))]:List Value)⟩) (fun _=>Pu.build (pv:=[(0,.agg ⟨cb24⟩),(1,iv ((binds (cases[j].1):Int)))]) (l:=cb24++([iv ((binds (cases[j].1):Int))]:List Value)) rfl (PC (Zy hB24)))<|ZX (M':=[(BX b25 (ca24++cb24) 117),yc s2]) rfl ?_
  show JL _ _ _ [_,_] _ _ _
  refine Tn 1 rfl rfl rfl (fun hin=>hy _ _ (hIC j h23n) _ _ _ _ hs (Hle.hu _ _) (RT.mono (Hle.hu _ _) hB24)) rfl ?_
  rintro _ _ ⟨rfl,rfl⟩
  refine JLn (Pu.not rfl)<|Za<|Zt rfl (fun h28=>?_) (fun h28=>?_)
  ·replace h28:=nt h28
   refine Zz<|⟨.tuple ⟨[]⟩,[yc (step (cases[j].2) ((binds (cases[j].1):Int)) s2).2],Ret.none rfl,(Sk Sub.nil),?_⟩
   rw [Wv h23n,yC,if_neg (by simp [h28])] at hinv
   show _=_;rw [yP,hk1,if_pos rfl,← hinv]
  replace h28:=nf h28
  refine Zo<|Ze<|JLn (ZcP rfl rfl (by omega))<|JLM rfl<|Za<|⟨_,?_,(j+1),((step (cases[j].2) ((binds (cases[j].1):Int)) s2).2),Zp rfl,(Sk Sub.nil),?_,?_,?_,rfl⟩
  ·omega
  ·omega
  ·exact hI _ _ s2 hs h28
  rw [Wv h23n,yC,if_pos h28] at hinv;exact hinv
 have h23n:cases.length≤j:=by omega
 refine ZC _ rfl<|⟨.tuple ⟨[]⟩,[yc s2],Ret.none rfl,(Sk Sub.nil),?_⟩
 show _=_;rw [yP,hk1,if_pos rfl,← hinv,SM h23n];rfl
theorem ZaT:∀ (t:Tm) (d m b:Int) (cs:List Value) (H:Heap) (bD:Nat),RT H cs t→H bD=some (.cells ⟨[iv d]⟩ 3 (0,0))→0≤b→b+2*sizeT t≤1000000→CT prog 147 ⟨[.agg ⟨[iv m,.func (.func 146) ⟨[]⟩ ⟨[pp bD 0]⟩]⟩,.agg ⟨cs⟩,iv b]⟩ [] H (fun v N=>v=iv (XG d m b t)∧N=[]):=by
 intro t
 induction t using Tm.ind with
 | h kind num ref kids cases ih ih'=>
 intro d m b cs H bD ht hD hb0 hb
 obtain ⟨ks,cv,rfl,hk,hn,hks,hcv⟩:=RT_mk.1 ht
 rw [sizeT] at hb
 have hn1: -9223372036854775808≤num:=hn.1
 have hn2:num≤9223372036854775807:=hn.2
 have ihx:∀ x mo,(fun x mo=>((∃ (j:Nat) (hj:j<kids.length),x=kids[j])∨∃ (j:Nat) (hj:j<cases.length),x=cases[j].2)∧0≤mo∧mo+2*(sizeT x:Int)≤2*((1+sizeTs kids+sizeCs cases:Nat):Int)) x mo→∀ (d m b:Int) (cs:List Value) (H:Heap) (bD:Nat),RT H cs x→H bD=some (.cells ⟨[iv d]⟩ 3 (0,0))→0≤b→b+2*sizeT x≤1000000→CT prog 147 ⟨[.agg ⟨[iv m,.func (.func 146) ⟨[]⟩ ⟨[pp bD 0]⟩]⟩,.agg ⟨cs⟩,iv b]⟩ [] H (fun v N=>v=iv (XG d m b x)∧N=[]):=by
  rintro x mo ⟨⟨j,hj,rfl⟩ | ⟨j,hj,rfl⟩,_,_⟩
  ·exact ih _ (getElem_mem hj)
  ·exact ih' _ (getElem_mem hj)
 refine Zl func147 rfl rfl<|Zd<|JLr (Zr (l:=[iv m,.func (.func 146) ⟨[]⟩ ⟨[pp bD 0]⟩]) rfl rfl fun b1=>JLr (Zr (l:=pkT kind num ref ks cv) rfl rfl fun b2=>JLr (Zr (l:=[iv b]) rfl rfl fun b3=>JLr (Zk (l:=[iv 0]) zeroValue26 rfl fun b4=>Za<|Zg<|Zd<|JLr (Zn KZ rfl (ZcK 3 rfl) rfl<|JLr (Zn Zu rfl (ZcK 2 rfl) (Z4 ..) ?_))))))
 refine JLr (Zc ty3 rfl (ZcK 1 rfl) rfl<|Jc call187 rfl (fun hin=>KJ _ _ _ _ _ _ _ _ _ _ _ bD (RTs.mono (Hle.hu _ _) hks) (RCs.mono (Hle.hu _ _) hcv) (Hle.hu _ _ _ _ hD) hb0 (by omega) hn1 hn2) rfl ?_)
 rintro _ _ ⟨rfl,rfl⟩
 refine JAn rfl<|Zd<|JLM rfl<|JLn (Pu.neq rfl rfl)<|Za<|Zt rfl (fun h5=>?_) (fun h5=>?_)
 ·replace h5:=nt h5
  replace h5:=df h5
  refine Zd<|JLM rfl<|JLr (Zb 0 (vs:=[iv (Xb d m b kind num ref kids.length cases.length)]) (l:=[iv (Xb d m b kind num ref kids.length cases.length)]) PS rfl rfl rfl rfl rfl (Zh rfl Zq) rfl<|Za<|Zz<|⟨iv (Xb d m b kind num ref kids.length cases.length),[],Ret.one rfl (Zc8 PS rfl (ZcK 0 rfl) rfl),Sub.nil,?_⟩)
  exact ⟨by rw [XG,if_neg h5],rfl⟩
 replace h5:=nf h5
 replace h5:=dt h5
 refine Zo<|Zg<|Zd<|JLq (pp b2 35) (Y0 rfl rfl)<|JLr (Zc WN rfl (ZcK 2 rfl) (XA ..) ?_)
 obtain ⟨a6,cap6,hv6⟩:=hcv.sl
 have hle6:=hcv.le
 refine JLn (ZcM Xp hv6)<|JLM rfl<|Za<|Zm ?_
 have hh0:Xb d m b kind num ref kids.length cases.length=0:=h5
 refine ZD (fun k ρ M=>∃ (j:Nat),Z7 ρ [(3,pp b1 0),(4,pp b2 0),(5,pp b3 0),(6,pp b4 0),(22,cv),(23,iv ((cases.length:Int))),(24,iv ((j:Int)))]=ρ∧Sub [(BX b4 [iv 0] 26),(BX b3 [iv b] 3),(BX b2 (pkT kind num ref ks cv) 51),(BX b1 [iv m,.func (.func 146) ⟨[]⟩ ⟨[pp bD 0]⟩] 195)] M∧j≤cases.length∧Vk (cases.drop j)=Vk cases∧k=cases.length-j) _ ⟨0,Zp rfl,(Sk (Sk (Sk (Sk Sub.nil)))),Nat.zero_le _,rfl,rfl⟩ ?_
 rintro _ ρ7 _ ⟨j,e8,hm15,hj,hinv,rfl⟩
 obtain ⟨ρ16,rfl⟩:=Zi e8
 clear e8
 refine ZF hm15 ?_
 have hlen:=hcv.le
 refine Zd<|JLn (Pu.lss rfl rfl)<|Za<|Zg<|ZN rfl (fun h17=>?_) (fun h17=>?_)
 ·have h17n:j<cases.length:=by omega
  refine Zo<|Zg<|Zm<|Zg<|Ze ?_
  obtain ⟨b18,o18,cap18,row18,T18,fr18,cs18,hv18,hb18,hs18,hE18⟩:=hcv.get j (by omega)
  obtain ⟨ca18,cb18,rfl,hA18,hB18⟩:=hE18
  refine JLn (Pu.idx j Xp YD hv18 rfl rfl (by omega))<|JLr (Zn YD rfl (ZcN hb18) hs18<|JLr (Zk (l:=(pkP 0 0 zS nS)++(pkT 0 0 zS nS nS)) zeroValue117 rfl fun b19=>JLr (Zb 0 (vs:=ca18++cb18) (l:=ca18++cb18) YD rfl rfl rfl rfl (ZJ (ZL hA18) (Zy hB18)) (YB (W3 hA18) (Y5 hB18)) (ZY (n:=71) rfl (ZJ (ZL hA18) (Zy hB18)))<|Za<|Zd<|JLq (pp b19 0) (WD rfl rfl)<|JLr (Zn ZO rfl (ZcK 0 rfl) (Va (ZL hA18))<|Jc call188 rfl (fun hin=>Rg _ _ _ (RP.mono (Hle.hu _ _) hA18)) rfl ?_))))
  rintro _ _ ⟨rfl,rfl⟩
  refine JAn rfl<|Zd<|JLM rfl<|JLn (Pu.neq rfl rfl)<|Za<|Zt rfl (fun h20=>?_) (fun h20=>?_)
  ·replace h20:=nt h20
   replace h20:=df h20
   refine Zd<|JLM rfl<|JLr (Zb 1 (vs:=[iv (VD (cases[j].1))]) (l:=[iv (VD (cases[j].1))]) PS rfl rfl rfl rfl rfl (Zh rfl Zq) rfl<|Za<|Zz<|⟨iv (VD (cases[j].1)),[],Ret.one rfl (Zc8 PS rfl (ZcK 1 rfl) rfl),Sub.nil,?_⟩)
   exact ⟨by rw [XG,if_pos hh0,← hinv,Wv h17n,Vk,if_neg h20,if_neg h20],rfl⟩
  replace h20:=nf h20
  replace h20:=dt h20
  refine Zo<|Ze<|JLn (ZcP rfl rfl (by omega))<|JLM rfl<|Za<|⟨_,?_,(j+1),Zp rfl,(Sd (Sk (Sk (Sk (Sk Sub.nil))))),?_,?_,rfl⟩
  ·omega
  ·omega
  rw [Wv h17n,Vk,if_pos h20] at hinv;exact hinv
 have h17n:cases.length≤j:=by omega
 refine ZC _ rfl<|Zg<|Zd<|JLr (Zn Zu rfl (ZcK 2 rfl) (Z4 ..)<|Jc call189 rfl (fun hin=>G2 _ _ rfl) rfl ?_)
 rintro _ _ ⟨bT21,rfl,rfl⟩
 refine Za<|Zm ?_
 have h1:Vk cases=0:=by rw [← hinv,SM h17n];rfl
 refine Qu (L:=[(BX bT21 (pkT kind num ref ks cv) 51),(BX b3 [iv b] 3),(BX b2 (pkT kind num ref ks cv) 51),(BX b1 [iv m,.func (.func 146) ⟨[]⟩ ⟨[pp bD 0]⟩] 195)]) (fun e:Int=>[(BX b4 [iv e] 26)]) (fun e=> !decide (e=0)) 0 (fun e=>e=yP (fun x mo _=>(decide (XG d m (b+mo) x=0),XG d m (b+mo) x)) kind kids cases 0) rfl rfl call215 (Uc (i:=1) rfl) ?_ ?_ ?_
 ·intro l yc hY hin
  refine CT.mono (IO kind num ref ks cv kids cases _ bT21 (RTs.mono (Hle.hu _ _) hks) (RCs.mono (Hle.hu _ _) hcv) (hin 0 _ rfl _ _ mem_cons_self) (fun c hc=>by have:=WQ c hc;have:=VU c.1;omega) (by have:=XR kids;omega) (by have:=WX cases;omega) l yc (fun e=>e=0) (fun x mo _=>(decide (XG d m (b+mo) x=0),XG d m (b+mo) x)) 0 rfl (fun x mo=>((∃ (j:Nat) (hj:j<kids.length),x=kids[j])∨∃ (j:Nat) (hj:j<cases.length),x=cases[j].2)∧0≤mo∧mo+2*(sizeT x:Int)≤2*((1+sizeTs kids+sizeCs cases:Nat):Int)) ?_ ?_ (fun x mo s _ h=>of_decide_eq_true h) ?_) (fun v N hN=>⟨_,hN,rfl⟩)
  ·intro j hj;have hs1:=YR _ (getElem_mem hj);have hm1:=Jy kind j;exact ⟨.inl ⟨j,hj,rfl⟩,by omega,by omega⟩
  ·intro j hj;have hs1:=WQ _ (getElem_mem hj);have hm1:=VU (cases[j]).1;have hp1:=Vv (cases[j]).2;exact ⟨.inr ⟨j,hj,rfl⟩,by omega,by omega⟩
  intro x mo hit e i a h he hh ra
  subst he
  have hb0x:0≤b+mo:=by have:=hit.2.1;omega
  have hb1x:b+mo+2*(sizeT x:Int)≤1000000:=by have:=hit.2.2;omega
  have hp1:=Vv x
  refine YT.mono (hY 0 [_,_] h (fun e'=>e'=XG d m (b+mo) x) rfl rfl (RoundOk.mk ?_)) ?_
  ·show J _ _ _ _ [(BX b4 [iv 0] 26)] _
   refine Ze<|JLr (Zk (l:=(pkT 0 0 zS nS nS)++([iv 0]:List Value)) zeroValue230 rfl fun b22=>JLr (Zb 0 (vs:=a++([iv mo]:List Value)) (l:=a++([iv mo]:List Value)) Za6 rfl rfl rfl rfl (ZJ (Zy ra) rfl) (YB (Y5 ra) (Zh rfl Zq)) (ZY (n:=37) rfl (ZJ (Zy ra) rfl))<|Za<|Zm<|Zd<|JLr (Zn KZ rfl (ZcN (hh _ _ (hin 3 _ rfl _ _ mem_cons_self))) rfl<|JLq (pp b22 0) (C4 rfl rfl)<|JLr (Zn Zu rfl (ZcK 0 rfl) (Va (Zy ra))<|JLr (Zc ty3 rfl (ZcN (hh _ _ (hin 1 _ rfl _ _ mem_cons_self))) rfl<|JLq (pp b22 36) (C3 rfl rfl)<|JLr (Zc ty3 rfl (ZcK 0 rfl) (RW (n:=36) (i:=0) (Zy ra) rfl) ?_))))))
   refine JLn (ZcV rfl rfl (by first | omega | (constructor <;> omega)))<|Jc call147 rfl (fun hin=>ihx x mo hit d m _ _ _ bD (RT.mono (Hle.hu _ _) ra) (Hle.hu _ _ _ _ (hh _ _ (Hle.hu _ _ _ _ hD))) hb0x hb1x) rfl ?_
   rintro _ _ ⟨rfl,rfl⟩
   refine JAn rfl<|Zd<|JLM rfl<|JLn (Pu.neq rfl rfl)<|Za<|Zt rfl (fun h23=>?_) (fun h23=>?_)
   ·replace h23:=nt h23
    replace h23:=df h23
    refine Zd<|JLM rfl<|JLr (Zb 1 (vs:=[iv (XG d m (b+mo) x)]) (l:=[iv (XG d m (b+mo) x)]) PS rfl rfl rfl rfl rfl (Zh rfl Zq) rfl<|Za<|Zz ?_)
    exact ⟨XG d m (b+mo) x,by simp [h23],(Sd (Sk Sub.nil)),rfl⟩
   replace h23:=nf h23
   replace h23:=dt h23
   refine Zo ?_
   exact ⟨0,rfl,(Sd (Sk Sub.nil)),h23.symm⟩
  rintro v N ⟨e',rfl,rfl,rfl⟩;exact ⟨by simp,rfl⟩
 ·rintro ef hef hp
  refine Zd<|JLr (Zb 0 (vs:=[iv 0]) (l:=[iv 0]) PS rfl rfl rfl rfl rfl (Zh rfl Zq) rfl<|Za<|Zz<|⟨iv 0,[],Ret.one rfl (Zc8 PS rfl (ZcK 0 rfl) rfl),Sub.nil,?_⟩)
  rw [HS] at hef
  have hp0:ef=0:=by simpa using hp
  exact ⟨by rw [XG,if_pos hh0,if_pos h1,← hef,hp0],rfl⟩
 rintro ef hef hp
 refine ⟨iv ef,[],Ret.one rfl (Zc8 PS rfl (ZcK 0 rfl) rfl),Sub.nil,?_⟩
 rw [HS] at hef
 have hp0:¬ ef=0:=by simpa using hp
 exact ⟨by rw [XG,if_pos hh0,if_pos h1,← hef],rfl⟩
theorem Py (t:Tm) (d m:Int) (cs:List Value) (H:Heap) (ht:RT H cs t):CT prog 97 ⟨[.agg ⟨cs⟩,iv d,iv m]⟩ [] H (fun v N=>v=iv (Xv d m t)∧N=[]):=by
 refine Zl func97 rfl rfl<|Zd<|JLr (Zr (l:=cs) rfl rfl fun b1=>JLr (Zr (l:=[iv d]) rfl rfl fun b2=>JAn rfl<|Zg<|Zd<|JLq (.agg ⟨[iv 0]⟩) (Pu.build (pv:=[]) (l:=[iv 0]) rfl BI)<|JLr (Zr (l:=[iv 0]) rfl rfl fun b3=>JLr (Zn Zu rfl (ZcK 2 rfl) (Zx (Zy ht)) ?_))))
 refine Zs 0 rfl call145 rfl rfl (fun hin=>FN _ _ _ _ _ _ (RT.mono (Hle.hu _ _) ht) (by omega) (by omega) (by omega) (by omega)) rfl ?_
 rintro _ _ ⟨rfl,rfl⟩
 refine Za<|Zt rfl (fun h5=>?_) (fun h5=>?_)
 ·refine Zd<|JAn rfl<|ZE (iv 11) [] Sub.nil (?_)
  exact ⟨by rw [Xv,if_pos (by simp [h5])],rfl⟩
 refine Zo<|Zd<|JLM rfl<|JLq (.func (.func 146) ⟨[]⟩ ⟨[pp b2 0]⟩) (Pu.makeFunc rfl rfl)<|JLq (.agg ⟨[iv m,.func (.func 146) ⟨[]⟩ ⟨[pp b2 0]⟩]⟩) (Pu.build (pv:=[(0,iv m),(1,.func (.func 146) ⟨[]⟩ ⟨[pp b2 0]⟩)]) (l:=[iv m,.func (.func 146) ⟨[]⟩ ⟨[pp b2 0]⟩]) rfl (KN _ _ _ _))<|JLr (Zk (l:=[iv 0,.nilFunc]) zeroValue195 rfl fun b6=>JLr (Zb 0 (vs:=[iv m,.func (.func 146) ⟨[]⟩ ⟨[pp b2 0]⟩]) (l:=[iv m,.func (.func 146) ⟨[]⟩ ⟨[pp b2 0]⟩]) KZ rfl rfl rfl rfl rfl (Zh rfl (Zh rfl Zq)) rfl<|Za<|Zd<|JLr (Zn KZ rfl (ZcK 0 rfl) rfl<|JLr (Zn Zu rfl (ZcK 3 rfl) (Zx (Zy ht)) ?_))))
 refine Jc call147 rfl (fun hin=>ZaT _ _ _ _ _ _ _ (RT.mono (Hle.hu _ _) ht) (hin 2 _ rfl _ _ mem_cons_self) (by decide) (by have e1:=UQ t 1 0 h5;have e2:=EI Tw t 1 0 h5;omega)) rfl ?_
 rintro _ _ ⟨rfl,rfl⟩
 refine JAn rfl<|ZE (iv (XG d m 0 t)) [] Sub.nil (?_)
 exact ⟨by rw [Xv,if_neg (by simp [h5])],rfl⟩
theorem GT (l:List Tm) (v:Value) (H:Heap) (hl:rdS RT 36 H v l):CT prog 151 ⟨[v]⟩ [] H (fun v N=>v=iv (Wq l)∧N=[]):=by
 refine Zl func151 rfl rfl<|Zd<|JAn rfl<|Zg<|Zd<|JLm v ?_
 obtain ⟨a1,cap1,hv1⟩:=hl.sl
 have hle1:=hl.le
 refine JLn (ZcM ZI hv1)<|JLM rfl<|Za<|Zm<|ZD (fun k ρ M=>∃ (j:Nat),Z7 ρ [(2,iv 0),(6,v),(7,iv ((l.length:Int))),(8,iv ((j:Int)))]=ρ∧Sub [] M∧j≤l.length∧Wq (l.drop j)=Wq l∧k=l.length-j) _ ⟨0,Zp rfl,Sub.nil,Nat.zero_le _,rfl,rfl⟩ ?_
 rintro _ ρ2 _ ⟨j,e3,hm7,hj,hinv,rfl⟩
 obtain ⟨ρ8,rfl⟩:=Zi e3
 clear e3
 refine ZF hm7<|Zd<|JLn (Pu.lss rfl rfl)<|Za<|Zg<|ZN rfl (fun h9=>?_) (fun h9=>?_)
 ·have h9n:j<l.length:=by omega
  have hlenl:=hl.le
  refine Zo<|Zg<|Zm<|Zg<|Ze ?_
  obtain ⟨b10,o10,cap10,row10,T10,fr10,cs10,hv10,hb10,hs10,hE10⟩:=hl.get j (by omega)
  refine JLn (Pu.idx j ZI Zu hv10 rfl rfl (by omega))<|JLr (Zn Zu rfl (ZcN hb10) hs10<|JLr (Zk (l:=pkT 0 0 zS nS nS) zeroValue51 rfl fun b11=>JLr (Zb 0 (vs:=cs10) (l:=cs10) Zu rfl rfl rfl rfl (Zy hE10) (Y5 hE10) (ZY (n:=36) rfl (Zy hE10))<|Za<|Zd<|JLr (Zn Zu rfl (ZcK 0 rfl) (Zx (Zy hE10))<|Jc call97 rfl (fun hin=>Py _ _ _ _ _ (RT.mono (Hle.hu _ _) hE10)) rfl ?_))))
  rintro _ _ ⟨rfl,rfl⟩
  refine JAn rfl<|Zd<|JLM rfl<|JLn (Pu.neq rfl rfl)<|Za<|Zt rfl (fun h12=>?_) (fun h12=>?_)
  ·replace h12:=nt h12
   replace h12:=df h12
   refine Zd<|JLM rfl<|JAn rfl<|ZE (iv (Xv 60 8 (l[j]))) [] Sub.nil (?_)
   exact ⟨by rw [← hinv,Wv h9n,Wq,if_neg h12],rfl⟩
  replace h12:=nf h12
  replace h12:=dt h12
  refine Zo<|Ze<|JLn (ZcP rfl rfl (by omega))<|JLM rfl<|Za<|⟨_,?_,(j+1),Zp rfl,Sub.nil,?_,?_,rfl⟩
  ·omega
  ·omega
  rw [Wv h9n,Wq,if_pos h12] at hinv;exact hinv
 have h9n:l.length≤j:=by omega
 refine ZC _ rfl<|Zd<|JAn rfl<|ZE (iv 0) [] Sub.nil (?_)
 exact ⟨by rw [← hinv,SM h9n];rfl,rfl⟩
theorem Tr:∀ (p:Pt) (cs:List Value) (H:Heap),RP H cs p→sizeP p≤1000000→CT prog 66 ⟨[.agg ⟨cs⟩]⟩ [] H (fun v N=>∃ cs k,v=.agg ⟨cs⟩∧N=[k]∧OP p cs k):=by
 intro p
 induction p using Pt.ind with
 | h kind num ref kids ih=>
 intro cs H hp hz
 rw [sizeP] at hz
 have hlk:=TJ kids
 obtain ⟨ks,rfl,hk,hn,hks⟩:=RP_mk.1 hp
 refine Zl func66 rfl rfl<|Zd<|JLr (Zr (l:=pkP kind num ref ks) rfl rfl fun b1=>JLr (Zk (l:=pkP 0 0 zS nS) zeroValue115 rfl fun b2=>Za<|Zd<|JLq (pp b1 34) (YG rfl rfl)<|JLr (Zc XF rfl (ZcK 1 rfl) (XO ..)<|JLa ks<|Za<|Zg ?_)))
 refine Ze<|JLq (pp b1 34) (YG rfl rfl)<|JLr (Zb 1 (vs:=[nS]) (l:=pkP kind num ref nS) XF rfl rfl rfl rfl rfl (Zh rfl Zq) (T9 ..)<|Za<|Zg<|Zd<|JLm ks ?_)
 obtain ⟨a3,cap3,hv3⟩:=hks.sl
 have hle3:=hks.le
 refine JLn (ZcM YX hv3)<|JLM rfl<|Za<|Zm<|ZD (fun k ρ M=>∃ (j:Nat) (v:Value) (es:List (List Value)) (k1 k2:Zf),Z7 ρ [(1,pp b1 0),(2,pp b2 0),(9,ks),(10,iv ((kids.length:Int))),(11,iv ((j:Int)))]=ρ∧Sub [(BX b1 (pkP kind num ref v) 115),k1,k2,(BX b2 (pkP 0 0 zS nS) 115)] M∧j≤kids.length∧Own 115 35 v es k1∧OPs ((kids.take j)) es k2∧k=kids.length-j) _ ⟨0,nS,[],[],[],Zp rfl,(Sub.cons 1 rfl (ZcL (ZcL (Sk Sub.nil)))),Nat.zero_le _,Own.nil,OPs.nil,rfl⟩ ?_
 rintro _ ρ4 _ ⟨j,v,es,k1,k2,e5,hm10,hj,hov,hopv,rfl⟩
 obtain ⟨ρ11,rfl⟩:=Zi e5
 clear e5
 refine ZF hm10 ?_
 have hlen:=hks.le
 refine Zd<|JLn (Pu.lss rfl rfl)<|Za<|Zg<|ZN rfl (fun h12=>?_) (fun h12=>?_)
 ·have h12n:j<kids.length:=by omega
  have helv:=S0 hopv
  rw [length_take] at helv
  have hs1:=Tx _ (getElem_mem h12n)
  refine Zo<|Zg<|Zm<|Zg<|Ze ?_
  obtain ⟨b13,o13,cap13,row13,T13,fr13,cs13,hv13,hb13,hs13,hE13⟩:=hks.get j (by omega)
  refine JLn (Pu.idx j YX ZO hv13 rfl rfl (by omega))<|JLr (Zn ZO rfl (ZcN hb13) hs13<|JLr (Zk (l:=pkP 0 0 zS nS) zeroValue115 rfl fun b14=>JLr (Zb 0 (vs:=cs13) (l:=cs13) ZO rfl rfl rfl rfl (ZL hE13) (W3 hE13) (ZY (n:=35) rfl (ZL hE13))<|Za<|ZM mixed #[0,1,0,4,12,31,63,127] 5 (sm 15 5) [] [(3,fun _ _ vw qw=>∃ cs k,vw=.agg ⟨cs⟩∧qw=[k]∧OP (kids[j]) cs k),(4,fun r _ vw qw=>∃ b k,vw=.slice (some ⟨b,0,none⟩) 1 1∧qw=[k]∧Own 115 35 (.slice (some ⟨b,0,none⟩) 1 1) [(cel (r 3))] k∧k=(BX b (flatten [(cel (r 3))]) 115))] rfl (by kernel_rfl) rfl (by kernel_rfl)<|Dq (pp b1 34) (fun _=>YG rfl rfl)<|Dl1 XF (ZcK 1 rfl) (XO ..)<|Dl ZO (ZcK 0 rfl) (Zx (ZL hE13)) ?_)))
  refine Dc rfl call66 (fun _=>rfl) (fun hin=>ih _ (getElem_mem h12n) _ _ (RP.mono (Hle.hu _ _) hE13) (by omega)) ?_
  rintro _ _ ⟨cs17,k17,rfl,rfl,hO17⟩
  refine Dr rfl (fun _=>Zj (vs:=[.agg ⟨cs17⟩]) [cs17] YX Oz rfl rfl (al1 hO17.len) rfl (by decide) fun b k h1 h2=>⟨[k],by rw [Yd rfl];exact Sub.refl,b,k,rfl,rfl,h1,h2⟩) (fun _ _ ⟨b18,k18,e1,e2,ho18,hk18⟩=>?_);subst e1 e2
  refine ZX (M':=[k18,k17,(BX b14 cs13 115),(BX b1 (pkP kind num ref v) 115),k1,k2,(BX b2 (pkP 0 0 zS nS) 115)]) rfl ?_
  show JL _ _ _ [_,_,_] _ _ _
  have hlens19:∀ e∈([cs17]:List (List Value)),List.length e=35:=al1 hO17.len
  have hoks19:∀ e∈([cs17]:List (List Value)),okc e:=al1 hO17.ok
  refine JLr (ZA (i:=4) (n:=1) (es':=[cs17]) YX YX (Or.inl rfl) Oz rfl rfl rfl hov (fun F w m=>Src.row (((ZcS 0 rfl (by rw [hk18];exact mem_cons_self))).heap m) (Zx (Zw hlens19))) rfl hlens19 hoks19 (by decide) (by omega) fun v19 k19 ho19=>JLq (pp b1 34) (YG rfl rfl)<|JLr (Zb 3 (vs:=[v19]) (l:=pkP kind num ref v19) XF rfl rfl rfl (ZH ho19.one) rfl (Zh ho19.one Zq) (T9 ..)<|Za<|Ze<|JLn (ZcP rfl rfl (by omega))<|JLM rfl<|Za<|⟨_,?_,(j+1),v19,(es++[cs17]),k19,(k2++k17),Zp rfl,(Sd (Sub.cons 2 rfl (Sub.cons 2 rfl (ZcO (Sub.cons 2 rfl (Sk (Sd (Sk Sub.nil)))))))),?_,?_,?_,rfl⟩))
  ·omega
  ·omega
  ·assumption
  rw [take_succ_eq_append_getElem h12n];exact OPs.snoc hO17 hopv
 have h12n:kids.length≤j:=by omega
 refine ZC _ rfl<|Zd<|JLr (Zn ZO rfl (ZcK 0 rfl) (Ve ..)<|JLr (Zb 3 (vs:=pkP kind num ref v) (l:=pkP kind num ref v) ZO rfl rfl rfl rfl rfl (XN hov.one) (UE ..)<|Za<|Zz<|⟨.agg ⟨pkP kind num ref v⟩,[k1++k2],Ret.one rfl (RV.cell ZO rfl (ZcK 3 rfl) (Ve ..)),(ZcO (Sd (Sk (Sk Sub.nil)))),?_⟩))
 rw [take_of_length_le h12n] at hopv
 exact ⟨_,_,rfl,rfl,OP_mk.2 ⟨v,es,k1,k2,rfl,hk,hn,hov,hopv,rfl,hks.le⟩⟩
theorem QZ:∀ (p:Pt) (cs:List Value) (H:Heap),RP H cs p→sizeP p≤1000000→CT prog 108 ⟨[.agg ⟨cs⟩]⟩ [] H (fun v N=>∃ cs k,v=.agg ⟨cs⟩∧N=[k]∧OP p cs k):=by
 intro p
 induction p using Pt.ind with
 | h kind num ref kids ih=>
 intro cs H hp hz
 rw [sizeP] at hz
 have hlk:=TJ kids
 obtain ⟨ks,rfl,hk,hn,hks⟩:=RP_mk.1 hp
 refine Zl func108 rfl rfl<|Zd<|JLr (Zr (l:=pkP kind num ref ks) rfl rfl fun b1=>JLr (Zk (l:=pkP 0 0 zS nS) zeroValue115 rfl fun b2=>Za<|Zd<|JLq (pp b1 34) (YG rfl rfl)<|JLr (Zc XF rfl (ZcK 1 rfl) (XO ..)<|JLa ks<|Za<|Zg ?_)))
 refine Ze<|JLq (pp b1 34) (YG rfl rfl)<|JLr (Zb 1 (vs:=[nS]) (l:=pkP kind num ref nS) XF rfl rfl rfl rfl rfl (Zh rfl Zq) (T9 ..)<|Za<|Zg<|Zd<|JLm ks ?_)
 obtain ⟨a3,cap3,hv3⟩:=hks.sl
 have hle3:=hks.le
 refine JLn (ZcM YX hv3)<|JLM rfl<|Za<|Zm<|ZD (fun k ρ M=>∃ (j:Nat) (v:Value) (es:List (List Value)) (k1 k2:Zf),Z7 ρ [(1,pp b1 0),(2,pp b2 0),(9,ks),(10,iv ((kids.length:Int))),(11,iv ((j:Int)))]=ρ∧Sub [(BX b1 (pkP kind num ref v) 115),k1,k2,(BX b2 (pkP 0 0 zS nS) 115)] M∧j≤kids.length∧Own 115 35 v es k1∧OPs ((kids.take j)) es k2∧k=kids.length-j) _ ⟨0,nS,[],[],[],Zp rfl,(Sub.cons 1 rfl (ZcL (ZcL (Sk Sub.nil)))),Nat.zero_le _,Own.nil,OPs.nil,rfl⟩ ?_
 rintro _ ρ4 _ ⟨j,v,es,k1,k2,e5,hm10,hj,hov,hopv,rfl⟩
 obtain ⟨ρ11,rfl⟩:=Zi e5
 clear e5
 refine ZF hm10 ?_
 have hlen:=hks.le
 refine Zd<|JLn (Pu.lss rfl rfl)<|Za<|Zg<|ZN rfl (fun h12=>?_) (fun h12=>?_)
 ·have h12n:j<kids.length:=by omega
  have helv:=S0 hopv
  rw [length_take] at helv
  have hs1:=Tx _ (getElem_mem h12n)
  refine Zo<|Zg<|Zm<|Zg<|Ze ?_
  obtain ⟨b13,o13,cap13,row13,T13,fr13,cs13,hv13,hb13,hs13,hE13⟩:=hks.get j (by omega)
  refine JLn (Pu.idx j YX ZO hv13 rfl rfl (by omega))<|JLr (Zn ZO rfl (ZcN hb13) hs13<|JLr (Zk (l:=pkP 0 0 zS nS) zeroValue115 rfl fun b14=>JLr (Zb 0 (vs:=cs13) (l:=cs13) ZO rfl rfl rfl rfl (ZL hE13) (W3 hE13) (ZY (n:=35) rfl (ZL hE13))<|Za<|ZM mixed #[0,1,0,4,12,31,63,127] 5 (sm 15 5) [] [(3,fun _ _ vw qw=>∃ cs k,vw=.agg ⟨cs⟩∧qw=[k]∧OP (kids[j]) cs k),(4,fun r _ vw qw=>∃ b k,vw=.slice (some ⟨b,0,none⟩) 1 1∧qw=[k]∧Own 115 35 (.slice (some ⟨b,0,none⟩) 1 1) [(cel (r 3))] k∧k=(BX b (flatten [(cel (r 3))]) 115))] rfl (by kernel_rfl) rfl (by kernel_rfl)<|Dq (pp b1 34) (fun _=>YG rfl rfl)<|Dl1 XF (ZcK 1 rfl) (XO ..)<|Dl ZO (ZcK 0 rfl) (Zx (ZL hE13)) ?_)))
  refine Dc rfl call108 (fun _=>rfl) (fun hin=>ih _ (getElem_mem h12n) _ _ (RP.mono (Hle.hu _ _) hE13) (by omega)) ?_
  rintro _ _ ⟨cs17,k17,rfl,rfl,hO17⟩
  refine Dr rfl (fun _=>Zj (vs:=[.agg ⟨cs17⟩]) [cs17] YX Oz rfl rfl (al1 hO17.len) rfl (by decide) fun b k h1 h2=>⟨[k],by rw [Yd rfl];exact Sub.refl,b,k,rfl,rfl,h1,h2⟩) (fun _ _ ⟨b18,k18,e1,e2,ho18,hk18⟩=>?_);subst e1 e2
  refine ZX (M':=[k18,k17,(BX b14 cs13 115),(BX b1 (pkP kind num ref v) 115),k1,k2,(BX b2 (pkP 0 0 zS nS) 115)]) rfl ?_
  show JL _ _ _ [_,_,_] _ _ _
  have hlens19:∀ e∈([cs17]:List (List Value)),List.length e=35:=al1 hO17.len
  have hoks19:∀ e∈([cs17]:List (List Value)),okc e:=al1 hO17.ok
  refine JLr (ZA (i:=4) (n:=1) (es':=[cs17]) YX YX (Or.inl rfl) Oz rfl rfl rfl hov (fun F w m=>Src.row (((ZcS 0 rfl (by rw [hk18];exact mem_cons_self))).heap m) (Zx (Zw hlens19))) rfl hlens19 hoks19 (by decide) (by omega) fun v19 k19 ho19=>JLq (pp b1 34) (YG rfl rfl)<|JLr (Zb 3 (vs:=[v19]) (l:=pkP kind num ref v19) XF rfl rfl rfl (ZH ho19.one) rfl (Zh ho19.one Zq) (T9 ..)<|Za<|Ze<|JLn (ZcP rfl rfl (by omega))<|JLM rfl<|Za<|⟨_,?_,(j+1),v19,(es++[cs17]),k19,(k2++k17),Zp rfl,(Sd (Sub.cons 2 rfl (Sub.cons 2 rfl (ZcO (Sub.cons 2 rfl (Sk (Sd (Sk Sub.nil)))))))),?_,?_,?_,rfl⟩))
  ·omega
  ·omega
  ·assumption
  rw [take_succ_eq_append_getElem h12n];exact OPs.snoc hO17 hopv
 have h12n:kids.length≤j:=by omega
 refine ZC _ rfl<|Zd<|JLr (Zn ZO rfl (ZcK 0 rfl) (Ve ..)<|JLr (Zb 3 (vs:=pkP kind num ref v) (l:=pkP kind num ref v) ZO rfl rfl rfl rfl rfl (XN hov.one) (UE ..)<|Za<|Zz<|⟨.agg ⟨pkP kind num ref v⟩,[k1++k2],Ret.one rfl (RV.cell ZO rfl (ZcK 3 rfl) (Ve ..)),(ZcO (Sd (Sk (Sk Sub.nil)))),?_⟩))
 rw [take_of_length_le h12n] at hopv
 exact ⟨_,_,rfl,rfl,OP_mk.2 ⟨v,es,k1,k2,rfl,hk,hn,hov,hopv,rfl,hks.le⟩⟩
theorem Kv (g:Nat) (fs cv:List Value) (hcall:∀ args w,(callFunc g args).run prog w=.ok (.enter g args) w) (l m:List Pt) (v u:Value) (H:Heap) (hl:rdS RP 35 H v l) (hm:rdS RP 35 H u m) (hg:∀ x∈l,∀ y∈m,∀ a b h,Hle H h→RP h a x→RP h b y→CT prog g ⟨fs++[.agg ⟨a⟩,.agg ⟨b⟩]++cv⟩ [] h (fun v N=>v=.bool (decide (x=y))∧N=[])):CT prog 156 ⟨[v,u,.func (.func g) ⟨fs⟩ ⟨cv⟩]⟩ [] H (fun v N=>v=.bool (decide (l=m))∧N=[]):=by
 refine Zl func156 rfl rfl<|Zd<|JAn rfl<|Zg<|Zd<|JLm v ?_
 obtain ⟨a1,cap1,hv1⟩:=hl.sl
 have hle1:=hl.le
 refine JLn (ZcM YX hv1)<|JLm u ?_
 obtain ⟨a2,cap2,hv2⟩:=hm.sl
 have hle2:=hm.le
 refine JLn (ZcM YX hv2)<|JLn (Pu.neq rfl rfl)<|Za<|Zt rfl (fun h3=>?_) (fun h3=>?_)
 ·replace h3:=nt h3
  replace h3:=df h3
  refine Zd<|JAn rfl<|ZE (.bool false) [] Sub.nil (?_)
  exact ⟨by rw [decide_eq_false];intro e;subst e;exact h3 rfl,rfl⟩
 replace h3:=nf h3
 replace h3:=dt h3
 refine Zo<|Zg<|Zd<|JLm v ?_
 obtain ⟨a4,cap4,hv4⟩:=hl.sl
 have hle4:=hl.le
 refine JLn (ZcM YX hv4)<|JLM rfl<|Za<|Zm<|ZD (fun k ρ M=>∃ (j:Nat),Z7 ρ [(1,u),(2,.func (.func g) ⟨fs⟩ ⟨cv⟩),(6,.bool false),(15,v),(16,iv ((l.length:Int))),(17,iv ((j:Int)))]=ρ∧Sub [] M∧j≤l.length∧l.length=m.length∧l.take j=m.take j∧k=l.length-j) _ ⟨0,Zp rfl,Sub.nil,Nat.zero_le _,(by omega),rfl,rfl⟩ ?_
 rintro _ ρ5 _ ⟨j,e6,hm12,hj,hlen,htake,rfl⟩
 obtain ⟨ρ13,rfl⟩:=Zi e6
 clear e6
 refine ZF hm12<|Zd<|JLn (Pu.lss rfl rfl)<|Za<|Zg<|ZN rfl (fun h14=>?_) (fun h14=>?_)
 ·have h14n:j<l.length:=by omega
  have hlenl:=hl.le
  have hltm:j<m.length:=by omega
  refine Zo<|Zg<|Zm<|Zd<|JLM rfl ?_
  obtain ⟨b15,o15,cap15,row15,T15,fr15,cs15,hv15,hb15,hs15,hE15⟩:=hl.get j (by omega)
  refine JLn (Pu.idx j YX ZO hv15 rfl rfl (by omega))<|JLr (Zn ZO rfl (ZcN hb15) hs15<|JLr (Zk (l:=pkP 0 0 zS nS) zeroValue115 rfl fun b16=>JLA rfl<|JLr (Zb 0 (vs:=cs15) (l:=cs15) ZO rfl rfl rfl rfl (ZL hE15) (W3 hE15) (ZY (n:=35) rfl (ZL hE15))<|Za<|Zd<|JLm u<|JLM rfl ?_)))
  obtain ⟨b17,o17,cap17,row17,T17,fr17,cs17,hv17,hb17,hs17,hE17⟩:=hm.get j (by omega)
  refine JLn (Pu.idx j YX ZO hv17 rfl rfl (by omega))<|JLr (Zn ZO rfl (ZcN hb17) hs17<|JLr (Zk (l:=pkP 0 0 zS nS) zeroValue115 rfl fun b18=>JLr (Zb 0 (vs:=cs17) (l:=cs17) ZO rfl rfl rfl rfl (ZL hE17) (W3 hE17) (ZY (n:=35) rfl (ZL hE17))<|Za<|Zd<|JLM rfl<|JLr (Zn ZO rfl (ZcK 1 rfl) (Zx (ZL hE15))<|JLr (Zn ZO rfl (ZcK 0 rfl) (Zx (ZL hE17))<|Jc hcall rfl (fun hin=>hg _ (getElem_mem h14n) _ (getElem_mem (by omega)) _ _ _ (Hle.hu _ _) (RP.mono (Hle.hu _ _) hE15) (RP.mono (Hle.hu _ _) hE17)) rfl ?_)))))
  rintro _ _ ⟨rfl,rfl⟩
  refine JLn (Pu.not rfl)<|Za<|Zt rfl (fun h19=>?_) (fun h19=>?_)
  ·replace h19:=nt h19
   replace h19:=df h19
   refine Zd<|JAn rfl<|ZE (.bool false) [] Sub.nil (?_)
   exact ⟨by rw [decide_eq_false];intro e;subst e;exact h19 rfl,rfl⟩
  replace h19:=nf h19
  replace h19:=dt h19
  refine Zo<|Ze<|JLn (ZcP rfl rfl (by omega))<|JLM rfl<|Za<|⟨_,?_,(j+1),Zp rfl,Sub.nil,?_,?_,?_,rfl⟩
  ·omega
  ·omega
  ·assumption
  rw [take_succ_eq_append_getElem h14n,take_succ_eq_append_getElem (by omega),htake,h19]
 have h14n:l.length≤j:=by omega
 refine ZC _ rfl<|Zd<|JAn rfl<|ZE (.bool true) [] Sub.nil (?_)
 exact ⟨by rw [decide_eq_true];have e:=htake;rw [take_of_length_le h14n,take_of_length_le (by omega)] at e;exact e,rfl⟩
theorem Ku (g:Nat) (fs cv:List Value) (hcall:∀ args w,(callFunc g args).run prog w=.ok (.enter g args) w) (l m:List Tm) (v u:Value) (H:Heap) (hl:rdS RT 36 H v l) (hm:rdS RT 36 H u m) (hg:∀ x∈l,∀ y∈m,∀ a b h,Hle H h→RT h a x→RT h b y→CT prog g ⟨fs++[.agg ⟨a⟩,.agg ⟨b⟩]++cv⟩ [] h (fun v N=>v=.bool (decide (x=y))∧N=[])):CT prog 60 ⟨[v,u,.func (.func g) ⟨fs⟩ ⟨cv⟩]⟩ [] H (fun v N=>v=.bool (decide (l=m))∧N=[]):=by
 refine Zl func60 rfl rfl<|Zd<|JAn rfl<|Zg<|Zd<|JLm v ?_
 obtain ⟨a1,cap1,hv1⟩:=hl.sl
 have hle1:=hl.le
 refine JLn (ZcM ZI hv1)<|JLm u ?_
 obtain ⟨a2,cap2,hv2⟩:=hm.sl
 have hle2:=hm.le
 refine JLn (ZcM ZI hv2)<|JLn (Pu.neq rfl rfl)<|Za<|Zt rfl (fun h3=>?_) (fun h3=>?_)
 ·replace h3:=nt h3
  replace h3:=df h3
  refine Zd<|JAn rfl<|ZE (.bool false) [] Sub.nil (?_)
  exact ⟨by rw [decide_eq_false];intro e;subst e;exact h3 rfl,rfl⟩
 replace h3:=nf h3
 replace h3:=dt h3
 refine Zo<|Zg<|Zd<|JLm v ?_
 obtain ⟨a4,cap4,hv4⟩:=hl.sl
 have hle4:=hl.le
 refine JLn (ZcM ZI hv4)<|JLM rfl<|Za<|Zm<|ZD (fun k ρ M=>∃ (j:Nat),Z7 ρ [(1,u),(2,.func (.func g) ⟨fs⟩ ⟨cv⟩),(6,.bool false),(15,v),(16,iv ((l.length:Int))),(17,iv ((j:Int)))]=ρ∧Sub [] M∧j≤l.length∧l.length=m.length∧l.take j=m.take j∧k=l.length-j) _ ⟨0,Zp rfl,Sub.nil,Nat.zero_le _,(by omega),rfl,rfl⟩ ?_
 rintro _ ρ5 _ ⟨j,e6,hm12,hj,hlen,htake,rfl⟩
 obtain ⟨ρ13,rfl⟩:=Zi e6
 clear e6
 refine ZF hm12<|Zd<|JLn (Pu.lss rfl rfl)<|Za<|Zg<|ZN rfl (fun h14=>?_) (fun h14=>?_)
 ·have h14n:j<l.length:=by omega
  have hlenl:=hl.le
  have hltm:j<m.length:=by omega
  refine Zo<|Zg<|Zm<|Zd<|JLM rfl ?_
  obtain ⟨b15,o15,cap15,row15,T15,fr15,cs15,hv15,hb15,hs15,hE15⟩:=hl.get j (by omega)
  refine JLn (Pu.idx j ZI Zu hv15 rfl rfl (by omega))<|JLr (Zn Zu rfl (ZcN hb15) hs15<|JLr (Zk (l:=pkT 0 0 zS nS nS) zeroValue51 rfl fun b16=>JLA rfl<|JLr (Zb 0 (vs:=cs15) (l:=cs15) Zu rfl rfl rfl rfl (Zy hE15) (Y5 hE15) (ZY (n:=36) rfl (Zy hE15))<|Za<|Zd<|JLm u<|JLM rfl ?_)))
  obtain ⟨b17,o17,cap17,row17,T17,fr17,cs17,hv17,hb17,hs17,hE17⟩:=hm.get j (by omega)
  refine JLn (Pu.idx j ZI Zu hv17 rfl rfl (by omega))<|JLr (Zn Zu rfl (ZcN hb17) hs17<|JLr (Zk (l:=pkT 0 0 zS nS nS) zeroValue51 rfl fun b18=>JLr (Zb 0 (vs:=cs17) (l:=cs17) Zu rfl rfl rfl rfl (Zy hE17) (Y5 hE17) (ZY (n:=36) rfl (Zy hE17))<|Za<|Zd<|JLM rfl<|JLr (Zn Zu rfl (ZcK 1 rfl) (Zx (Zy hE15))<|JLr (Zn Zu rfl (ZcK 0 rfl) (Zx (Zy hE17))<|Jc hcall rfl (fun hin=>hg _ (getElem_mem h14n) _ (getElem_mem (by omega)) _ _ _ (Hle.hu _ _) (RT.mono (Hle.hu _ _) hE15) (RT.mono (Hle.hu _ _) hE17)) rfl ?_)))))
  rintro _ _ ⟨rfl,rfl⟩
  refine JLn (Pu.not rfl)<|Za<|Zt rfl (fun h19=>?_) (fun h19=>?_)
  ·replace h19:=nt h19
   replace h19:=df h19
   refine Zd<|JAn rfl<|ZE (.bool false) [] Sub.nil (?_)
   exact ⟨by rw [decide_eq_false];intro e;subst e;exact h19 rfl,rfl⟩
  replace h19:=nf h19
  replace h19:=dt h19
  refine Zo<|Ze<|JLn (ZcP rfl rfl (by omega))<|JLM rfl<|Za<|⟨_,?_,(j+1),Zp rfl,Sub.nil,?_,?_,?_,rfl⟩
  ·omega
  ·omega
  ·assumption
  rw [take_succ_eq_append_getElem h14n,take_succ_eq_append_getElem (by omega),htake,h19]
 have h14n:l.length≤j:=by omega
 refine ZC _ rfl<|Zd<|JAn rfl<|ZE (.bool true) [] Sub.nil (?_)
 exact ⟨by rw [decide_eq_true];have e:=htake;rw [take_of_length_le h14n,take_of_length_le (by omega)] at e;exact e,rfl⟩
theorem Kw (g:Nat) (fs cv:List Value) (hcall:∀ args w,(callFunc g args).run prog w=.ok (.enter g args) w) (l m:List (Pt×Tm)) (v u:Value) (H:Heap) (hl:rdS RC 71 H v l) (hm:rdS RC 71 H u m) (hg:∀ x∈l,∀ y∈m,∀ a b h,Hle H h→RC h a x→RC h b y→CT prog g ⟨fs++[.agg ⟨a⟩,.agg ⟨b⟩]++cv⟩ [] h (fun v N=>v=.bool (decide (x=y))∧N=[])):CT prog 110 ⟨[v,u,.func (.func g) ⟨fs⟩ ⟨cv⟩]⟩ [] H (fun v N=>v=.bool (decide (l=m))∧N=[]):=by
 refine Zl func110 rfl rfl<|Zd<|JAn rfl<|Zg<|Zd<|JLm v ?_
 obtain ⟨a1,cap1,hv1⟩:=hl.sl
 have hle1:=hl.le
 refine JLn (ZcM Xp hv1)<|JLm u ?_
 obtain ⟨a2,cap2,hv2⟩:=hm.sl
 have hle2:=hm.le
 refine JLn (ZcM Xp hv2)<|JLn (Pu.neq rfl rfl)<|Za<|Zt rfl (fun h3=>?_) (fun h3=>?_)
 ·replace h3:=nt h3
  replace h3:=df h3
  refine Zd<|JAn rfl<|ZE (.bool false) [] Sub.nil (?_)
  exact ⟨by rw [decide_eq_false];intro e;subst e;exact h3 rfl,rfl⟩
 replace h3:=nf h3
 replace h3:=dt h3
 refine Zo<|Zg<|Zd<|JLm v ?_
 obtain ⟨a4,cap4,hv4⟩:=hl.sl
 have hle4:=hl.le
 refine JLn (ZcM Xp hv4)<|JLM rfl<|Za<|Zm<|ZD (fun k ρ M=>∃ (j:Nat),Z7 ρ [(1,u),(2,.func (.func g) ⟨fs⟩ ⟨cv⟩),(6,.bool false),(15,v),(16,iv ((l.length:Int))),(17,iv ((j:Int)))]=ρ∧Sub [] M∧j≤l.length∧l.length=m.length∧l.take j=m.take j∧k=l.length-j) _ ⟨0,Zp rfl,Sub.nil,Nat.zero_le _,(by omega),rfl,rfl⟩ ?_
 rintro _ ρ5 _ ⟨j,e6,hm12,hj,hlen,htake,rfl⟩
 obtain ⟨ρ13,rfl⟩:=Zi e6
 clear e6
 refine ZF hm12<|Zd<|JLn (Pu.lss rfl rfl)<|Za<|Zg<|ZN rfl (fun h14=>?_) (fun h14=>?_)
 ·have h14n:j<l.length:=by omega
  have hlenl:=hl.le
  have hltm:j<m.length:=by omega
  refine Zo<|Zg<|Zm<|Zd<|JLM rfl ?_
  obtain ⟨b15,o15,cap15,row15,T15,fr15,cs15,hv15,hb15,hs15,hE15⟩:=hl.get j (by omega)
  obtain ⟨ca15,cb15,rfl,hA15,hB15⟩:=hE15
  refine JLn (Pu.idx j Xp YD hv15 rfl rfl (by omega))<|JLr (Zn YD rfl (ZcN hb15) hs15<|JLr (Zk (l:=(pkP 0 0 zS nS)++(pkT 0 0 zS nS nS)) zeroValue117 rfl fun b16=>JLA rfl<|JLr (Zb 0 (vs:=ca15++cb15) (l:=ca15++cb15) YD rfl rfl rfl rfl (ZJ (ZL hA15) (Zy hB15)) (YB (W3 hA15) (Y5 hB15)) (ZY (n:=71) rfl (ZJ (ZL hA15) (Zy hB15)))<|Za<|Zd<|JLm u<|JLM rfl ?_)))
  obtain ⟨b17,o17,cap17,row17,T17,fr17,cs17,hv17,hb17,hs17,hE17⟩:=hm.get j (by omega)
  obtain ⟨ca17,cb17,rfl,hA17,hB17⟩:=hE17
  refine JLn (Pu.idx j Xp YD hv17 rfl rfl (by omega))<|JLr (Zn YD rfl (ZcN hb17) hs17<|JLr (Zk (l:=(pkP 0 0 zS nS)++(pkT 0 0 zS nS nS)) zeroValue117 rfl fun b18=>JLr (Zb 0 (vs:=ca17++cb17) (l:=ca17++cb17) YD rfl rfl rfl rfl (ZJ (ZL hA17) (Zy hB17)) (YB (W3 hA17) (Y5 hB17)) (ZY (n:=71) rfl (ZJ (ZL hA17) (Zy hB17)))<|Za<|Zd<|JLM rfl<|JLr (Zn YD rfl (ZcK 1 rfl) (Zx (ZJ (ZL hA15) (Zy hB15)))<|JLr (Zn YD rfl (ZcK 0 rfl) (Zx (ZJ (ZL hA17) (Zy hB17)))<|Jc hcall rfl (fun hin=>hg _ (getElem_mem h14n) _ (getElem_mem (by omega)) _ _ _ (Hle.hu _ _) (RC.mono (Hle.hu _ _) (LE hA15 hB15)) (RC.mono (Hle.hu _ _) (LE hA17 hB17))) rfl ?_)))))
  rintro _ _ ⟨rfl,rfl⟩
  refine JLn (Pu.not rfl)<|Za<|Zt rfl (fun h19=>?_) (fun h19=>?_)
  ·replace h19:=nt h19
   replace h19:=df h19
   refine Zd<|JAn rfl<|ZE (.bool false) [] Sub.nil (?_)
   exact ⟨by rw [decide_eq_false];intro e;subst e;exact h19 rfl,rfl⟩
  replace h19:=nf h19
  replace h19:=dt h19
  refine Zo<|Ze<|JLn (ZcP rfl rfl (by omega))<|JLM rfl<|Za<|⟨_,?_,(j+1),Zp rfl,Sub.nil,?_,?_,?_,rfl⟩
  ·omega
  ·omega
  ·assumption
  rw [take_succ_eq_append_getElem h14n,take_succ_eq_append_getElem (by omega),htake,h19]
 have h14n:l.length≤j:=by omega
 refine ZC _ rfl<|Zd<|JAn rfl<|ZE (.bool true) [] Sub.nil (?_)
 exact ⟨by rw [decide_eq_true];have e:=htake;rw [take_of_length_le h14n,take_of_length_le (by omega)] at e;exact e,rfl⟩
end
def xr (a b:Int):Int:=IntKind.u64.wrap ((BitVec.ofInt IntKind.u64.bits a ^^^ BitVec.ofInt IntKind.u64.bits b).toNat:Int)
def nx (a:Int):Int:=IntKind.u64.wrap (IntKind.u64.wrap (a*6364136223846793005)+1442695040888963407)
theorem HT (x:Int):0≤IntKind.u64.wrap x∧IntKind.u64.wrap x<18446744073709551616:=by
  have e:IntKind.u64.wrap x=x % 18446744073709551616:=rfl
  rw [e];omega
theorem Mq (a:Int):0≤(nx a).fdiv 1099511627776∧(nx a).fdiv 1099511627776<16777216:=by
  have h:=HT (IntKind.u64.wrap (a*6364136223846793005)+1442695040888963407)
  rw [Int.fdiv_eq_ediv_of_nonneg _ (by decide)]
  unfold nx
  omega
section
variable {P:Program} {e:Operand→Value} {d:Option Nat} {ot:TypeId} {pos:String} {af:Array Edge} {g:Option (Nat×Bool)} {T T':TypeId} {x y z:Operand} {k:IntKind} {a b:Int} {ats:Array TypeId}
theorem Pu.xor (hx:e x=.int .u64 a) (hy:e y=.int .u64 b):Pu P e ⟨d,.binOp .xor T x y T',ot,pos,af,g⟩ (.int .u64 (xr a b)):=fun w=>by
  simp only [execOp,hx,hy,eqGuard,binOp,Op.intBits];simp [xr]
theorem Pu.shr {k':IntKind} (hx:e x=.int k a) (hy:e y=.int k' 40) (hk:min 40 k.bits=40):Pu P e ⟨d,.binOp .shr T x y T',ot,pos,af,g⟩ (.int k (a.fdiv 1099511627776)):=fun w=>by
  have h40:(40:Int).toNat=40:=rfl
  have hp:(2:Int) ^ 40=1099511627776:=by decide
  simp only [execOp,hx,hy,eqGuard,binOp,Op.shift,h40,hk,hp];simp
theorem Pu.neg {v:Int} (hx:e x=.int k a) (hv:k.wrap (0-a)=v):Pu P e ⟨d,.unOp .neg T x,ot,pos,af,g⟩ (.int k v):=fun w=>by
  subst hv
  simp only [execOp,hx,Op.unary,Op.intArith];simp
theorem Pu.min2 {v:Int} (hx:e x=.int k a) (hy:e y=.int k b) (hv:(if b<a then b else a)=v):Pu P e ⟨d,.call {callee:=.builtin .min,args:=#[x,y],argTypes:=ats},ot,pos,af,g⟩ (.int k v):=fun w=>by
  subst hv
  simp [execOp,resolve,invoke,builtin,Builtin.min_,Builtin.min2,hx,hy]
end
def ivl:Value→Int
  | .int _ n=>n
  | _=>0
def cll:Value→List Value
  | .agg ⟨l⟩=>l
  | _=>[]
def sth (c:Zf) (i:Nat):Int:=match c with
  | (_,.cells ⟨l⟩ _ _)::_=>ivl (l.getD i undef)
  | _=>0
def RH (n:UInt8):Sm:=zS.set 0 n
theorem N4 (n:UInt8):sC (RH n)=.int .u8 (n.toNat:Int)::(sC zS).drop 1:=rfl
theorem w8 {n:Int} (h:0≤n∧n<256):IntKind.u8.wrap n=n:=by
  have e:IntKind.u8.wrap n=n % 256:=rfl
  rw [e];omega
theorem Zca (n:Int) (h0:0≤n) (h1:n<256):∀ w,(Instr.build 38 ⟨[(0,.int .u8 n)]⟩).run prog w=.ok (.agg ⟨sC (RH (UInt8.ofNat n.toNat))⟩) w:=by
  have e0:((UInt8.ofNat n.toNat).toNat:Int)=n:=by
    rw [UInt8.toNat_ofNat'];omega
  rw [N4,e0]
  exact V1 zeroValue38 runUnderlying38 sizeOf5 rfl
noncomputable def sml (v:Value):Sm:=by
  classical exact if h:∃ r,v=.agg ⟨sC r⟩ then h.choose else zS
theorem LM (r:Sm):Value.agg ⟨sC r⟩=.agg ⟨sC (sml (.agg ⟨sC r⟩))⟩:=by
  have h:∃ q,Value.agg ⟨sC r⟩=.agg ⟨sC q⟩:=⟨r,rfl⟩
  unfold sml
  rw [dif_pos h]
  exact h.choose_spec
theorem FM {n:UInt8} (h:n.toNat≤100):Ss (RH n):=⟨n,h,rfl⟩
theorem Ja {r:Sm} (h:Ss r):Ss (sml (.agg ⟨sC r⟩)):=by
  have e:=LM r
  injection e with e
  injection e with e
  rw [← GL e];exact h
theorem Zcb (b:Nat) (n:Int):∀ w,(Instr.build 158 ⟨[(0,.pointer (some ⟨b,0,none⟩)),(1,.int .i64 n)]⟩).run prog w=.ok (.agg ⟨[.pointer (some ⟨b,0,none⟩),.int .i64 n]⟩) w:=
  ZT zeroValue158 runUnderlying158 Zby (by kernel_rfl)
theorem Zb9 {v:Value} {a:Option Addr} {n c:Nat} (s:Int) (hv:v=.slice a n c):∀ w,(Instr.build 109 ⟨[(0,v),(2,.int .u64 s)]⟩).run prog w=.ok (.agg ⟨[v,.int .i64 0,.int .u64 s]⟩) w:=by
  subst hv
  exact ZT zeroValue109 runUnderlying109 ZbA (by kernel_rfl)
def bytesR (H:Heap) (v:Value) (l:List Int):Prop:=∃ a cap,v=.slice a l.length cap∧l.length≤cap∧Hs.rdS RB 1 H v l
theorem bytesR.mono {h h':Heap} (hh:Hle h h') {v:Value} {l:List Int} (q:bytesR h v l):bytesR h' v l:=by
  obtain ⟨a,cap,e,h1,h2⟩:=q
  exact ⟨a,cap,e,h1,RBs.mono hh h2⟩
theorem D8 {E:Heap→List Value→Int→Prop} {sz:Nat} {h:Heap} {l:List Int} {a:Option Addr} {N cap cap':Nat} (r:Hs.rdS E sz h (.slice a N cap) l) (n:Nat) (hn:n≤l.length):Hs.rdS E sz h (.slice (if cap=0 then a else a.map (·.add (0*sz))) n cap') (l.take n):=by
  have ea:(if cap=0 then a else a.map (·.add (0*sz)))=a:=by
    cases a with
    | none=>simp
    | some a=>simp [Addr.add]
  rw [ea]
  have hln:(l.take n).length=n:=by rw [length_take];omega
  obtain ⟨a',c',e,h1,h0⟩:=r
  cases e
  refine ⟨a,cap',by rw [hln],by rw [hln];omega,?_⟩
  rcases h0 with h0 | ⟨b,o,row,T,fr,e1,e2,e3⟩
  · left;omega
  · right
    refine ⟨b,o,row,T,fr,e1,e2,rows.mk fun i hi=>?_⟩
    rw [length_take] at hi
    obtain ⟨cs,h2,h3⟩:=e3.get i (by omega)
    exact ⟨cs,h2,by rw [List.getElem_take];exact h3⟩
section
variable {c:Cx} {H:Heap} {ρ:Nat→Value} {M:List Zf} {K:Value→List Zf→Prop} {d:Option Nat} {ot:TypeId} {pos:String} {af:Array Edge} {g:Option (Nat×Bool)} {x y:Operand}
theorem NR {T el:TypeId} {k:IntKind} {v:Value} {l:List Int} {H0:Heap} {n:Nat} (hp:bytesR H0 v l) (hn:n≤l.length) (hT:∀ w,(underlying T).run c.P w=.ok (.slice el) w) (hsz:∀ w,(sizeOf el).run c.P w=.ok 1 w) (hx:ev c.n ρ x=v) (hy:ev c.n ρ y=.int k ((n:Nat):Int))
    (h:∀ u,(∀ h,Hs.rdS RB 1 h v l→Hs.rdS RB 1 h u (l.take n))→K u M):Runs c H ⟨d,.slice T x none (some y) none,ot,pos,af,g⟩ ρ M K:=fun F w m=>by
  obtain ⟨a,cap,rfl,h1,h2⟩:=hp
  refine ⟨_,w,M,.inl ?_,m,h (.slice (if cap=0 then a else a.map (·.add (0*1))) n cap) (fun h' q=>D8 q n hn)⟩
  have:((n:Int)≤(cap:Int)):=by omega
  have h3:n≤cap:=by omega
  simp [execOp,Instr.sliceAt,Instr.slice,Instr.sliceBounds,Instr.sliceBound,asIntOf,hx,hy,hT,hsz,Result.andThen,h3]
end
section
attribute [local irreducible] JL J CT wlo DT
theorem Bi (bS:Nat) (v:Value) (l:List Int) (a s:Int) (H:Heap) (hv:Hs.rdS RB 1 H v l) (ha0:0≤a) (ha1:a≤2000000000):CT prog 65 ⟨[pp bS 0]⟩ [(BX bS [v,iv a,.int .u64 s] 109)] H (fun r N=>∃ n a' s',r=iv n∧N=[(BX bS [v,iv (a'),.int .u64 (s')] 109)]∧(0≤n∧n<16777216)∧(a≤a'∧a'≤a+1)):=by
 refine Zl func65 rfl rfl<|Zd<|JAn rfl<|Zg<|Zd<|JLM rfl<|JLq (pp bS 0) (Pu.nilCheck rfl)<|JLq (pp bS 0) (Nz rfl rfl)<|JLr (Zc Ul rfl (ZcK 0 rfl) rfl ?_)
 obtain ⟨a1,cap1,hv1⟩:=hv.sl
 have hle1:=hv.le
 refine JLn (ZcM YV hv1)<|JLn (Pu.gtr rfl rfl)<|Za<|Zt rfl (fun h2=>?_) (fun h2=>?_)
 ·replace h2:=dt h2
  refine Zg<|ZM mixed #[0,1,3,7,0,16,48,112,0,256,768,1792,0,4096,12288,28672,61440,130816,262128,524272,1048560,2097151,4194303,8388607,16777215] 21 [some 9,some 10,some 11,some 12,some 13,some 14,some 15,some 16,some 17,some 18,some 19,some 20,some 21,some 22,some 23,some 24,some 25,some 26,some 27,some 28,some 29] [] [] rfl (by kernel_rfl) rfl (by kernel_rfl)<|DM (fun _=>rfl)<|Dq (pp bS 0) (fun _=>Pu.nilCheck rfl)<|Dq (pp bS 2) (fun _=>Vh rfl rfl)<|Dl1 TV (ZcK 0 rfl) rfl<|DM (fun _=>rfl)<|Dq (pp bS 0) (fun _=>Pu.nilCheck rfl)<|Dq (pp bS 0) (fun _=>Nz rfl rfl)<|Dl1 Ul (ZcK 0 rfl) rfl<|DM (fun _=>rfl)<|Dq (pp bS 0) (fun _=>Pu.nilCheck rfl)<|Dq (pp bS 1) (fun _=>Ny rfl rfl) ?_
  refine Dl1 ty3 (ZcK 0 rfl) rfl<|DM (fun _=>rfl)<|Dq (pp bS 0) (fun _=>Pu.nilCheck rfl)<|Dq (pp bS 0) (fun _=>Nz rfl rfl)<|Dl1 Ul (ZcK 0 rfl) rfl ?_
  obtain ⟨a6,cap6,hv6⟩:=hv.sl
  have hle6:=hv.le
  refine Dn (fun _=>ZcM YV hv6) ?_
  have hrm7:0≤a % ((l.length:Int))∧a % ((l.length:Int))<(l.length:Int):=⟨Int.emod_nonneg _ (by omega),Int.emod_lt_of_pos _ (by omega)⟩
  refine Dq (iv (a % ((l.length:Int)))) (fun _=>Pu.rem rfl rfl (by omega) (Int.tmod_eq_emod_of_nonneg (by omega))) ?_
  obtain ⟨b8,o8,cap8,row8,T8,fr8,cs8,hv8,hb8,hs8,hE8⟩:=hv.get (a % ((l.length:Int))).toNat (by first | assumption | omega | decide | simp)
  refine Dq (pp b8 (o8+(a % ((l.length:Int))).toNat*1)) (fun _=>Pu.idx (a % ((l.length:Int))).toNat YV ty5 hv8 rfl (by first | rfl | omega) (by first | assumption | omega | decide | simp))<|Dl1 ty5 (ZcN hb8) (ZP ((show cs8=[Value.int .u8 (l[(a % ((l.length:Int))).toNat])] from hE8)▸hs8))<|Dq (.int .u64 (IntKind.u64.wrap (l[(a % ((l.length:Int))).toNat]))) (fun _=>Zc0 Ru5 LB rfl rfl)<|ZX (M':=[(BX bS [v,iv a,.int .u64 s] 109)]) rfl ?_
  show JL _ _ _ [_,_,_,_] _ _ _
  refine JLq (.int .u64 (xr s (IntKind.u64.wrap (l[(a % ((l.length:Int))).toNat])))) (Pu.xor rfl rfl)<|JLq (pp bS 0) (Pu.nilCheck rfl)<|JLq (pp bS 2) (Vh rfl rfl)<|JLr (Zb 0 (vs:=[.int .u64 (xr s (IntKind.u64.wrap (l[(a % ((l.length:Int))).toNat])))]) (l:=[v,iv a,.int .u64 (xr s (IntKind.u64.wrap (l[(a % ((l.length:Int))).toNat])))]) TV rfl rfl rfl rfl rfl (Zh rfl Zq) rfl<|Za<|Ze<|JLM rfl<|JLq (pp bS 0) (Pu.nilCheck rfl)<|JLq (pp bS 1) (Ny rfl rfl)<|JLr (Zc ty3 rfl (ZcK 0 rfl) rfl<|JLn (ZcV rfl rfl (by first | omega | (constructor <;> omega)))<|JLq (pp bS 0) (Pu.nilCheck rfl)<|JLq (pp bS 1) (Ny rfl rfl) ?_))
  refine JLr (Zb 0 (vs:=[iv (a+1)]) (l:=[v,iv (a+1),.int .u64 (xr s (IntKind.u64.wrap (l[(a % ((l.length:Int))).toNat])))]) ty3 rfl rfl rfl rfl rfl (Zh rfl Zq) rfl<|Za<|Zd<|JLM rfl<|JLM rfl<|JLq (pp bS 0) (Pu.nilCheck rfl)<|JLq (pp bS 2) (Vh rfl rfl)<|JLr (Zc TV rfl (ZcK 0 rfl) rfl<|JLq (.int .u64 (IntKind.u64.wrap (xr s (IntKind.u64.wrap (l[(a % ((l.length:Int))).toNat]))*6364136223846793005))) (Zc4 rfl rfl rfl)<|JLq (.int .u64 (nx (xr s (IntKind.u64.wrap (l[(a % ((l.length:Int))).toNat]))))) (Zc1 rfl rfl rfl)<|JLq (pp bS 0) (Pu.nilCheck rfl)<|JLq (pp bS 2) (Vh rfl rfl) ?_))
  refine JLr (Zb 0 (vs:=[.int .u64 (nx (xr s (IntKind.u64.wrap (l[(a % ((l.length:Int))).toNat]))))]) (l:=[v,iv (a+1),.int .u64 (nx (xr s (IntKind.u64.wrap (l[(a % ((l.length:Int))).toNat]))))]) TV rfl rfl rfl rfl rfl (Zh rfl Zq) rfl<|Za<|Zd<|JLM rfl<|JLq (pp bS 0) (Pu.nilCheck rfl)<|JLq (pp bS 2) (Vh rfl rfl)<|JLr (Zc TV rfl (ZcK 0 rfl) rfl ?_))
  have hnx9:=Mq (xr s (IntKind.u64.wrap (l[(a % ((l.length:Int))).toNat])))
  refine JLq (.int .u64 ((nx (xr s (IntKind.u64.wrap (l[(a % ((l.length:Int))).toNat])))).fdiv 1099511627776)) (Pu.shr rfl rfl rfl)<|JLq (iv ((nx (xr s (IntKind.u64.wrap (l[(a % ((l.length:Int))).toNat])))).fdiv 1099511627776)) (Zc0 LB Ru3 rfl (w64 (by omega)))<|JAn rfl<|Zz<|⟨iv ((nx (xr s (IntKind.u64.wrap (l[(a % ((l.length:Int))).toNat])))).fdiv 1099511627776),[(BX bS [v,iv (a+1),.int .u64 (nx (xr s (IntKind.u64.wrap (l[(a % ((l.length:Int))).toNat]))))] 109)],Ret.one rfl (RV.tmp rfl),(Sk Sub.nil),?_⟩
  exact ⟨_,_,_,rfl,rfl,by omega,by omega⟩
 replace h2:=df h2
 refine Zo<|Zd<|JLM rfl<|JLM rfl<|JLq (pp bS 0) (Pu.nilCheck rfl)<|JLq (pp bS 2) (Vh rfl rfl)<|JLr (Zc TV rfl (ZcK 0 rfl) rfl<|JLq (.int .u64 (IntKind.u64.wrap (s*6364136223846793005))) (Zc4 rfl rfl rfl)<|JLq (.int .u64 (nx s)) (Zc1 rfl rfl rfl)<|JLq (pp bS 0) (Pu.nilCheck rfl)<|JLq (pp bS 2) (Vh rfl rfl)<|JLr (Zb 0 (vs:=[.int .u64 (nx s)]) (l:=[v,iv a,.int .u64 (nx s)]) TV rfl rfl rfl rfl rfl (Zh rfl Zq) rfl ?_))
 refine Za<|Zd<|JLM rfl<|JLq (pp bS 0) (Pu.nilCheck rfl)<|JLq (pp bS 2) (Vh rfl rfl)<|JLr (Zc TV rfl (ZcK 0 rfl) rfl ?_)
 have hnx10:=Mq s
 refine JLq (.int .u64 ((nx s).fdiv 1099511627776)) (Pu.shr rfl rfl rfl)<|JLq (iv ((nx s).fdiv 1099511627776)) (Zc0 LB Ru3 rfl (w64 (by omega)))<|JAn rfl<|Zz<|⟨iv ((nx s).fdiv 1099511627776),[(BX bS [v,iv a,.int .u64 (nx s)] 109)],Ret.one rfl (RV.tmp rfl),(Sk Sub.nil),?_⟩
 exact ⟨_,_,_,rfl,rfl,by omega,by omega⟩
theorem Yw (bS:Nat) (v:Value) (l:List Int) (a s:Int) (H:Heap) (hv:Hs.rdS RB 1 H v l) (ha0:0≤a) (ha1:a≤2000000000) (m:Int):CT prog 22 ⟨[pp bS 0,iv m]⟩ [(BX bS [v,iv a,.int .u64 s] 109)] H (fun r N=>∃ n a' s',r=iv n∧N=[(BX bS [v,iv (a'),.int .u64 (s')] 109)]∧(0≤n∧(0<m→n<m)∧(m≤0→n=0))∧(a≤a'∧a'≤a+1)):=by
 refine Zl func22 rfl rfl<|Zd<|JAn rfl<|Zg<|Zd<|JLM rfl<|JLn (Pu.leq rfl rfl)<|Za<|Zt rfl (fun h1=>?_) (fun h1=>?_)
 ·replace h1:=dt h1
  refine Zd<|JAn rfl<|Zz<|⟨iv 0,[(BX bS [v,iv a,.int .u64 s] 109)],Ret.one rfl (RV.tmp rfl),(Sk Sub.nil),?_⟩
  exact ⟨_,_,_,rfl,rfl,by omega,by omega⟩
 replace h1:=df h1
 refine Zo<|Zd<|JLM rfl<|Zs 0 rfl call65 rfl rfl (fun hin=>Bi _ _ _ _ _ _ (RBs.mono (Hle.hu _ _) hv) (by omega) (by omega)) rfl ?_
 rintro _ _ ⟨n2,a2,s2,rfl,rfl,hn2,ha2⟩
 refine JLM rfl ?_
 have hrm3:0≤n2 % m∧n2 % m<m:=⟨Int.emod_nonneg _ (by omega),Int.emod_lt_of_pos _ (by omega)⟩
 refine JLq (iv (n2 % m)) (Pu.rem rfl rfl (by omega) (Int.tmod_eq_emod_of_nonneg (by omega)))<|JAn rfl<|Zz<|⟨iv (n2 % m),[(BX bS [v,iv a2,.int .u64 s2] 109)],Ret.one rfl (RV.tmp rfl),(Sk Sub.nil),?_⟩
 exact ⟨_,_,_,rfl,rfl,by omega,by omega⟩
theorem SD (bS:Nat) (v:Value) (l:List Int) (a s:Int) (H:Heap) (hv:Hs.rdS RB 1 H v l) (ha0:0≤a) (ha1:a≤2000000000) (lo hi:Int) (h0: -1000≤lo) (h1:lo≤hi) (h2:hi≤1000):CT prog 21 ⟨[pp bS 0,iv lo,iv hi]⟩ [(BX bS [v,iv a,.int .u64 s] 109)] H (fun r N=>∃ n a' s',r=iv n∧N=[(BX bS [v,iv (a'),.int .u64 (s')] 109)]∧(lo≤n∧n≤hi)∧(a≤a'∧a'≤a+1)):=by
 refine Zl func21 rfl rfl<|Zd<|JAn rfl<|Zd<|JLM rfl<|JLM rfl<|JLM rfl<|JLM rfl<|JLn (Zc2 rfl rfl (by first | omega | (constructor <;> omega)))<|JLn (ZcV rfl rfl (by first | omega | (constructor <;> omega))) ?_
 refine Zs 0 rfl call22 rfl rfl (fun hin=>Yw _ _ _ _ _ _ (RBs.mono (Hle.hu _ _) hv) (by omega) (by omega) _) rfl ?_
 rintro _ _ ⟨n1,a1,s1,rfl,rfl,hn1,ha1⟩
 refine JLn (ZcV rfl rfl (by first | omega | (constructor <;> omega)))<|JAn rfl<|Zz<|⟨iv (lo+n1),[(BX bS [v,iv a1,.int .u64 s1] 109)],Ret.one rfl (RV.tmp rfl),(Sk Sub.nil),?_⟩
 exact ⟨_,_,_,rfl,rfl,by omega,by omega⟩
theorem QB (bS:Nat) (v:Value) (l:List Int) (a s:Int) (H:Heap) (hv:Hs.rdS RB 1 H v l) (ha0:0≤a) (ha1:a≤2000000000) (f m:Int) (h0:0≤f) (h1:1≤m) (h2:f+m≤100):CT prog 159 ⟨[pp bS 0,iv f,iv m]⟩ [(BX bS [v,iv a,.int .u64 s] 109)] H (fun r N=>∃ n a' s',r=.agg ⟨sC n⟩∧N=[(BX bS [v,iv (a'),.int .u64 (s')] 109)]∧Ss n∧(a≤a'∧a'≤a+1)):=by
 refine Zl func159 rfl rfl<|Zd<|JLr (Zk (l:=sC zS) zeroValue38 rfl fun b1=>Za<|Zd<|JLM rfl<|JLM rfl<|JLM rfl<|JLM rfl<|JLn (ZcV rfl rfl (by first | omega | (constructor <;> omega)))<|JLn (Zc2 rfl rfl (by first | omega | (constructor <;> omega))) ?_)
 refine Zs 1 rfl call21 rfl rfl (fun hin=>SD _ _ _ _ _ _ (RBs.mono (Hle.hu _ _) hv) (by omega) (by omega) _ _ (by omega) (by omega) (by omega)) rfl ?_
 rintro _ _ ⟨n2,a2,s2,rfl,rfl,hn2,ha2⟩
 refine JLq (.int .u8 n2) (Zc0 Ru3 Ru5 rfl (w8 (by omega)))<|JLq (.agg ⟨sC (RH (UInt8.ofNat n2.toNat))⟩) (Pu.build (pv:=[(0,.int .u8 n2)]) (l:=sC (RH (UInt8.ofNat n2.toNat))) rfl (Zca _ (by omega) (by omega)))<|JLr (Zb 1 (vs:=sC (RH (UInt8.ofNat n2.toNat))) (l:=sC (RH (UInt8.ofNat n2.toNat))) Yv rfl rfl rfl rfl rfl (T5 _) (ZY rfl rfl)<|Za<|Zz<|⟨.agg ⟨sC (RH (UInt8.ofNat n2.toNat))⟩,[(BX bS [v,iv a2,.int .u64 s2] 109)],Ret.one rfl (RV.cell Yv rfl (ZcK 1 rfl) (Zx rfl)),(Sk Sub.nil),?_⟩)
 exact ⟨_,_,_,rfl,rfl,FM (by rw [UInt8.toNat_ofNat'];omega),by omega⟩
theorem ZbB (f:Sm) (n:Int) (sa:Option Addr) (sn sc:Nat) (H:Heap):CT prog 198 ⟨[.agg ⟨sC f⟩,iv n,.slice sa sn sc]⟩ [] H (fun r N=>r=.agg ⟨pkP 3 n f (.slice sa sn sc)⟩∧N=[]):=by
 refine Zl func198 rfl rfl<|Zd<|JLr (Zr (l:=sC f) rfl rfl fun b1=>JLr (Zk (l:=pkP 0 0 zS nS) zeroValue115 rfl fun b2=>Za<|Zd<|JLr (Zn Yv rfl (ZcK 1 rfl) (Zx rfl)<|JLM rfl<|JLM rfl<|JLq (.agg ⟨pkP 3 n f (.slice sa sn sc)⟩) (Pu.build (pv:=[(0,iv 3),(2,.agg ⟨sC f⟩),(1,iv n),(3,.slice sa sn sc)]) (l:=pkP 3 n f (.slice sa sn sc)) rfl (PD _ _ _ _ _ _))<|JLr (Zb 0 (vs:=pkP 3 n f (.slice sa sn sc)) (l:=pkP 3 n f (.slice sa sn sc)) ZO rfl rfl rfl rfl rfl (XN rfl) (UE ..) ?_))))
 refine Za<|Zz<|⟨.agg ⟨pkP 3 n f (.slice sa sn sc)⟩,[],Ret.one rfl (RV.cell ZO rfl (ZcK 0 rfl) (Ve ..)),Sub.nil,?_⟩
 exact ⟨rfl,rfl⟩
theorem Zbo (n:Int) (H:Heap):CT prog 79 ⟨[iv n]⟩ [] H (fun r N=>r=.agg ⟨pkP 2 n zS nS⟩∧N=[]):=by
 refine Zl func79 rfl rfl<|Zd<|JLr (Zk (l:=pkP 0 0 zS nS) zeroValue115 rfl fun b1=>Za<|Zd<|JLM rfl<|JLq (.agg ⟨pkP 2 n zS nS⟩) (Pu.build (pv:=[(0,iv 2),(1,iv n)]) (l:=pkP 2 n zS nS) rfl (PE _ _))<|JLr (Zb 0 (vs:=pkP 2 n zS nS) (l:=pkP 2 n zS nS) ZO rfl rfl rfl rfl rfl (XN rfl) (UE ..)<|Za<|Zz<|⟨.agg ⟨pkP 2 n zS nS⟩,[],Ret.one rfl (RV.cell ZO rfl (ZcK 0 rfl) (Ve ..)),Sub.nil,?_⟩))
 exact ⟨rfl,rfl⟩
theorem ZaS  (H:Heap):CT prog 80 ⟨[]⟩ [] H (fun r N=>r=.agg ⟨pkP 1 0 zS nS⟩∧N=[]):=by
 refine Zl func80 rfl rfl<|Zd<|JLr (Zk (l:=pkP 0 0 zS nS) zeroValue115 rfl fun b1=>Za<|Zd<|JLq (.agg ⟨pkP 1 0 zS nS⟩) (Pu.build (pv:=[(0,iv 1)]) (l:=pkP 1 0 zS nS) rfl (Lm _))<|JLr (Zb 0 (vs:=pkP 1 0 zS nS) (l:=pkP 1 0 zS nS) ZO rfl rfl rfl rfl rfl (XN rfl) (UE ..)<|Za<|Zz<|⟨.agg ⟨pkP 1 0 zS nS⟩,[],Ret.one rfl (RV.cell ZO rfl (ZcK 0 rfl) (Ve ..)),Sub.nil,?_⟩))
 exact ⟨rfl,rfl⟩
theorem Zb5 (f:Sm) (n:Int) (sa:Option Addr) (sn sc:Nat) (H:Heap):CT prog 165 ⟨[.agg ⟨sC f⟩,iv n,.slice sa sn sc]⟩ [] H (fun r N=>r=.agg ⟨pkT 8 n f (.slice sa sn sc) nS⟩∧N=[]):=by
 refine Zl func165 rfl rfl<|Zd<|JLr (Zr (l:=sC f) rfl rfl fun b1=>JLr (Zk (l:=pkT 0 0 zS nS nS) zeroValue51 rfl fun b2=>Za<|Zd<|JLr (Zn Yv rfl (ZcK 1 rfl) (Zx rfl)<|JLM rfl<|JLM rfl<|JLq (.agg ⟨pkT 8 n f (.slice sa sn sc) nS⟩) (Pu.build (pv:=[(0,iv 8),(2,.agg ⟨sC f⟩),(1,iv n),(3,.slice sa sn sc)]) (l:=pkT 8 n f (.slice sa sn sc) nS) rfl (Tt _ _ _ _ _ _))<|JLr (Zb 0 (vs:=pkT 8 n f (.slice sa sn sc) nS) (l:=pkT 8 n f (.slice sa sn sc) nS) Zu rfl rfl rfl rfl rfl (ZR rfl rfl) (Yb ..) ?_))))
 refine Za<|Zz<|⟨.agg ⟨pkT 8 n f (.slice sa sn sc) nS⟩,[],Ret.one rfl (RV.cell Zu rfl (ZcK 0 rfl) (Z4 ..)),Sub.nil,?_⟩
 exact ⟨rfl,rfl⟩
theorem Zbl (n:Int) (H:Heap):CT prog 32 ⟨[iv n]⟩ [] H (fun r N=>r=.agg ⟨pkT 7 n zS nS nS⟩∧N=[]):=by
 refine Zl func32 rfl rfl<|Zd<|JLr (Zk (l:=pkT 0 0 zS nS nS) zeroValue51 rfl fun b1=>Za<|Zd<|JLM rfl<|JLq (.agg ⟨pkT 7 n zS nS nS⟩) (Pu.build (pv:=[(0,iv 7),(1,iv n)]) (l:=pkT 7 n zS nS nS) rfl (WL _ _))<|JLr (Zb 0 (vs:=pkT 7 n zS nS nS) (l:=pkT 7 n zS nS nS) Zu rfl rfl rfl rfl rfl (ZR rfl rfl) (Yb ..)<|Za<|Zz<|⟨.agg ⟨pkT 7 n zS nS nS⟩,[],Ret.one rfl (RV.cell Zu rfl (ZcK 0 rfl) (Z4 ..)),Sub.nil,?_⟩))
 exact ⟨rfl,rfl⟩
theorem Zb4 (f:Sm) (H:Heap):CT prog 158 ⟨[.agg ⟨sC f⟩]⟩ [] H (fun r N=>r=.agg ⟨pkT 6 0 f nS nS⟩∧N=[]):=by
 refine Zl func158 rfl rfl<|Zd<|JLr (Zr (l:=sC f) rfl rfl fun b1=>JLr (Zk (l:=pkT 0 0 zS nS nS) zeroValue51 rfl fun b2=>Za<|Zd<|JLr (Zn Yv rfl (ZcK 1 rfl) (Zx rfl)<|JLq (.agg ⟨pkT 6 0 f nS nS⟩) (Pu.build (pv:=[(0,iv 6),(2,.agg ⟨sC f⟩)]) (l:=pkT 6 0 f nS nS) rfl (Rx _ _))<|JLr (Zb 0 (vs:=pkT 6 0 f nS nS) (l:=pkT 6 0 f nS nS) Zu rfl rfl rfl rfl rfl (ZR rfl rfl) (Yb ..)<|Za<|Zz ?_))))
 refine ⟨.agg ⟨pkT 6 0 f nS nS⟩,[],Ret.one rfl (RV.cell Zu rfl (ZcK 0 rfl) (Z4 ..)),Sub.nil,?_⟩
 exact ⟨rfl,rfl⟩
theorem LW:∀ (dp:Nat) (bS:Nat) (v:Value) (l:List Int) (a s d:Int) (H:Heap),d=(dp:Int)→dp≤2→Hs.rdS RB 1 H v l→0≤a→a+((dz dp:Nat):Int)≤1900000000→CT prog 163 ⟨[pp bS 0,iv d]⟩ [(BX bS [v,iv a,.int .u64 s] 109)] H (fun r N=>∃ p cs k a' s',r=.agg ⟨cs⟩∧N=[(BX bS [v,iv (a'),.int .u64 (s')] 109),k]∧OP p cs k∧(Xn p=0∧sizeP p≤pz dp∧Nm p)∧(a≤a'∧a'≤a+((dz dp:Nat):Int))):=by
 intro dp
 induction dp using Nat.strongRecOn with
 | _ dp ih=>
 intro bS v l a s d H hd hdp hv ha0 ha1
 have hdz:=Zb3 (show dp-1≤2 by omega)
 have hdz2:=Ev dp
 refine Zl func163 rfl rfl<|Zd<|JLr (Zk (l:=pkP 0 0 zS nS) zeroValue115 rfl fun b1=>Za<|Zg<|Zd<|JLM rfl<|Zs 1 rfl call22 rfl rfl (fun hin=>Yw _ _ _ _ _ _ (RBs.mono (Hle.hu _ _) hv) (by omega) (by omega) _) rfl ?_)
 rintro _ _ ⟨n2,a2,s2,rfl,rfl,hn2,ha2⟩
 refine JAn rfl<|Zm<|Zd<|JLM rfl<|JLn (Pu.gtr rfl rfl)<|JLM rfl<|ZK 2 [13,14] [(14,cond (decide (0<d)) (.bool (decide (n2<3))) undef)] ?_ fun f4=>?_
 ·cases h3:(decide (0<d)) with
  | true=>
   replace h3:=dt h3
   refine JLM rfl<|JLn (Pu.lss rfl rfl) ?_
   exact Za ⟨⟨rfl,trivial⟩,rfl⟩
  | false=>
   exact Z1 rfl ⟨rfl,trivial⟩
 refine JLn (ZcR rfl rfl rfl)<|JAn rfl<|Zt rfl (fun h5=>?_) (fun h5=>?_)
 ·obtain ⟨h5a,h5b⟩:=Xx h5
  replace h5a:=dt h5a
  replace h5b:=dt h5b
  refine Zd<|JLM rfl<|Zs 0 rfl call159 rfl rfl (fun hin=>QB _ _ _ _ _ _ (RBs.mono (Hle.hu _ _) hv) (by omega) (by omega) _ _ (by omega) (by omega) (by omega)) rfl ?_
  rintro _ _ ⟨n6,a6,s6,rfl,rfl,hw6,ha6⟩
  refine JLM rfl<|Zs 0 rfl call22 rfl rfl (fun hin=>Yw _ _ _ _ _ _ (RBs.mono (Hle.hu _ _) hv) (by omega) (by omega) _) rfl ?_
  rintro _ _ ⟨n7,a7,s7,rfl,rfl,hn7,ha7⟩
  refine Jc call198 rfl (fun hin=>ZbB _ _ none 0 0 _) rfl ?_
  rintro _ _ ⟨rfl,rfl⟩
  refine JLr (Zk (l:=pkP 0 0 zS nS) zeroValue115 rfl fun b8=>JLr (Zb 0 (vs:=pkP 3 n7 n6 nS) (l:=pkP 3 n7 n6 nS) ZO rfl rfl rfl rfl rfl (XN rfl) (UE ..)<|Za<|Zg<|Zd<|JLM rfl<|Zs 1 rfl call22 rfl rfl (fun hin=>Yw _ _ _ _ _ _ (RBs.mono (Hle.hu _ _) hv) (by omega) (by omega) _) rfl ?_))
  rintro _ _ ⟨n9,a9,s9,rfl,rfl,hn9,ha9⟩
  refine JLM rfl<|Za<|Zm<|ZD (fun k ρ M=>∃ (j:Nat) (ps:List Pt) (w:Value) (es:List (List Value)) (k1 k2:Zf) (aw sw:Int),ρ 0=pp bS 0∧ρ 1=iv d∧ρ 4=pp b1 0∧ρ 6=pp b8 0∧ρ 22=iv n9∧ρ 23=iv ((j:Int))∧Sub [(BX b8 (pkP 3 n7 n6 w) 115),k1,k2,(BX bS [v,iv aw,.int .u64 sw] 109),(BX b1 (pkP 0 0 zS nS) 115)] M∧(j:Int)≤n9∧Own 115 35 w es k1∧OPs ps es k2∧ps.length=j∧XC ps=0∧sizePs ps≤j*pz (dp-1)∧St ps∧(a9≤aw∧aw≤a9+((j*dz (dp-1):Nat):Int))∧k=n9.toNat-j) _ ⟨0,[],nS,[],[],[],a9,s9,rfl,rfl,rfl,rfl,rfl,rfl,(Sub.cons 1 rfl (ZcL (ZcL (Sk (Sk Sub.nil))))),(by omega),Own.nil,OPs.nil,rfl,rfl,by simp [sizePs],trivial,by omega,rfl⟩ ?_
  rintro _ ρ10 _ ⟨j,ps,w,es,k1,k2,aw,sw,e11,e12,e13,e14,e15,e16,hm17,hj,how,hopw,hpl,hpe,hps,hpw,hpa,rfl⟩
  obtain ⟨ρ18,rfl⟩:=Zi (uc e11 (uc e12 (uc e13 (uc e14 (uc e15 (uc e16 un))))))
  clear e11 e12 e13 e14 e15 e16
  refine ZF hm17<|Zd<|JLn (Pu.lss rfl rfl)<|Za<|Zg<|Zt rfl (fun h19=>?_) (fun h19=>?_)
  ·replace h19:=dt h19
   have helw:=S0 hopw
   have hmd:=Nat.mul_le_mul_right (dz (dp-1)) (show j+1≤2 by omega)
   rw [Nat.succ_mul] at hmd
   have hmd2:=Eu (show 0<dp by omega)
   refine Zo<|Zg<|Zm<|WF mixed #[0,1,0,0,8,28,60,127,255,511] 7 3 [5] rfl (by kernel_rfl) (by decide) rfl (by kernel_rfl) (fun i r20 N20=>match i with | 0=>(r20 0)=pp b8 34 | 1=>(r20 1)=w | 2=>(r20 2)=pp bS 0 | 3=>(r20 3)=iv d | 4=>(r20 4)=iv (d-1) | 5=>(r20 5)=.agg ⟨(cll (r20 5))⟩∧(cll (r20 5)).length=35∧okc (cll (r20 5))∧∃ pM kM aM sM,(N20 5)=(BX bS [v,iv aM,.int .u64 sM] 109)++kM∧OP pM (cll (r20 5)) kM∧(Xn pM=0∧sizeP pM≤pz (dp-1)∧Nm pM)∧(aw≤aM∧aM≤aw+((dz (dp-1):Nat):Int)) | 6=>(r20 6)=.slice (some ⟨(Y3 (r20 6)),0,none⟩) 1 1∧(N20 6)=[(Y3 (r20 6),.cells ⟨flatten [(cll (r20 5))]⟩ 115 (0,0))]∧Own 115 35 (.slice (some ⟨(Y3 (r20 6)),0,none⟩) 1 1) [(cll (r20 5))] (N20 6) | _=>True) ⟨?_,?_,?_,?_,?_,?_,?_,trivial⟩ ?_
   ·intro ρ r20 N20 B hB hBa hBb hp hr hr0
    obtain ⟨ρ21,rfl⟩:=Zi (uc (show ρ 6=pp b8 0 from hr0 6 (by kernel_rfl)) un)
    refine JLq (pp b8 34) (YG rfl rfl)<|Za ?_
    exact ⟨pp b8 34,[],rfl,(ZcL Sub.refl),rfl⟩
   ·intro ρ r20 N20 B hB hBa hBb hp hr hr0
    have p0:(r20 0)=pp b8 34:=hp 0 (by decide) rfl
    obtain ⟨ρ22,rfl⟩:=Zi (uc (show ρ 25=pp b8 34 from (hr 0 _ _ (by decide) rfl rfl rfl).trans p0) un)
    refine JLr (Zc XF rfl (ZcK 7 (Ym ((hB 0 (by decide)).trans rfl))) (XO ..)<|Za ?_)
    exact ⟨w,[],rfl,(ZcL Sub.refl),rfl⟩
   ·intro ρ r20 N20 B hB hBa hBb hp hr hr0
    obtain ⟨ρ23,rfl⟩:=Zi (uc (show ρ 0=pp bS 0 from hr0 0 (by kernel_rfl)) un)
    refine JLM rfl<|Za ?_
    exact ⟨pp bS 0,[],rfl,(ZcL Sub.refl),rfl⟩
   ·intro ρ r20 N20 B hB hBa hBb hp hr hr0
    obtain ⟨ρ24,rfl⟩:=Zi (uc (show ρ 1=iv d from hr0 1 (by kernel_rfl)) un)
    refine JLM rfl<|Za ?_
    exact ⟨iv d,[],rfl,(ZcL Sub.refl),rfl⟩
   ·intro ρ r20 N20 B hB hBa hBb hp hr hr0
    have p3:(r20 3)=iv d:=hp 3 (by decide) rfl
    obtain ⟨ρ25,rfl⟩:=Zi (uc (show ρ 28=iv d from (hr 3 _ _ (by decide) rfl rfl rfl).trans p3) un)
    refine JLn (Zc2 rfl rfl (by first | omega | (constructor <;> omega)))<|Za ?_
    exact ⟨iv (d-1),[],rfl,(ZcL Sub.refl),rfl⟩
   ·intro ρ r20 N20 B hB hBa hBb hp hr hr0
    have p2:(r20 2)=pp bS 0:=hp 2 (by decide) rfl
    have p4:(r20 4)=iv (d-1):=hp 4 (by decide) rfl
    obtain ⟨ρ26,rfl⟩:=Zi (uc (show ρ 27=pp bS 0 from (hr 2 _ _ (by decide) rfl rfl rfl).trans p2) (uc (show ρ 29=iv (d-1) from (hr 4 _ _ (by decide) rfl rfl rfl).trans p4) un))
    have hB2:=hBa rfl
    change B=[(BX b8 (pkP 3 n7 n6 w) 115),k1,k2,(BX bS [v,iv aw,.int .u64 sw] 109),(BX b1 (pkP 0 0 zS nS) 115)] at hB2
    subst hB2
    refine ZB (M':=[(N20 0),(N20 1),(N20 2),(N20 3),(N20 4),[],(N20 6),(BX b8 (pkP 3 n7 n6 w) 115),k1,k2,(BX bS [v,iv aw,.int .u64 sw] 109),(BX b1 (pkP 0 0 zS nS) 115)]) Sub.refl<|Zs 10 rfl call163 rfl rfl (fun hin=>ih (dp-1) (by omega) _ _ _ _ _ _ _ (by omega) (by omega) (RBs.mono (Hle.hu _ _) hv) (by omega) (by omega)) rfl ?_
    rintro _ _ ⟨p27_,cs27,k27,a27,s27,rfl,rfl,hO27,hg27,ha27⟩
    have hbl27:=VU p27_
    refine Za ?_
    exact ⟨.agg ⟨cs27⟩,((BX bS [v,iv a27,.int .u64 s27] 109))++k27,rfl,(Sub.flat (M':=[(N20 0),(N20 1),(N20 2),(N20 3),(N20 4),[],(N20 6),(BX b8 (pkP 3 n7 n6 w) 115),k1,k2,((BX bS [v,iv a27,.int .u64 s27] 109))++k27,(BX b1 (pkP 0 0 zS nS) 115)]) (Sub.cons 2 rfl (Sub.cons 2 rfl (Sub.cons 2 rfl (Sub.cons 2 rfl (Sub.cons 2 rfl (ZcL (Sub.cons 3 rfl (Sub.cons 3 rfl (Sub.cons 3 rfl (Sub.cons 3 rfl (ZcO (Sk (Sk (Sd (Sk Sub.nil))))))))))))))) rfl),⟨rfl,hO27.len,hO27.ok,p27_,k27,a27,s27,rfl,hO27,hg27,ha27⟩⟩
   ·intro ρ r20 N20 B hB hBa hBb hp hr hr0
    have p5:(r20 5)=.agg ⟨(cll (r20 5))⟩∧(cll (r20 5)).length=35∧okc (cll (r20 5))∧∃ pM kM aM sM,(N20 5)=(BX bS [v,iv aM,.int .u64 sM] 109)++kM∧OP pM (cll (r20 5)) kM∧(Xn pM=0∧sizeP pM≤pz (dp-1)∧Nm pM)∧(aw≤aM∧aM≤aw+((dz (dp-1):Nat):Int)):=hp 5 (by decide) rfl
    obtain ⟨ρ28,rfl⟩:=Zi (uc (show ρ 30=.agg ⟨(cll (r20 5))⟩ from (hr 5 _ _ (by decide) rfl rfl rfl).trans p5.1) un)
    refine JLr (Zj (vs:=[.agg ⟨(cll (r20 5))⟩]) [(cll (r20 5))] YX Oz rfl rfl (by intro e he;simp only [mem_cons,not_mem_nil,or_false] at he;subst he;exact p5.2.1) rfl (by decide) fun b29 k29 ho29 hk29=>Za ?_)
    exact ⟨.slice (some ⟨b29,0,none⟩) 1 1,k29,rfl,Sub.refl,⟨rfl,hk29,ho29⟩⟩
   intro ρ r20 N20 hp hr hr0
   have p5:(r20 5)=.agg ⟨(cll (r20 5))⟩∧(cll (r20 5)).length=35∧okc (cll (r20 5))∧∃ pM kM aM sM,(N20 5)=(BX bS [v,iv aM,.int .u64 sM] 109)++kM∧OP pM (cll (r20 5)) kM∧(Xn pM=0∧sizeP pM≤pz (dp-1)∧Nm pM)∧(aw≤aM∧aM≤aw+((dz (dp-1):Nat):Int)):=hp 5 (by decide)
   have p6:(r20 6)=.slice (some ⟨(Y3 (r20 6)),0,none⟩) 1 1∧(N20 6)=[(Y3 (r20 6),.cells ⟨flatten [(cll (r20 5))]⟩ 115 (0,0))]∧Own 115 35 (.slice (some ⟨(Y3 (r20 6)),0,none⟩) 1 1) [(cll (r20 5))] (N20 6):=hp 6 (by decide)
   obtain ⟨ρ30,rfl⟩:=Zi (uc (show ρ 0=pp bS 0 from hr0 0 (by kernel_rfl)) (uc (show ρ 1=iv d from hr0 1 (by kernel_rfl)) (uc (show ρ 4=pp b1 0 from hr0 4 (by kernel_rfl)) (uc (show ρ 6=pp b8 0 from hr0 6 (by kernel_rfl)) (uc (show ρ 22=iv n9 from hr0 22 (by kernel_rfl)) (uc (show ρ 23=iv ((j:Int)) from hr0 23 (by kernel_rfl)) (uc (show ρ 26=w from (hr 1 _ _ (by decide) rfl rfl).trans (hp 1 (by decide))) (uc (show ρ 31=.slice (some ⟨(Y3 (r20 6)),0,none⟩) 1 1 from (hr 6 _ _ (by decide) rfl rfl).trans p6.1) un))))))))
   have p20_5:=p5;have p20_6:=p6
   clear hp hr hr0 p5 p6
   refine ZB (M':=[(N20 0),(N20 1),(N20 2),(N20 3),(N20 4),[],(N20 6),(BX b8 (pkP 3 n7 n6 w) 115),k1,k2,(N20 5),(BX b1 (pkP 0 0 zS nS) 115)]) Sub.refl ?_
   obtain ⟨pM20_5,kM20_5,aM20_5,sM20_5,hNM20_5,hOM20_5,hgM20_5,haM20_5⟩:=p20_5.2.2.2
   refine ZB (M':=[(N20 6),(BX b8 (pkP 3 n7 n6 w) 115),k1,k2,(BX bS [v,iv aM20_5,.int .u64 sM20_5] 109)++kM20_5,(BX b1 (pkP 0 0 zS nS) 115)]) (Sd (Sd (Sd (Sd (Sd (Sd (Sk (Sk (Sk (Sk (Se hNM20_5 (Sk Sub.nil))))))))))))<|ZB (M':=[(N20 6),(BX b8 (pkP 3 n7 n6 w) 115),k1,k2,(BX bS [v,iv aM20_5,.int .u64 sM20_5] 109),kM20_5,(BX b1 (pkP 0 0 zS nS) 115)]) (Sub.flat Sub.refl (by simp)) ?_
   show JL _ _ _ [_,_,_] _ _ _
   have hlens31:∀ e∈([(cll (r20 5))]:List (List Value)),List.length e=35:=by
    intro e he;simp only [mem_cons,not_mem_nil,or_false] at he
    rcases he with rfl
    ·exact p20_5.2.1
   have hoks31:∀ e∈([(cll (r20 5))]:List (List Value)),okc e:=by
    intro e he;simp only [mem_cons,not_mem_nil,or_false] at he
    rcases he with rfl
    ·exact p20_5.2.2.1
   refine JLr (ZA (i:=2) (n:=1) (es':=[(cll (r20 5))]) YX YX (Or.inl rfl) Oz rfl rfl rfl how (fun F w m=>Src.row (((ZcS 0 rfl (by rw [p20_6.2.1];exact mem_cons_self))).heap m) (Zx (Zw hlens31))) rfl hlens31 hoks31 (by decide) (by omega) fun v31 k31 ho31=>JLq (pp b8 34) (YG rfl rfl)<|JLr (Zb 1 (vs:=[v31]) (l:=pkP 3 n7 n6 v31) XF rfl rfl rfl (ZH ho31.one) rfl (Zh ho31.one Zq) (T9 ..)<|Za<|Ze<|JLn (ZcP rfl rfl (by omega))<|JLM rfl<|Za<|⟨_,?_,(j+1),(ps++[pM20_5]),v31,(es++[(cll (r20 5))]),k31,(k2++kM20_5),aM20_5,sM20_5,rfl,rfl,rfl,rfl,rfl,rfl,(Sd (Sk (Sk (ZcO (Sk (Sub.cons 1 rfl (Sk (Sk Sub.nil)))))))),?_,?_,?_,?_,?_,?_,?_,?_,rfl⟩))
   ·omega
   ·omega
   ·exact ho31
   ·exact OPs.snoc hOM20_5 hopw
   ·simp;omega
   ·exact Ml hpe hgM20_5.1
   ·have:=hgM20_5.2.1;rw [N5,Nat.succ_mul];omega
   ·rw [I2];exact ⟨hpw,hgM20_5.2.2,trivial⟩
   have:=haM20_5;rw [Nat.succ_mul];omega
  replace h19:=df h19
  refine ZC _ rfl<|Zd<|JLr (Zn ZO rfl (ZcK 0 rfl) (Ve ..)<|JLr (Zb 4 (vs:=pkP 3 n7 n6 w) (l:=pkP 3 n7 n6 w) ZO rfl rfl rfl rfl rfl (XN how.one) (UE ..)<|Za<|Zz<|⟨.agg ⟨pkP 3 n7 n6 w⟩,[(BX bS [v,iv aw,.int .u64 sw] 109),k1++k2],Ret.one rfl (RV.cell ZO rfl (ZcK 4 rfl) (Ve ..)),(Sd (Sub.cons 2 rfl (ZcO (Sk (Sk Sub.nil))))),?_⟩))
  have hmz:=Nat.mul_le_mul_right (pz (dp-1)) (show j≤2 by omega)
  have hmd:=Nat.mul_le_mul_right (dz (dp-1)) (show j≤2 by omega)
  have e1:=AN (show 0<dp by omega)
  have e2:=Eu (show 0<dp by omega)
  exact ⟨.mk 3 n7 n6 ps,_,_,_,_,rfl,rfl,OP_mk.2 ⟨w,es,k1,k2,rfl,by unfold inI;omega,by unfold inI;omega,how,hopw,rfl,by omega⟩,⟨IT (by omega) (by omega) (by omega) hpe,by rw [sizeP];omega,by rw [Nm];exact ⟨hw6,hpw⟩⟩,by omega⟩
 refine Zd<|JLM rfl<|JLn (Pu.eql rfl rfl)<|JAn rfl<|Zt rfl (fun h32=>?_) (fun h32=>?_)
 ·replace h32:=dt h32
  refine Zd<|JLM rfl<|Zs 0 rfl call22 rfl rfl (fun hin=>Yw _ _ _ _ _ _ (RBs.mono (Hle.hu _ _) hv) (by omega) (by omega) _) rfl ?_
  rintro _ _ ⟨n33,a33,s33,rfl,rfl,hn33,ha33⟩
  refine Jc call79 rfl (fun hin=>Zbo _ _) rfl ?_
  rintro _ _ ⟨rfl,rfl⟩
  refine JLr (Zb 1 (vs:=pkP 2 n33 zS nS) (l:=pkP 2 n33 zS nS) ZO rfl rfl rfl rfl rfl (XN rfl) (UE ..)<|Za<|Zz<|⟨.agg ⟨pkP 2 n33 zS nS⟩,[(BX bS [v,iv a33,.int .u64 s33] 109),[]],Ret.one rfl (RV.cell ZO rfl (ZcK 1 rfl) (Ve ..)),(Sk (ZcL Sub.nil)),?_⟩)
  have e1:=B7 dp
  have e2:=Ev dp
  exact ⟨.mk 2 n33 zS [],_,_,_,_,rfl,rfl,Qt (by unfold inI;omega) (by unfold inI;omega),⟨IS (by omega) (by omega),by simp [sizeP,sizePs];omega,by rw [Nm];exact ⟨WV,trivial⟩⟩,by omega⟩
 replace h32:=df h32
 refine Zo<|Zd<|Jc call80 rfl (fun hin=>ZaS _) rfl ?_
 rintro _ _ ⟨rfl,rfl⟩
 refine JLr (Zb 1 (vs:=pkP 1 0 zS nS) (l:=pkP 1 0 zS nS) ZO rfl rfl rfl rfl rfl (XN rfl) (UE ..)<|Za<|Zz<|⟨.agg ⟨pkP 1 0 zS nS⟩,[(BX bS [v,iv a2,.int .u64 s2] 109),[]],Ret.one rfl (RV.cell ZO rfl (ZcK 1 rfl) (Ve ..)),(Sk (ZcL Sub.nil)),?_⟩)
 have e1:=B7 dp
 have e2:=Ev dp
 exact ⟨.mk 1 0 zS [],_,_,_,_,rfl,rfl,Qt (by unfold inI;omega) (by unfold inI;omega),⟨IU,by simp [sizeP,sizePs];omega,by rw [Nm];exact ⟨WV,trivial⟩⟩,by omega⟩
theorem Hu:∀ (p:Pt) (cs:List Value) (H:Heap),RP H cs p→Xn p=0→binds p≤1000000→CT prog 164 ⟨[.agg ⟨cs⟩]⟩ [] H (fun v N=>v=iv (binds p:Int)∧N=[]):=by
 intro p
 induction p using Pt.ind with
 | h kind num ref kids ih=>
 intro cs H hp hpe hb
 obtain ⟨ks,rfl,hk,hn,hks⟩:=RP_mk.1 hp
 obtain ⟨hpl,hpk⟩:=LY hpe
 have hpm:=LZ hpl
 rw [binds] at hb ⊢
 refine Zl func164 rfl rfl<|Zd<|JLr (Zr (l:=pkP kind num ref ks) rfl rfl fun b1=>JAn rfl<|Zg<|Zd<|JLq (pp b1 0) (Xa rfl rfl)<|JLr (Zc ty3 rfl (ZcK 0 rfl) (Wu ..)<|JLn (Pu.eql rfl rfl)<|Za ?_))
 refine Zt rfl (fun h2=>?_) (fun h2=>?_)
 ·replace h2:=dt h2
  refine Zd<|JAn rfl<|Zz<|⟨iv 1,[],Ret.one rfl (RV.tmp rfl),Sub.nil,?_⟩
  exact ⟨by rw [if_pos (by assumption)];rfl,rfl⟩
 replace h2:=df h2
 refine Zo<|Zd<|JAn rfl<|Zg<|Zd<|JLq (pp b1 0) (Xa rfl rfl)<|JLr (Zc ty3 rfl (ZcK 0 rfl) (Wu ..)<|JLn (Pu.eql rfl rfl)<|Za<|Zt rfl (fun h3=>?_) (fun h3=>?_))
 ·replace h3:=dt h3
  refine Zd<|JLq (pp b1 34) (YG rfl rfl)<|JLr (Zc XF rfl (ZcK 0 rfl) (XO ..) ?_)
  obtain ⟨a4,cap4,hv4⟩:=hks.sl
  have hle4:=hks.le
  refine JLn (ZcM YX hv4)<|JLM rfl<|Za<|Zm<|ZD (fun k ρ M=>∃ (j:Nat),ρ 2=iv 0∧ρ 3=iv ((Xg (kids.take j):Int))∧ρ 13=ks∧ρ 14=iv ((kids.length:Int))∧ρ 15=iv ((j:Int))∧Sub [(BX b1 (pkP kind num ref ks) 115)] M∧j≤kids.length∧k=kids.length-j) _ ⟨0,rfl,rfl,rfl,rfl,rfl,(Sk Sub.nil),Nat.zero_le _,rfl⟩ ?_
  rintro _ ρ5 _ ⟨j,e6,e7,e8,e9,e10,hm11,hj,rfl⟩
  obtain ⟨ρ12,rfl⟩:=Zi (uc e6 (uc e7 (uc e8 (uc e9 (uc e10 un)))))
  clear e6 e7 e8 e9 e10
  refine ZF hm11 ?_
  have hlen:=hks.le
  refine Zd<|JLn (Pu.lss rfl rfl)<|Za<|Zg<|Zt rfl (fun h13=>?_) (fun h13=>?_)
  ·replace h13:=dt h13
   have h13n:j<kids.length:=by omega
   have hm1:=OI kids _ (getElem_mem h13n)
   have hm2:=R2 kids _ h13n
   have hm3:=UU kids (j+1)
   rw [if_neg (by assumption)] at hb
   refine Zo<|Zg<|Zm<|Zg<|Ze ?_
   obtain ⟨b14,o14,cap14,row14,T14,fr14,cs14,hv14,hb14,hs14,hE14⟩:=hks.get j (by first | assumption | omega | decide | simp)
   refine JLn (Pu.idx j YX ZO hv14 rfl rfl (by first | assumption | omega | decide | simp))<|JLr (Zn ZO rfl (ZcN hb14) hs14<|JLr (Zk (l:=pkP 0 0 zS nS) zeroValue115 rfl fun b15=>JLr (Zb 0 (vs:=cs14) (l:=cs14) ZO rfl rfl rfl rfl (ZL hE14) (W3 hE14) (ZY (n:=35) rfl (ZL hE14))<|Za<|Ze<|JLM rfl<|JLr (Zn ZO rfl (ZcK 0 rfl) (Zx (ZL hE14))<|Jc call164 rfl (fun hin=>ih _ (getElem_mem h13n) _ _ (RP.mono (Hle.hu _ _) hE14) (hpm _ (getElem_mem h13n)) (by omega)) rfl ?_))))
   rintro _ _ ⟨rfl,rfl⟩
   refine JLn (ZcV rfl rfl (by first | omega | (constructor <;> omega)))<|JAn rfl<|Ze<|JLn (ZcP rfl rfl (by omega))<|JLM rfl<|Za<|⟨_,?_,(j+1),rfl,(ieq rfl (by omega)),rfl,rfl,rfl,(Sd (Sk Sub.nil)),?_,rfl⟩
   ·omega
   omega
  replace h13:=df h13
  have h13n:kids.length≤j:=by omega
  refine ZC _ rfl<|Zd<|JLM rfl<|JAn rfl<|Zz<|⟨iv ((Xg (kids.take j):Int)),[],Ret.one rfl (RV.tmp rfl),Sub.nil,?_⟩
  exact ⟨by rw [if_neg (by assumption),take_of_length_le h13n],rfl⟩
 replace h3:=df h3
 refine Zo<|Zd<|JLM rfl<|JAn rfl<|Zz<|⟨iv 0,[],Ret.one rfl (RV.tmp rfl),Sub.nil,?_⟩
 obtain rfl:kids=[]:=by rcases hpk with e | e | e;exact absurd e (by assumption);exact absurd e (by assumption);exact e.2
 exact ⟨by rw [if_neg (by assumption)];rfl,rfl⟩
theorem OE (v:Value) (l:List Int) (H:Heap) (hl:Hs.rdS RB 1 H v l) (hz:l.length≤1000000):CT prog 62 ⟨[v]⟩ [] H (fun r N=>∃ k,N=[k]∧Own 5 1 r (YU l) k):=by
 refine Zl func62 rfl rfl<|Zd<|JAn rfl<|Zg<|Zd<|JLm v ?_
 obtain ⟨a1,cap1,hv1⟩:=hl.sl
 have hle1:=hl.le
 refine JLq (.bool (a1.isNone)) (Zdu YV hv1 rfl)<|Za<|Zt rfl (fun h2=>?_) (fun h2=>?_)
 ·refine Zd<|JAn rfl<|ZE nS [[]] (ZcL Sub.nil) (?_)
  obtain rfl:l=[]:=D9 hl hv1 h2
  exact ⟨_,rfl,Own.nil⟩
 refine Zo<|Zd<|JLr (Zj (vs:=[]) [] YV el5 rfl rfl (by intro e he;cases he) rfl (by decide) fun b3 k3 ho3 hk3=>JLm v<|JLr (ZA (i:=0) (n:=l.length) (es':=YU l) YV YV (Or.inl rfl) el5 rfl rfl rfl ho3 (fun F w m=>Lc hl w _ m) (Yu _) (Rw _) (NJ _) (by decide) (by simp;omega) fun v4 k4 ho4=>JLa v4<|Za<|ZE v4 [k4] (Sk Sub.nil) (?_)))
 exact ⟨_,rfl,ho4⟩
theorem B9 (v:Value) (l:List Int) (H:Heap) (hb:bytesR H v l) (hv:Hs.rdS RB 1 H v l):CT prog 18 ⟨[v]⟩ [] H (fun r N=>∃ bS u k s l',r=pp bS 0∧N=[(BX bS [u,iv 0,.int .u64 s] 109),k]∧u.oneCell'=true∧∀ h,Has k h→Hs.rdS RB 1 h u l'):=by
 refine Zl func18 rfl rfl<|Zd<|JLa ((.pointer none))<|Za<|Zd<|JLm v<|JLm v ?_
 obtain ⟨a1,cap1,hv1⟩:=hv.sl
 have hle1:=hv.le
 refine JLn (ZcM YV hv1)<|JLq (iv (((min l.length 300:Nat):Int))) (Pu.min2 rfl rfl (by split <;> omega))<|JLr (NR (n:=min l.length 300) hb (by omega) YV sizeOf5 rfl rfl fun u2 hu2=>?_)
 have hr2:=hu2 H hv
 refine Jc call62 rfl (fun hin=>OE _ _ _ (RBs.mono (Hle.hu _ _) hr2) (by rw [length_take];omega)) rfl ?_
 rintro u3 _ ⟨k3,rfl,ho3⟩
 obtain ⟨a4,cap4,hv4⟩:=ho3.sl
 refine JLq (.agg ⟨[u3,iv 0,.int .u64 88172645463325252]⟩) (Pu.build (pv:=[(0,u3),(2,.int .u64 88172645463325252)]) (l:=[u3,iv 0,.int .u64 88172645463325252]) rfl (Zb9 _ hv4))<|JLr (Zr (l:=[u3,iv 0,.int .u64 88172645463325252]) rfl rfl fun b5=>JAn rfl<|Zz<|⟨pp b5 0,[(BX b5 [u3,iv 0,.int .u64 88172645463325252] 109),k3],Ret.one rfl (RV.tmp rfl),(Sk (Sk Sub.nil)),?_⟩)
 exact ⟨_,_,_,_,l.take (min l.length 300),rfl,rfl,ho3.one,fun h hh=>Wj ho3 (by rw [length_take];omega) hh⟩
end
mutual
def szI:It→Nat
  | .mk _ _ _ kids=>1+Xh kids
def Xh:List It→Nat
  | []=>0
  | x::l=>szI x+Xh l
end
theorem DK (x:It):1≤szI x:=by cases x;rw [szI];omega
theorem Io {l:List It} {j:Nat} (h:j<l.length):Xh (l.drop j)=szI l[j]+Xh (l.drop (j+1)):=by rw [Wv h,Xh]
theorem Gp {l:List It}:∀ {x:It},x∈l→szI x≤Xh l:=by
  induction l with
  | nil=>intro x hx;cases hx
  | cons y l ih=>
    intro x hx
    rw [Xh]
    rcases mem_cons.1 hx with rfl | hx
    · omega
    · have:=ih hx;omega
theorem Gq (l:List It):l.length≤Xh l:=by
  induction l with
  | nil=>simp
  | cons x l ih=>rw [Xh,length_cons];have:=DK x;omega
mutual
def dpI:It→Int
  | .mk _ _ _ kids=>1+X6 kids
def X6:List It→Int
  | []=>0
  | x::l=>max (dpI x) (X6 l)
end
theorem JZ (l:List It):0≤X6 l:=by
  induction l with
  | nil=>rw [X6];omega
  | cons x l ih=>rw [X6];omega
theorem AA (p:Pt):(szI (itP p):Int)=sizeP p∧dpI (itP p)=UP p:=by
  induction p using Pt.ind with
  | h k n r kids ih=>
    rw [itP,szI,dpI,sizeP,UP]
    have hK:∀ l:List Pt,(∀ x∈l,(szI (itP x):Int)=sizeP x∧dpI (itP x)=UP x)→(Xh (WZ l):Int)=sizePs l∧X6 (WZ l)=XX l:=by
      intro l
      induction l with
      | nil=>intro _;rw [WZ,Xh,X6,sizePs,XX];simp
      | cons x l ihl=>
        intro hl
        have h1:=hl x (by simp)
        have h2:=ihl (fun y hy=>hl y (by simp [hy]))
        rw [WZ,Xh,X6,sizePs,XX]
        omega
    have:=hK kids ih
    omega
theorem Gr (a b:List It):Xh (a++b)=Xh a+Xh b:=by
  induction a with
  | nil=>rw [Xh];simp
  | cons x a ih=>rw [cons_append,Xh,Xh,ih];omega
theorem Ex (a b:List It):X6 (a++b)=max (X6 a) (X6 b):=by
  induction a with
  | nil=>rw [X6];have:=JZ b;simp only [nil_append];omega
  | cons x a ih=>rw [cons_append,X6,X6,ih];omega
theorem Gn (t:Tm):(szI (itT t):Int)≤2*sizeT t∧dpI (itT t)≤2*Yj t:=by
  induction t using Tm.ind with
  | h k n r kids cases ih ih'=>
    rw [itT,szI,dpI,sizeT,Yj,Gr,Ex]
    have hK:∀ l:List Tm,(∀ x∈l,(szI (itT x):Int)≤2*sizeT x∧dpI (itT x)≤2*Yj x)→(Xh (Wy l):Int)≤2*sizeTs l∧X6 (Wy l)≤2*Yi l:=by
      intro l
      induction l with
      | nil=>intro _;rw [Wy,Xh,X6,sizeTs,Yi];simp
      | cons x l ihl=>
        intro hl
        have h1:=hl x (by simp)
        have h2:=ihl (fun y hy=>hl y (by simp [hy]))
        rw [Wy,Xh,X6,sizeTs,Yi]
        omega
    have hC:∀ l:List (Pt×Tm),(∀ c∈l,(szI (itT c.2):Int)≤2*sizeT c.2∧dpI (itT c.2)≤2*Yj c.2)→(Xh (Vm l):Int)≤2*sizeCs l∧X6 (Vm l)≤2*Yo l+1:=by
      intro l
      induction l with
      | nil=>intro _;rw [Vm,Xh,X6,sizeCs,Yo];simp
      | cons c l ihl=>
        intro hl
        obtain ⟨p,x⟩:=c
        have h1:=hl (p,x) (by simp)
        have h2:=ihl (fun y hy=>hl y (by simp [hy]))
        have h3:=AA p
        have h4:=Bl p
        have h5:=Rb p
        simp only at h1
        rw [Vm,Xh,X6,sizeCs,Yo,szI,dpI,Xh,Xh,Xh,X6,X6,X6]
        omega
    have h1:=hK kids ih
    have h2:=hC cases ih'
    have h3:=UO kids
    omega
theorem ZcW {P:Program} {e:Operand→Value} {o:Oper} {b c:Bool} (h:Pu P e o (.bool b)) (q:b=c):Pu P e o (.bool c):=q▸h
def byR (H:Heap) (v:Value) (l:List Int):Prop:=∃ a cap,v=.slice a l.length cap∧l.length≤cap∧Hs.rdS RB 1 H v l
theorem byR.rd {H:Heap} {v:Value} {l:List Int} (h:byR H v l):Hs.rdS RB 1 H v l:=by obtain ⟨_,_,_,_,h⟩:=h;exact h
theorem byR.one {H:Heap} {v:Value} {l:List Int} (h:byR H v l):v.oneCell'=true:=h.rd.one
theorem byR.mono {H H':Heap} {v:Value} {l:List Int} (hh:Hle H H') (h:byR H v l):byR H' v l:=by obtain ⟨a,cap,e,h1,h⟩:=h;exact ⟨a,cap,e,h1,RBs.mono hh h⟩
theorem byR.cut {h:Heap} {a:Option Addr} {N cap:Nat} {l:List Int} (r:byR h (.slice a N cap) l) (n m:Nat) (hnm:n+m≤l.length):Hs.rdS RB 1 h (.slice (if cap=n then a else a.map (·.add (n*1))) m (cap-n)) ((l.drop n).take m):=by
  obtain ⟨a',c',e,h1,a2,c2,e2,h2,h0⟩:=r
  cases e;cases e2
  have hl:((l.drop n).take m).length=m:=by rw [length_take,length_drop];omega
  refine ⟨_,_,by rw [hl],by rw [hl];omega,?_⟩
  by_cases hz:m=0
  · exact .inl (by rw [hl];exact hz)
  rcases h0 with h0 | ⟨b,o,row,T,fr,e1,e2,e3⟩
  · omega
  · right
    have hc:¬ cap=n:=by omega
    refine ⟨b,o+n*1,row,T,fr,by rw [if_neg hc,e1];simp [Addr.add],e2,rows.mk fun i hi=>?_⟩
    rw [hl] at hi
    obtain ⟨cs,h2,h3⟩:=e3.get (n+i) (by omega)
    exact ⟨cs,by rw [← h2];congr 1;omega,by rw [List.getElem_take,List.getElem_drop];exact h3⟩
section
variable {c:Cx} {H:Heap} {ρ:Nat→Value} {M:List Zf} {K:Value→List Zf→Prop} {d:Option Nat} {ot:TypeId} {pos:String} {af:Array Edge} {g:Option (Nat×Bool)} {x y z:Operand}
theorem IF {P:Program} {H:Heap} {L:Zf} {w:World} {T T' el:TypeId} {v:Value} {l:List Int} (mm:Mem w L H) (hr:Hs.rdS RB 1 H v l) (hT:∀ w,(underlying T).run P w=.ok (.slice el) w) (hel:∀ w,(underlying el).run P w=.ok (.int .u8) w) (hT':∀ w,(underlying T').run P w=.ok .string w):
    (convert T T' v).run P w=.ok (.string (EY l)) w:=by
  obtain ⟨a,cap,rfl,hn,h0⟩:=hr
  have e1:(convert T T' (.slice a l.length cap)).run P w=(Conv.bytesToString (.slice a l.length cap)).run P w:=by
    simp [convert,hT,hT',hel]
  rw [e1]
  cases a with
  | none=>
    rcases h0 with h0 | ⟨b,o,row,T2,fr,e2,_⟩
    · have:l=[]:=eq_nil_of_length_eq_zero h0
      subst this
      simp [Conv.bytesToString,EY]
      rfl
    · cases e2
  | some a =>
    have hl :(loadCells a l.length).run P w=.ok (l.map (Value.int .u8)).toArray w:=by
      have :=run_loadCells_list (P:=P) w a (l.map (Value.int .u8)) (fun j u hj=>by
        have hjl:j<l.length:=by
          rcases Nat.lt_or_ge j l.length with h | h
          · exact h
          · simp [getElem?_eq_none (show (l.map (Value.int .u8)).length≤j by simpa using h)] at hj
        rcases h0 with h0 | ⟨b,o,row,T2,fr,e2,hb,hrow⟩
        · omega
        · cases e2
          obtain ⟨cs,q1,q2⟩:=hrow.get j hjl
          obtain ⟨q3,q4⟩:=Wg q1
          rw [W1,cell_of_row w b (o+j) _ _ _ (mm.imm _ _ hb)]
          simp [getElem?_eq_getElem hjl] at hj
          have q5:row[o+j]?=some (.int .u8 l[j]):=by
            have e:=q4.symm.trans q2
            have:((row.drop (o+j*1)).take 1)[0]?=some (.int .u8 l[j]):=by rw [e];rfl
            rw [getElem?_take,if_pos (by omega),getElem?_drop] at this
            simpa using this
          rw [← hj]
          simpa using q5)
      simpa using this
    rw [run_bytesToString w a l.length cap l hl,foldl_push_bytes]
    simp [EY]
end
section
variable {c:Cx} {H:Heap} {l:List Oper} {b:Array Nat} {k:Nat} {ds:List (Option Nat)} {cs:List (Nat×Nat)} {P:List (Nat×X4)} {ρ₀:Nat→Value} {M₀:List Zf} {Q:Post} {m:Nat} {os:List Oper} {r:Nat→Value} {N:Nat→List Zf}
  {d:Option Nat} {x:Operand} {ot:TypeId} {pos:String} {af:Array Edge} {g:Option (Nat×Bool)}
end
section
open Go Go.MapKept
theorem GM {P:Program} {w:World} {α:Type} (f:α→Sem Unit):∀ (l:List α),(∀ x∈l,(f x).run P w=.ok () w)→(forIn l PUnit.unit (fun x _=>do f x;pure (ForInStep.yield PUnit.unit)):Sem PUnit).run P w=.ok PUnit.unit w:=by
  intro l
  induction l with
  | nil=>intro _;simp
  | cons x l ih=>
    intro h
    have h1:=h x (by simp)
    have h2:=ih (fun y hy=>h y (by simp [hy]))
    simp only [List.forIn_cons,Sem.run_bind,h1,Result.andThen,Sem.run_pure]
    exact h2
theorem O8 (em:Bool) (n:Nat) (r:Sm) (w:World):(Instr.checkKey em (n+2) 38 (.agg ⟨sC r⟩)).run prog w=.ok () w:=by
  rw [Instr.checkKey]
  simp only [Sem.run_bind,run_underlying underlying38,Result.andThen]
  simp only [Std.Legacy.Range.forIn_eq_forIn_range',Std.Legacy.Range.size,Nat.sub_zero,Nat.add_sub_cancel,Nat.div_one]
  have:=GM (P:=prog) (w:=w) (fun i=>(do Instr.checkKey em (n+1) 5 (← part 5 ⟨sC r⟩ (i*(← Go.sizeOf 5))):Sem Unit)) (List.range' 0 32) (fun i hi=>by
    have hi:i<32:=by have:=List.mem_range'_1.1 hi;omega
    have hp:(part 5 ⟨sC r⟩ (i*1)).run prog w=.ok (.int .u8 (r[i].toNat:Int)) w:=by
      have:=V0 r i hi
      have e:(⟨sC r⟩:Array Value)[i]?=some (.int .u8 (r[i].toNat:Int)):=by simpa using this
      simp [part,isAgg5,e]
    simp only [Sem.run_bind,sizeOf5,Result.andThen,hp]
    rw [Instr.checkKey]
    simp [run_underlying underlying5,Result.andThen])
  simp at this ⊢
  rw [this]
structure KeyOK (P:Program) (kt:TypeId) {α:Type} (kV:α→Value):Prop where
  inj:∀ {a b},kV a=kV b→a=b
  chk:∀ em h w,(Instr.checkKey em 10000 kt (kV h)).run P w=.ok () w
  fnd:∀ h (es:List MapEntry) w,(∀ e∈es,∃ x,e.key=kV x)→((∀ e∈es,e.key≠kV h)∧(Instr.findKey kt (kV h) es).run P w=.ok none w)∨∃ j e,(Instr.findKey kt (kV h) es).run P w=.ok (some (j,e.val)) w∧es[j]?=some e∧e.key=kV h
section
variable {α β:Type} (kV:α→Value) (vV:β→Value)
def gmE (K:List α) (f:α→β):List MapEntry:=K.zipIdx.map fun p=>{key:=kV p.1,val:=vV (f p.1),born:=p.2}
def gmO (K:List α) (f:α→β):Obj:=.map ⟨gmE kV vV K f⟩ K.length
def gmC (r:Nat) (K:List α) (f:α→β):Zf:=[(r,gmO kV vV K f)]
end
section
variable {α β:Type} {kV:α→Value} {vV:β→Value}
theorem JG (K:List α) (f:α→β):∀ e∈gmE kV vV K f,∃ x∈K,e.key=kV x∧e.val=vV (f x):=by
  intro e he
  obtain ⟨p,hp,rfl⟩:=mem_map.1 he
  exact ⟨p.1,(List.mem_zipIdx' hp).2▸getElem_mem _,rfl,rfl⟩
theorem CR {K:List α} {f:α→β} {h:α} (hm:h∈K):∃ e∈gmE kV vV K f,e.key=kV h:=by
  obtain ⟨i,hi,rfl⟩:=List.getElem_of_mem hm
  exact ⟨_,mem_map.2 ⟨(K[i],i),List.mk_mem_zipIdx_iff_getElem?.2 (by simp [hi]),rfl⟩,rfl⟩
theorem JF {P:Program} {kt:TypeId} (ok:KeyOK P kt kV) (K:List α) (f:α→β) (k:α) (w:World):(k∉K∧(Instr.findKey kt (kV k) (gmE kV vV K f)).run P w=.ok none w)∨
    (k∈K∧∃ j,(Instr.findKey kt (kV k) (gmE kV vV K f)).run P w=.ok (some (j,vV (f k))) w):=by
  rcases ok.fnd k (gmE kV vV K f) w (fun e he=>(JG K f e he).elim fun x hx=>⟨x,hx.2.1⟩) with ⟨h1,h2⟩ | ⟨j,e,h1,h2,h3⟩
  · refine .inl ⟨fun hm=>?_,h2⟩
    obtain ⟨e,he,hk⟩:=CR (kV:=kV) (vV:=vV) (f:=f) hm
    exact h1 e he hk
  · obtain ⟨x,hx,hk,hv⟩:=JG K f e (mem_of_getElem? h2)
    obtain rfl:x=k:=ok.inj (hk.symm.trans h3)
    exact .inr ⟨hx,j,by rw [h1,hv]⟩
theorem Ef (K:List α) (f g:α→β) (k:α) (hg:∀ x∈K,g x=f x):gmE kV vV (K++[k]) g=gmE kV vV K f++[{key:=kV k,val:=vV (g k),born:=K.length}]:=by
  unfold gmE
  rw [List.zipIdx_append,map_append]
  congr 1
  · apply map_congr_left
    intro p hp
    rw [hg p.1 ((List.mem_zipIdx' hp).2▸getElem_mem _)]
  · simp
end
section
variable {c:Cx} {H:Heap} {ρ:Nat→Value} {M:List Zf} {Kk:Value→List Zf→Prop} {d:Option Nat} {ot:TypeId} {pos:String} {af:Array Edge} {g:Option (Nat×Bool)} {x y z:Operand}
variable {α β:Type} {kV:α→Value} {vV:β→Value} {kt et T:TypeId}
theorem TT (kV:α→Value) (vV:β→Value) (f:α→β) (h:∀ r,Kk (.map (some r)) (gmC kV vV r [] f::M)):Runs c H ⟨d,.makeMap T none,ot,pos,af,g⟩ ρ M Kk:=fun F w m=>by
  refine ⟨.map (some w.heap.size),{w with heap:=w.heap.push (.map #[] 0)},[(w.heap.size,.map #[] 0)]::M,.inl ?_,m.push (w':={w with heap:=w.heap.push (.map #[] 0)}) rfl,h _⟩
  simp [execOp,Instr.makeMap,Result.andThen]
theorem Ui {i r:Nat} {K:List α} {f f':α→β} {k:α} (ok:KeyOK c.P kt kV) (hm:c.P.underlying T=some (.map kt et)) (hx:ev c.n ρ x=.map (some r)) (hy:ev c.n ρ y=kV k) (hz:ev c.n ρ z=vV (f' k))
    (hi:M[i]?=some (gmC kV vV r K f)) (hk:k∉K) (hf:∀ x∈K,f' x=f x) (h:Kk undef (M.set i (gmC kV vV r (K++[k]) f'))):Runs c H ⟨d,.mapUpdate T x y z,ot,pos,af,g⟩ ρ M Kk:=fun F w m=>by
  have hb:w.heap[r]?=some (.map ⟨gmE kV vV K f⟩ K.length):=(m.perm ((Yt hi).append_right F)).own r _ (mem_cons_self ..)
  rcases JF (vV:=vV) ok K f k w with ⟨h0,h1⟩ | ⟨h0,_⟩
  · refine ⟨undef,_,_,.inr ⟨?_,rfl⟩,m.put (o':=gmO kV vV (K++[k]) f') hi,h⟩
    simp [execOp,Instr.mapUpdate,hx,hy,hz,run_underlying hm,MapKept.run_getObj_map hb,ok.chk,h1,MapKept.run_setObj_map _ hb,Result.andThen,gmO,Ef K f f' k hf]
  · exact absurd h0 hk
theorem JB {K:List α} {f:α→β} {k:α} {w:World} {r clk:Nat} {b:Bool} {z0:β} [Decidable (k∈K)] (ok:KeyOK c.P kt kV) (hm:c.P.underlying T=some (.map kt et)) (hzv:∀ w,(zeroValue et).run c.P w=.ok (vV z0) w) (hx:ev c.n ρ x=.map (some r)) (hy:ev c.n ρ y=kV k)
    (hb:w.heap[r]?=some (.map ⟨gmE kV vV K f⟩ clk)):(execOp (ev c.n ρ) ⟨d,.lookup T x y b,ot,pos,af,g⟩).run c.P w=.ok (.value (if b then .tuple ⟨[vV (if k∈K then f k else z0),.bool (decide (k∈K))]⟩ else vV (if k∈K then f k else z0))) w:=by
  rcases JF (vV:=vV) ok K f k w with ⟨h0,h1⟩ | ⟨h0,j,h1⟩
  · cases b <;> simp [execOp,Instr.lookup,hx,hy,run_underlying hm,MapKept.run_getObj_map hb,ok.chk,h1,hzv,Result.andThen,h0]
  · cases b <;> simp [execOp,Instr.lookup,hx,hy,run_underlying hm,MapKept.run_getObj_map hb,ok.chk,h1,Result.andThen,h0]
theorem Tu {i r:Nat} {K:List α} {f:α→β} {k:α} [Decidable (k∈K)] (z0:β) (ok:KeyOK c.P kt kV) (hm:c.P.underlying T=some (.map kt et)) (hzv:∀ w,(zeroValue et).run c.P w=.ok (vV z0) w) (hx:ev c.n ρ x=.map (some r)) (hy:ev c.n ρ y=kV k)
    (hi:M[i]?=some (gmC kV vV r K f)) (h:Kk (.tuple ⟨[vV (if k∈K then f k else z0),.bool (decide (k∈K))]⟩) M):Runs c H ⟨d,.lookup T x y true,ot,pos,af,g⟩ ρ M Kk:=fun F w m=>by
  have hb:w.heap[r]?=some (.map ⟨gmE kV vV K f⟩ K.length):=(m.perm ((Yt hi).append_right F)).own r _ (mem_cons_self ..)
  exact ⟨_,_,_,.inl (JB ok hm hzv hx hy hb),m,h⟩
theorem PZ {i r:Nat} {K:List α} {f:α→β} {k:α} [Decidable (k∈K)] (z0:β) (ok:KeyOK c.P kt kV) (hm:c.P.underlying T=some (.map kt et)) (hzv:∀ w,(zeroValue et).run c.P w=.ok (vV z0) w) (hx:ev c.n ρ x=.map (some r)) (hy:ev c.n ρ y=kV k)
    (hi:M[i]?=some (gmC kV vV r K f)) (h:Kk (vV (if k∈K then f k else z0)) M):Runs c H ⟨d,.lookup T x y false,ot,pos,af,g⟩ ρ M Kk:=fun F w m=>by
  have hb:w.heap[r]?=some (.map ⟨gmE kV vV K f⟩ K.length):=(m.perm ((Yt hi).append_right F)).own r _ (mem_cons_self ..)
  exact ⟨_,_,_,.inl (JB ok hm hzv hx hy hb),m,h⟩
theorem UZ {r:Nat} {K:List α} {f:α→β} {k:α} [Decidable (k∈K)] (z0:β) (ok:KeyOK c.P kt kV) (hm:c.P.underlying T=some (.map kt et)) (hzv:∀ w,(zeroValue et).run c.P w=.ok (vV z0) w) (hx:ev c.n ρ x=.map (some r)) (hy:ev c.n ρ y=kV k)
    (hr:H r=some (gmO kV vV K f)) (h:Kk (.tuple ⟨[vV (if k∈K then f k else z0),.bool (decide (k∈K))]⟩) M):Runs c H ⟨d,.lookup T x y true,ot,pos,af,g⟩ ρ M Kk:=fun F w m=>by
  have hb:w.heap[r]?=some (.map ⟨gmE kV vV K f⟩ K.length):=m.imm r _ hr
  exact ⟨_,_,_,.inl (JB ok hm hzv hx hy hb),m,h⟩
theorem PN {r:Nat} {K:List α} {f:α→β} {k:α} [Decidable (k∈K)] (z0:β) (ok:KeyOK c.P kt kV) (hm:c.P.underlying T=some (.map kt et)) (hzv:∀ w,(zeroValue et).run c.P w=.ok (vV z0) w) (hx:ev c.n ρ x=.map (some r)) (hy:ev c.n ρ y=kV k)
    (hr:H r=some (gmO kV vV K f)) (h:Kk (vV (if k∈K then f k else z0)) M):Runs c H ⟨d,.lookup T x y false,ot,pos,af,g⟩ ρ M Kk:=fun F w m=>by
  have hb:w.heap[r]?=some (.map ⟨gmE kV vV K f⟩ K.length):=m.imm r _ hr
  exact ⟨_,_,_,.inl (JB ok hm hzv hx hy hb),m,h⟩
theorem HH {i r:Nat} {K:List α} {f:α→β} {kt et:TypeId} (hm:∀ w,(underlying T).run c.P w=.ok (.map kt et) w) (hx:ev c.n ρ x=.map (some r))
    (hi:M[i]?=some (gmC kV vV r K f)) (h:Kk (.int .i64 (K.length:Int)) M):Runs c H ⟨d,.call {callee:=.builtin .len,args:=#[x],argTypes:=#[T]},ot,pos,af,g⟩ ρ M Kk:=fun F w m=>by
  have hb:w.heap[r]?=some (.map ⟨gmE kV vV K f⟩ K.length):=(m.perm ((Yt hi).append_right F)).own r _ (mem_cons_self ..)
  refine ⟨_,_,_,.inl ?_,m,h⟩
  have hl:(gmE kV vV K f).length=K.length:=by simp [gmE]
  simp [execOp,resolve,invoke,builtin,Builtin.len_,hm,hx,goInt,MapKept.run_getObj_map hb,hl]
end
theorem Zdk {P:Program} {kt:TypeId} {td:TypeDesc} {α:Type} [DecidableEq α] {kV:α→Value} (inj:∀ {a b},kV a=kV b→a=b) (chk:∀ em h w,(Instr.checkKey em 10000 kt (kV h)).run P w=.ok () w)
    (heq:∀ a b w,(Op.equal kt (kV a) (kV b)).run P w=.ok (decide (a=b)) w) (hu:P.underlying kt=some td) (hs:∀ a b,Instr.sameNow td (kV a) (kV b)=none):KeyOK P kt kV:=by
  refine ⟨inj,chk,fun h es w hk=>?_⟩
  have key:∀ (es:List MapEntry) (i:Nat),(∀ e∈es,∃ x,e.key=kV x)→((∀ e∈es,e.key≠kV h)∧(Instr.findAsking kt (kV h) es i).run P w=.ok none w)∨∃ j e,(Instr.findAsking kt (kV h) es i).run P w=.ok (some (i+j,e.val)) w∧es[j]?=some e∧e.key=kV h:=by
    intro es
    induction es with
    | nil=>intro i _;exact .inl ⟨by simp,by simp [Instr.findAsking]⟩
    | cons e es ih=>
      intro i hk
      obtain ⟨x,hx⟩:=hk e (by simp)
      by_cases hxh:h=x
      · subst hxh
        refine .inr ⟨0,e,?_,rfl,hx⟩
        simp [Instr.findAsking,hx,heq,Result.andThen]
      · have hr:(Instr.findAsking kt (kV h) (e::es) i).run P w=(Instr.findAsking kt (kV h) es (i+1)).run P w:=by
          simp [Instr.findAsking,hx,heq,Result.andThen,hxh]
        rcases ih (i+1) (fun e he=>hk e (by simp [he])) with ⟨h1,h2⟩ | ⟨j,e',h1,h2,h3⟩
        · refine .inl ⟨fun e' he'=>?_,by rw [hr];exact h2⟩
          rcases mem_cons.1 he' with rfl | he'
          · rw [hx];intro q;exact hxh (inj q).symm
          · exact h1 e' he'
        · refine .inr ⟨j+1,e',?_,h2,h3⟩
          rw [hr,h1];congr 3;omega
  cases es with
  | nil=>exact .inl ⟨by simp,by simp [Instr.findKey,Instr.findNow,run_underlying hu,Result.andThen]⟩
  | cons e es=>
    have hr:(Instr.findKey kt (kV h) (e::es)).run P w=(Instr.findAsking kt (kV h) (e::es) 0).run P w:=by
      obtain ⟨x,hx⟩:=hk e (by simp)
      simp [Instr.findKey,Instr.findNow,run_underlying hu,Result.andThen,hx,hs]
    rw [hr]
    have:=key (e::es) 0 hk
    simpa only [Nat.zero_add] using this
def iV (n:Int):Value:=.int .i64 n
def smV (s:Sm):Value:=.agg ⟨sC s⟩
def clL (p:Int×Int):List Value:=[.int .i64 p.1,.int .i64 p.2]
def clV (p:Int×Int):Value:=.agg ⟨clL p⟩
theorem Zad {P:Program} {kt:TypeId} (hd:P.underlying kt=some (.int .i64)):KeyOK P kt iV:=by
  refine ⟨fun h=>by unfold iV at h;injection h,fun em h w=>?_,fun h es w hk=>?_⟩
  · show (Instr.checkKey em (9999+1) kt (.int .i64 h)).run P w=_
    rw [Instr.checkKey];simp [run_underlying hd,Result.andThen]
  · rcases findNow_spec (d:=.int .i64) (k:=.int .i64 h) rfl es 0 (fun x hx=>by obtain ⟨y,hy⟩:=hk x hx;rw [hy];rfl) with ⟨h1,h2⟩ | ⟨j,e,h1,h2,h3⟩
    · exact .inl ⟨h2,run_findKey hd h1⟩
    · refine .inr ⟨j,e,?_,h2,h3⟩
      rw [Nat.zero_add] at h1
      exact run_findKey hd h1
theorem CH:KeyOK prog 38 smV:=by
  refine Zdk (fun h=>by unfold smV at h;injection h with h;injection h with h;exact GL h) (fun em h w=>O8 em 9998 h w) (fun a b w=>?_) underlying38 (fun _ _=>rfl)
  unfold Op.equal
  have e1:=run_equalIn_bytes (P:=prog) w 9998 38 5 32 underlying38 underlying5 sizeOf5 a.toList b.toList (by simp) (by simp)
  rw [← Uz,← Uz] at e1
  have e2:(Op.equalIn 10000 38 (.agg ⟨sC a⟩) (.agg ⟨sC b⟩)).run prog w=.ok (a.toList==b.toList) w:=e1
  have hd2:(a.toList==b.toList)=decide (a=b):=by rw [Bool.eq_iff_iff];simp
  rw [hd2] at e2
  exact e2
theorem Me (a b:Int×Int) (w:World):(Op.equal 166 (clV a) (clV b)).run prog w=.ok (decide (a=b)) w:=by
  unfold Op.equal
  have hq:Op.maxDepth=9999+1:=rfl
  rw [hq]
  unfold clV
  rw [run_equalIn_struct w 9999 166 ⟨clL a⟩ ⟨clL b⟩ (by kernel_rfl) (by kernel_rfl)]
  have hf:(Program.fieldsOf prog 166).toList.map (fun f=>(f.name,f.type,f.offset))=[("own",3,0),("called",3,1)]:=by kernel_rfl
  generalize (Program.fieldsOf prog 166).toList=fl at hf
  obtain ⟨f1,f2,rfl⟩:∃ f1 f2,fl=[f1,f2]:=by
    rcases fl with _ | ⟨f1,_ | ⟨f2,_ | ⟨f3,fl⟩⟩⟩
    · simp at hf
    · simp at hf
    · exact ⟨f1,f2,rfl⟩
    · simp at hf
  · simp only [map_cons,map_nil,List.cons.injEq,Prod.mk.injEq] at hf
    obtain ⟨⟨n1,t1,o1⟩,⟨n2,t2,o2⟩,_⟩:=hf
    have p0:∀ h:Int×Int,(part 3 ⟨clL h⟩ 0).run prog w=.ok (.int .i64 h.1) w:=fun h=>by simp [part,isAgg3,clL]
    have p1:∀ h:Int×Int,(part 3 ⟨clL h⟩ 1).run prog w=.ok (.int .i64 h.2) w:=fun h=>by simp [part,isAgg3,clL]
    have e0:∀ x y:Int,(Op.equalIn 9999 3 (.int .i64 x) (.int .i64 y)).run prog w=.ok (x==y) w:=fun x y=>run_equalIn_int w 9998 3 .i64 .i64 _ _ underlying3
    obtain ⟨a1,a2⟩:=a
    obtain ⟨b1,b2⟩:=b
    simp only [Op.eqFields,n1,n2,t1,t2,o1,o2]
    by_cases h1:a1=b1
    · subst h1
      by_cases h2:a2=b2
      · subst h2;simp [p0,p1,e0,Result.andThen]
      · have:(a2==b2)=false:=by simpa using h2
        simp [p0,p1,e0,Result.andThen,h2,this]
    · have:(a1==b1)=false:=by simpa using h1
      simp [p0,e0,Result.andThen,this,h1]
theorem ZbR:KeyOK prog 166 clV:=by
  refine Zdk (fun {a b} h=>by unfold clV clL at h;injection h with h;injection h with h;injection h with h1 h;injection h with h2 h;injection h1 with _ h1;injection h2 with _ h2;exact Prod.ext h1 h2) (fun em h w=>?_) Me underlying166 (fun _ _=>rfl)
  show (Instr.checkKey em (9999+1) 166 (.agg ⟨clL h⟩)).run prog w=_
  have p0:(part 3 ⟨clL h⟩ 0).run prog w=.ok (.int .i64 h.1) w:=by simp [part,isAgg3,clL]
  have p1:(part 3 ⟨clL h⟩ 1).run prog w=.ok (.int .i64 h.2) w:=by simp [part,isAgg3,clL]
  have c0:∀ x:Int,(Instr.checkKey em 9999 3 (.int .i64 x)).run prog w=.ok () w:=fun x=>by
    show (Instr.checkKey em (9998+1) 3 (.int .i64 x)).run prog w=_
    rw [Instr.checkKey];simp [run_underlying underlying3,Result.andThen]
  rw [Instr.checkKey]
  simp [runUnderlying166,Result.andThen,p0,p1,c0]
theorem Ll (k:Int):∀ w,(Instr.build 166 ⟨[(0,.int .i64 k)]⟩).run prog w=.ok (.agg ⟨[.int .i64 k,.int .i64 0]⟩) w:=ZT zeroValue166 runUnderlying166 Zbx (by kernel_rfl)
theorem ZcH {e:Operand→Value} {d:Option Nat} {ot:TypeId} {pos:String} {af:Array Edge} {g:Option (Nat×Bool)} {T':TypeId} {x y:Operand} {a b:Int×Int} (hx:e x=clV a) (hy:e y=clV b):Pu prog e ⟨d,.binOp .eql 166 x y T',ot,pos,af,g⟩ (.bool (decide (a=b))):=fun w=>by
  have h:=Me a b w
  have hg:=run_eqGuard_agg (P:=prog) w .eql 166 x y ⟨clL a⟩ ⟨clL b⟩ eqGuardType166
  unfold clV at hx hy h
  unfold Op.equal at h
  have hq:Op.maxDepth=10000:=rfl
  rw [hq] at h
  simp only [execOp,hx,hy,Sem.run_bind,hg,Result.andThen_ok]
  rw [run_eql_struct,h];rfl
end
section
attribute [local irreducible] JL J CT wlo DT
theorem Md:∀ (p q:Pt) (cs ds:List Value) (H:Heap),RP H cs p→RP H ds q→CT prog 168 ⟨[.agg ⟨cs⟩,.agg ⟨ds⟩]⟩ [] H (fun v N=>v=.bool (decide (p=q))∧N=[]):=by
 intro p
 induction p using Pt.ind with
 | h kind num ref kids ih=>
 intro q cs ds H hp hq
 obtain ⟨ks,rfl,hk,hn,hks⟩:=RP_mk.1 hp
 obtain ⟨ksq,rfl,hkq,hnq,hksq⟩:=BP hq
 refine Zl func168 rfl rfl<|Zd<|JLr (Zr (l:=pkP kind num ref ks) rfl rfl fun b1=>JLr (Zr (l:=pkP (q.kind) (q.num) (q.ref) ksq) rfl rfl fun b2=>JAn rfl<|Zd<|JLq (pp b1 0) (Xa rfl rfl)<|JLr (Zc ty3 rfl (ZcK 1 rfl) (Wu ..)<|JLq (pp b1 1) (WE rfl rfl)<|JLr (Zc ty3 rfl (ZcK 1 rfl) (Sa ..) ?_))))
 refine JLq (pp b1 2) (SH rfl rfl)<|JLr (Zn Yv rfl (ZcK 1 rfl) (Mk ..)<|JLq (.agg ⟨([iv kind,iv num])++(sC ref)⟩) (Pu.build (pv:=[(0,iv kind),(1,iv num),(2,.agg ⟨sC ref⟩)]) (l:=([iv kind,iv num])++(sC ref)) rfl (Zcc _ _ _))<|JLq (pp b2 0) (Xa rfl rfl)<|JLr (Zc ty3 rfl (ZcK 0 rfl) (Wu ..)<|JLq (pp b2 1) (WE rfl rfl)<|JLr (Zc ty3 rfl (ZcK 0 rfl) (Sa ..)<|JLq (pp b2 2) (SH rfl rfl)<|JLr (Zn Yv rfl (ZcK 0 rfl) (Mk ..)<|JLq (.agg ⟨([iv (q.kind),iv (q.num)])++(sC (q.ref))⟩) (Pu.build (pv:=[(0,iv (q.kind)),(1,iv (q.num)),(2,.agg ⟨sC (q.ref)⟩)]) (l:=([iv (q.kind),iv (q.num)])++(sC (q.ref))) rfl (Zcc _ _ _))<|JLq (.bool ((decide (kind=q.kind))&&((decide (num=q.num))&&(decide (ref=q.ref))))) (eqK rfl rfl)<|JLM rfl<|ZK 5 [21,22,23,24,25] [(25,cond ((decide (kind=q.kind))&&((decide (num=q.num))&&(decide (ref=q.ref)))) (.bool (decide (kids=(q.kids)))) undef)] ?_ fun f4=>?_))))
 ·cases h3:((decide (kind=q.kind))&&((decide (num=q.num))&&(decide (ref=q.ref)))) with
  | true=>
   obtain ⟨h3a,h3b⟩:=Xx h3
   replace h3a:=dt h3a
   obtain ⟨h3ba,h3bb⟩:=Xx h3b
   replace h3ba:=dt h3ba
   replace h3bb:=dt h3bb
   refine JLq (pp b1 34) (YG rfl rfl)<|JLr (Zc XF rfl (ZcK 1 rfl) (XO ..)<|JLq (pp b2 34) (YG rfl rfl)<|JLr (Zc XF rfl (ZcK 0 rfl) (XO ..)<|Jc call156 rfl (fun hin=>Kv 168 [] [] (fun _ _=>rfl) _ _ _ _ _ (RPs.mono (Hle.hu _ _) hks) (RPs.mono (Hle.hu _ _) hksq) (fun x hx y hy a b h hh ra rb=>ih x hx y a b h ra rb)) rfl ?_))
   rintro _ _ ⟨rfl,rfl⟩
   exact Za ⟨⟨rfl,trivial⟩,rfl⟩
  | false=>
   exact Z1 rfl ⟨rfl,trivial⟩
 refine JLn (ZcR rfl rfl rfl)<|JAn rfl<|ZE (.bool (((decide (kind=q.kind))&&((decide (num=q.num))&&(decide (ref=q.ref))))&&(decide (kids=(q.kids))))) [] Sub.nil (?_)
 exact ⟨congrArg Value.bool (ZcG ..),rfl⟩
theorem O6:∀ (c d:Pt×Tm) (a b:List Value) (H:Heap),RC H a c→RC H b d→(∀ h a b,Hle H h→RT h a c.2→RT h b d.2→CT prog 120 ⟨[.agg ⟨a⟩,.agg ⟨b⟩]⟩ [] h (fun v N=>v=.bool (decide (c.2=d.2))∧N=[]))→CT prog 167 ⟨[.agg ⟨a⟩,.agg ⟨b⟩]⟩ [] H (fun v N=>v=.bool (decide (c=d))∧N=[]):=by
 intro c d a b H ⟨ca,cb,e1,ra1,ra2⟩ ⟨da,db,e2,rb1,rb2⟩ hg
 subst e1 e2
 refine Zl func167 rfl rfl<|Zd<|JLr (Zr (l:=ca++cb) rfl rfl fun b1=>JLr (Zr (l:=da++db) rfl rfl fun b2=>JAn rfl<|Zd<|JLq (pp b1 0) (WD rfl rfl)<|JLr (Zn ZO rfl (ZcK 1 rfl) (Va (ZL ra1))<|JLq (pp b2 0) (WD rfl rfl)<|JLr (Zn ZO rfl (ZcK 0 rfl) (Va (ZL rb1)) ?_))))
 refine Jc call168 rfl (fun hin=>Md _ _ _ _ _ (RP.mono (Hle.hu _ _) ra1) (RP.mono (Hle.hu _ _) rb1)) rfl ?_
 rintro _ _ ⟨rfl,rfl⟩
 refine JLM rfl<|ZK 5 [11,12,13,14,15] [(15,cond (decide ((c.1)=(d.1))) (.bool (decide ((c.2)=(d.2)))) undef)] ?_ fun f4=>?_
 ·cases h3:(decide ((c.1)=(d.1))) with
  | true=>
   replace h3:=dt h3
   refine JLq (pp b1 35) (WC rfl rfl)<|JLr (Zn Zu rfl (ZcK 1 rfl) (Vt (ZL ra1) (Zy ra2))<|JLq (pp b2 35) (WC rfl rfl)<|JLr (Zn Zu rfl (ZcK 0 rfl) (Vt (ZL rb1) (Zy rb2))<|Jc call120 rfl (fun hin=>hg _ _ _ (Hle.hu _ _) (RT.mono (Hle.hu _ _) ra2) (RT.mono (Hle.hu _ _) rb2)) rfl ?_))
   rintro _ _ ⟨rfl,rfl⟩
   exact Za ⟨⟨rfl,trivial⟩,rfl⟩
  | false=>
   exact Z1 rfl ⟨rfl,trivial⟩
 refine JLn (ZcR rfl rfl rfl)<|JAn rfl<|ZE (.bool ((decide ((c.1)=(d.1)))&&(decide ((c.2)=(d.2))))) [] Sub.nil (?_)
 exact ⟨by obtain ⟨c1,c2⟩:=c;obtain ⟨d1,d2⟩:=d;refine congrArg Value.bool ?_;rw [Bool.eq_iff_iff];simp,rfl⟩
theorem GJ:∀ (t u:Tm) (cs ds:List Value) (H:Heap),RT H cs t→RT H ds u→CT prog 120 ⟨[.agg ⟨cs⟩,.agg ⟨ds⟩]⟩ [] H (fun v N=>v=.bool (decide (t=u))∧N=[]):=by
 intro t
 induction t using Tm.ind with
 | h kind num ref kids cases ih ih'=>
 intro u cs ds H ht hu
 obtain ⟨ks,cv,rfl,hk,hn,hks,hcv⟩:=RT_mk.1 ht
 obtain ⟨ksu,cvu,rfl,hku,hnu,hksu,hcvu⟩:=NU hu
 refine Zl func120 rfl rfl<|Zd<|JLr (Zr (l:=pkT kind num ref ks cv) rfl rfl fun b1=>JLr (Zr (l:=pkT (u.kind) (u.num) (u.ref) ksu cvu) rfl rfl fun b2=>JAn rfl<|Zd<|JLq (pp b1 0) (Yh rfl rfl)<|JLr (Zc ty3 rfl (ZcK 1 rfl) (YE ..)<|JLq (pp b2 0) (Yh rfl rfl)<|JLr (Zc ty3 rfl (ZcK 0 rfl) (YE ..) ?_))))
 refine JLn (Pu.eql rfl rfl)<|JLM rfl<|ZK 5 [11,12,13,14,15] [(15,cond (decide (kind=u.kind)) (.bool (decide (num=u.num))) undef)] ?_ fun f4=>?_
 ·cases h3:(decide (kind=u.kind)) with
  | true=>
   replace h3:=dt h3
   refine JLq (pp b1 1) (Y1 rfl rfl)<|JLr (Zc ty3 rfl (ZcK 1 rfl) (XV ..)<|JLq (pp b2 1) (Y1 rfl rfl)<|JLr (Zc ty3 rfl (ZcK 0 rfl) (XV ..)<|JLn (Pu.eql rfl rfl) ?_))
   exact Za ⟨⟨rfl,trivial⟩,rfl⟩
  | false=>
   exact Z1 rfl ⟨rfl,trivial⟩
 refine JLn (ZcR rfl rfl rfl)<|JLM rfl<|ZK 5 [18,19,20,21,22] [(22,cond ((decide (kind=u.kind))&&(decide (num=u.num))) (.bool (decide (ref=u.ref))) undef)] ?_ fun f6=>?_
 ·cases h5:((decide (kind=u.kind))&&(decide (num=u.num))) with
  | true=>
   obtain ⟨h5a,h5b⟩:=Xx h5
   replace h5a:=dt h5a
   replace h5b:=dt h5b
   refine JLq (pp b1 2) (TO rfl rfl)<|JLr (Zn Yv rfl (ZcK 1 rfl) (QV ..)<|JLq (pp b2 2) (TO rfl rfl)<|JLr (Zn Yv rfl (ZcK 0 rfl) (QV ..)<|JLn (eqS rfl rfl) ?_))
   exact Za ⟨⟨rfl,trivial⟩,rfl⟩
  | false=>
   exact Z1 rfl ⟨rfl,trivial⟩
 refine JLn (ZcR rfl rfl rfl)<|JLM rfl<|ZK 5 [25,26,27,28,29] [(29,cond (((decide (kind=u.kind))&&(decide (num=u.num)))&&(decide (ref=u.ref))) (.bool (decide (kids=(u.kids)))) undef)] ?_ fun f8=>?_
 ·cases h7:(((decide (kind=u.kind))&&(decide (num=u.num)))&&(decide (ref=u.ref))) with
  | true=>
   obtain ⟨h7a,h7b⟩:=Xx h7
   obtain ⟨h7aa,h7ab⟩:=Xx h7a
   replace h7aa:=dt h7aa
   replace h7ab:=dt h7ab
   replace h7b:=dt h7b
   refine JLq (pp b1 34) (YS rfl rfl)<|JLr (Zc XE rfl (ZcK 1 rfl) (Xq ..)<|JLq (pp b2 34) (YS rfl rfl)<|JLr (Zc XE rfl (ZcK 0 rfl) (Xq ..)<|Jc call60 rfl (fun hin=>Ku 120 [] [] (fun _ _=>rfl) _ _ _ _ _ (RTs.mono (Hle.hu _ _) hks) (RTs.mono (Hle.hu _ _) hksu) (fun x hx y hy a b h hh ra rb=>ih x hx y a b h ra rb)) rfl ?_))
   rintro _ _ ⟨rfl,rfl⟩
   exact Za ⟨⟨rfl,trivial⟩,rfl⟩
  | false=>
   exact Z1 rfl ⟨rfl,trivial⟩
 refine JLn (ZcR rfl rfl rfl)<|JLM rfl<|ZK 5 [32,33,34,35,36] [(36,cond ((((decide (kind=u.kind))&&(decide (num=u.num)))&&(decide (ref=u.ref)))&&(decide (kids=(u.kids)))) (.bool (decide (cases=(u.cases)))) undef)] ?_ fun f10=>?_
 ·cases h9:((((decide (kind=u.kind))&&(decide (num=u.num)))&&(decide (ref=u.ref)))&&(decide (kids=(u.kids)))) with
  | true=>
   obtain ⟨h9a,h9b⟩:=Xx h9
   obtain ⟨h9aa,h9ab⟩:=Xx h9a
   obtain ⟨h9aaa,h9aab⟩:=Xx h9aa
   replace h9aaa:=dt h9aaa
   replace h9aab:=dt h9aab
   replace h9ab:=dt h9ab
   replace h9b:=dt h9b
   refine JLq (pp b1 35) (Y0 rfl rfl)<|JLr (Zc WN rfl (ZcK 1 rfl) (XA ..)<|JLq (pp b2 35) (Y0 rfl rfl)<|JLr (Zc WN rfl (ZcK 0 rfl) (XA ..)<|Jc call110 rfl (fun hin=>Kw 167 [] [] (fun _ _=>rfl) _ _ _ _ _ (RCs.mono (Hle.hu _ _) hcv) (RCs.mono (Hle.hu _ _) hcvu) (fun x hx y hy a b h hh ra rb=>O6 x y a b h ra rb (fun h' a' b' _ r1 r2=>ih' x hx y.2 a' b' h' r1 r2))) rfl ?_))
   rintro _ _ ⟨rfl,rfl⟩
   exact Za ⟨⟨rfl,trivial⟩,rfl⟩
  | false=>
   exact Z1 rfl ⟨rfl,trivial⟩
 refine JLn (ZcR rfl rfl rfl)<|JAn rfl<|ZE (.bool (((((decide (kind=u.kind))&&(decide (num=u.num)))&&(decide (ref=u.ref)))&&(decide (kids=(u.kids))))&&(decide (cases=(u.cases))))) [] Sub.nil (?_)
 exact ⟨congrArg Value.bool (ZcF ..),rfl⟩
theorem ZbV (r:Sm) (a:Option Addr) (n c:Nat) (H:Heap):CT prog 162 ⟨[.agg ⟨sC r⟩,.slice a n c]⟩ [] H (fun v N=>v=.agg ⟨pkT 12 0 r (.slice a n c) nS⟩∧N=[]):=by
 refine Zl func162 rfl rfl<|Zd<|JLr (Zr (l:=sC r) rfl rfl fun b1=>JLr (Zk (l:=pkT 0 0 zS nS nS) zeroValue51 rfl fun b2=>Za<|Zd<|JLr (Zn Yv rfl (ZcK 1 rfl) (Zx rfl)<|JLM rfl<|JLq (.agg ⟨pkT 12 0 r (.slice a n c) nS⟩) (Pu.build (pv:=[(0,iv 12),(2,.agg ⟨sC r⟩),(3,.slice a n c)]) (l:=pkT 12 0 r (.slice a n c) nS) rfl (Lj _ _ _ _ _))<|JLr (Zb 0 (vs:=pkT 12 0 r (.slice a n c) nS) (l:=pkT 12 0 r (.slice a n c) nS) Zu rfl rfl rfl rfl rfl (ZR rfl rfl) (Yb ..)<|Za ?_))))
 refine Zz<|⟨.agg ⟨pkT 12 0 r (.slice a n c) nS⟩,[],Ret.one rfl (RV.cell Zu rfl (ZcK 0 rfl) (Z4 ..)),Sub.nil,?_⟩
 exact ⟨rfl,rfl⟩
end
theorem AG {r:Sm} {j:Nat} {x:Int} (hj:j<32) (hx:0≤x∧x≤255):spl (sC r) (0+j*1) [.int .u8 x]=some (sC (r.setIfInBounds j (UInt8.ofNat x.toNat))):=by
  rw [Vj (by rw [VZ];simp;omega)]
  congr 1
  apply List.ext_getElem?
  intro i
  have e0:0+j*1=j:=by omega
  rw [e0]
  by_cases hi:i<32
  · rw [V0 _ i hi]
    by_cases hij:i<j
    · rw [List.getElem?_append_left (by rw [length_take,VZ];omega),getElem?_take,if_pos hij,V0 _ i hi]
      rw [Vector.getElem_setIfInBounds_ne hi (by omega)]
    · rw [List.getElem?_append_right (by rw [length_take,VZ];omega),length_take,VZ,Nat.min_eq_left (by omega)]
      by_cases he:i=j
      · subst he
        rw [Nat.sub_self]
        have e1:(r.setIfInBounds i (UInt8.ofNat x.toNat))[i]=UInt8.ofNat x.toNat:=by simp
        rw [e1]
        simp only [List.singleton_append,getElem?_cons_zero,Option.some.injEq,Value.int.injEq,true_and]
        rw [UInt8.toNat_ofNat']
        omega
      · obtain ⟨q,hq⟩:∃ q,i-j=q+1:=⟨i-j-1,by omega⟩
        rw [hq]
        simp only [List.singleton_append,getElem?_cons_succ,length_cons,List.length_nil]
        rw [getElem?_drop,show j+(0+1)+q=i from by omega,V0 _ i hi,Vector.getElem_setIfInBounds_ne hi (by omega)]
  · rw [getElem?_eq_none (by simp;rw [VZ];omega),getElem?_eq_none (by rw [VZ];omega)]
section
variable {P:Program} {e:Operand→Value} {d:Option Nat} {T:TypeId} {ot:TypeId} {pos:String} {af:Array Edge} {g:Option (Nat×Bool)} {x y:Operand}
theorem Zdo {n b:Nat} {elem:TypeId} (hT:∀ w,(underlying T).run P w=.ok (.array n elem) w) (hsz:∀ w,(sizeOf elem).run P w=.ok 1 w) (hx:e x=.pointer (some ⟨b,0,none⟩)):Pu P e ⟨d,.slice T x none none none,ot,pos,af,g⟩ (.slice (some ⟨b,0,none⟩) n n):=fun w=>by
  simp [execOp,Instr.sliceAt,Instr.sliceBounds,Instr.sureAddr,hx,hT,hsz,Result.andThen,Addr.add]
end
section
variable {c:Cx} {H:Heap} {ρ:Nat→Value} {M:List Zf} {K:Value→List Zf→Prop} {d:Option Nat} {ot:TypeId} {pos:String} {af:Array Edge} {g:Option (Nat×Bool)} {x y:Operand}
end
section
variable {k m d n:Int} {t:ByteArray} {kids:List It} {w:Bool}
theorem Zam (k:Int):fR k=Ys k:=by
  unfold fR Ys
  rw [Bool.eq_iff_iff]
  simp
  omega
end
section
variable {x:It}
end
def XQ (n:Nat):List Int:=if n<128 then [(n:Int)] else ((n % 128+128:Nat):Int)::XQ (n / 128)
theorem Qh {n:Nat} (h:n<128):XQ n=[(n:Int)]:=by rw [XQ,if_pos h]
theorem Nf {n:Nat} (h:¬ n<128):XQ n=((n % 128+128:Nat):Int)::XQ (n / 128):=by rw [XQ,if_neg h]
theorem Fq (k:Nat):∀ n:Nat,n<128 ^ (k+1)→1≤(XQ n).length∧(XQ n).length≤k+1:=by
  induction k with
  | zero=>intro n h;rw [Qh (by simpa using h)];simp
  | succ k ih=>
    intro n h
    by_cases hn:n<128
    · rw [Qh hn];simp
    · rw [Nf hn,length_cons]
      have h2:n / 128<128 ^ (k+1):=by
        rw [Nat.pow_succ] at h
        exact Nat.div_lt_of_lt_mul (by rw [Nat.mul_comm];exact h)
      have:=ih (n / 128) h2
      omega
theorem UG {n:Nat} (h:n≤1099511627776):1≤(XQ n).length∧(XQ n).length≤6:=Fq 5 n (by omega)
theorem L4:∀ (n:Nat),∀ x∈XQ n,0≤x∧x≤255:=by
  intro n
  induction n using Nat.strongRecOn with
  | _ n ih=>
    intro x hx
    by_cases hn:n<128
    · rw [Qh hn] at hx;simp only [mem_singleton] at hx;omega
    · rw [Nf hn] at hx
      rcases mem_cons.1 hx with rfl | hx
      · omega
      · exact ih (n / 128) (by omega) x hx
def txE (t:ByteArray):List Int:=if t=⟨#[]⟩ then [] else XQ t.size++sB t
def hdE (k:Int) (t:ByteArray) (m:Nat):Int:=k+(if t=⟨#[]⟩ then 0 else 64)+(if m=0 then 0 else 128)
mutual
def Yf:It→List Int
  | .mk k n t kids=>hdE k t kids.length::(XQ n.toNat++(txE t++(if kids.length=0 then [] else XQ kids.length++YW kids)))
def YW:List It→List Int
  | []=>[]
  | x::l=>Yf x++YW l
end
theorem Pl {l:List It} {j:Nat} (h:j<l.length):YW (l.take (j+1))=YW (l.take j)++Yf l[j]:=by
  induction l generalizing j with
  | nil=>simp at h
  | cons x l ih=>
    cases j with
    | zero=>simp [YW]
    | succ j=>
      rw [take_succ_cons,take_succ_cons,YW,YW,ih (by simpa using h),append_assoc]
      rfl
theorem Kz (l:List It) (j:Nat):(YW (l.take j)).length≤(YW l).length:=by
  induction l generalizing j with
  | nil=>simp [YW]
  | cons x l ih=>
    cases j with
    | zero=>simp [YW]
    | succ j=>rw [take_succ_cons,YW,YW,length_append,length_append];have:=ih j;omega
theorem M0 {l:List It} {j:Nat} (h:j<l.length):(YW (l.take j)).length+(Yf l[j]).length≤(YW l).length:=by
  have h1:=Kz l (j+1)
  rw [Pl h,length_append] at h1
  exact h1
mutual
def gdI:It→Prop
  | .mk k n t kids=>(1≤k∧k≤63)∧(0≤n∧n≤1099511627776)∧t.size≤32∧Y4 kids
def Y4:List It→Prop
  | []=>True
  | x::l=>gdI x∧Y4 l
end
theorem MM {l:List It} (h:Y4 l):∀ x∈l,gdI x:=by
  induction l with
  | nil=>intro x hx;cases hx
  | cons y l ih=>
    rw [Y4] at h
    intro x hx
    rcases mem_cons.1 hx with rfl | hx
    · exact h.1
    · exact ih h.2 x hx
theorem Eh {a b:List It} (ha:Y4 a) (hb:Y4 b):Y4 (a++b):=by
  induction a with
  | nil=>exact hb
  | cons x a ih=>rw [Y4] at ha;rw [cons_append,Y4];exact ⟨ha.1,ih ha.2⟩
theorem K3 {t:ByteArray} (h:t.size≤32):(txE t).length≤38:=by
  unfold txE
  split
  · simp
  · rw [length_append,UA];have:=UG (n:=t.size) (by omega);omega
theorem Qm (x:It):gdI x→szI x≤1000000→2≤(Yf x).length∧(Yf x).length≤51*szI x:=by
  induction x using It.ind with
  | h k n t kids ih=>
    intro h hz
    rw [gdI] at h
    rw [Yf,szI]
    rw [szI] at hz
    have hK:∀ l:List It,(∀ x∈l,gdI x→szI x≤1000000→2≤(Yf x).length∧(Yf x).length≤51*szI x)→Y4 l→Xh l≤1000000→(YW l).length≤51*Xh l:=by
      intro l
      induction l with
      | nil=>intro _ _ _;rw [YW];simp
      | cons x l ihl=>
        intro hl hg hz
        rw [Y4] at hg
        rw [Xh] at hz ⊢
        rw [YW,length_append]
        have h1:=hl x (by simp) hg.1 (by omega)
        have h2:=ihl (fun y hy=>hl y (by simp [hy])) hg.2 (by omega)
        omega
    have h1:=hK kids ih h.2.2.2 (by omega)
    have h2:=UG (n:=n.toNat) (by omega)
    have h3:=K3 h.2.2.1
    have h5:=Gq kids
    rw [length_cons,length_append,length_append]
    split
    · simp;omega
    · have h4:=UG (n:=kids.length) (by omega)
      rw [length_append];omega
theorem Es (x:It):1≤(Yf x).length:=by cases x;rw [Yf];simp
theorem KA {l:List It} (_:Y4 l):l.length≤(YW l).length:=by
  induction l with
  | nil=>simp
  | cons x l ih=>
    rename_i h
    rw [Y4] at h
    rw [YW,length_append,length_cons]
    have:=Es x
    have:=ih h.2
    omega
theorem N0 (b:Prop) [Decidable b] (r:Sm):(if b then txS r else (⟨#[]⟩:ByteArray)).size≤32:=by
  split
  · rw [TW];omega
  · exact Nat.zero_le _
theorem Zbn (p:Pt):Xn p=0→gdI (itP p):=by
  induction p using Pt.ind with
  | h k n r kids ih=>
    intro h
    rw [Xn] at h
    split at h
    · rename_i hh
      have hK:∀ (l:List Pt),(∀ x∈l,Xn x=0→gdI (itP x))→XC l=0→Y4 (WZ l):=by
        intro l
        induction l with
        | nil=>intro _ _;rw [WZ,Y4];trivial
        | cons x l ihl=>
          intro hl h
          rw [XC] at h
          split at h
          · rename_i hx
            rw [WZ,Y4]
            exact ⟨hl x (by simp) hx,ihl (fun y hy=>hl y (by simp [hy])) h⟩
          · rename_i hx;exact absurd h hx
      rw [itP,gdI]
      unfold Tq at hh
      split at hh
      · cases hh
      · split at hh
        · cases hh
        · split at hh
          · cases hh
          · split at hh
            · cases hh
            · rename_i q1 q2 q3 q4
              refine ⟨by omega,by omega,N0 _ r,hK kids ih h⟩
    · rename_i hh;exact absurd h hh
theorem Zbd {D M : Int} (hM:M≤1000000) (t:Tm):∀ b:Int,ZV D M b t=0→vOK t→gdI (itT t):=by
  induction t using Tm.ind with
  | h k n r kids cases ih ih'=>
    intro b h hv
    obtain ⟨h1,h2,h3,h4⟩:=nErr_iff.1 h
    rw [vOK] at hv
    obtain ⟨v1,v2,v3⟩:=hv
    have hK:∀ (l:List Tm) (i:Nat),(∀ x∈l,∀ b:Int,ZV D M b x=0→vOK x→gdI (itT x))→Z0 D M b k i l=0→H7 l→Y4 (Wy l):=by
      intro l
      induction l with
      | nil=>intro i _ _ _;rw [Wy,Y4];trivial
      | cons x l ihl=>
        intro i hl h hv
        rw [Z0] at h
        rw [H7] at hv
        split at h
        · rename_i hx
          rw [Wy,Y4]
          exact ⟨hl x (by simp) _ hx hv.1,ihl (i+1) (fun y hy=>hl y (by simp [hy])) h hv.2⟩
        · rename_i hx;exact absurd h hx
    have hC :∀ (l:List (Pt×Tm)),(∀ c∈l,∀ b:Int,ZV D M b c.2=0→vOK c.2→gdI (itT c.2))→YZ l=0→Yc D M b l=0→H8 l→Y4 (Vm l):=by
      intro l
      induction l with
      | nil=>intro _ _ _ _;rw [Vm,Y4];trivial
      | cons c l ihl=>
        intro hl hp h hv
        obtain ⟨p,x⟩:=c
        rw [Yc] at h
        rw [YZ] at hp
        rw [H8] at hv
        split at hp
        · rename_i hpx
          split at h
          · rename_i hx
            rw [Vm,Y4,gdI,Y4,Y4,Y4]
            refine ⟨⟨by omega,by omega,by decide,Zbn p hpx,hl (p,x) (by simp) _ hx hv.1,trivial⟩,ihl (fun y hy=>hl y (by simp [hy])) hp h hv.2⟩
          · rename_i hx;exact absurd h hx
        · rename_i hpx;exact absurd hp hpx
    rw [itT,gdI]
    unfold YF at h1
    split at h1
    · cases h1
    · split at h1
      · cases h1
      · split at h1
        · cases h1
        · split at h1
          · cases h1
          · split at h1
            · cases h1
            · rename_i q1 q2 q3 q4 q5
              have hn:0≤n∧n≤1099511627776:=by
                by_cases hb:Yx k=true
                · have hk:k=1∨k=2∨k=7∨k=8∨k=10∨k=11:=by
                    unfold Yx at hb;simp at hb;omega
                  rcases hk with rfl | rfl | rfl | rfl | rfl | rfl
                  · have:=v1 rfl;omega
                  · omega
                  · omega
                  · omega
                  · omega
                  · omega
                · have:n=0:=Classical.byContradiction fun z=>q2 (.inl (.inl ⟨by simpa using hb,z⟩))
                  omega
              refine ⟨by omega,hn,N0 _ r,Eh (hK kids 0 ih h3 v2) (hC cases ih' h2 h4 v3)⟩
theorem Mf {t:Tm} (h:ZG 60 8 t=0):gdI (itT t)∧szI (itT t)≤600∧dpI (itT t)≤120∧(Yf (itT t)).length≤31000:=by
  obtain ⟨h1,h2⟩:=checkR_iff.1 h
  have h3:¬ (300<sizeT t∨60<Yj t):=fun z=>by rw [(WW t).2 z] at h1;cases h1
  have h4:=Gn t
  have h5:=Zbd (by omega) t 0 h2 (OG h).2.1
  have h6:=Qm _ h5 (by omega)
  exact ⟨h5,by omega,by omega,by omega⟩
end Go.Proofs.YtjdjmjgleadcfaaGreatDoor.Hs
