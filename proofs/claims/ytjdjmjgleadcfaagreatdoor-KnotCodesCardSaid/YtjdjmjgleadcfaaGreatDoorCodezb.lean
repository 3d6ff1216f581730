import Derived.Test.YtjdjmjgleadcfaaGreatDoorCodeza
import Derived.Test.YtjdjmjgleadcfaaGreatDoorChecked
import Derived.OpenShut
import Derived.ReadAgain
import Derived.Test.YtjdjmjgleadcfaaGreatDoorProg
import Derived.Laws.RangeString
import Derived.Lib.SlicesCompact
set_option linter.unusedVariables false
set_option linter.unusedSimpArgs false
set_option maxRecDepth 100000
open Go.Proofs.Tryz
open List (getElem_mem mem_cons_self append_assoc take_of_length_le length_append getD_eq_getElem?_getD getElem?_eq_getElem length_take take_succ_eq_append_getElem length_cons length_map length_set flatten_cons mem_map mem_range length_drop flatten append_nil take_succ_cons eq_nil_of_length_eq_zero ext_getElem mem_cons_of_mem getElem?_cons_zero getElem_map drop_eq_getElem_cons mem_singleton getElem?_eq_none drop_drop flatten_nil mem_filter take_append_drop drop_eq_nil_of_le getElem?_drop getElem?_take getElem?_cons_succ set_cons_succ getElem_append_left getElem_append_right set_cons_zero)
namespace Go.Proofs.YtjdjmjgleadcfaaGreatDoor.Hs
theorem IZ (k n:Int) (r:Sm) (l:Nat):V9 k n r l=Vj k n r l:=by
  unfold V9 Vj RZ pfN pfR
  by_cases h0:k<1∨3<k
  · rw [if_pos h0,if_pos h0]
  · rw [if_neg h0,if_neg h0]
    have hk:k=1∨k=2∨k=3:=by omega
    by_cases hr:r=zS <;> rcases hk with rfl | rfl | rfl <;> simp [hr] <;> (repeat' split) <;> first | rfl | omega | (exfalso;simp_all;done) | (exfalso;simp_all;omega)
theorem Fi (p:Pt):V8 p=Wz p:=by
  induction p using Pt.ind with
  | h k n r kids ih=>
    rw [V8,Wz,IZ]
    have:RD kids=VT kids:=by
      clear k n r
      induction kids with
      | nil=>rfl
      | cons p l ih'=>rw [RD,VT,ih p (by simp),ih' (fun x hx=>ih x (by simp [hx]))]
    rw [this]
theorem IY (l:List (Pt×Tm)):VS l=XD l:=by
  induction l with
  | nil=>rfl
  | cons c l ih=>rw [VS,XD,Fi,ih]
theorem Gp (d m b k n:Int) (r:Sm) (l lc:Nat):Xt d m b k n r l lc=Xb d m b k n r l lc:=by
  unfold Xt Xb RZ fN fR fC VK Xj Y8 loK hiK Kg
  by_cases h0:k<1∨12<k
  · rw [if_pos h0,if_pos h0]
  · rw [if_neg h0,if_neg h0]
    have hk:k=1∨k=2∨k=3∨k=4∨k=5∨k=6∨k=7∨k=8∨k=9∨k=10∨k=11∨k=12:=by omega
    by_cases hr:r=zS <;> rcases hk with rfl | rfl | rfl | rfl | rfl | rfl | rfl | rfl | rfl | rfl | rfl | rfl <;> simp [hr] <;> (repeat' split) <;> first | rfl | omega | (exfalso;simp_all;done) | (exfalso;simp_all;omega)
theorem K4 (d m:Int) (t:Tm):∀ b,X0 d m b t=Y6 d m b t:=by
  induction t using Tm.ind with
  | h k n r kids cases ih ih'=>
    intro b
    have hK:∀ (l:List Tm),(∀ t∈l,∀ b,X0 d m b t=Y6 d m b t)→∀ b i,VZ d m b k i l=YQ d m b k i l:=by
      intro l
      induction l with
      | nil=>intro _ b i;simp [VZ,YQ]
      | cons t l ihl=>intro hl b i;rw [VZ,YQ,hl t (by simp),ihl (fun x hx=>hl x (by simp [hx]))]
    have hC:∀ (l:List (Pt×Tm)),(∀ t∈l,∀ b,X0 d m b t.2=Y6 d m b t.2)→∀ b,So d m b l=YX d m b l:=by
      intro l
      induction l with
      | nil=>intro _ b;simp [So,YX]
      | cons t l ihl=>obtain ⟨p,t⟩:=t;intro hl b;rw [So,YX,hl (p,t) (by simp),ihl (fun x hx=>hl x (by simp [hx]))]
    rw [X0,Y6,Gp,IY,hK kids ih,hC cases ih']
mutual
def SZ:Pt→Int
  | .mk _ _ _ kids=>WV kids+1
def WV:List Pt→Int
  | []=>0
  | p::l=>max (SZ p) (WV l)
end
mutual
def UI:Tm→Int
  | .mk _ _ _ kids cases=>max (Wp kids) (WA cases)+1
def Wp:List Tm→Int
  | []=>0
  | p::l=>max (UI p) (Wp l)
def WA:List (Pt×Tm)→Int
  | []=>0
  | (p,t)::l=>max (max (SZ p) (UI t)) (WA l)
end
theorem PQ (l:List Pt):0≤WV l:=by
  induction l with
  | nil=>rw [WV];omega
  | cons p l ih=>rw [WV];omega
theorem Tg (l:List Tm):0≤Wp l:=by
  induction l with
  | nil=>rw [Wp];omega
  | cons p l ih=>rw [Wp];omega
theorem S0 (l:List (Pt×Tm)):0≤WA l:=by
  induction l with
  | nil=>rw [WA];omega
  | cons p l ih=>obtain ⟨p,t⟩:=p;rw [WA];omega
def ExP (p:Pt):Prop:=∀ m:Int,0≤m→((sizeP p:Int)≤m→Wm m p=((sizeP p:Int),SZ p))∧(m<sizeP p→m<(Wm m p).1)
def ExT (p:Tm):Prop:=∀ m:Int,0≤m→((sizeT p:Int)≤m→XC m p=((sizeT p:Int),UI p))∧(m<sizeT p→m<(XC m p).1)
theorem Lj (l:List Pt):(∀ p∈l,ExP p)→∀ (m n d:Int),1≤n→0≤m→0≤d→
    (n+Yv l≤m→Wl m l n d=(n+Yv l,max d (WV l)))∧(m<n+Yv l→m<(Wl m l n d).1):=by
  induction l with
  | nil=>intro _ m n d h1 h0 hd;simp only [Wl,Yv,WV];exact ⟨fun h=>Prod.ext (by simp) (by simp only;omega),fun h=>by omega⟩
  | cons p l ih=>
    intro hl m n d h1 h0 hd
    have ih:=ih (fun x hx=>hl x (by simp [hx]))
    have hp:=hl p (by simp)
    rw [Wl,Yv,WV]
    refine ⟨fun h=>?_,fun h=>?_⟩
    · rw [if_pos (by omega),(hp (m-1) (by omega)).1 (by omega)]
      have hd':0≤max d (SZ p):=by omega
      rw [(ih m _ _ (by simp only;omega) h0 hd').1 (by simp only;omega)]
      exact Prod.ext (by simp only;omega) (by simp only;omega)
    · by_cases hn:n≤m
      · rw [if_pos hn]
        by_cases hq:(sizeP p:Int)≤m-1
        · rw [(hp (m-1) (by omega)).1 hq]
          exact (ih m _ _ (by simp only;omega) h0 (by simp only;omega)).2 (by simp only;omega)
        · have h2:=(hp (m-1) (by omega)).2 (by omega)
          have h3:=UF p (m-1)
          exact (ih m _ _ (by omega) h0 (by omega)).2 (by omega)
      · rw [if_neg hn];simp only;omega
theorem Ku (p:Pt):ExP p:=by
  induction p using Pt.ind with
  | h k n r kids ih=>
    intro m hm
    have:=Lj kids ih m 1 0 (by omega) hm (by omega)
    rw [Wm,sizeP,SZ]
    refine ⟨fun h=>?_,fun h=>?_⟩
    · rw [this.1 (by omega)]
      have:=PQ kids
      exact Prod.ext (by simp only;omega) (by simp only;omega)
    · exact this.2 (by omega)
theorem Li (l:List Tm):(∀ p∈l,ExT p)→∀ (m n d:Int),1≤n→0≤m→0≤d→
    (n+ZL l≤m→Xq m l n d=(n+ZL l,max d (Wp l)))∧(m<n+ZL l→m<(Xq m l n d).1):=by
  induction l with
  | nil=>intro _ m n d h1 h0 hd;simp only [Xq,ZL,Wp];exact ⟨fun h=>Prod.ext (by simp) (by simp only;omega),fun h=>by omega⟩
  | cons p l ih=>
    intro hl m n d h1 h0 hd
    have ih:=ih (fun x hx=>hl x (by simp [hx]))
    have hp:=hl p (by simp)
    rw [Xq,ZL,Wp]
    refine ⟨fun h=>?_,fun h=>?_⟩
    · rw [if_pos (by omega),(hp (m-1) (by omega)).1 (by omega)]
      rw [(ih m _ _ (by simp only;omega) h0 (by simp only;omega)).1 (by simp only;omega)]
      exact Prod.ext (by simp only;omega) (by simp only;omega)
    · by_cases hn:n≤m
      · rw [if_pos hn]
        by_cases hq:(sizeT p:Int)≤m-1
        · rw [(hp (m-1) (by omega)).1 hq]
          exact (ih m _ _ (by simp only;omega) h0 (by simp only;omega)).2 (by simp only;omega)
        · have h2:=(hp (m-1) (by omega)).2 (by omega)
          have h3:=UE p (m-1)
          exact (ih m _ _ (by omega) h0 (by omega)).2 (by omega)
      · rw [if_neg hn];simp only;omega
theorem Qf (l:List (Pt×Tm)):(∀ p∈l,ExT p.2)→∀ (m n d:Int),1≤n→0≤m→0≤d→
    (n+ZX l≤m→Wn m l n d=(n+ZX l,max d (WA l)))∧(m<n+ZX l→m<(Wn m l n d).1):=by
  induction l with
  | nil=>intro _ m n d h1 h0 hd;simp only [Wn,ZX,WA];exact ⟨fun h=>Prod.ext (by simp) (by simp only;omega),fun h=>by omega⟩
  | cons p l ih=>
    obtain ⟨p,t⟩:=p
    intro hl m n d h1 h0 hd
    have ih:=ih (fun x hx=>hl x (by simp [hx]))
    have ht:=hl (p,t) (by simp)
    have hp:=Ku p
    have s1:=Rr p
    have s2:=V2 t
    rw [Wn,ZX,WA]
    refine ⟨fun h=>?_,fun h=>?_⟩
    · rw [if_pos (by omega),(hp (m-1) (by omega)).1 (by omega),(ht (m-1) (by omega)).1 (by simp only;omega)]
      rw [(ih m _ _ (by simp only;omega) h0 (by simp only;omega)).1 (by simp only;omega)]
      exact Prod.ext (by simp only;omega) (by simp only;omega)
    · by_cases hn:n≤m
      · rw [if_pos hn]
        have h3:=UE t (m-1)
        have h4:=UF p (m-1)
        by_cases hq:(sizeP p:Int)≤m-1
        · rw [(hp (m-1) (by omega)).1 hq]
          by_cases hr:(sizeT t:Int)≤m-1
          · have e:=(ht (m-1) (by omega)).1 hr
            simp only at e
            rw [e]
            exact (ih m _ _ (by simp only;omega) h0 (by simp only;omega)).2 (by simp only;omega)
          · have h2:=(ht (m-1) (by omega)).2 (by simp only;omega)
            simp only at h2
            exact (ih m _ _ (by simp only;omega) h0 (by simp only;omega)).2 (by simp only;omega)
        · have h2:=(hp (m-1) (by omega)).2 (by omega)
          exact (ih m _ _ (by omega) h0 (by omega)).2 (by omega)
      · rw [if_neg hn];simp only;omega
theorem Kt (p:Tm):ExT p:=by
  induction p using Tm.ind with
  | h k n r kids cases ih ih'=>
    intro m hm
    have h1:=Li kids ih m 1 0 (by omega) hm (by omega)
    have nn:=Tg kids
    have nc:=S0 cases
    rw [XC,sizeT,UI]
    refine ⟨fun h=>?_,fun h=>?_⟩
    · rw [h1.1 (by omega),(Qf cases ih' m _ _ (by simp only;omega) hm (by simp only;omega)).1 (by simp only;omega)]
      exact Prod.ext (by simp only;omega) (by simp only;omega)
    · have h2:=Lh (fun p _=>UE p) (l:=kids) m 1 0 (by omega) (by omega)
      simp only
      refine (Qf cases ih' m _ _ (by omega) hm (by omega)).2 ?_
      by_cases hq:(1:Int)+ZL kids≤m
      · rw [h1.1 hq];simp only;omega
      · have:=h1.2 (by omega);omega
theorem Ub (t:Tm):SM t=true↔(300<sizeT t∨60<UI t):=by
  unfold SM
  have:=Kt t 400 (by omega)
  by_cases h:(sizeT t:Int)≤400
  · rw [this.1 h];simp;omega
  · have:=this.2 (by omega);simp;omega
def CnP (p:Pt):Prop:=∀ d n:Int,((cnP stL d p n).1=false↔n+sizeP p≤300∧d+SZ p≤61)
def CnT (p:Tm):Prop:=∀ d n:Int,((cnT stL d p n).1=false↔n+sizeT p≤300∧d+UI p≤61)
theorem EL (l:List Pt):(∀ p∈l,CnP p)→∀ d n:Int,n≤300→d≤61→((Qt stL d l n).1=false↔n+Yv l≤300∧d+WV l≤61):=by
  induction l with
  | nil=>intro _ d n h1 h2;simp only [Qt,Yv,WV];simp;omega
  | cons p l ih=>
    intro hl d n h1 h2
    have hp:=hl p (by simp) d n
    have nn:=PQ l
    rw [Qt,Yv,WV]
    by_cases h:(cnP stL d p n).1=true
    · rw [if_pos h]
      have:¬ (n+sizeP p≤300∧d+SZ p≤61):=fun hh=>by rw [hp.2 hh] at h;cases h
      simp only [Bool.true_eq_false,false_iff];omega
    · have h:=Bool.not_eq_true _▸h
      rw [if_neg (by rw [h];decide),S5 p d n h]
      have h3:=hp.1 h
      rw [ih (fun x hx=>hl x (by simp [hx])) d _ (by omega) h2];omega
theorem Bk (p:Pt):CnP p:=by
  induction p using Pt.ind with
  | h k m r kids ih=>
    intro d n
    have nn:=PQ kids
    rw [cnP,sizeP,SZ]
    by_cases h:stL (n+1) d=true
    · rw [if_pos h]
      have:300<n+1∨60<d:=by simpa [stL] using h
      simp only [Bool.true_eq_false,false_iff];omega
    · rw [if_neg h]
      have:¬ (300<n+1)∧¬ (60<d):=by simpa [stL] using h
      rw [EL kids ih _ _ (by omega) (by omega)];omega
theorem EJ (l:List Tm):(∀ p∈l,CnT p)→∀ d n:Int,n≤300→d≤61→((Uk stL d l n).1=false↔n+ZL l≤300∧d+Wp l≤61):=by
  induction l with
  | nil=>intro _ d n h1 h2;simp only [Uk,ZL,Wp];simp;omega
  | cons p l ih=>
    intro hl d n h1 h2
    have hp:=hl p (by simp) d n
    have nn:=Tg l
    rw [Uk,ZL,Wp]
    by_cases h:(cnT stL d p n).1=true
    · rw [if_pos h]
      have:¬ (n+sizeT p≤300∧d+UI p≤61):=fun hh=>by rw [hp.2 hh] at h;cases h
      simp only [Bool.true_eq_false,false_iff];omega
    · have h:=Bool.not_eq_true _▸h
      rw [if_neg (by rw [h];decide),Ul p d n h]
      have h3:=hp.1 h
      rw [ih (fun x hx=>hl x (by simp [hx])) d _ (by omega) h2];omega
theorem EM (l:List (Pt×Tm)):(∀ p∈l,CnT p.2)→∀ d n:Int,n≤300→d≤61→((Qu stL d l n).1=false↔n+ZX l≤300∧d+WA l≤61):=by
  induction l with
  | nil=>intro _ d n h1 h2;simp only [Qu,ZX,WA];simp;omega
  | cons p l ih=>
    obtain ⟨p,t⟩:=p
    intro hl d n h1 h2
    have hp:=Bk p d n
    have nn:=S0 l
    rw [Qu,ZX,WA]
    by_cases h:(cnP stL d p n).1=true
    · rw [if_pos h]
      have:¬ (n+sizeP p≤300∧d+SZ p≤61):=fun hh=>by rw [hp.2 hh] at h;cases h
      simp only [Bool.true_eq_false,false_iff];omega
    · have h:=Bool.not_eq_true _▸h
      rw [if_neg (by rw [h];decide),S5 p d n h]
      have h3:=hp.1 h
      have ht:=hl (p,t) (by simp) d (n+sizeP p)
      simp only at ht
      by_cases h':(cnT stL d t (n+sizeP p)).1=true
      · rw [if_pos h']
        have:¬ (n+sizeP p+sizeT t≤300∧d+UI t≤61):=fun hh=>by rw [ht.2 hh] at h';cases h'
        simp only [Bool.true_eq_false,false_iff];omega
      · have h':=Bool.not_eq_true _▸h'
        rw [if_neg (by rw [h'];decide),Ul t d _ h']
        have h4:=ht.1 h'
        rw [ih (fun x hx=>hl x (by simp [hx])) d _ (by omega) h2];omega
theorem J7 (p : Tm):CnT p:=by
  induction p using Tm.ind with
  | h k m r kids cases ih ih'=>
    intro d n
    have nn:=Tg kids
    have nc:=S0 cases
    rw [cnT,sizeT,UI]
    by_cases h:stL (n+1) d=true
    · rw [if_pos h]
      have:300<n+1∨60<d:=by simpa [stL] using h
      simp only [Bool.true_eq_false,false_iff];omega
    · rw [if_neg h]
      have:¬ (300<n+1)∧¬ (60<d):=by simpa [stL] using h
      have hk:=EJ kids ih (d+1) (n+1) (by omega) (by omega)
      by_cases h':(Uk stL (d+1) kids (n+1)).1=true
      · rw [if_pos h']
        have:¬ (n+1+ZL kids≤300∧d+1+Wp kids≤61):=fun hh=>by rw [hk.2 hh] at h';cases h'
        simp only [Bool.true_eq_false,false_iff];omega
      · have h' :=Bool.not_eq_true _▸h'
        have hz :(Uk stL (d+1) kids (n+1)).2=n+1+ZL kids:=by
          clear hk ih ih'
          have:∀ (l:List Tm) d n,(Uk stL d l n).1=false→(Uk stL d l n).2=n+ZL l:=by
            intro l
            induction l with
            | nil=>intro d n _;simp [Uk,ZL]
            | cons q l ihl=>
              intro d n h
              rw [Uk] at h ⊢
              split at h
              · cases h
              · rename_i h1
                rw [if_neg h1,ihl _ _ h,Ul q _ _ (by simpa using h1),ZL];omega
          exact this kids _ _ h'
        have h4:=hk.1 h'
        rw [if_neg (by rw [h'];decide),hz,EM cases ih' _ _ (by omega) (by omega)];omega
theorem CB (t:Tm):(cnT stL 1 t 0).1=SM t:=by
  have h1:=J7 t 1 0
  have h2:=Ub t
  cases h:(cnT stL 1 t 0).1 with
  | false=>have:=h1.1 h;cases h':SM t with
    | false=>rfl
    | true=>have:=h2.1 h';omega
  | true=>
    have:¬ (0+(sizeT t:Int)≤300∧1+UI t≤61):=fun hh=>by rw [h1.2 hh] at h;cases h
    exact (h2.2 (by omega)).symm
theorem S7 (d m:Int) (t:Tm):XR d m t=Zx d m t:=by
  unfold XR Zx
  rw [CB,K4]
mutual
def Iu:Tm→Prop
  | .mk k _ r kids cases=>(k=1→r=zS∧kids=[]∧cases=[])∧Gi kids∧Gj cases
def Gi:List Tm→Prop
  | []=>True
  | t::l=>Iu t∧Gi l
def Gj:List (Pt×Tm)→Prop
  | []=>True
  | (_,t)::l=>Iu t∧Gj l
end
theorem OS {d m b n:Int} {r:Sm} {l lc:Nat} (h:Xb d m b 1 n r l lc=0):r=zS∧l=0∧lc=0∧0≤n∧(n<b∨n-b<d):=by
  unfold Xb Xj Y8 loK hiK at h
  simp at h
  by_cases hr:r=zS
  · simp [hr] at h ⊢
    (repeat' split at h) <;> first | omega | (exfalso;simp_all;done) | (exfalso;simp_all;omega)
  · simp [hr] at h
def Ml (d m:Int) (t:Tm):Prop:=∀ b,Y6 d m b t=0→Iu t∧(0≤b→0≤d→b+2*sizeT t+d≤2000000→vOK t)
theorem LX {d m:Int} {k:Int} {b:Int} {l:List Tm} (hl:∀ t∈l,Ml d m t):∀ i,YQ d m b k i l=0→Gi l∧(0≤b→0≤d→b+2+2*ZL l+d≤2000000→H7 l):=by
  induction l with
  | nil=>intro i _;exact ⟨trivial,fun _ _ _=>trivial⟩
  | cons t l ih=>
    intro i h
    rw [YQ] at h
    split at h
    · rename_i h0
      have h1:=hl t (by simp) _ h0
      have h2:=ih (fun x hx=>hl x (by simp [hx])) _ h
      have hm:=NU k i
      exact ⟨⟨h1.1,h2.1⟩,fun hb hd hs=>by rw [ZL] at hs;exact ⟨h1.2 (by omega) hd (by omega),h2.2 hb hd (by omega)⟩⟩
    · rename_i h0;exact absurd h h0
theorem MG {d m:Int} {b:Int} {l:List (Pt×Tm)} (hl:∀ t∈l,Ml d m t.2):YX d m b l=0→Gj l∧(0≤b→0≤d→b+2*ZX l+d≤2000000→H8 l):=by
  induction l with
  | nil=>intro _;exact ⟨trivial,fun _ _ _=>trivial⟩
  | cons t l ih=>
    obtain ⟨p,t⟩:=t
    intro h
    rw [YX] at h
    split at h
    · rename_i h0
      have h1:=hl (p,t) (by simp) _ h0
      simp only at h1
      have h2:=ih (fun x hx=>hl x (by simp [hx])) h
      have hm:=Rc p
      exact ⟨⟨h1.1,h2.1⟩,fun hb hd hs=>by rw [ZX] at hs;exact ⟨h1.2 (by omega) hd (by omega),h2.2 hb hd (by omega)⟩⟩
    · rename_i h0;exact absurd h h0
theorem GW (d m:Int) (t:Tm):Ml d m t:=by
  induction t using Tm.ind with
  | h k n r kids cases ih ih'=>
    intro b h
    rw [Y6] at h
    split at h
    · rename_i hh
      split at h
      · split at h
        · rename_i hk
          have h1:=LX ih _ hk
          have h2:=MG ih' h
          have hv:k=1→r=zS∧kids=[]∧cases=[]∧0≤n∧(n<b∨n-b<d):=fun e=>by
            subst e
            obtain ⟨a1,a2,a3,a4⟩:=OS hh
            exact ⟨a1,eq_nil_of_length_eq_zero a2,eq_nil_of_length_eq_zero a3,a4⟩
          refine ⟨⟨fun e=>⟨(hv e).1,(hv e).2.1,(hv e).2.2.1⟩,h1.1,h2.1⟩,fun hb hd hs=>?_⟩
          rw [sizeT] at hs
          exact ⟨fun e=>by have:=(hv e).2.2.2;omega,h1.2 hb hd (by omega),h2.2 hb hd (by omega)⟩
        · rename_i h0;exact absurd h h0
      · rename_i h0;exact absurd h h0
    · rename_i h0;exact absurd h h0
theorem Hq {t:Tm} (h:XR 60 8 t=0):sizeT t≤300∧vOK t∧Iu t∧(cnT stL 1 t 0).1=false:=by
  unfold XR at h
  split at h
  · omega
  · rename_i h0
    have h0:=Bool.not_eq_true _▸h0
    have h1:=(J7 t 1 0).1 h0
    rw [K4] at h
    have h2:=GW 60 8 t 0 h
    exact ⟨by omega,h2.2 (by omega) (by omega) (by omega),h2.1,h0⟩
theorem Pe (t:Tm):W0 [t]=Zx 60 8 t:=by
  rw [← S7]
  simp only [W0]
  split
  · rename_i h;rw [h]
  · rfl
theorem Own.at' {T:TypeId} {sz:Nat} {v:Value} {es:List (List Value)} {k:Zi} (o:Own T sz v es k) {j:Nat} {e:List Value} (he:es[j]?=some e):
    ∃ b cap row,v=.slice (some ⟨b,0,none⟩) es.length cap∧(b,Obj.cells ⟨row⟩ T (0,0))∈k∧sub row (0+j*sz) sz=some e:=by
  obtain ⟨hj,rfl⟩:=List.getElem?_eq_some_iff.1 he
  exact o.at hj
theorem OTs.take {l:List Tm} {es:List (List Value)} {c:Zi} {j:Nat} (h:OTs (l.drop j) (es.drop j) c) (hj:j<l.length):
    ∃ e k c',es[j]?=some e∧OT l[j] e k∧c=k++c'∧∀ x,OTs (l.drop (j+1)) ((es.set j x).drop (j+1)) c':=by
  rw [drop_eq_getElem_cons hj,OTs] at h
  obtain ⟨e,es',k,c',h1,h2,h3,h4⟩:=h
  have hj':es[j]?=some e:=by
    have:=congrArg (fun l=>l[0]?) h1
    simpa [getElem?_drop] using this
  refine ⟨e,k,c',hj',h2,h4,fun x=>?_⟩
  rw [List.drop_set_of_lt (by omega)]
  have:es.drop (j+1)=es':=by rw [← drop_drop,h1];rfl
  rw [this];exact h3
theorem OCs.take {l:List (Pt×Tm)} {es:List (List Value)} {c:Zi} {j:Nat} (h:OCs (l.drop j) (es.drop j) c) (hj:j<l.length):
    ∃ kk n r ks b esp q kp1 kp2 kb c',es[j]?=some (pkP kk n r ks++b)∧Own 115 35 ks esp kp1∧esp.length=q∧q≤9223372036854775807∧OT l[j].2 b kb∧c=(kp1++kp2)++(kb++c')∧∀ x,OCs (l.drop (j+1)) ((es.set j x).drop (j+1)) c':=by
  rw [drop_eq_getElem_cons hj] at h
  cases hlj:l[j] with
  | mk p t=>
    rw [hlj,OCs] at h
    obtain ⟨a,b,es',ka,kb,c',h1,h2,h3,h4,h5⟩:=h
    obtain ⟨kk,n,r,kids⟩:=p
    obtain ⟨ks,esp,kp1,kp2,rfl,_,_,h6,h7,rfl,h8⟩:=OP_mk.1 h2
    have hj':es[j]?=some (pkP kk n r ks++b):=by
      have:=congrArg (fun l=>l[0]?) h1
      simpa [getElem?_drop] using this
    refine ⟨kk,n,r,ks,b,esp,esp.length,kp1,kp2,kb,c',hj',h6,rfl,by rw [Rh h7];exact h8,h3,h5,fun x=>?_⟩
    rw [List.drop_set_of_lt (by omega)]
    have:es.drop (j+1)=es':=by rw [← drop_drop,h1];rfl
    rw [this];exact h4
theorem JB {α:Type} {n:Nat} {R:Nat→α→Prop} (h:∀ i,i<n→∃ x,R i x):∃ l:List α,l.length=n∧∀ i (hi:i<l.length),R i l[i]:=by
  induction n with
  | zero=>exact ⟨[],rfl,fun i hi=>absurd hi (by simp)⟩
  | succ n ih=>
    obtain ⟨l,h1,h2⟩:=ih fun i hi=>h i (by omega)
    obtain ⟨x,hx⟩:=h n (by omega)
    refine ⟨l++[x],by simp [h1],fun i hi=>?_⟩
    by_cases hin:i<l.length
    · rw [getElem_append_left hin];exact h2 i hin
    · have:i=n:=by simp at hi;omega
      subst this
      rw [getElem_append_right (by omega)]
      simpa [h1] using hx
section
variable {Ht:Type} {enc:TypeId×Value→Ht} {P:Program} {w:World} {base:Nat} {spare:Nat→Bool} {held:Bool} {H:Heap}
theorem Nd {a:Addr} {n:Nat} {cs:List Value} (h:w.cells? base a n=some cs) (hn:0<n):
    (a.spot=none)∧∃ row T fr,w.heap[a.block]?=some (.cells ⟨row⟩ T fr)∧sub row a.off n=some cs:=by
  obtain ⟨_,hl,hc⟩:=World.cells?_some h
  have get:∀ i,i<n→∃ v,cs[i]?=some v∧w.cell? (a.add i)=some v:=fun i hi=>by
    have h1:i<cs.length:=by omega
    exact ⟨cs[i],getElem?_eq_getElem h1,by rw [hc i hi,getElem?_eq_getElem h1]⟩
  obtain ⟨v0,_,h0⟩:=get 0 hn
  rw [Addr.add,if_pos rfl] at h0
  unfold World.cell? at h0
  cases hb:w.heap[a.block]? with
  | none=>rw [hb] at h0;cases h0
  | some o=>
    rw [hb] at h0
    cases o with
    | cells c T fr=>
      simp only at h0
      have hsp:a.spot=none:=by
        cases hs:a.spot with
        | none=>rfl
        | some s=>rw [hs] at h0;simp at h0
      refine ⟨hsp,c.toList,T,fr,rfl,?_⟩
      have hall:∀ i,i<n→c.toList[a.off+i]?=cs[i]?:=fun i hi=>by
        rw [← hc i hi]
        unfold World.cell?
        by_cases hi0:i=0
        · subst hi0;simp [Addr.add,hb,hsp]
        · simp [Addr.add,hi0,hb]
      have hlen:a.off+n≤c.toList.length:=by
        obtain ⟨v,hv,_⟩:=get (n-1) (by omega)
        have:=hall (n-1) (by omega)
        rw [hv] at this
        have:=(List.getElem?_eq_some_iff.1 this).1
        omega
      rw [WY hlen]
      congr 1
      apply List.ext_getElem?
      intro i
      rw [getElem?_take]
      split
      · rename_i hi;rw [getElem?_drop];exact hall i hi
      · rename_i hi;rw [getElem?_eq_none (by omega)]
    | _=>cases h0
theorem slice_rd {α:Type} {E:Heap→List Value→α→Prop} {T e:TypeId} {sz fuel:Nat} {cs:List Value} {x:DataW Ht×List MemPlace} (hH:∀ b o,w.heap[b]?=some o→H b=some o)
    (hT:P.underlying T=some (.slice e)) (hsz:P.cellsOf e=sz) (hpos:0<sz) (hE:∀ m,m<fuel→∀ cs x,DataW.trod enc P w base spare held m e cs=some x→∃ p,E H cs p)
    (h:DataW.trod enc P w base spare held fuel T cs=some x):∃ ks l,cs=[ks]∧rdS E sz H ks l:=by
  rcases DataW.trod_slice hT h with ⟨rfl,_⟩ | ⟨a,len,cap,elems,rest,n,rfl,rfl,_,_,hlc,hcm,hel,hget,_⟩
  · exact ⟨_,[],rfl,rdS.nil⟩
  · rw [hsz] at hget
    have key:∀ i,i<len→∃ p cs',w.cells? base (a.add (i*sz)) sz=some cs'∧E H cs' p:=fun i hi=>by
      have h1:=hget i hi
      rw [getElem?_eq_getElem (by omega)] at h1
      obtain ⟨cs',h2,h3⟩:=Option.bind_eq_some_iff.1 h1
      obtain ⟨p,hp⟩:=hE n (by omega) cs' _ h3
      exact ⟨p,cs',h2,hp⟩
    obtain ⟨l,hl,hr⟩:=JB key
    refine ⟨_,l,rfl,some a,cap,by rw [hl],by rw [hl];have:maxLen=9223372036854775807:=rfl;omega,?_⟩
    by_cases h0:l.length=0
    · exact .inl h0
    · right
      obtain ⟨cs0,hc0,_⟩:=hr 0 (by omega)
      rw [Nat.zero_mul,Addr.add,if_pos rfl] at hc0
      obtain ⟨hsp,row,T',fr,hb,_⟩:=Nd hc0 hpos
      obtain ⟨b,o,sp⟩:=a
      simp only at hsp hb
      subst hsp
      refine ⟨b,o,row,T',fr,rfl,hH _ _ hb,rows.mk fun i hi=>?_⟩
      obtain ⟨cs',hc',he'⟩:=hr i hi
      obtain ⟨_,row',T2,fr',hb',hs'⟩:=Nd hc' hpos
      have e1:(Addr.add ⟨b,o,none⟩ (i*sz)).block=b:=by unfold Addr.add;split <;> rfl
      have e2:(Addr.add ⟨b,o,none⟩ (i*sz)).off=o+i*sz:=by unfold Addr.add;split <;> simp_all
      rw [e1,hb] at hb'
      cases hb'
      rw [e2] at hs'
      exact ⟨cs',hs',he'⟩
theorem R8 {cs:List Value} {o:Nat} {v:Value} (h:(cs.drop o).take 1=[v]):cs.drop o=v::cs.drop (o+1):=by
  cases hd:cs.drop o with
  | nil=>rw [hd] at h;cases h
  | cons a l=>
    rw [hd] at h
    simp only [take_succ_cons,List.take_zero,List.cons.injEq,and_true] at h
    subst h
    have:cs.drop (o+1)=l:=by rw [← drop_drop,hd];rfl
    rw [this]
theorem Gt {T u:TypeId} {fuel:Nat} {cs:List Value} {x:DataW Ht×List MemPlace} (hT:P.underlying T=some (.array 32 u)) (hu:P.underlying u=some (.int .u8)) (hcu:P.cellsOf u=1) (hcT:P.cellsOf T=32)
    (h:DataW.trod enc P w base spare held fuel T cs=some x):∃ r,cs=sC r:=by
  obtain ⟨xs,m,rfl,_,hl,hxl,hget⟩:=DataW.trod_array hT h
  rw [hcT] at hl
  rw [hcu] at hget
  have key:∀ i,i<32→∃ n:Int,cs[i]?=some (.int .u8 n)∧0≤n∧n≤255:=fun i hi=>by
    have h1:=hget i hi
    rw [getElem?_eq_getElem (by omega)] at h1
    obtain ⟨n,h2,_,hw⟩:=DataW.trod_int hu h1
    rw [Nat.mul_one] at h2
    have h3:=R8 h2
    refine ⟨n,?_,?_⟩
    · have:=congrArg (fun l=>l[0]?) h3
      simpa [getElem?_drop] using this
    · simp only [Lit.wf,Bool.and_eq_true,decide_eq_true_eq] at hw
      have e1:IntKind.u8.min=0:=rfl
      have e2:IntKind.u8.max=255:=rfl
      omega
  obtain ⟨l,h1,h2⟩:=JB key
  refine ⟨Vector.ofFn fun i:Fin 32=>UInt8.ofNat (l[i.1]'(by omega)).toNat,?_⟩
  apply List.ext_getElem?
  intro i
  by_cases hi:i<32
  · obtain ⟨h3,h4,h5⟩:=h2 i (by omega)
    rw [h3,VQ _ i hi]
    simp
    omega
  · rw [getElem?_eq_none (by omega),getElem?_eq_none (by rw [VP];omega)]
theorem Nn {n:Int} (h:(Lit.int .i64 n).wf=true):inI n:=by
  simp only [Lit.wf,Bool.and_eq_true,decide_eq_true_eq] at h
  have e1:IntKind.i64.min= -9223372036854775808:=rfl
  have e2:IntKind.i64.max=9223372036854775807:=rfl
  unfold inI;omega
end
section
variable {Ht:Type} {enc:TypeId×Value→Ht} {w:World} {base:Nat} {spare:Nat→Bool} {held:Bool} {H:Heap}
theorem DJ (hH:∀ b o,w.heap[b]?=some o→H b=some o):∀ (fuel:Nat) (cs:List Value) (x:DataW Ht×List MemPlace),DataW.trod enc prog w base spare held fuel 115 cs=some x→∃ p,RP H cs p:=by
  intro fuel
  induction fuel using Nat.strongRecOn with
  | ind fuel ih=>
    intro cs x h
    obtain ⟨xs,n,rfl,_,hl,hxl,hf⟩:=DataW.trod_struct underlying115 h
    have hc:prog.cellsOf 115=35:=by kernel_rfl
    rw [hc] at hl
    have hx:xs.length=4:=hxl
    have get:∀ i (hi:i<4),∃ y,xs[i]?=some y:=fun i hi=>⟨_,getElem?_eq_getElem (by omega)⟩
    obtain ⟨y0,e0⟩:=get 0 (by decide)
    obtain ⟨y1,e1⟩:=get 1 (by decide)
    obtain ⟨y2,e2⟩:=get 2 (by decide)
    obtain ⟨y3,e3⟩:=get 3 (by decide)
    have f0:DataW.trod enc prog w base spare held n 3 ((cs.drop 0).take (prog.cellsOf 3))=some y0:=(hf 0 _ rfl).trans e0
    have f1:DataW.trod enc prog w base spare held n 3 ((cs.drop 1).take (prog.cellsOf 3))=some y1:=(hf 1 _ rfl).trans e1
    have f2:DataW.trod enc prog w base spare held n 38 ((cs.drop 2).take (prog.cellsOf 38))=some y2:=(hf 2 _ rfl).trans e2
    have f3:DataW.trod enc prog w base spare held n 113 ((cs.drop 34).take (prog.cellsOf 113))=some y3:=(hf 3 _ rfl).trans e3
    rw [show prog.cellsOf 3=1 from by kernel_rfl] at f0 f1
    rw [show prog.cellsOf 38=32 from by kernel_rfl] at f2
    rw [show prog.cellsOf 113=1 from by kernel_rfl] at f3
    obtain ⟨k,hk,_,wk⟩:=DataW.trod_int underlying3 f0
    obtain ⟨m,hm,_,wm⟩:=DataW.trod_int underlying3 f1
    obtain ⟨r,hr⟩:=Gt underlying38 underlying5 (by kernel_rfl) (by kernel_rfl) f2
    obtain ⟨ks,kids,hks,hkids⟩:=slice_rd (E:=RP) (sz:=35) hH underlying113 hc (by decide) (fun m hm cs x=>ih m (by omega) cs x) f3
    refine ⟨.mk k m r kids,RP_mk.2 ⟨ks,?_,Nn wk,Nn wm,hkids⟩⟩
    have a0:=R8 hk
    have a1:=R8 hm
    have a3:=R8 hks
    rw [List.drop_zero] at a0
    have a4:cs.drop 35=[]:=drop_eq_nil_of_le (by omega)
    rw [a0,a1,← take_append_drop 32 (cs.drop (1+1)),drop_drop]
    rw [show (cs.drop (1+1)).take 32=sC r from hr,show 1+1+32=34 from rfl,a3,show 34+1=35 from rfl,a4]
    rfl
theorem trod_RT (hH:∀ b o,w.heap[b]?=some o→H b=some o):∀ (fuel:Nat) (cs:List Value) (x:DataW Ht×List MemPlace),DataW.trod enc prog w base spare held fuel 51 cs=some x→∃ t,RT H cs t:=by
  intro fuel
  induction fuel using Nat.strongRecOn with
  | ind fuel ih=>
    intro cs x h
    obtain ⟨xs,n,rfl,_,hl,hxl,hf⟩:=DataW.trod_struct underlying51 h
    have hc:prog.cellsOf 51=36:=by kernel_rfl
    have hcc:prog.cellsOf 117=71:=by kernel_rfl
    rw [hc] at hl
    have hx:xs.length=5:=hxl
    have get:∀ i (hi:i<5),∃ y,xs[i]?=some y:=fun i hi=>⟨_,getElem?_eq_getElem (by omega)⟩
    obtain ⟨y0,e0⟩:=get 0 (by decide)
    obtain ⟨y1,e1⟩:=get 1 (by decide)
    obtain ⟨y2,e2⟩:=get 2 (by decide)
    obtain ⟨y3,e3⟩:=get 3 (by decide)
    obtain ⟨y4,e4⟩:=get 4 (by decide)
    have f0:DataW.trod enc prog w base spare held n 3 ((cs.drop 0).take (prog.cellsOf 3))=some y0:=(hf 0 _ rfl).trans e0
    have f1:DataW.trod enc prog w base spare held n 3 ((cs.drop 1).take (prog.cellsOf 3))=some y1:=(hf 1 _ rfl).trans e1
    have f2:DataW.trod enc prog w base spare held n 38 ((cs.drop 2).take (prog.cellsOf 38))=some y2:=(hf 2 _ rfl).trans e2
    have f3:DataW.trod enc prog w base spare held n 22 ((cs.drop 34).take (prog.cellsOf 22))=some y3:=(hf 3 _ rfl).trans e3
    have f4:DataW.trod enc prog w base spare held n 49 ((cs.drop 35).take (prog.cellsOf 49))=some y4:=(hf 4 _ rfl).trans e4
    rw [show prog.cellsOf 3=1 from by kernel_rfl] at f0 f1
    rw [show prog.cellsOf 38=32 from by kernel_rfl] at f2
    rw [show prog.cellsOf 22=1 from by kernel_rfl] at f3
    rw [show prog.cellsOf 49=1 from by kernel_rfl] at f4
    obtain ⟨k,hk,_,wk⟩:=DataW.trod_int underlying3 f0
    obtain ⟨m,hm,_,wm⟩:=DataW.trod_int underlying3 f1
    obtain ⟨r,hr⟩:=Gt underlying38 underlying5 (by kernel_rfl) (by kernel_rfl) f2
    obtain ⟨ks,kids,hks,hkids⟩:=slice_rd (E:=RT) (sz:=36) hH underlying22 hc (by decide) (fun m hm cs x=>ih m (by omega) cs x) f3
    obtain ⟨cv,cases,hcv,hcases⟩:=slice_rd (E:=RC) (sz:=71) hH underlying49 hcc (by decide) (fun m hm cs x hx=>by
      obtain ⟨zs,n2,rfl,_,hl2,hzl,hf2⟩:=DataW.trod_struct underlying117 hx
      rw [hcc] at hl2
      have hz:zs.length=2:=hzl
      have g0:DataW.trod enc prog w base spare held n2 115 ((cs.drop 0).take (prog.cellsOf 115))=_:=(hf2 0 _ rfl).trans (getElem?_eq_getElem (show 0<zs.length by omega))
      have g1:DataW.trod enc prog w base spare held n2 51 ((cs.drop 35).take (prog.cellsOf 51))=_:=(hf2 1 _ rfl).trans (getElem?_eq_getElem (show 1<zs.length by omega))
      rw [show prog.cellsOf 115=35 from by kernel_rfl] at g0
      rw [hc] at g1
      obtain ⟨p,hp⟩:=DJ hH _ _ _ g0
      obtain ⟨t,ht⟩:=ih n2 (by omega) _ _ g1
      refine ⟨(p,t),_,_,?_,hp,ht⟩
      rw [List.drop_zero,take_of_length_le (i:=36) (by rw [length_drop];omega)]
      exact (take_append_drop 35 cs).symm) f4
    refine ⟨.mk k m r kids cases,RT_mk.2 ⟨ks,cv,?_,Nn wk,Nn wm,hkids,hcases⟩⟩
    have a0:=R8 hk
    have a1:=R8 hm
    have a3:=R8 hks
    have a4:=R8 hcv
    rw [List.drop_zero] at a0
    have a5:cs.drop 36=[]:=drop_eq_nil_of_le (by omega)
    rw [a0,a1,← take_append_drop 32 (cs.drop (1+1)),drop_drop]
    rw [show (cs.drop (1+1)).take 32=sC r from hr,show 1+1+32=34 from rfl,a3,show 34+1=35 from rfl,a4,show 35+1=36 from rfl,a5]
    rfl
end
theorem ty3:Ty prog 3 false 1:=⟨isAgg3,sizeOf3⟩
theorem ty4:Ty prog 4 false 1:=⟨isAgg4,sizeOf4⟩
theorem ty5:Ty prog 5 false 1:=⟨isAgg5,sizeOf5⟩
theorem ty9:Ty prog 9 false 1:=⟨isAgg9,sizeOf9⟩
theorem YZ:Ty prog 22 false 1:=⟨isAgg22,sizeOf22⟩
theorem Ol:Ty prog 26 false 1:=⟨isAgg26,sizeOf26⟩
theorem Sn:Ty prog 28 false 1:=⟨isAgg28,sizeOf28⟩
theorem ZaX:Ty prog 29 false 1:=⟨isAgg29,sizeOf29⟩
theorem Yq:Ty prog 38 true 32:=⟨isAgg38,sizeOf38⟩
theorem Xm:Ty prog 45 false 1:=⟨isAgg45,sizeOf45⟩
theorem Zca:Ty prog 48 false 1:=⟨isAgg48,sizeOf48⟩
theorem YL:Ty prog 49 false 1:=⟨isAgg49,sizeOf49⟩
theorem Zy:Ty prog 51 true 36:=⟨isAgg51,sizeOf51⟩
theorem Ax:Ty prog 52 false 1:=⟨isAgg52,sizeOf52⟩
theorem Rm:Ty prog 56 false 1:=⟨isAgg56,sizeOf56⟩
theorem Aw:Ty prog 61 false 1:=⟨isAgg61,sizeOf61⟩
theorem DH:Ty prog 63 false 1:=⟨isAgg63,sizeOf63⟩
theorem Qo:Ty prog 70 true 68:=⟨isAgg70,sizeOf70⟩
theorem DG:Ty prog 71 false 1:=⟨isAgg71,sizeOf71⟩
theorem XB:Ty prog 78 false 1:=⟨isAgg78,sizeOf78⟩
theorem Ww:Ty prog 80 false 1:=⟨isAgg80,sizeOf80⟩
theorem Y3:Ty prog 82 true 4:=⟨isAgg82,sizeOf82⟩
theorem QV:Ty prog 86 false 1:=⟨isAgg86,sizeOf86⟩
theorem Zb9:Ty prog 89 true 2:=⟨isAgg89,sizeOf89⟩
theorem DF:Ty prog 93 true 8:=⟨isAgg93,sizeOf93⟩
theorem Zb8:Ty prog 95 false 1:=⟨isAgg95,sizeOf95⟩
theorem Za3:Ty prog 105 false 1:=⟨isAgg105,sizeOf105⟩
theorem Za2:Ty prog 111 false 1:=⟨isAgg111,sizeOf111⟩
theorem YB:Ty prog 113 false 1:=⟨isAgg113,sizeOf113⟩
theorem ZU:Ty prog 115 true 35:=⟨isAgg115,sizeOf115⟩
theorem Yg:Ty prog 117 true 71:=⟨isAgg117,sizeOf117⟩
theorem Gg:Ty prog 120 false 1:=⟨isAgg120,sizeOf120⟩
theorem Za1:Ty prog 123 false 1:=⟨isAgg123,sizeOf123⟩
theorem KZ:Ty prog 131 false 1:=⟨isAgg131,sizeOf131⟩
theorem ZK:Ty prog 137 false 1:=⟨isAgg137,sizeOf137⟩
theorem Xn:Ty prog 138 true 8:=⟨isAgg138,sizeOf138⟩
theorem Gf:Ty prog 148 false 1:=⟨isAgg148,sizeOf148⟩
theorem VB:Ty prog 166 true 2:=⟨isAgg166,sizeOf166⟩
theorem Za0:Ty prog 169 false 1:=⟨isAgg169,sizeOf169⟩
theorem Ge:Ty prog 174 true 10:=⟨isAgg174,sizeOf174⟩
theorem ZaZ:Ty prog 177 true 10:=⟨isAgg177,sizeOf177⟩
theorem QW:Ty prog 189 false 1:=⟨isAgg189,sizeOf189⟩
theorem B3:Ty prog 193 false 1:=⟨isAgg193,sizeOf193⟩
theorem KY:Ty prog 195 true 2:=⟨isAgg195,sizeOf195⟩
theorem UX:Ty prog 213 false 1:=⟨isAgg213,sizeOf213⟩
theorem Gd:Ty prog 219 true 64:=⟨isAgg219,sizeOf219⟩
theorem ZaY:Ty prog 230 true 37:=⟨isAgg230,sizeOf230⟩
theorem YE:Ty prog 235 true 3:=⟨isAgg235,sizeOf235⟩
theorem KX:Ty prog 247 false 1:=⟨isAgg247,sizeOf247⟩
theorem Gc:Ty prog 249 true 2:=⟨isAgg249,sizeOf249⟩
theorem KW:Ty prog 265 false 1:=⟨isAgg265,sizeOf265⟩
theorem KV:Ty prog 267 true 4:=⟨isAgg267,sizeOf267⟩
abbrev FA (T k n:Nat):Prop:=∀ {e:Operand→Value} {d:Option Nat} {ot:TypeId} {pos:String} {af:Array Edge} {g:Option (Nat×Bool)} {x:Operand} {b o q:Nat},e x=.pointer (some ⟨b,o,none⟩)→o+n=q→Pu prog e ⟨d,.fieldAddr T x k,ot,pos,af,g⟩ (.pointer (some ⟨b,q,none⟩))
theorem Z1:FA 51 0 0:=fun hx ho=>Pu.fieldAddr runUnderlying51 rfl ty3 hx ho
theorem Yj:FA 51 1 1:=fun hx ho=>Pu.fieldAddr runUnderlying51 rfl ty3 hx ho
theorem WL:FA 51 2 2:=fun hx ho=>Pu.fieldAddr runUnderlying51 rfl Yq hx ho
theorem Yd:FA 51 3 34:=fun hx ho=>Pu.fieldAddr runUnderlying51 rfl YZ hx ho
theorem ZY:FA 51 4 35:=fun hx ho=>Pu.fieldAddr runUnderlying51 rfl YL hx ho
theorem Ks:FA 70 0 0:=fun hx ho=>Pu.fieldAddr runUnderlying70 rfl Yq hx ho
theorem N1:FA 70 1 32:=fun hx ho=>Pu.fieldAddr runUnderlying70 rfl Zy hx ho
theorem RX:FA 82 0 0:=fun hx ho=>Pu.fieldAddr runUnderlying82 rfl ty3 hx ho
theorem RW:FA 82 1 1:=fun hx ho=>Pu.fieldAddr runUnderlying82 rfl ty3 hx ho
theorem Vp:FA 82 2 2:=fun hx ho=>Pu.fieldAddr runUnderlying82 rfl ty9 hx ho
theorem YS:FA 82 3 3:=fun hx ho=>Pu.fieldAddr runUnderlying82 rfl Ww hx ho
theorem T9:FA 89 0 0:=fun hx ho=>Pu.fieldAddr runUnderlying89 rfl YZ hx ho
theorem Kr:FA 89 1 1:=fun hx ho=>Pu.fieldAddr runUnderlying89 rfl DH hx ho
theorem VW:FA 91 0 0:=fun hx ho=>Pu.fieldAddr runUnderlying91 rfl Zb9 hx ho
theorem Tf:FA 91 1 2:=fun hx ho=>Pu.fieldAddr runUnderlying91 rfl Xm hx ho
theorem Ek:FA 91 2 3:=fun hx ho=>Pu.fieldAddr runUnderlying91 rfl Aw hx ho
theorem Yr:FA 115 0 0:=fun hx ho=>Pu.fieldAddr runUnderlying115 rfl ty3 hx ho
theorem Xg:FA 115 1 1:=fun hx ho=>Pu.fieldAddr runUnderlying115 rfl ty3 hx ho
theorem X7:FA 115 2 2:=fun hx ho=>Pu.fieldAddr runUnderlying115 rfl Yq hx ho
theorem Z5:FA 115 3 34:=fun hx ho=>Pu.fieldAddr runUnderlying115 rfl YB hx ho
theorem YO:FA 117 0 0:=fun hx ho=>Pu.fieldAddr runUnderlying117 rfl ZU hx ho
theorem YV:FA 117 1 35:=fun hx ho=>Pu.fieldAddr runUnderlying117 rfl Zy hx ho
theorem N4:FA 166 0 0:=fun hx ho=>Pu.fieldAddr runUnderlying166 rfl ty3 hx ho
theorem C5:FA 166 1 1:=fun hx ho=>Pu.fieldAddr runUnderlying166 rfl ty3 hx ho
theorem N3:FA 174 0 0:=fun hx ho=>Pu.fieldAddr runUnderlying174 rfl Xn hx ho
theorem W8:FA 174 1 8:=fun hx ho=>Pu.fieldAddr runUnderlying174 rfl Sn hx ho
theorem JX:FA 174 2 9:=fun hx ho=>Pu.fieldAddr runUnderlying174 rfl ty3 hx ho
theorem XL:FA 177 0 0:=fun hx ho=>Pu.fieldAddr runUnderlying177 rfl Ge hx ho
theorem TD:FA 191 0 0:=fun hx ho=>Pu.fieldAddr runUnderlying191 rfl ty3 hx ho
theorem C4:FA 195 0 0:=fun hx ho=>Pu.fieldAddr runUnderlying195 rfl ty3 hx ho
theorem C3:FA 195 1 1:=fun hx ho=>Pu.fieldAddr runUnderlying195 rfl B3 hx ho
theorem C2:FA 230 0 0:=fun hx ho=>Pu.fieldAddr runUnderlying230 rfl Zy hx ho
theorem C1:FA 230 1 36:=fun hx ho=>Pu.fieldAddr runUnderlying230 rfl ty3 hx ho
theorem C0:FA 249 0 0:=fun hx ho=>Pu.fieldAddr runUnderlying249 rfl KX hx ho
theorem CZ:FA 249 1 1:=fun hx ho=>Pu.fieldAddr runUnderlying249 rfl KX hx ho
theorem JW:FA 267 0 0:=fun hx ho=>Pu.fieldAddr runUnderlying267 rfl ty3 hx ho
theorem JV:FA 267 1 1:=fun hx ho=>Pu.fieldAddr runUnderlying267 rfl ty3 hx ho
theorem JU:FA 267 2 2:=fun hx ho=>Pu.fieldAddr runUnderlying267 rfl ty3 hx ho
theorem CY:FA 267 3 3:=fun hx ho=>Pu.fieldAddr runUnderlying267 rfl ty4 hx ho
theorem el3:El prog 3 1 8 (.int .i64 0):=⟨⟨t3,typeInfo3,rfl,rfl,rfl⟩,rfl⟩
theorem el4:El prog 4 1 1 (.bool false):=⟨⟨t4,typeInfo4,rfl,rfl,rfl⟩,rfl⟩
theorem el5:El prog 5 1 1 (.int .u8 0):=⟨⟨t5,typeInfo5,rfl,rfl,rfl⟩,rfl⟩
theorem Zao:El prog 28 1 24 (.slice none 0 0):=⟨⟨t28,typeInfo28,rfl,rfl,rfl⟩,rfl⟩
theorem Hk:El prog 38 32 32 (.agg ⟨sC zS⟩):=⟨⟨t38,typeInfo38,rfl,rfl,rfl⟩,rfl⟩
theorem Bb:El prog 45 1 24 (.slice none 0 0):=⟨⟨t45,typeInfo45,rfl,rfl,rfl⟩,rfl⟩
theorem Wo:El prog 51 36 96 (.agg ⟨pkT 0 0 zS (.slice none 0 0) (.slice none 0 0)⟩):=⟨⟨t51,typeInfo51,rfl,rfl,rfl⟩,rfl⟩
theorem ZbQ:El prog 70 68 128 (.agg ⟨[.int .u8 0,.int .u8 0,.int .u8 0,.int .u8 0,.int .u8 0,.int .u8 0,.int .u8 0,.int .u8 0,.int .u8 0,.int .u8 0,.int .u8 0,.int .u8 0,.int .u8 0,.int .u8 0,.int .u8 0,.int .u8 0,.int .u8 0,.int .u8 0,.int .u8 0,.int .u8 0,.int .u8 0,.int .u8 0,.int .u8 0,.int .u8 0,.int .u8 0,.int .u8 0,.int .u8 0,.int .u8 0,.int .u8 0,.int .u8 0,.int .u8 0,.int .u8 0,.int .i64 0,.int .i64 0,.int .u8 0,.int .u8 0,.int .u8 0,.int .u8 0,.int .u8 0,.int .u8 0,.int .u8 0,.int .u8 0,.int .u8 0,.int .u8 0,.int .u8 0,.int .u8 0,.int .u8 0,.int .u8 0,.int .u8 0,.int .u8 0,.int .u8 0,.int .u8 0,.int .u8 0,.int .u8 0,.int .u8 0,.int .u8 0,.int .u8 0,.int .u8 0,.int .u8 0,.int .u8 0,.int .u8 0,.int .u8 0,.int .u8 0,.int .u8 0,.int .u8 0,.int .u8 0,.slice none 0 0,.slice none 0 0]⟩):=⟨⟨t70,typeInfo70,rfl,rfl,rfl⟩,rfl⟩
theorem ZbP:El prog 78 1 24 (.slice none 0 0):=⟨⟨t78,typeInfo78,rfl,rfl,rfl⟩,rfl⟩
theorem UH:El prog 82 4 56 (.agg ⟨[.int .i64 0,.int .i64 0,.string ⟨#[]⟩,.slice none 0 0]⟩):=⟨⟨t82,typeInfo82,rfl,rfl,rfl⟩,rfl⟩
theorem O8:El prog 115 35 72 (.agg ⟨pkP 0 0 zS (.slice none 0 0)⟩):=⟨⟨t115,typeInfo115,rfl,rfl,rfl⟩,rfl⟩
theorem PO:El prog 117 71 168 (.agg ⟨(pkP 0 0 zS (.slice none 0 0))++(pkT 0 0 zS (.slice none 0 0) (.slice none 0 0))⟩):=⟨⟨t117,typeInfo117,rfl,rfl,rfl⟩,rfl⟩
theorem PN:El prog 137 1 4 (.int .u32 0):=⟨⟨t137,typeInfo137,rfl,rfl,rfl⟩,rfl⟩
theorem ZbR:El prog 166 2 16 (.agg ⟨[.int .i64 0,.int .i64 0]⟩):=⟨⟨t166,typeInfo166,rfl,rfl,rfl⟩,rfl⟩
theorem KK:∀ w,(Instr.build 38 ⟨[]⟩).run prog w=.ok (.agg ⟨sC zS⟩) w:=Vh zeroValue38 runUnderlying38 sizeOf5 rfl
theorem MJ (w:World):(Sem.run prog ((#[{name:= "Kind",type:=3,offset:=0,embedded:=false,tag:= "",pkgPath:= "",byteOffset:=0},{name:= "Num",type:=3,offset:=1,embedded:=false,tag:= "",pkgPath:= "",byteOffset:=8},{name:= "Ref",type:=38,offset:=2,embedded:=false,tag:= "",pkgPath:= "",byteOffset:=16},{name:= "Kids",type:=22,offset:=34,embedded:=false,tag:= "",pkgPath:= "",byteOffset:=48},{name:= "Cases",type:=49,offset:=35,embedded:=false,tag:= "",pkgPath:= "",byteOffset:=72}]:Array Field).mapM fun f=>(do pure (f.offset,← Go.sizeOf f.type):Sem (Nat×Nat))) w)=.ok #[(0,1),(1,1),(2,32),(34,1),(35,1)] w:=by simp [sizeOf22,sizeOf3,sizeOf38,sizeOf49]
theorem ZaG:∀ w,(Instr.build 51 ⟨[]⟩).run prog w=.ok (.agg ⟨pkT 0 0 zS (.slice none 0 0) (.slice none 0 0)⟩) w:=Z6 zeroValue51 runUnderlying51 MJ rfl
theorem BD (k:Int):∀ w,(Instr.build 51 ⟨[(0,.int .i64 k)]⟩).run prog w=.ok (.agg ⟨pkT k 0 zS (.slice none 0 0) (.slice none 0 0)⟩) w:=Z6 zeroValue51 runUnderlying51 MJ (by kernel_rfl)
theorem Vc (k:Int) (n:Int):∀ w,(Instr.build 51 ⟨[(0,.int .i64 k),(1,.int .i64 n)]⟩).run prog w=.ok (.agg ⟨pkT k n zS (.slice none 0 0) (.slice none 0 0)⟩) w:=Z6 zeroValue51 runUnderlying51 MJ (by kernel_rfl)
theorem Ly (k:Int) (n:Int) (r:Sm):∀ w,(Instr.build 51 ⟨[(0,.int .i64 k),(1,.int .i64 n),(2,.agg ⟨sC r⟩)]⟩).run prog w=.ok (.agg ⟨pkT k n r (.slice none 0 0) (.slice none 0 0)⟩) w:=Z6 zeroValue51 runUnderlying51 MJ (by kernel_rfl)
theorem Lx (k:Int) (n:Int) (a3:Option Addr) (n3 c3:Nat):∀ w,(Instr.build 51 ⟨[(0,.int .i64 k),(1,.int .i64 n),(3,(.slice a3 n3 c3))]⟩).run prog w=.ok (.agg ⟨pkT k n zS (.slice a3 n3 c3) (.slice none 0 0)⟩) w:=Z6 zeroValue51 runUnderlying51 MJ (by kernel_rfl)
theorem R2 (k:Int) (r:Sm):∀ w,(Instr.build 51 ⟨[(0,.int .i64 k),(2,.agg ⟨sC r⟩)]⟩).run prog w=.ok (.agg ⟨pkT k 0 r (.slice none 0 0) (.slice none 0 0)⟩) w:=Z6 zeroValue51 runUnderlying51 MJ (by kernel_rfl)
theorem Ng (k:Int) (a3:Option Addr) (n3 c3:Nat):∀ w,(Instr.build 51 ⟨[(0,.int .i64 k),(3,(.slice a3 n3 c3))]⟩).run prog w=.ok (.agg ⟨pkT k 0 zS (.slice a3 n3 c3) (.slice none 0 0)⟩) w:=Z6 zeroValue51 runUnderlying51 MJ (by kernel_rfl)
theorem Lw (k:Int) (a3:Option Addr) (n3 c3:Nat) (a4:Option Addr) (n4 c4:Nat):∀ w,(Instr.build 51 ⟨[(0,.int .i64 k),(3,(.slice a3 n3 c3)),(4,(.slice a4 n4 c4))]⟩).run prog w=.ok (.agg ⟨pkT k 0 zS (.slice a3 n3 c3) (.slice a4 n4 c4)⟩) w:=Z6 zeroValue51 runUnderlying51 MJ (by kernel_rfl)
theorem Zcd (w:World):(Sem.run prog ((#[{name:= "Sum",type:=38,offset:=0,embedded:=false,tag:= "",pkgPath:= "",byteOffset:=0},{name:= "Body",type:=51,offset:=32,embedded:=false,tag:= "",pkgPath:= "",byteOffset:=32}]:Array Field).mapM fun f=>(do pure (f.offset,← Go.sizeOf f.type):Sem (Nat×Nat))) w)=.ok #[(0,32),(32,36)] w:=by simp [sizeOf38,sizeOf51]
theorem Cn (w:World):(Sem.run prog ((#[{name:= "Kind",type:=3,offset:=0,embedded:=false,tag:= "",pkgPath:= "",byteOffset:=0},{name:= "Num",type:=3,offset:=1,embedded:=false,tag:= "",pkgPath:= "",byteOffset:=8},{name:= "Text",type:=9,offset:=2,embedded:=false,tag:= "",pkgPath:= "",byteOffset:=16},{name:= "Kids",type:=80,offset:=3,embedded:=false,tag:= "",pkgPath:= "",byteOffset:=32}]:Array Field).mapM fun f=>(do pure (f.offset,← Go.sizeOf f.type):Sem (Nat×Nat))) w)=.ok #[(0,1),(1,1),(2,1),(3,1)] w:=by simp [sizeOf3,sizeOf80,sizeOf9]
theorem ZaF:∀ w,(Instr.build 82 ⟨[]⟩).run prog w=.ok (.agg ⟨[.int .i64 0,.int .i64 0,.string ⟨#[]⟩,.slice none 0 0]⟩) w:=Z6 zeroValue82 runUnderlying82 Cn rfl
theorem Zcc (w:World):(Sem.run prog ((#[{name:= "members",type:=89,offset:=0,embedded:=true,tag:= "",pkgPath:= "hoarstone/knot",byteOffset:=0},{name:= "firsts",type:=45,offset:=2,embedded:=false,tag:= "",pkgPath:= "hoarstone/knot",byteOffset:=48},{name:= "self",type:=61,offset:=3,embedded:=false,tag:= "",pkgPath:= "hoarstone/knot",byteOffset:=72}]:Array Field).mapM fun f=>(do pure (f.offset,← Go.sizeOf f.type):Sem (Nat×Nat))) w)=.ok #[(0,2),(2,1),(3,1)] w:=by simp [sizeOf45,sizeOf61,sizeOf89]
theorem G7 (w:World):(Sem.run prog ((#[{name:= "Kind",type:=3,offset:=0,embedded:=false,tag:= "",pkgPath:= "",byteOffset:=0},{name:= "Num",type:=3,offset:=1,embedded:=false,tag:= "",pkgPath:= "",byteOffset:=8},{name:= "Ref",type:=38,offset:=2,embedded:=false,tag:= "",pkgPath:= "",byteOffset:=16},{name:= "Kids",type:=113,offset:=34,embedded:=false,tag:= "",pkgPath:= "",byteOffset:=48}]:Array Field).mapM fun f=>(do pure (f.offset,← Go.sizeOf f.type):Sem (Nat×Nat))) w)=.ok #[(0,1),(1,1),(2,32),(34,1)] w:=by simp [sizeOf113,sizeOf3,sizeOf38]
theorem LA (k:Int):∀ w,(Instr.build 115 ⟨[(0,.int .i64 k)]⟩).run prog w=.ok (.agg ⟨pkP k 0 zS (.slice none 0 0)⟩) w:=Z6 zeroValue115 runUnderlying115 G7 (by kernel_rfl)
theorem KN (k:Int) (n:Int):∀ w,(Instr.build 115 ⟨[(0,.int .i64 k),(1,.int .i64 n)]⟩).run prog w=.ok (.agg ⟨pkP k n zS (.slice none 0 0)⟩) w:=Z6 zeroValue115 runUnderlying115 G7 (by kernel_rfl)
theorem Md (k:Int) (n:Int) (r:Sm):∀ w,(Instr.build 115 ⟨[(0,.int .i64 k),(1,.int .i64 n),(2,.agg ⟨sC r⟩)]⟩).run prog w=.ok (.agg ⟨pkP k n r (.slice none 0 0)⟩) w:=Z6 zeroValue115 runUnderlying115 G7 (by kernel_rfl)
theorem B9 (w:World):(Sem.run prog ((#[{name:= "Pat",type:=115,offset:=0,embedded:=false,tag:= "",pkgPath:= "",byteOffset:=0},{name:= "Body",type:=51,offset:=35,embedded:=false,tag:= "",pkgPath:= "",byteOffset:=72}]:Array Field).mapM fun f=>(do pure (f.offset,← Go.sizeOf f.type):Sem (Nat×Nat))) w)=.ok #[(0,35),(35,36)] w:=by simp [sizeOf115,sizeOf51]
theorem BG:∀ w,(Instr.build 117 ⟨[]⟩).run prog w=.ok (.agg ⟨(pkP 0 0 zS (.slice none 0 0))++(pkT 0 0 zS (.slice none 0 0) (.slice none 0 0))⟩) w:=Z6 zeroValue117 runUnderlying117 B9 rfl
theorem UL {p t:List Value} (hp:p.length=35) (ht:t.length=36):∀ w,(Instr.build 117 ⟨[(0,.agg ⟨p⟩),(1,.agg ⟨t⟩)]⟩).run prog w=.ok (.agg ⟨p++t⟩) w:=Z6 zeroValue117 runUnderlying117 B9 (Vb (pre:=[]) (mid:=pkP 0 0 zS (.slice none 0 0)) (post:=pkT 0 0 zS (.slice none 0 0) (.slice none 0 0)) rfl rfl hp rfl rfl (by have:=Vb (place:=(#[(0,35),(35,36)][·]?)) (i:=1) (v:=.agg ⟨t⟩) (rest:=[]) (pre:=p) (mid:=pkT 0 0 zS (.slice none 0 0) (.slice none 0 0)) (post:=[]) rfl rfl ht hp rfl rfl;simpa [Instr.fill] using this))
theorem Zbm (w:World):(Sem.run prog ((#[{name:= "own",type:=3,offset:=0,embedded:=false,tag:= "",pkgPath:= "hoarstone/knot",byteOffset:=0},{name:= "called",type:=3,offset:=1,embedded:=false,tag:= "",pkgPath:= "hoarstone/knot",byteOffset:=8}]:Array Field).mapM fun f=>(do pure (f.offset,← Go.sizeOf f.type):Sem (Nat×Nat))) w)=.ok #[(0,1),(1,1)] w:=by simp [sizeOf3]
theorem Zbl (w:World):(Sem.run prog ((#[{name:= "Words",type:=138,offset:=0,embedded:=false,tag:= "",pkgPath:= "",byteOffset:=0},{name:= "Rest",type:=28,offset:=8,embedded:=false,tag:= "",pkgPath:= "",byteOffset:=32},{name:= "Long",type:=3,offset:=9,embedded:=false,tag:= "",pkgPath:= "",byteOffset:=56}]:Array Field).mapM fun f=>(do pure (f.offset,← Go.sizeOf f.type):Sem (Nat×Nat))) w)=.ok #[(0,8),(8,1),(9,1)] w:=by simp [sizeOf138,sizeOf28,sizeOf3]
theorem Zbk (w:World):(Sem.run prog ((#[{name:= "State",type:=174,offset:=0,embedded:=true,tag:= "",pkgPath:= "",byteOffset:=0}]:Array Field).mapM fun f=>(do pure (f.offset,← Go.sizeOf f.type):Sem (Nat×Nat))) w)=.ok #[(0,10)] w:=by simp [sizeOf174]
theorem Zbj (w:World):(Sem.run prog ((#[{name:= "count",type:=3,offset:=0,embedded:=false,tag:= "",pkgPath:= "hoarstone/term",byteOffset:=0}]:Array Field).mapM fun f=>(do pure (f.offset,← Go.sizeOf f.type):Sem (Nat×Nat))) w)=.ok #[(0,1)] w:=by simp [sizeOf3]
theorem BF:∀ w,(Instr.build 191 ⟨[]⟩).run prog w=.ok (.agg ⟨[.int .i64 0]⟩) w:=Z6 zeroValue191 runUnderlying191 Zbj rfl
theorem Zbi (w:World):(Sem.run prog ((#[{name:= "members",type:=3,offset:=0,embedded:=false,tag:= "",pkgPath:= "hoarstone/term",byteOffset:=0},{name:= "known",type:=193,offset:=1,embedded:=false,tag:= "",pkgPath:= "hoarstone/term",byteOffset:=8}]:Array Field).mapM fun f=>(do pure (f.offset,← Go.sizeOf f.type):Sem (Nat×Nat))) w)=.ok #[(0,1),(1,1)] w:=by simp [sizeOf193,sizeOf3]
theorem KM (a0:Int) (a1:Fn) (x1 y1:Array Value):∀ w,(Instr.build 195 ⟨[(0,.int .i64 a0),(1,.func a1 x1 y1)]⟩).run prog w=.ok (.agg ⟨[.int .i64 a0,.func a1 x1 y1]⟩) w:=Z6 zeroValue195 runUnderlying195 Zbi (by kernel_rfl)
theorem Zbh (w:World):(Sem.run prog ((#[{name:= "Term",type:=51,offset:=0,embedded:=true,tag:= "",pkgPath:= "",byteOffset:=0},{name:= "more",type:=3,offset:=36,embedded:=false,tag:= "",pkgPath:= "hoarstone/term",byteOffset:=96}]:Array Field).mapM fun f=>(do pure (f.offset,← Go.sizeOf f.type):Sem (Nat×Nat))) w)=.ok #[(0,36),(36,1)] w:=by simp [sizeOf3,sizeOf51]
theorem P3 {t:List Value} {m:Int} (ht:t.length=36):∀ w,(Instr.build 230 ⟨[(0,.agg ⟨t⟩),(1,.int .i64 m)]⟩).run prog w=.ok (.agg ⟨t++[.int .i64 m]⟩) w:=Z6 zeroValue230 runUnderlying230 Zbh (Vb (pre:=[]) (mid:=pkT 0 0 zS (.slice none 0 0) (.slice none 0 0)) (post:=[.int .i64 0]) rfl rfl ht rfl rfl (by have:=Vb (place:=(#[(0,36),(36,1)][·]?)) (i:=1) (v:=.int .i64 m) (rest:=[]) (pre:=t) (mid:=[.int .i64 0]) (post:=[]) rfl rfl rfl ht rfl rfl;simpa [Instr.fill] using this))
theorem BE:∀ w,(Instr.build 235 ⟨[]⟩).run prog w=.ok (.agg ⟨[.bool false,.bool false,.bool false]⟩) w:=Vh zeroValue235 runUnderlying235 sizeOf4 rfl
theorem UK (a0 a1 a2:Bool):∀ w,(Instr.build 235 ⟨[(0,.bool a0),(1,.bool a1),(2,.bool a2)]⟩).run prog w=.ok (.agg ⟨[.bool a0,.bool a1,.bool a2]⟩) w:=Vh zeroValue235 runUnderlying235 sizeOf4 rfl
theorem Zbg (w:World):(Sem.run prog ((#[{name:= "kind",type:=3,offset:=0,embedded:=false,tag:= "",pkgPath:= "hoarstone/term",byteOffset:=0},{name:= "num",type:=3,offset:=1,embedded:=false,tag:= "",pkgPath:= "hoarstone/term",byteOffset:=8},{name:= "ref",type:=38,offset:=2,embedded:=false,tag:= "",pkgPath:= "hoarstone/term",byteOffset:=16}]:Array Field).mapM fun f=>(do pure (f.offset,← Go.sizeOf f.type):Sem (Nat×Nat))) w)=.ok #[(0,1),(1,1),(2,32)] w:=by simp [sizeOf3,sizeOf38]
theorem Zbf (w:World):(Sem.run prog ((#[{name:= "first",type:=247,offset:=0,embedded:=false,tag:= "",pkgPath:= "hoarstone/sum",byteOffset:=0},{name:= "second",type:=247,offset:=1,embedded:=false,tag:= "",pkgPath:= "hoarstone/sum",byteOffset:=8}]:Array Field).mapM fun f=>(do pure (f.offset,← Go.sizeOf f.type):Sem (Nat×Nat))) w)=.ok #[(0,1),(1,1)] w:=by simp [sizeOf247]
theorem KL (a0:Fn) (x0 y0:Array Value) (a1:Fn) (x1 y1:Array Value):∀ w,(Instr.build 249 ⟨[(0,.func a0 x0 y0),(1,.func a1 x1 y1)]⟩).run prog w=.ok (.agg ⟨[.func a0 x0 y0,.func a1 x1 y1]⟩) w:=Z6 zeroValue249 runUnderlying249 Zbf (by kernel_rfl)
theorem Zbe (w:World):(Sem.run prog ((#[{name:= "a",type:=3,offset:=0,embedded:=false,tag:= "",pkgPath:= "hoarstone/sum",byteOffset:=0},{name:= "b",type:=3,offset:=1,embedded:=false,tag:= "",pkgPath:= "hoarstone/sum",byteOffset:=8},{name:= "c",type:=3,offset:=2,embedded:=false,tag:= "",pkgPath:= "hoarstone/sum",byteOffset:=16},{name:= "lost",type:=4,offset:=3,embedded:=false,tag:= "",pkgPath:= "hoarstone/sum",byteOffset:=24}]:Array Field).mapM fun f=>(do pure (f.offset,← Go.sizeOf f.type):Sem (Nat×Nat))) w)=.ok #[(0,1),(1,1),(2,1),(3,1)] w:=by simp [sizeOf3,sizeOf4]
theorem Ws (a0:Int) (a1:Int) (a2:Int) (a3:Bool):∀ w,(Instr.build 267 ⟨[(0,.int .i64 a0),(1,.int .i64 a1),(2,.int .i64 a2),(3,.bool a3)]⟩).run prog w=.ok (.agg ⟨[.int .i64 a0,.int .i64 a1,.int .i64 a2,.bool a3]⟩) w:=Z6 zeroValue267 runUnderlying267 Zbe (by kernel_rfl)
theorem eqS {e:Operand→Value} {d:Option Nat} {ot:TypeId} {pos:String} {af:Array Edge} {g:Option (Nat×Bool)} {T':TypeId} {x y:Operand} {r s:Sm} (hx:e x=.agg ⟨sC r⟩) (hy:e y=.agg ⟨sC s⟩):Pu prog e ⟨d,.binOp .eql 38 x y T',ot,pos,af,g⟩ (.bool (decide (r=s))):=HM eqGuardType38 underlying38 underlying5 sizeOf5 hx hy
theorem neqS {e:Operand→Value} {d:Option Nat} {ot:TypeId} {pos:String} {af:Array Edge} {g:Option (Nat×Bool)} {T':TypeId} {x y:Operand} {r s:Sm} (hx:e x=.agg ⟨sC r⟩) (hy:e y=.agg ⟨sC s⟩):Pu prog e ⟨d,.binOp .neq 38 x y T',ot,pos,af,g⟩ (.bool (!decide (r=s))):=HL eqGuardType38 underlying38 underlying5 sizeOf5 hx hy
theorem Zbt {e:Operand→Value} {d:Option Nat} {ot:TypeId} {pos:String} {af:Array Edge} {g:Option (Nat×Bool)} {T':TypeId} {x y:Operand} {a b c a' b' c':Bool} (hx:e x=.agg ⟨[.bool a,.bool b,.bool c]⟩) (hy:e y=.agg ⟨[.bool a',.bool b',.bool c']⟩):Pu prog e ⟨d,.binOp .neq 235 x y T',ot,pos,af,g⟩ (.bool (!(a==a'&&(b==b'&&c==c')))):=Dj eqGuardType235 underlying235 underlying4 sizeOf4 hx hy
theorem mixed:prog.follows .mixedOrders=true:=checked.mixed
theorem Ru3:type_of% @runUnderlying3:=runUnderlying3
theorem Ru5:type_of% @runUnderlying5:=runUnderlying5
theorem Ru9:type_of% @runUnderlying9:=runUnderlying9
theorem ZQ:type_of% @runUnderlying22:=runUnderlying22
theorem Yl:type_of% @runUnderlying28:=runUnderlying28
theorem Wt:type_of% @runUnderlying29:=runUnderlying29
theorem BP:type_of% @runUnderlying38:=runUnderlying38
theorem ZV:type_of% @runUnderlying45:=runUnderlying45
theorem Yz:type_of% @runUnderlying49:=runUnderlying49
theorem R7:type_of% @runUnderlying63:=runUnderlying63
theorem R6:type_of% @runUnderlying71:=runUnderlying71
theorem Vz:type_of% @runUnderlying76:=runUnderlying76
theorem W4:type_of% @runUnderlying78:=runUnderlying78
theorem Xl:type_of% @runUnderlying80:=runUnderlying80
theorem LK:type_of% @runUnderlying93:=runUnderlying93
theorem Il:type_of% @runUnderlying107:=runUnderlying107
theorem Yt:type_of% @runUnderlying113:=runUnderlying113
theorem Ik:type_of% @runUnderlying137:=runUnderlying137
theorem YG:type_of% @runUnderlying138:=runUnderlying138
theorem Nm:type_of% @runUnderlying163:=runUnderlying163
theorem WB:type_of% @runUnderlying219:=runUnderlying219
theorem X4:type_of% @runUnderlying235:=runUnderlying235
theorem Of:type_of% @runUnderlying245:=runUnderlying245
theorem TS:type_of% @runUnderlying253:=runUnderlying253
def Zcb (l:List ByteArray):List (List Value):=l.map fun n=>[.string n]
def RS (_:Heap) (cs:List Value) (n:ByteArray):Prop:=cs=[.string n]
theorem RSs.mono {h h':Heap} (hh:Hle h h') {v:Value} {l:List ByteArray} (q:Hs.rdS RS 1 h v l):Hs.rdS RS 1 h' v l:=rdS.mono q hh fun _ _ _ e=>e
theorem rdS.none {α:Type} {E:Heap→List Value→α→Prop} {sz:Nat} {h:Heap} {a:Option Addr} {cap:Nat}:Hs.rdS E sz h (.slice a 0 cap) []:=⟨a,cap,rfl,by simp,.inl rfl⟩
section
variable {c:Cx} {H:Heap} {ρ:Nat→Value} {M:List Zi} {K:Value→List Zi→Prop} {d:Option Nat} {ot:TypeId} {pos:String} {af:Array Edge} {g:Option (Nat×Bool)} {x y z:Operand}
end
section
variable {P:Program} {e:Operand→Value} {T T':TypeId} {x:Operand} {k:IntKind} {a:Int} {d:Option Nat} {ot:TypeId} {pos:String} {af:Array Edge} {g:Option (Nat×Bool)}
end
section
variable {c:Cx} {H:Heap} {ρ:Nat→Value} {M:List Zi} {K:Value→List Zi→Prop} {d:Option Nat} {ot:TypeId} {pos:String} {af:Array Edge} {g:Option (Nat×Bool)} {x:Operand}
end
def NC:List (List ByteArray)→List Value→Zi→Prop
  | [],cs,_=>cs.length=37∧okc cs
  | x::xs,cs,c=>∃ k n r ns ks cv e k1 k2 k3,cs=pkT k n r ns ks++[cv]∧cv.oneCell'=true∧Own 9 1 ns (Zcb x) k1∧Own 297 37 ks [e] k2∧NC xs e k3∧c=k1++(k2++k3)
theorem NC.len:∀ {xs:List (List ByteArray)} {cs:List Value} {c:Zi},NC xs cs c→cs.length=37
  | [],_,_,h=>h.1
  | _::_,_,_,⟨_,_,_,_,_,_,_,_,_,_,h,_⟩=>by rw [h];rfl
theorem NC.ok:∀ {xs:List (List ByteArray)} {cs:List Value} {c:Zi},NC xs cs c→okc cs
  | [],_,_,h=>h.2
  | _::_,_,_,⟨_,_,_,_,_,_,_,_,_,_,h,h1,h2,h3,_⟩=>by rw [h];exact Y5 (Ys h2.one h3.one) (Zg h1 Zq)
theorem B6 {a b a' vs:List Value} {off:Nat} (h:spl a off vs=some a'):spl (a++b) off vs=some (a'++b):=by
  obtain ⟨h1,h2⟩:=WP h
  rw [WZ (by rw [length_append];omega),h2,List.take_append_of_le_length (by omega),List.drop_append_of_le_length (by omega)]
  simp
theorem OA {a b b' vs:List Value} {n i:Nat} (hn:a.length=n) (h:spl b i vs=some b'):spl (a++b) (n+i) vs=some (a++b'):=by
  obtain ⟨h1,h2⟩:=WP h
  rw [WZ (by rw [length_append];omega),h2,← hn,List.take_length_add_append,Nat.add_assoc,List.drop_length_add_append]
  simp
theorem ZbG {P:Program} {f:FuncId} {a:Array Value} {M:List Zi} {H:Heap} {x r:Int} (h:CT P f a M H (fun v N=>v=.int .i64 x∧N=[])) (hr:x=r):CT P f a M H (fun v N=>v=.int .i64 r∧N=[]):=hr▸h
noncomputable def eqL {α:Type} (l m:List α):Bool:=@decide (l=m) (Classical.propDecidable _)
theorem WT {α:Type} {l m:List α} (h:l=m):eqL l m=true:=by unfold eqL;simp [h]
theorem TF {α:Type} {l m:List α} (h:¬ l=m):eqL l m=false:=by unfold eqL;simp [h]
theorem VX {P:Program} {f:FuncId} {a:Array Value} {M:List Zi} {H:Heap} {x r:Bool} (h:CT P f a M H (fun v N=>v=.bool x∧N=[])) (hr:x=r):CT P f a M H (fun v N=>v=.bool r∧N=[]):=hr▸h
section
variable {c:Cx} {H:Heap} {ρ:Nat→Value} {M:List Zi} {K:Value→List Zi→Prop} {d:Option Nat} {ot:TypeId} {pos:String} {af:Array Edge} {g:Option (Nat×Bool)} {x y:Operand}
end
theorem Kl {t:Tm} (h:(cnT stG 0 t 0).1=false):sizeT t≤400:=by
  have h1:=Ul t 0 0 h
  have h2:=Bl t 0 0 h
  omega
theorem R1 {t:Tm} (h:Zx 60 8 t=0):sizeT t≤300∧vOK t∧Iu t:=by
  have:=Hq (by rw [S7];exact h:XR 60 8 t=0)
  exact ⟨this.1,this.2.1,this.2.2.1⟩
theorem Kc {d d' m m' b b' k n:Int} {r:Sm} {l lc:Nat} (h:Xb d m b k n r l lc=0) (hv:k=1→n<b'∨n-b'<d') (hm:m≤m'):Xb d' m' b' k n r l lc=0:=by
  unfold Xb at h ⊢
  by_cases h1:k<1∨12<k
  · rw [if_pos h1] at h;cases h
  rw [if_neg h1] at h ⊢
  by_cases h2:((Xj k=false∧¬ n=0)∨(Y8 k=false∧¬ r=zS))∨(¬ k=9∧0<(lc:Int))
  · rw [if_pos h2] at h;cases h
  rw [if_neg h2] at h ⊢
  by_cases h3:((l:Int)<loK k∨hiK k<(l:Int))∨8<(lc:Int)
  · rw [if_pos h3] at h;cases h
  rw [if_neg h3] at h ⊢
  by_cases h4:((k=2∧(n<0∨1073741824<n))∨(k=10∧(n<1∨5<n)))∨((k=8∨k=11)∧(n<0∨7<n))
  · rw [if_pos h4] at h;cases h
  rw [if_neg h4] at h ⊢
  by_cases h5:(k=1∧(n<0∨(b≤n∧d≤n-b)))∨(k=7∧(n<0∨m≤n))
  · rw [if_pos h5] at h;cases h
  rw [if_neg (by
    rintro (⟨e,h6⟩ | ⟨e,h6⟩)
    · have:=hv e;omega
    · omega)]
theorem nErr_iff {d m b k n:Int} {r:Sm} {kids:List Tm} {cases:List (Pt×Tm)}:Y6 d m b (.mk k n r kids cases)=0↔Xb d m b k n r kids.length cases.length=0∧XD cases=0∧YQ d m b k 0 kids=0∧YX d m b cases=0:=by
  rw [Y6]
  constructor
  · intro h
    split at h
    · split at h
      · split at h
        · exact ⟨by assumption,by assumption,by assumption,h⟩
        · rename_i h0;exact absurd h h0
      · rename_i h0;exact absurd h h0
    · rename_i h0;exact absurd h h0
  · rintro ⟨h1,h2,h3,h4⟩
    rw [if_pos h1,if_pos h2,if_pos h3,h4]
theorem nErrK_cons {d m b k:Int} {i:Nat} {t:Tm} {l:List Tm}:YQ d m b k i (t::l)=0↔Y6 d m (b+more k i) t=0∧YQ d m b k (i+1) l=0:=by
  rw [YQ]
  constructor
  · intro h
    split at h
    · exact ⟨by assumption,h⟩
    · rename_i h0;exact absurd h h0
  · rintro ⟨h1,h2⟩;rw [if_pos h1,h2]
theorem nErrC_cons {d m b:Int} {p:Pt} {t:Tm} {l:List (Pt×Tm)}:YX d m b ((p,t)::l)=0↔Y6 d m (b+(binds p:Int)) t=0∧YX d m b l=0:=by
  rw [YX]
  constructor
  · intro h
    split at h
    · exact ⟨by assumption,h⟩
    · rename_i h0;exact absurd h h0
  · rintro ⟨h1,h2⟩;rw [if_pos h1,h2]
theorem I1 {d d' m m':Int} (hd:d≤d') (hm:m≤m') (t:Tm):∀ b,Y6 d m b t=0→Y6 d' m' b t=0:=by
  induction t using Tm.ind with
  | h k n r kids cases ih ih'=>
    intro b h
    obtain ⟨h1,h2,h3,h4⟩:=nErr_iff.1 h
    have hK:∀ (l:List Tm),(∀ t∈l,∀ b,Y6 d m b t=0→Y6 d' m' b t=0)→∀ i,YQ d m b k i l=0→YQ d' m' b k i l=0:=by
      intro l
      induction l with
      | nil=>intro _ i _;simp [YQ]
      | cons t l ihl=>
        intro hl i hh
        obtain ⟨a1,a2⟩:=nErrK_cons.1 hh
        exact nErrK_cons.2 ⟨hl t (by simp) _ a1,ihl (fun x hx=>hl x (by simp [hx])) _ a2⟩
    have hC:∀ (l:List (Pt×Tm)),(∀ t∈l,∀ b,Y6 d m b t.2=0→Y6 d' m' b t.2=0)→YX d m b l=0→YX d' m' b l=0:=by
      intro l
      induction l with
      | nil=>intro _ _;simp [YX]
      | cons t l ihl=>
        obtain ⟨p,t⟩:=t
        intro hl hh
        obtain ⟨a1,a2⟩:=nErrC_cons.1 hh
        exact nErrC_cons.2 ⟨hl (p,t) (by simp) _ a1,ihl (fun x hx=>hl x (by simp [hx])) a2⟩
    exact nErr_iff.2 ⟨Kc h1 (fun e=>by subst e;have:=(OS h1).2.2.2;omega) hm,h2,hK kids ih 0 h3,hC cases ih' h4⟩
theorem checkR_iff {d m:Int} {t:Tm}:Zx d m t=0↔SM t=false∧Y6 d m 0 t=0:=by
  unfold Zx
  cases SM t <;> simp
theorem Lt {d d' m m':Int} (hd:d≤d') (hm:m≤m') {t:Tm} (h:Zx d m t=0):Zx d' m' t=0:=by
  rw [checkR_iff] at h ⊢
  exact ⟨h.1,I1 hd hm t 0 h.2⟩
theorem Bd (p:Pt):1≤SZ p:=by
  cases p with
  | mk k n r kids=>
    rw [SZ]
    have:0≤WV kids:=by
      induction kids with
      | nil=>rw [WV];omega
      | cons x l ih=>rw [WV];omega
    omega
section
variable {l:List Int} {f a c:Nat} {n:Int} {t:ByteArray} {a' c' w e w0:Int} {x:It}
end
section
variable {l:List Int} {f a c:Nat} {n:Int} {t:ByteArray} {a' c' e:Int} {x:It} {ok:Bool}
variable {w w0:Int}
end
theorem Oi {c:Cx} {H:Heap} {ρ:Nat→Value} {R:List Zi} {k₁ k₂:Zi} {Q:Post} {ops:Array Oper} {rest:List Oper} {d:Option Nat} {ot:TypeId} {pos:String} {af:Array Edge} {g:Option (Nat×Bool)} {x:Operand} {ars:List Operand} {ats:Array TypeId} {f:FuncId} {fv vs cv:List Value} {post:Value→List Zi→Prop}
    (hg:wnt ops c.n ρ ⟨d,.call {callee:=.value x,args:=ars.toArray,argTypes:=ats},ot,pos,af,g⟩=true)
    (hcall:∀ args w,(callFunc f args).run c.P w=.ok (.enter f args) w)
    (hx:ev c.n ρ x=.func (.func f) ⟨fv⟩ ⟨cv⟩)
    (hc:(∀ (j:Nat) k,R[j]?=some k→Has k (hu R.flatten H))→CT c.P f ⟨fv++vs++cv⟩ [k₁,k₂] (hu R.flatten H) post)
    (ha:ars.map (ev c.n ρ)=vs)
    (h:∀ v N,post v N→JL c H ops rest (XY ρ d v) (N++R) Q):
    JL c H ops (⟨d,.call {callee:=.value x,args:=ars.toArray,argTypes:=ats},ot,pos,af,g⟩::rest) ρ (k₁::k₂::R) Q:=
  Oh (M₁:=[k₁,k₂]) (M₂:=R) hg (Sa hx ha hcall) (by simp) hc h
section
variable {d m:Int} {t u:Tm} {r:Sm} {n:Int}
end
theorem B1 {P:Program} {f:FuncId} {args:Array Value} {H:Heap} {post:Value→List Zi→Prop} (h:CT P f args [] H post):CT P f args [[]] H (fun v N=>∃ N',post v N'∧N=[N'.flatten]):=fun F w m=>
  (h F w (by simpa using m)).mono fun e w' ⟨v,M',he,hm,hp⟩=>⟨v,[M'.flatten],he,hm.perm (List.Perm.of_eq (by simp)),M',hp,rfl⟩
def mxV (n:Nat) (b:Option Nat):Value:=match b with
  | some q=>.slice (some ⟨q,0,none⟩) n n
  | none=>.slice none 0 0
def mxR (Tb:TypeId):List (Option Nat)→List (List Bool)→Zi
  | some q::bs,r::rs=>(q,.cells ⟨bls r⟩ Tb (0,0))::mxR Tb bs rs
  | none::bs,_::rs=>mxR Tb bs rs
  | _,_=>[]
def mxC (Tr Tb:TypeId) (n b:Nat) (bs:List (Option Nat)) (rs:List (List Bool)):Zi:=(b,.cells ⟨bs.map (mxV n)⟩ Tr (0,0))::mxR Tb bs rs
theorem OW {Tb:TypeId} {bs:List (Option Nat)} {rs:List (List Bool)} {i q:Nat} (hl:bs.length=rs.length) (hi:bs[i]?=some (some q)):
    ∃ k₁ k₂,mxR Tb bs rs=k₁++(q,.cells ⟨bls (rs.getD i [])⟩ Tb (0,0))::k₂∧∀ r,mxR Tb bs (rs.set i r)=k₁++(q,.cells ⟨bls r⟩ Tb (0,0))::k₂:=by
  induction bs generalizing rs i with
  | nil=>cases hi
  | cons x bs ih=>
    cases rs with
    | nil=>cases hl
    | cons r0 rs=>
      cases i with
      | zero=>
        simp only [getElem?_cons_zero,Option.some.injEq] at hi
        subst hi
        exact ⟨[],mxR Tb bs rs,rfl,fun r=>rfl⟩
      | succ i=>
        simp only [getElem?_cons_succ] at hi
        obtain ⟨k₁,k₂,h1,h2⟩:=ih (by simpa using hl) hi
        cases x with
        | none=>exact ⟨k₁,k₂,h1,h2⟩
        | some q0=>exact ⟨(q0,.cells ⟨bls r0⟩ Tb (0,0))::k₁,k₂,by rw [mxR,h1];rfl,fun r=>by
            have:=h2 r
            rw [set_cons_succ,mxR,this];rfl⟩
theorem X6 {Tr Tb:TypeId} {n b:Nat} {bs:List (Option Nat)} {rs:List (List Bool)} {i q:Nat} (hl:bs.length=rs.length) (hi:bs[i]?=some (some q)):(q,Obj.cells ⟨bls (rs.getD i [])⟩ Tb (0,0))∈mxC Tr Tb n b bs rs:=by
  obtain ⟨k₁,k₂,h1,_⟩:=OW (Tb:=Tb) hl hi
  exact mem_cons_of_mem _ (by rw [h1];simp)
theorem FD {Tb:TypeId} {bs:List (Option Nat)} {rs:List (List Bool)} {i q:Nat} {r:List Bool} (hl:bs.length=rs.length) (hi:bs[i]?=some none):(mxR Tb (bs.set i (some q)) (rs.set i r)).Perm ((q,.cells ⟨bls r⟩ Tb (0,0))::mxR Tb bs rs):=by
  induction bs generalizing rs i with
  | nil=>cases hi
  | cons x bs ih=>
    cases rs with
    | nil=>cases hl
    | cons r0 rs=>
      cases i with
      | zero=>
        simp only [getElem?_cons_zero,Option.some.injEq] at hi
        subst hi
        exact List.Perm.refl _
      | succ i=>
        simp only [getElem?_cons_succ] at hi
        have:=ih (by simpa using hl) hi
        rw [set_cons_succ,set_cons_succ]
        cases x with
        | none=>exact this
        | some q0=>exact (List.Perm.cons _ this).trans (List.Perm.swap _ _ _)
section
variable {c:Cx} {H:Heap} {ρ:Nat→Value} {M:List Zi} {K:Value→List Zi→Prop} {d:Option Nat} {ot:TypeId} {pos:String} {af:Array Edge} {g:Option (Nat×Bool)} {x y:Operand}
theorem XW {T Tr Tb:TypeId} {n b i j q:Nat} {v:Bool} {bs:List (Option Nat)} {rs:List (List Bool)} (a:Nat) (ty:Ty c.P T false 1) (hi:M[a]?=some (mxC Tr Tb n b bs rs)) (hl:bs.length=rs.length) (hq:bs[i]?=some (some q)) (hj:j<(rs.getD i []).length)
    (hx:ev c.n ρ x=.pointer (some ⟨q,0+j*1,none⟩)) (hy:ev c.n ρ y=.bool v) (h:K undef (M.set a (mxC Tr Tb n b bs (rs.set i ((rs.getD i []).set j v))))):
    Runs c H ⟨d,.store T x y,ot,pos,af,g⟩ ρ M K:=by
  obtain ⟨k₁,k₂,h1,h2⟩:=OW (Tb:=Tb) hl hq
  refine Vt (k₁:=(b,.cells ⟨bs.map (mxV n)⟩ Tr (0,0))::k₁) (k₂:=k₂) ty hx hy rfl rfl (Zg rfl Zq) (hi.trans (congrArg some (by unfold mxC;rw [h1];rfl))) (Ra hj) ?_
  have:=h2 ((rs.getD i []).set j v)
  unfold mxC at h
  rw [this] at h
  exact h
end
def Zbn (t:Tm) (k:Int):Option Tm:=
  if k<0 then none else if k<(t.kids.length:Int) then t.kids[k.toNat]? else (t.cases[(k-t.kids.length).toNat]?).map (·.2)
def atT (t:Tm):List Int→Option Tm
  | []=>some t
  | k::l=>(Zbn t k).bind fun x=>atT x l
theorem Xf {α:Type} {l:List α} {j:Nat} {z:α} (h:j<l.length):l.getD j z=l[j]:=by
  rw [getD_eq_getElem?_getD,getElem?_eq_getElem h];rfl
def atR (t:Tm) (l:List Int):Tm×Int:=match atT t l with | some x=>(x,0) | none=>(zT,1)
theorem OTs.pick {l:List Tm}:∀ {es:List (List Value)} {c:Zi} {j:Nat} (_:OTs l es c) (hj:j<l.length),
    ∃ e k c',es[j]?=some e∧OT l[j] e k∧c.Perm (k++c')∧∀ x e' k',OT x e' k'→∃ c'',OTs (l.set j x) (es.set j e') c''∧(k'++c').Perm c'':=by
  induction l with
  | nil=>intro es c j _ hj;exact absurd hj (by simp)
  | cons y l ih=>
    intro es c j h hj
    rw [OTs] at h
    obtain ⟨e,es',k,c1,rfl,ho,hs,rfl⟩:=h
    cases j with
    | zero=>
      refine ⟨e,k,c1,rfl,ho,List.Perm.refl _,fun x e' k' hx=>⟨k'++c1,?_,List.Perm.refl _⟩⟩
      simp only [set_cons_zero];rw [OTs];exact ⟨e',es',k',c1,rfl,hx,hs,rfl⟩
    | succ j=>
      obtain ⟨e2,k2,c2,h1,h2,h3,h4⟩:=ih hs (by simpa using hj)
      refine ⟨e2,k2,k++c2,by simpa using h1,h2,?_,fun x e' k' hx=>?_⟩
      · refine (List.Perm.append_left k h3).trans ?_
        rw [← append_assoc,← append_assoc];exact List.perm_append_comm.append_right c2
      · obtain ⟨c3,h5,h6⟩:=h4 x e' k' hx
        refine ⟨k++c3,?_,?_⟩
        · simp only [set_cons_succ];rw [OTs];exact ⟨e,_,k,c3,rfl,ho,h5,rfl⟩
        · refine List.Perm.trans ?_ (List.Perm.append_left k h6)
          rw [← append_assoc,← append_assoc];exact List.perm_append_comm.append_right c2
theorem OCs.pick {l:List (Pt×Tm)}:∀ {es:List (List Value)} {c:Zi} {j:Nat} (_:OCs l es c) (hj:j<l.length),
    ∃ a b k c',es[j]?=some (a++b)∧a.length=35∧okc a∧OT l[j].2 b k∧c.Perm (k++c')∧∀ x b' k',OT x b' k'→∃ c'',OCs (l.set j (l[j].1,x)) (es.set j (a++b')) c''∧(k'++c').Perm c'':=by
  induction l with
  | nil=>intro es c j _ hj;exact absurd hj (by simp)
  | cons y l ih=>
    obtain ⟨p,y⟩:=y
    intro es c j h hj
    rw [OCs] at h
    obtain ⟨a,b,es',ka,kb,c1,rfl,hp,ho,hs,rfl⟩:=h
    cases j with
    | zero=>
      refine ⟨a,b,kb,ka++c1,rfl,hp.len,hp.ok,ho,?_,fun x e' k' hx=>⟨ka++(k'++c1),?_,?_⟩⟩
      · rw [← append_assoc,← append_assoc];exact List.perm_append_comm.append_right c1
      · simp only [set_cons_zero];rw [OCs];exact ⟨a,e',es',ka,k',c1,rfl,hp,hx,hs,rfl⟩
      · rw [← append_assoc,← append_assoc];exact List.perm_append_comm.append_right c1
    | succ j=>
      obtain ⟨a2,b2,k2,c2,h1,ha,hb,h2,h3,h4⟩:=ih hs (by simpa using hj)
      refine ⟨a2,b2,k2,(ka++kb)++c2,by simpa using h1,ha,hb,h2,?_,fun x e' k' hx=>?_⟩
      · rw [← append_assoc ka]
        refine (List.Perm.append_left (ka++kb) h3).trans ?_
        rw [← append_assoc,← append_assoc k2];exact List.perm_append_comm.append_right c2
      · obtain ⟨c3,h5,h6⟩:=h4 x e' k' hx
        refine ⟨ka++(kb++c3),?_,?_⟩
        · simp only [set_cons_succ];rw [OCs];exact ⟨a,b,_,ka,kb,c3,rfl,hp,ho,h5,rfl⟩
        · rw [← append_assoc ka kb c3]
          refine List.Perm.trans ?_ (List.Perm.append_left (ka++kb) h6)
          rw [← append_assoc,← append_assoc (ka++kb)];exact List.perm_append_comm.append_right c2
def pathR (H:Heap) (v:Value) (l:List Int):Prop:=∃ a cap,v=.slice a l.length cap∧l.length≤cap∧l.length≤9223372036854775807∧(l.length=0∨∃ b o row T fr,a=some ⟨b,o,none⟩∧H b=some (.cells ⟨row⟩ T fr)∧rows (RI H) 1 row o l)
theorem pathR.rd {H:Heap} {v:Value} {l:List Int} (h:pathR H v l):Hs.rdS RI 1 H v l:=by
  obtain ⟨a,cap,rfl,_,h2,h3⟩:=h
  exact ⟨a,cap,rfl,h2,h3⟩
theorem pathR.mono {H H':Heap} {v:Value} {l:List Int} (hh:Hle H H') (h:pathR H v l):pathR H' v l:=by
  obtain ⟨a,cap,rfl,h1,h2,h3⟩:=h
  refine ⟨a,cap,rfl,h1,h2,h3.imp id ?_⟩
  rintro ⟨b,o,row,T,fr,e1,e2,e3⟩
  exact ⟨b,o,row,T,fr,e1,hh _ _ e2,e3⟩
theorem pathR.own {T:TypeId} {v:Value} {l:List Int} {k:Zi} {h:Heap} (o:Own T 1 v (Z2 l) k) (hn:l.length≤9223372036854775807) (hk:Has k h):pathR h v l:=by
  have hr:=Yn o hn hk
  rcases o.2 with ⟨rfl,h1,_⟩ | ⟨b,cap,sp,rfl,rfl,h3,h4⟩
  · have:l=[]:=by cases l;rfl;simp [Z2] at h1
    subst this;exact ⟨none,0,rfl,by simp,by simp,.inl rfl⟩
  · rw [Zt] at hr h4 ⊢
    obtain ⟨a,c,e,q1,q2⟩:=hr
    cases e
    exact ⟨_,_,rfl,h4,q1,q2⟩
theorem pathR.tail {H:Heap} {v:Value} {l:List Int} (h:pathR H v l) (hl:0<l.length) {a:Option Addr} {n cap:Nat} (hv:v=.slice a n cap):
    1≤n∧pathR H (.slice (if cap=1 then a else a.map (·.add (1*1))) (n-1) (cap-1)) l.tail:=by
  obtain ⟨a',cap',e,h1,h2,h3⟩:=h
  rw [hv] at e;cases e
  refine ⟨hl,_,_,by rw [List.length_tail],by rw [List.length_tail];omega,by rw [List.length_tail];omega,?_⟩
  cases l with
  | nil=>exact absurd hl (by simp)
  | cons x l=>
    simp only [List.tail_cons]
    by_cases h0:l.length=0
    · exact .inl h0
    right
    have hc:¬ cap=1:=by intro e;subst e;simp only [length_cons] at h1;omega
    rcases h3 with h3 | ⟨b,o,row,T,fr,rfl,e2,e3⟩
    · simp at h3
    · refine ⟨b,o+1,row,T,fr,?_,e2,e3.2⟩
      rw [if_neg hc];simp [Addr.add]
theorem N0 {sz o:Nat} {es:List (List Value)} {sp e vs e2:List Value} (h:∀ e∈es,e.length=sz) (hs:spl e o vs=some e2):∀ i,es[i]?=some e→spl (es.flatten++sp) (i*sz+o) vs=some ((es.set i e2).flatten++sp):=by
  induction es with
  | nil=>intro i he;simp at he
  | cons x es ih=>
    intro i he
    cases i with
    | zero=>
      have:x=e:=by simpa using he
      subst this
      rw [Nat.zero_mul,Nat.zero_add,flatten_cons,set_cons_zero,flatten_cons,append_assoc,append_assoc]
      exact B6 hs
    | succ i=>
      have:=ih (fun y hy=>h y (by simp [hy])) i (by simpa using he)
      rw [Nat.succ_mul,Nat.add_comm (i*sz) sz,Nat.add_assoc,flatten_cons,set_cons_succ,flatten_cons,append_assoc,append_assoc]
      exact OA (h x (by simp)) this
theorem Sub.mid {M:List Zi} {a b c d:Zi} (h:Sub [a++(b++d)] M) (e:b.Perm c):Sub [a++(c++d)] M:=h.perm (by
  simp only [flatten_cons,flatten_nil,append_nil]
  exact (e.append_right d).append_left a)
section
variable {c:Cx} {H:Heap} {ρ:Nat→Value} {M:List Zi} {K:Value→List Zi→Prop} {d:Option Nat} {ot:TypeId} {pos:String} {af:Array Edge} {g:Option (Nat×Bool)} {x y:Operand}
theorem Oc {T:TypeId} {i j sz sz' o b:Nat} {ag:Bool} {v s:Value} {es:List (List Value)} {e vs e2:List Value} {k:Zi} {el:TypeId} (ty:Ty c.P T ag sz')
    (hi:M[i]?=some k) (ho:Own el sz s es k) (hs:∃ n cap,s=.slice (some ⟨b,0,none⟩) n cap) (hx:ev c.n ρ x=.pointer (some ⟨b,0+j*sz+o,none⟩)) (he:es[j]?=some e) (hy:ev c.n ρ y=v) (hv:v.cells=⟨vs⟩) (hn:vs.length=sz') (hok:okc vs)
    (hl:spl e o vs=some e2) (hl2:e2.length=sz) (h:∀ k',Own el sz s (es.set j e2) k'→K undef (M.set i k')):
    Runs c H ⟨d,.store T x y,ot,pos,af,g⟩ ρ M K:=by
  obtain ⟨n,cap',hs⟩:=hs
  rcases ho.2 with ⟨e1,h2,e3⟩ | ⟨b',cap,sp,e1,h2,e3,e4⟩
  · subst h2;simp at he
  · rw [e1] at hs
    cases hs
    subst h2
    rw [Nat.zero_add] at hx
    refine Vt (k₁:=[]) (k₂:=[]) ty hx hy hv hn hok hi (N0 ho.1 hl j he) (h _ ⟨fun a ha=>?_,.inr ⟨b,cap',sp,by rw [e1,length_set],rfl,by rw [length_set];exact e3,by rw [length_set];exact e4⟩⟩)
    rcases List.mem_or_eq_of_mem_set ha with ha | ha
    · exact ho.1 a ha
    · subst ha;exact hl2
end
section
variable {c:Cx} {H:Heap} {ρ:Nat→Value} {M:List Zi} {K:Value→List Zi→Prop} {d:Option Nat} {ot:TypeId} {pos:String} {af:Array Edge} {g:Option (Nat×Bool)} {x y:Operand}
end
theorem ZbM (k n k' n':Int) (r r':Sm) (l l':List Pt):(((decide (k=k'))&&((decide (n=n'))&&(decide (r=r'))))&&(decide (l=l')))=decide (Pt.mk k n r l=Pt.mk k' n' r' l'):=by
  rw [Bool.eq_iff_iff];simp [and_assoc]
theorem Zcp (k n:Int) (r:Sm) (l:List Pt) (q:Pt):(((decide (k=q.kind))&&((decide (n=q.num))&&(decide (r=q.ref))))&&(decide (l=q.kids)))=decide (Pt.mk k n r l=q):=by
  cases q;exact ZbM ..
section
variable {P:Program} {e:Operand→Value} {i:Oper}
end
theorem ZbY (k n:Int) (r:Sm):∀ w,(Instr.build 243 ⟨[(0,.int .i64 k),(1,.int .i64 n),(2,.agg ⟨sC r⟩)]⟩).run prog w=.ok (.agg ⟨[.int .i64 k,.int .i64 n]++sC r⟩) w:=
  Z6 zeroValue243 runUnderlying243 Zbg (by kernel_rfl)
theorem AS (k n:Int) (r:Sm) (w:World):(part 3 ⟨[.int .i64 k,.int .i64 n]++sC r⟩ 0).run prog w=.ok (.int .i64 k) w:=by
  simp [part,isAgg,runUnderlying3]
theorem AR (k n:Int) (r:Sm) (w:World):(part 3 ⟨[.int .i64 k,.int .i64 n]++sC r⟩ 1).run prog w=.ok (.int .i64 n) w:=by
  simp [part,isAgg,runUnderlying3]
theorem AQ (k n:Int) (r:Sm) (w:World):(part 38 ⟨[.int .i64 k,.int .i64 n]++sC r⟩ 2).run prog w=.ok (.agg ⟨sC r⟩) w:=by
  have h:(⟨[.int .i64 k,.int .i64 n]++sC r⟩:Array Value).extract 2 (2+32)=⟨sC r⟩:=by
    apply Array.toList_inj.1
    simpa using take_of_length_le (by rw [VP];decide)
  simp only [part,Sem.run_bind,isAgg38,Result.andThen_ok,if_true,sizeOf38,Sem.run_pure,h]
theorem eqK {e:Operand→Value} {d:Option Nat} {ot:TypeId} {pos:String} {af:Array Edge} {g:Option (Nat×Bool)} {T':TypeId} {x y:Operand} {a b a' b':Int} {r s:Sm}
    (hx:e x=.agg ⟨[.int .i64 a,.int .i64 b]++sC r⟩) (hy:e y=.agg ⟨[.int .i64 a',.int .i64 b']++sC s⟩):
    Pu prog e ⟨d,.binOp .eql 243 x y T',ot,pos,af,g⟩ (.bool (decide (a=a')&&(decide (b=b')&&decide (r=s)))):=fun w=>by
  have hg:=run_eqGuard_agg (P:=prog) w .eql 243 x y ⟨[.int .i64 a,.int .i64 b]++sC r⟩ ⟨[.int .i64 a',.int .i64 b']++sC s⟩ (by kernel_rfl)
  have hF:prog.underlying 243=some (.struct (prog.fieldsOf 243)):=by simp only [Program.fieldsOf,underlying243]
  have hL:∃ f1 f2 f3:Field,(prog.fieldsOf 243).toList=[f1,f2,f3]∧f1.name≠ "_" ∧f1.type=3∧f1.offset=0∧f2.name≠ "_" ∧f2.type=3∧f2.offset=1∧f3.name≠ "_" ∧f3.type=38∧f3.offset=2:=by
    simp only [Program.fieldsOf,underlying243]
    exact ⟨_,_,_,rfl,by decide,rfl,rfl,by decide,rfl,rfl,by decide,rfl,rfl⟩
  obtain ⟨f1,f2,f3,hl,n1,t1,o1,n2,t2,o2,n3,t3,o3⟩:=hL
  simp only [execOp,hx,hy,Sem.run_bind]
  rw [hg,Result.andThen_ok,run_eql_struct,run_equalIn_struct w 9999 243 _ _ hF (by kernel_rfl),hl]
  have hs:=run_equalIn_bytes (P:=prog) w 9997 38 _ 32 underlying38 underlying5 sizeOf5 r.toList s.toList (by simp) (by simp)
  rw [← U5,← U5] at hs
  have hd:(r.toList==s.toList)=decide (r=s):=by
    rw [Bool.eq_iff_iff];simp
  rw [hd] at hs
  change (Op.equalIn 9999 38 (.agg ⟨sC r⟩) (.agg ⟨sC s⟩)).run prog w=_ at hs
  have hi:∀ u v:Int,(Op.equalIn 9999 3 (.int .i64 u) (.int .i64 v)).run prog w=.ok (u==v) w:=fun u v=>run_equalIn_int w 9998 3 .i64 .i64 u v underlying3
  simp only [Op.eqFields,n1,n2,n3,t1,t2,t3,o1,o2,o3,if_true,ne_eq,not_false_eq_true,Sem.run_bind,Sem.run_ite,AS,AR,AQ,Result.andThen_ok,hi,hs,Sem.run_pure]
  by_cases h1:a=a' <;> by_cases h2:b=b' <;> by_cases h3:r=s <;> simp [h1,h2,h3]
def RB (_:Heap) (cs:List Value) (n:Int):Prop:=cs=[.int .u8 n]
theorem RBs.mono {h h':Heap} (hh:Hle h h') {v:Value} {l:List Int} (q:Hs.rdS RB 1 h v l):Hs.rdS RB 1 h' v l:=rdS.mono q hh fun _ _ _ e=>e
def Yk (l:List Int):List (List Value):=l.map fun n=>[.int .u8 n]
theorem Z8 (l:List Int):(Yk l).length=l.length:=by simp [Yk]
theorem Um (l:List Int):∀ e∈Yk l,e.length=1:=by
  intro e he;obtain ⟨x,_,rfl⟩:=mem_map.1 he;rfl
theorem S8 (l:List Int):∀ e∈Yk l,okc e:=by
  intro e he v hv;obtain ⟨x,_,rfl⟩:=mem_map.1 he;simp only [mem_singleton] at hv;subst hv;rfl
theorem RM (l:List Int):∀ e∈Z2 l,e.length=1:=by
  intro e he;obtain ⟨x,_,rfl⟩:=mem_map.1 he;rfl
theorem JF (l:List Int):∀ e∈Z2 l,okc e:=by
  intro e he v hv;obtain ⟨x,_,rfl⟩:=mem_map.1 he;simp only [mem_singleton] at hv;subst hv;rfl
theorem Cu {P:Program} {H:Heap} {v:Value} {l:List Int} {E:Heap→List Value→Int→Prop} {f:Int→Value} (hE:∀ h cs x,E h cs x→cs=[f x]) (h:Hs.rdS E 1 H v l):∀ w L,Mem w L H→Src P 1 w v l.length (l.map fun n=>[f n]).flatten:=by
  obtain ⟨es,e1,e2,e3,e4⟩:=rdS.src (P:=P) h
  have:es=l.map fun n=>[f n]:=by
    apply ext_getElem
    · rw [e1,length_map]
    · intro i h1 h2
      have:=hE _ _ _ (e2 i h1 (by omega))
      rw [this,getElem_map]
  subst this
  intro w L m
  exact e4 w L H (Hle.refl _) m
theorem P1 {P:Program} {H:Heap} {v:Value} {l:List Int} (h:Hs.rdS RB 1 H v l):∀ w L,Mem w L H→Src P 1 w v l.length (Yk l).flatten:=Cu (fun _ _ _ e=>e) h
theorem WR {T:TypeId} {v:Value} {l:List Int} {k:Zi} {h:Heap} (o:Own T 1 v (Yk l) k) (hn:l.length≤9223372036854775807) (hk:Has k h):Hs.rdS RB 1 h v l:=
  o.rdS (Z8 l).symm hn hk fun i h1 h2=>by simp [Yk,RB]
theorem D9 {E:Heap→List Value→Int→Prop} {sz:Nat} {h:Heap} {v:Value} {l:List Int} {a:Option Addr} {n cap:Nat} (r:Hs.rdS E sz h v l) (hv:v=.slice a n cap) (ha:a.isNone=true):l=[]:=by
  obtain ⟨a',c',e,_,h0 | ⟨b,o,row,T,fr,e1,_⟩⟩:=r
  · exact eq_nil_of_length_eq_zero h0
  · rw [hv] at e;cases e;subst e1;cases ha
section
variable {P:Program} {e:Operand→Value} {d:Option Nat} {ot:TypeId} {pos:String} {af:Array Edge} {g:Option (Nat×Bool)} {T T':TypeId} {x y z:Operand}
theorem Qp {el:TypeId} {a:Option Addr} {n c n' c':Nat} (m:Nat) (w:World) (hT:∀ w,(underlying T).run P w=.ok (.slice el) w):(Op.equalIn (m+1) T (.slice a n c) (.slice none n' c')).run P w=.ok a.isNone w:=by
  cases a <;> simp [Op.equalIn,hT]
theorem Zdp {el:TypeId} {a:Option Addr} {n c n' c':Nat} (hT:∀ w,(underlying T).run P w=.ok (.slice el) w) (hx:e x=.slice a n c) (hy:e y=.slice none n' c'):Pu P e ⟨d,.binOp .eql T x y T',ot,pos,af,g⟩ (.bool a.isNone):=fun w=>by
  have:=Qp (P:=P) (a:=a) (n:=n) (c:=c) (n':=n') (c':=c') 9999 w hT
  simp only [execOp,hx,hy,eqGuard,binOp,Op.equal,Op.maxDepth]
  simp [this]
end
theorem EB (zs:List Int):∀ j,j<zs.length→zs.toArray[j]! ∈Lib.compact zs:=by
  intro j
  induction j with
  | zero=>intro h;unfold Lib.compact Lib.compactUpTo;exact mem_map.2 ⟨0,mem_filter.2 ⟨mem_range.2 h,by simp [Lib.keeps]⟩,rfl⟩
  | succ j ih=>
    intro h
    by_cases e:zs.toArray[j+1]! =zs.toArray[j]!
    · rw [e];exact ih (by omega)
    · unfold Lib.compact Lib.compactUpTo
      refine mem_map.2 ⟨j+1,mem_filter.2 ⟨mem_range.2 h,?_⟩,rfl⟩
      unfold Lib.keeps
      simp only [decide_eq_true_eq]
      right;exact e
theorem EC (zs:List Int) (x:Int):x∈Lib.compact zs↔x∈zs:=by
  constructor
  · intro h
    unfold Lib.compact Lib.compactUpTo at h
    obtain ⟨i,hi,rfl⟩:=mem_map.1 h
    have:=mem_range.1 (mem_filter.1 hi).1
    simp [this]
  · intro h
    obtain ⟨j,hj,rfl⟩:=List.getElem_of_mem h
    have:=EB zs j hj
    simpa [hj] using this
abbrev Hd:=Int×Sm
def srt (k:Int):Int:=if k=6 then 6 else if k=8 then 8 else if k=11∨k=12 then 11 else 0
def Zcs (l:List Hd) (h:Hd):List Hd:=if h∈l then l else l++[h]
def hd0 (k:Int) (r:Sm) (l:List Hd):List Hd:=if srt k=0 then l else Zcs l (srt k,r)
structure L3 where
  a:List Sm
  b:List Sm
  c:List Sm
theorem OPs.take {l:List Pt} {es:List (List Value)} {c:Zi} {j:Nat} (h:OPs (l.drop j) (es.drop j) c) (hj:j<l.length):
    ∃ e k c',es[j]?=some e∧OP l[j] e k∧c=k++c'∧∀ x,OPs (l.drop (j+1)) ((es.set j x).drop (j+1)) c':=by
  rw [drop_eq_getElem_cons hj,OPs] at h
  obtain ⟨e,es',k,c',h1,h2,h3,h4⟩:=h
  have hj':es[j]?=some e:=by
    have:=congrArg (fun l=>l[0]?) h1
    simpa [getElem?_drop] using this
  refine ⟨e,k,c',hj',h2,h4,fun x=>?_⟩
  rw [List.drop_set_of_lt (by omega)]
  have:es.drop (j+1)=es':=by rw [← drop_drop,h1];rfl
  rw [this];exact h3
theorem Zdq {l:List (Pt×Tm)} {es:List (List Value)} {c:Zi} {j:Nat} (h:OCs (l.drop j) (es.drop j) c) (hj:j<l.length):
    ∃ a b ka kb c',es[j]?=some (a++b)∧OP (l[j]).1 a ka∧OT (l[j]).2 b kb∧c=ka++(kb++c')∧∀ x,OCs (l.drop (j+1)) ((es.set j x).drop (j+1)) c':=by
  rw [drop_eq_getElem_cons hj] at h
  cases hlj:l[j] with
  | mk p t=>
    rw [hlj,OCs] at h
    obtain ⟨a,b,es',ka,kb,c',h1,h2,h3,h4,h5⟩:=h
    have hj':es[j]?=some (a++b):=by
      have:=congrArg (fun l=>l[0]?) h1
      simpa [getElem?_drop] using this
    refine ⟨a,b,ka,kb,c',hj',h2,h3,h5,fun x=>?_⟩
    rw [List.drop_set_of_lt (by omega)]
    have:es.drop (j+1)=es':=by rw [← drop_drop,h1];rfl
    rw [this];exact h4
theorem Mt {es:List (List Value)} {x e:List Value} {j:Nat} (h:es[j]?=some e):(es.set j x).take (j+1)=es.take j++[x]:=by
  have hj:=(List.getElem?_eq_some_iff.1 h).1
  rw [take_succ_eq_append_getElem (by simpa using hj),List.take_set_of_le (by omega)]
  simp
def RSm (_:Heap) (cs:List Value) (r:Sm):Prop:=cs=sC r
theorem RSms.mono {h h':Heap} (hh:Hle h h') {v:Value} {l:List Sm} (q:Hs.rdS RSm 32 h v l):Hs.rdS RSm 32 h' v l:=rdS.mono q hh fun _ _ _ e=>e
def sms (l:List Sm):List (List Value):=l.map sC
theorem WN (l:List Sm):(sms l).length=l.length:=by simp [sms]
theorem Mx (l:List Sm) (r:Sm):sms (l++[r])=sms l++[sC r]:=by simp [sms]
theorem DW (l:List Sm) (j:Nat) (h:j<l.length):(sms l)[j]'(by rw [WN];exact h)=sC l[j]:=by simp [sms]
theorem Wi {T:TypeId} {v:Value} {l:List Sm} {k:Zi} {h:Heap} (o:Own T 32 v (sms l) k) (hn:l.length≤9223372036854775807) (hk:Has k h):Hs.rdS RSm 32 h v l:=
  o.rdS (WN l).symm hn hk fun i h1 h2=>by simp [sms,RSm]
section
attribute [local irreducible] JL J CT wlo DT
theorem Cz (k j:Int) (H:Heap):CT prog 216 ⟨[iv k,iv j]⟩ [] H (fun v N=>v=iv (more k j)∧N=[]):=by
 refine Zl func216 rfl rfl<|Zc<|JAn rfl<|Zf<|Zh<|Zf<|Zc<|JLM rfl<|JLn (Pu.eql rfl rfl)<|JLA rfl ?_
 refine Za<|ZF rfl (fun h1=>?_) (fun h1=>?_)
 ·refine Zk<|Zs rfl (fun _=>?_) (fun h2=>absurd h1 (df h2))
  refine Zc<|JAn rfl<|ZC (iv 1) [] Sub.nil (?_)
  exact ⟨by first | (simp_all [more];done) | (congr 1;unfold more;simp_all;try omega),rfl⟩
 refine Zc<|JLM rfl<|JLn (Pu.eql rfl rfl)<|JLM rfl<|ZA 2 [11,12] [(12,cond (decide (k=5)) (.bool (decide (j=1))) undef)] ?_ fun f4=>?_
 ·cases h3:(decide (k=5)) with
  | true=>
   replace h3:=dt h3
   refine JLM rfl<|JLn (Pu.eql rfl rfl) ?_
   exact Za ⟨⟨rfl,trivial⟩,rfl⟩
  | false=>
   exact ZJ rfl ⟨rfl,trivial⟩
 refine JLn (ZcA rfl rfl rfl)<|JAn rfl<|Zs rfl (fun h5=>?_) (fun h5=>?_)
 ·obtain ⟨h5a,h5b⟩:=Xa h5
  replace h5a:=dt h5a
  replace h5b:=dt h5b
  refine Zk<|Zs rfl (fun h6=>?_) (fun h6=>?_)
  ·obtain ⟨h6a,h6b⟩:=Xa h6
   replace h6a:=dt h6a
   replace h6b:=dt h6b
   refine Zc<|JAn rfl<|ZC (iv 1) [] Sub.nil (?_)
   exact ⟨by first | (simp_all [more];done) | (congr 1;unfold more;simp_all;try omega),rfl⟩
  refine Zc<|JLM rfl<|JLn (Pu.eql rfl rfl)<|JLM rfl<|ZA 2 [24,25] [(25,cond (decide (k=12)) (.bool (decide (1<j))) undef)] ?_ fun f8=>?_
  ·cases h7:(decide (k=12)) with
   | true=>
    replace h7:=dt h7
    refine JLM rfl<|JLn (Pu.gtr rfl rfl) ?_
    exact Za ⟨⟨rfl,trivial⟩,rfl⟩
   | false=>
    exact ZJ rfl ⟨rfl,trivial⟩
  refine JLn (ZcA rfl rfl rfl)<|JAn rfl<|Zs rfl (fun h9=>?_) (fun h9=>?_)
  ·obtain ⟨h9a,h9b⟩:=Xa h9
   replace h9a:=dt h9a
   replace h9b:=dt h9b
   refine Zc<|JAn rfl<|ZC (iv 2) [] Sub.nil (?_)
   exact ⟨by first | (simp_all [more];done) | (congr 1;unfold more;simp_all;try omega),rfl⟩
  refine Zk<|Zc<|JAn rfl<|ZC (iv 0) [] Sub.nil (?_)
  exact ⟨by first | (simp_all [more];done) | (congr 1;unfold more;simp_all;try omega),rfl⟩
 refine Zd<|JLM rfl<|JLn (Pu.eql rfl rfl)<|JLM rfl<|ZA 2 [17,18] [(18,cond (decide (k=12)) (.bool (decide (j=1))) undef)] ?_ fun f11=>?_
 ·cases h10:(decide (k=12)) with
  | true=>
   replace h10:=dt h10
   refine JLM rfl<|JLn (Pu.eql rfl rfl) ?_
   exact Za ⟨⟨rfl,trivial⟩,rfl⟩
  | false=>
   exact ZJ rfl ⟨rfl,trivial⟩
 refine JLn (ZcA rfl rfl rfl)<|JAn rfl<|Zs rfl (fun h12=>?_) (fun h12=>?_)
 ·obtain ⟨h12a,h12b⟩:=Xa h12
  replace h12a:=dt h12a
  replace h12b:=dt h12b
  refine Zc<|JAn rfl<|ZC (iv 1) [] Sub.nil (?_)
  exact ⟨by first | (simp_all [more];done) | (congr 1;unfold more;simp_all;try omega),rfl⟩
 refine Zc<|JLM rfl<|JLn (Pu.eql rfl rfl)<|JLM rfl<|ZA 2 [24,25] [(25,cond (decide (k=12)) (.bool (decide (1<j))) undef)] ?_ fun f14=>?_
 ·cases h13:(decide (k=12)) with
  | true=>
   replace h13:=dt h13
   refine JLM rfl<|JLn (Pu.gtr rfl rfl) ?_
   exact Za ⟨⟨rfl,trivial⟩,rfl⟩
  | false=>
   exact ZJ rfl ⟨rfl,trivial⟩
 refine JLn (ZcA rfl rfl rfl)<|JAn rfl<|Zs rfl (fun h15=>?_) (fun h15=>?_)
 ·obtain ⟨h15a,h15b⟩:=Xa h15
  replace h15a:=dt h15a
  replace h15b:=dt h15b
  refine Zc<|JAn rfl<|ZC (iv 2) [] Sub.nil (?_)
  exact ⟨by first | (simp_all [more];done) | (congr 1;unfold more;simp_all;try omega),rfl⟩
 refine Zk<|Zc<|JAn rfl<|ZC (iv 0) [] Sub.nil (?_)
 exact ⟨by first | (simp_all [more];done) | (congr 1;unfold more;simp_all;try omega),rfl⟩
theorem X9 (n lo hi:Int) (H:Heap):CT prog 211 ⟨[iv n,iv lo,iv hi]⟩ [] H (fun v N=>v=.bool (decide (n<lo∨hi<n))∧N=[]):=by
 refine Zl func211 rfl rfl<|Zc<|JAn rfl<|Zc<|JLM rfl<|JLM rfl<|JLn (Pu.lss rfl rfl)<|JLM rfl<|ZA 3 [11,12,13] [(13,cond (decide (n<lo)) undef (.bool (decide (hi<n))))] ?_ fun f2=>?_
 ·cases h1:(decide (n<lo)) with
  | false=>
   replace h1:=df h1
   refine JLM rfl<|JLM rfl<|JLn (Pu.gtr rfl rfl) ?_
   exact Za ⟨⟨rfl,trivial⟩,rfl⟩
  | true=>
   exact ZJ rfl ⟨rfl,trivial⟩
 refine JLn (ZcC rfl rfl rfl)<|JAn rfl<|ZC (.bool ((decide (n<lo))||(decide (hi<n)))) [] Sub.nil (?_)
 exact ⟨by simp,rfl⟩
theorem E7:∀ (p:Pt) (cs:List Value) (H:Heap),RP H cs p→binds p≤1000000→CT prog 217 ⟨[.agg ⟨cs⟩]⟩ [] H (fun v N=>v=iv (binds p:Int)∧N=[]):=by
 intro p
 induction p using Pt.ind with
 | h kind num ref kids ih=>
 intro cs H hp hb
 obtain ⟨ks,rfl,hk,hn,hks⟩:=RP_mk.1 hp
 rw [binds] at hb ⊢
 refine Zl func217 rfl rfl<|Zc<|JLr (Zr (l:=pkP kind num ref ks) rfl rfl fun b1=>JAn rfl<|Zf<|Zc<|JLq (pp b1 0) (Yr rfl rfl)<|JLr (Zb ty3 rfl (Zcu 0 rfl) (Xp ..)<|JLn (Pu.eql rfl rfl)<|Za ?_))
 refine ZF rfl (fun h2=>?_) (fun h2=>?_)
 ·refine Zc<|JAn rfl<|ZC (iv 1) [] Sub.nil (?_)
  exact ⟨by rw [if_pos (by assumption)];rfl,rfl⟩
 refine Zk<|Zc<|JAn rfl<|Zf<|Zc<|JLq (pp b1 34) (Z5 rfl rfl)<|JLr (Zb YB rfl (Zcu 0 rfl) (Yo ..) ?_)
 obtain ⟨a3,cap3,hv3⟩:=hks.sl
 have hle3:=hks.le
 refine JLn (Zcv Yt hv3)<|JLM rfl<|Za<|Zh<|Zv (fun k ρ M=>∃ (j:Nat),ρ 2=iv 0∧ρ 3=iv ((Xy (kids.take j):Int))∧ρ 10=ks∧ρ 11=iv ((kids.length:Int))∧ρ 12=iv ((j:Int))∧Sub [(BX b1 (pkP kind num ref ks) 115)] M∧j≤kids.length∧k=kids.length-j) _ ⟨0,rfl,rfl,rfl,rfl,rfl,(Sk Sub.nil),Nat.zero_le _,rfl⟩ ?_
 rintro _ ρ4 _ ⟨j,e5,e6,e7,e8,e9,hm10,hj,rfl⟩
 obtain ⟨ρ11,rfl⟩:=Zo (uc e5 (uc e6 (uc e7 (uc e8 (uc e9 un)))))
 clear e5 e6 e7 e8 e9
 refine ZD hm10 ?_
 have hlen:=hks.le
 refine Zc<|JLn (Pu.lss rfl rfl)<|Za<|Zf<|ZF rfl (fun h12=>?_) (fun h12=>?_)
 ·have h12n:j<kids.length:=by omega
  have hm1:=Nh kids _ (getElem_mem h12n)
  have hm2:=Qj kids _ h12n
  have hm3:=Tk kids (j+1)
  rw [if_neg (by assumption)] at hb
  refine Zk<|Zf<|Zh<|Zf<|Zd ?_
  obtain ⟨b13,o13,cap13,row13,T13,fr13,cs13,hv13,hb13,hs13,hE13⟩:=hks.get j (by omega)
  refine JLn (Zcw j Yt ZU hv13 rfl rfl (by omega))<|JLr (Zn ZU rfl (Zcx hb13) hs13<|JLr (Zp (l:=pkP 0 0 zS nS) zeroValue115 rfl fun b14=>JLr (Ze 0 (vs:=cs13) (l:=cs13) ZU rfl rfl rfl rfl (ZN hE13) (Ur hE13) (Yb (n:=35) rfl (ZN hE13))<|Za<|Zd<|JLM rfl<|JLr (Zn ZU rfl (Zcu 0 rfl) (ZE (ZN hE13))<|Jc call217 rfl (fun hin=>ih _ (getElem_mem h12n) _ _ (RP.mono (Hle.hu _ _) hE13) (by omega)) rfl ?_))))
  rintro _ _ ⟨rfl,rfl⟩
  refine JLn (ZcG rfl rfl (by first | omega | (constructor <;> omega)))<|JAn rfl<|Zd<|JLn (Zcy rfl rfl (by omega))<|JLM rfl<|Za<|⟨_,?_,(j+1),rfl,(ieq rfl (by omega)),rfl,rfl,rfl,(Sd (Sk Sub.nil)),?_,rfl⟩
  ·omega
  omega
 have h12n:kids.length≤j:=by omega
 refine Zu _ rfl<|Zc<|JLM rfl<|JAn rfl<|ZC (iv ((Xy (kids.take j):Int))) [] Sub.nil (?_)
 exact ⟨by rw [if_neg (by assumption),take_of_length_le h12n],rfl⟩
theorem FF (k j:Int) (H:Heap):CT prog 138 ⟨[iv k,iv j]⟩ [] H (fun v N=>v=iv (more k j)∧N=[]):=by
 refine Zl func138 rfl rfl<|Zc<|JAn rfl<|Zf<|Zh<|Zf<|Zc<|JLM rfl<|JLn (Pu.eql rfl rfl)<|JLA rfl ?_
 refine Za<|ZF rfl (fun h1=>?_) (fun h1=>?_)
 ·refine Zk<|Zs rfl (fun _=>?_) (fun h2=>absurd h1 (df h2))
  refine Zc<|JAn rfl<|ZC (iv 1) [] Sub.nil (?_)
  exact ⟨by first | (simp_all [more];done) | (congr 1;unfold more;simp_all;try omega),rfl⟩
 refine Zc<|JLM rfl<|JLn (Pu.eql rfl rfl)<|JLM rfl<|ZA 2 [11,12] [(12,cond (decide (k=5)) (.bool (decide (j=1))) undef)] ?_ fun f4=>?_
 ·cases h3:(decide (k=5)) with
  | true=>
   replace h3:=dt h3
   refine JLM rfl<|JLn (Pu.eql rfl rfl) ?_
   exact Za ⟨⟨rfl,trivial⟩,rfl⟩
  | false=>
   exact ZJ rfl ⟨rfl,trivial⟩
 refine JLn (ZcA rfl rfl rfl)<|JAn rfl<|Zs rfl (fun h5=>?_) (fun h5=>?_)
 ·obtain ⟨h5a,h5b⟩:=Xa h5
  replace h5a:=dt h5a
  replace h5b:=dt h5b
  refine Zk<|Zs rfl (fun h6=>?_) (fun h6=>?_)
  ·obtain ⟨h6a,h6b⟩:=Xa h6
   replace h6a:=dt h6a
   replace h6b:=dt h6b
   refine Zc<|JAn rfl<|ZC (iv 1) [] Sub.nil (?_)
   exact ⟨by first | (simp_all [more];done) | (congr 1;unfold more;simp_all;try omega),rfl⟩
  refine Zc<|JLM rfl<|JLn (Pu.eql rfl rfl)<|JLM rfl<|ZA 2 [24,25] [(25,cond (decide (k=12)) (.bool (decide (1<j))) undef)] ?_ fun f8=>?_
  ·cases h7:(decide (k=12)) with
   | true=>
    replace h7:=dt h7
    refine JLM rfl<|JLn (Pu.gtr rfl rfl) ?_
    exact Za ⟨⟨rfl,trivial⟩,rfl⟩
   | false=>
    exact ZJ rfl ⟨rfl,trivial⟩
  refine JLn (ZcA rfl rfl rfl)<|JAn rfl<|Zs rfl (fun h9=>?_) (fun h9=>?_)
  ·obtain ⟨h9a,h9b⟩:=Xa h9
   replace h9a:=dt h9a
   replace h9b:=dt h9b
   refine Zc<|JAn rfl<|ZC (iv 2) [] Sub.nil (?_)
   exact ⟨by first | (simp_all [more];done) | (congr 1;unfold more;simp_all;try omega),rfl⟩
  refine Zk<|Zc<|JAn rfl<|ZC (iv 0) [] Sub.nil (?_)
  exact ⟨by first | (simp_all [more];done) | (congr 1;unfold more;simp_all;try omega),rfl⟩
 refine Zd<|JLM rfl<|JLn (Pu.eql rfl rfl)<|JLM rfl<|ZA 2 [17,18] [(18,cond (decide (k=12)) (.bool (decide (j=1))) undef)] ?_ fun f11=>?_
 ·cases h10:(decide (k=12)) with
  | true=>
   replace h10:=dt h10
   refine JLM rfl<|JLn (Pu.eql rfl rfl) ?_
   exact Za ⟨⟨rfl,trivial⟩,rfl⟩
  | false=>
   exact ZJ rfl ⟨rfl,trivial⟩
 refine JLn (ZcA rfl rfl rfl)<|JAn rfl<|Zs rfl (fun h12=>?_) (fun h12=>?_)
 ·obtain ⟨h12a,h12b⟩:=Xa h12
  replace h12a:=dt h12a
  replace h12b:=dt h12b
  refine Zc<|JAn rfl<|ZC (iv 1) [] Sub.nil (?_)
  exact ⟨by first | (simp_all [more];done) | (congr 1;unfold more;simp_all;try omega),rfl⟩
 refine Zc<|JLM rfl<|JLn (Pu.eql rfl rfl)<|JLM rfl<|ZA 2 [24,25] [(25,cond (decide (k=12)) (.bool (decide (1<j))) undef)] ?_ fun f14=>?_
 ·cases h13:(decide (k=12)) with
  | true=>
   replace h13:=dt h13
   refine JLM rfl<|JLn (Pu.gtr rfl rfl) ?_
   exact Za ⟨⟨rfl,trivial⟩,rfl⟩
  | false=>
   exact ZJ rfl ⟨rfl,trivial⟩
 refine JLn (ZcA rfl rfl rfl)<|JAn rfl<|Zs rfl (fun h15=>?_) (fun h15=>?_)
 ·obtain ⟨h15a,h15b⟩:=Xa h15
  replace h15a:=dt h15a
  replace h15b:=dt h15b
  refine Zc<|JAn rfl<|ZC (iv 2) [] Sub.nil (?_)
  exact ⟨by first | (simp_all [more];done) | (congr 1;unfold more;simp_all;try omega),rfl⟩
 refine Zk<|Zc<|JAn rfl<|ZC (iv 0) [] Sub.nil (?_)
 exact ⟨by first | (simp_all [more];done) | (congr 1;unfold more;simp_all;try omega),rfl⟩
theorem VJ (n lo hi:Int) (H:Heap):CT prog 134 ⟨[iv n,iv lo,iv hi]⟩ [] H (fun v N=>v=.bool (decide (n<lo∨hi<n))∧N=[]):=by
 refine Zl func134 rfl rfl<|Zc<|JAn rfl<|Zc<|JLM rfl<|JLM rfl<|JLn (Pu.lss rfl rfl)<|JLM rfl<|ZA 3 [11,12,13] [(13,cond (decide (n<lo)) undef (.bool (decide (hi<n))))] ?_ fun f2=>?_
 ·cases h1:(decide (n<lo)) with
  | false=>
   replace h1:=df h1
   refine JLM rfl<|JLM rfl<|JLn (Pu.gtr rfl rfl) ?_
   exact Za ⟨⟨rfl,trivial⟩,rfl⟩
  | true=>
   exact ZJ rfl ⟨rfl,trivial⟩
 refine JLn (ZcC rfl rfl rfl)<|JAn rfl<|ZC (.bool ((decide (n<lo))||(decide (hi<n)))) [] Sub.nil (?_)
 exact ⟨by simp,rfl⟩
theorem Hz:∀ (p:Pt) (cs:List Value) (H:Heap),RP H cs p→binds p≤1000000→CT prog 139 ⟨[.agg ⟨cs⟩]⟩ [] H (fun v N=>v=iv (binds p:Int)∧N=[]):=by
 intro p
 induction p using Pt.ind with
 | h kind num ref kids ih=>
 intro cs H hp hb
 obtain ⟨ks,rfl,hk,hn,hks⟩:=RP_mk.1 hp
 rw [binds] at hb ⊢
 refine Zl func139 rfl rfl<|Zc<|JLr (Zr (l:=pkP kind num ref ks) rfl rfl fun b1=>JAn rfl<|Zf<|Zc<|JLq (pp b1 0) (Yr rfl rfl)<|JLr (Zb ty3 rfl (Zcu 0 rfl) (Xp ..)<|JLn (Pu.eql rfl rfl)<|Za ?_))
 refine ZF rfl (fun h2=>?_) (fun h2=>?_)
 ·refine Zc<|JAn rfl<|ZC (iv 1) [] Sub.nil (?_)
  exact ⟨by rw [if_pos (by assumption)];rfl,rfl⟩
 refine Zk<|Zc<|JAn rfl<|Zf<|Zc<|JAn rfl<|Zh<|Zv (fun k ρ M=>∃ (j:Nat),ρ 1=pp b1 0∧ρ 2=iv 0∧ρ 3=iv ((Xy (kids.take j):Int))∧ρ 4=iv ((j:Int))∧Sub [(BX b1 (pkP kind num ref ks) 115)] M∧j≤kids.length∧k=kids.length-j) _ ⟨0,rfl,rfl,rfl,rfl,(Sk Sub.nil),Nat.zero_le _,rfl⟩ ?_
 rintro _ ρ3 _ ⟨j,e4,e5,e6,e7,hm8,hj,rfl⟩
 obtain ⟨ρ9,rfl⟩:=Zo (uc e4 (uc e5 (uc e6 (uc e7 un))))
 clear e4 e5 e6 e7
 refine ZD hm8 ?_
 have hlen:=hks.le
 refine Zf<|Zc<|JLM rfl<|JLq (pp b1 34) (Z5 rfl rfl)<|JLr (Zb YB rfl (Zcu 0 rfl) (Yo ..) ?_)
 obtain ⟨a10,cap10,hv10⟩:=hks.sl
 have hle10:=hks.le
 refine JLn (Zcv Yt hv10)<|JLn (Pu.lss rfl rfl)<|Za<|ZF rfl (fun h11=>?_) (fun h11=>?_)
 ·have h11n:j<kids.length:=by omega
  have hm1:=Nh kids _ (getElem_mem h11n)
  have hm2:=Qj kids _ h11n
  have hm3:=Tk kids (j+1)
  rw [if_neg (by assumption)] at hb
  refine Zk<|Zf<|Zh<|Zd<|JLM rfl<|JLq (pp b1 34) (Z5 rfl rfl)<|JLr (Zb YB rfl (Zcu 0 rfl) (Yo ..)<|JLM rfl ?_)
  obtain ⟨b12,o12,cap12,row12,T12,fr12,cs12,hv12,hb12,hs12,hE12⟩:=hks.get j (by omega)
  refine JLn (Zcw j Yt ZU hv12 rfl rfl (by omega))<|JLr (Zn ZU rfl (Zcx hb12) hs12<|Jc call139 rfl (fun hin=>ih _ (getElem_mem h11n) _ _ (RP.mono (Hle.hu _ _) hE12) (by omega)) rfl ?_)
  rintro _ _ ⟨rfl,rfl⟩
  refine JLn (ZcG rfl rfl (by first | omega | (constructor <;> omega)))<|JAn rfl<|Zd<|JLM rfl<|JLn (Zcy rfl rfl (by omega))<|JAn rfl<|⟨_,?_,(j+1),rfl,rfl,(ieq rfl (by omega)),rfl,(Sk Sub.nil),?_,rfl⟩
  ·omega
  omega
 have h11n:kids.length≤j:=by omega
 refine Zu _ rfl<|Zc<|JLM rfl<|JAn rfl<|ZC (iv ((Xy (kids.take j):Int))) [] Sub.nil (?_)
 exact ⟨by rw [if_neg (by assumption),take_of_length_le h11n],rfl⟩
theorem Hb (k:Int) (H:Heap):CT prog 135 ⟨[iv k]⟩ [] H (fun v N=>v=.bool (Xj k)∧N=[]):=by
 refine Zl func135 rfl rfl<|Zc<|JAn rfl<|Zc<|JLM rfl<|JLn (Pu.eql rfl rfl)<|JLM rfl<|ZA 2 [6,7] [(7,cond (decide (k=1)) undef (.bool (decide (k=2))))] ?_ fun f2=>?_
 ·cases h1:(decide (k=1)) with
  | false=>
   replace h1:=df h1
   refine JLM rfl<|JLn (Pu.eql rfl rfl) ?_
   exact Za ⟨⟨rfl,trivial⟩,rfl⟩
  | true=>
   exact ZJ rfl ⟨rfl,trivial⟩
 refine JLn (ZcC rfl rfl rfl)<|JLM rfl<|ZA 2 [10,11] [(11,cond ((decide (k=1))||(decide (k=2))) undef (.bool (decide (k=7))))] ?_ fun f4=>?_
 ·cases h3:((decide (k=1))||(decide (k=2))) with
  | false=>
   obtain ⟨h3a,h3b⟩:=orF h3
   replace h3a:=df h3a
   replace h3b:=df h3b
   refine JLM rfl<|JLn (Pu.eql rfl rfl) ?_
   exact Za ⟨⟨rfl,trivial⟩,rfl⟩
  | true=>
   exact ZJ rfl ⟨rfl,trivial⟩
 refine JLn (ZcC rfl rfl rfl)<|JLM rfl<|ZA 2 [14,15] [(15,cond (((decide (k=1))||(decide (k=2)))||(decide (k=7))) undef (.bool (decide (k=8))))] ?_ fun f6=>?_
 ·cases h5:(((decide (k=1))||(decide (k=2)))||(decide (k=7))) with
  | false=>
   obtain ⟨h5a,h5b⟩:=orF h5
   obtain ⟨h5aa,h5ab⟩:=orF h5a
   replace h5aa:=df h5aa
   replace h5ab:=df h5ab
   replace h5b:=df h5b
   refine JLM rfl<|JLn (Pu.eql rfl rfl) ?_
   exact Za ⟨⟨rfl,trivial⟩,rfl⟩
  | true=>
   exact ZJ rfl ⟨rfl,trivial⟩
 refine JLn (ZcC rfl rfl rfl)<|JLM rfl<|ZA 2 [18,19] [(19,cond ((((decide (k=1))||(decide (k=2)))||(decide (k=7)))||(decide (k=8))) undef (.bool (decide (k=10))))] ?_ fun f8=>?_
 ·cases h7:((((decide (k=1))||(decide (k=2)))||(decide (k=7)))||(decide (k=8))) with
  | false=>
   obtain ⟨h7a,h7b⟩:=orF h7
   obtain ⟨h7aa,h7ab⟩:=orF h7a
   obtain ⟨h7aaa,h7aab⟩:=orF h7aa
   replace h7aaa:=df h7aaa
   replace h7aab:=df h7aab
   replace h7ab:=df h7ab
   replace h7b:=df h7b
   refine JLM rfl<|JLn (Pu.eql rfl rfl) ?_
   exact Za ⟨⟨rfl,trivial⟩,rfl⟩
  | true=>
   exact ZJ rfl ⟨rfl,trivial⟩
 refine JLn (ZcC rfl rfl rfl)<|JLM rfl<|ZA 2 [22,23] [(23,cond (((((decide (k=1))||(decide (k=2)))||(decide (k=7)))||(decide (k=8)))||(decide (k=10))) undef (.bool (decide (k=11))))] ?_ fun f10=>?_
 ·cases h9:(((((decide (k=1))||(decide (k=2)))||(decide (k=7)))||(decide (k=8)))||(decide (k=10))) with
  | false=>
   obtain ⟨h9a,h9b⟩:=orF h9
   obtain ⟨h9aa,h9ab⟩:=orF h9a
   obtain ⟨h9aaa,h9aab⟩:=orF h9aa
   obtain ⟨h9aaaa,h9aaab⟩:=orF h9aaa
   replace h9aaaa:=df h9aaaa
   replace h9aaab:=df h9aaab
   replace h9aab:=df h9aab
   replace h9ab:=df h9ab
   replace h9b:=df h9b
   refine JLM rfl<|JLn (Pu.eql rfl rfl) ?_
   exact Za ⟨⟨rfl,trivial⟩,rfl⟩
  | true=>
   exact ZJ rfl ⟨rfl,trivial⟩
 refine JLn (ZcC rfl rfl rfl)<|JAn rfl<|ZC (.bool ((((((decide (k=1))||(decide (k=2)))||(decide (k=7)))||(decide (k=8)))||(decide (k=10)))||(decide (k=11)))) [] Sub.nil (?_)
 exact ⟨by simp_all [Xj],rfl⟩
theorem O3 (k:Int) (H:Heap):CT prog 92 ⟨[iv k]⟩ [] H (fun v N=>v=.bool (Y8 k)∧N=[]):=by
 refine Zl func92 rfl rfl<|Zc<|JAn rfl<|Zc<|JLM rfl<|JLn (Pu.eql rfl rfl)<|JLM rfl<|ZA 2 [6,7] [(7,cond (decide (k=6)) undef (.bool (decide (k=8))))] ?_ fun f2=>?_
 ·cases h1:(decide (k=6)) with
  | false=>
   replace h1:=df h1
   refine JLM rfl<|JLn (Pu.eql rfl rfl) ?_
   exact Za ⟨⟨rfl,trivial⟩,rfl⟩
  | true=>
   exact ZJ rfl ⟨rfl,trivial⟩
 refine JLn (ZcC rfl rfl rfl)<|JLM rfl<|ZA 2 [10,11] [(11,cond ((decide (k=6))||(decide (k=8))) undef (.bool (decide (k=11))))] ?_ fun f4=>?_
 ·cases h3:((decide (k=6))||(decide (k=8))) with
  | false=>
   obtain ⟨h3a,h3b⟩:=orF h3
   replace h3a:=df h3a
   replace h3b:=df h3b
   refine JLM rfl<|JLn (Pu.eql rfl rfl) ?_
   exact Za ⟨⟨rfl,trivial⟩,rfl⟩
  | true=>
   exact ZJ rfl ⟨rfl,trivial⟩
 refine JLn (ZcC rfl rfl rfl)<|JLM rfl<|ZA 2 [14,15] [(15,cond (((decide (k=6))||(decide (k=8)))||(decide (k=11))) undef (.bool (decide (k=12))))] ?_ fun f6=>?_
 ·cases h5:(((decide (k=6))||(decide (k=8)))||(decide (k=11))) with
  | false=>
   obtain ⟨h5a,h5b⟩:=orF h5
   obtain ⟨h5aa,h5ab⟩:=orF h5a
   replace h5aa:=df h5aa
   replace h5ab:=df h5ab
   replace h5b:=df h5b
   refine JLM rfl<|JLn (Pu.eql rfl rfl) ?_
   exact Za ⟨⟨rfl,trivial⟩,rfl⟩
  | true=>
   exact ZJ rfl ⟨rfl,trivial⟩
 refine JLn (ZcC rfl rfl rfl)<|JAn rfl<|ZC (.bool ((((decide (k=6))||(decide (k=8)))||(decide (k=11)))||(decide (k=12)))) [] Sub.nil (?_)
 exact ⟨by simp_all [Y8],rfl⟩
theorem FY (k:Int) (H:Heap):CT prog 136 ⟨[iv k]⟩ [] H (fun v N=>v=.tuple ⟨[iv (loK k),iv (hiK k)]⟩∧N=[]):=by
 refine Zl func136 rfl rfl<|Zc<|JLA rfl<|JAn rfl<|Zf<|Zc<|JLM rfl<|Za<|Zh<|Zf ?_
 refine Zc<|JLn (Pu.eql rfl rfl)<|JAn rfl<|ZF rfl (fun h1=>?_) (fun h1=>?_)
 ·refine Zk<|Zs rfl (fun _=>?_) (fun h2=>absurd h1 (df h2))
  refine Zc<|JLA rfl<|JAn rfl<|ZH<|⟨.tuple ⟨[iv 1,iv 1]⟩,[],ZcE rfl (RV.tmp rfl) (RV.tmp rfl),Sub.nil,?_⟩
  exact ⟨by simp_all [loK,hiK],rfl⟩
 refine Zc<|JLn (Pu.eql rfl rfl)<|JAn rfl<|ZF rfl (fun h3=>?_) (fun h3=>?_)
 ·refine Zk<|Zs rfl (fun _=>?_) (fun h4=>absurd h3 (df h4))
  refine Zc<|JLA rfl<|JAn rfl<|ZH<|⟨.tuple ⟨[iv 1,iv 1]⟩,[],ZcE rfl (RV.tmp rfl) (RV.tmp rfl),Sub.nil,?_⟩
  exact ⟨by simp_all [loK,hiK],rfl⟩
 refine Zd<|JLn (Pu.eql rfl rfl)<|JAn rfl<|ZF rfl (fun h5=>?_) (fun h5=>?_)
 ·refine Zc<|JLA rfl<|JAn rfl<|ZH<|⟨.tuple ⟨[iv 1,iv 1]⟩,[],ZcE rfl (RV.tmp rfl) (RV.tmp rfl),Sub.nil,?_⟩
  exact ⟨by simp_all [loK,hiK],rfl⟩
 refine Zf<|Zc<|JLn (Pu.eql rfl rfl)<|JAn rfl<|ZF rfl (fun h6=>?_) (fun h6=>?_)
 ·refine Zk<|Zs rfl (fun _=>?_) (fun h7=>absurd h6 (df h7))
  refine Zc<|JLA rfl<|JAn rfl<|ZH<|⟨.tuple ⟨[iv 2,iv 2]⟩,[],ZcE rfl (RV.tmp rfl) (RV.tmp rfl),Sub.nil,?_⟩
  exact ⟨by simp_all [loK,hiK],rfl⟩
 refine Zc<|JLn (Pu.eql rfl rfl)<|JAn rfl<|ZF rfl (fun h8=>?_) (fun h8=>?_)
 ·refine Zk<|Zs rfl (fun _=>?_) (fun h9=>absurd h8 (df h9))
  refine Zc<|JLA rfl<|JAn rfl<|ZH<|⟨.tuple ⟨[iv 2,iv 2]⟩,[],ZcE rfl (RV.tmp rfl) (RV.tmp rfl),Sub.nil,?_⟩
  exact ⟨by simp_all [loK,hiK],rfl⟩
 refine Zd<|JLn (Pu.eql rfl rfl)<|JAn rfl<|ZF rfl (fun h10=>?_) (fun h10=>?_)
 ·refine Zc<|JLA rfl<|JAn rfl<|ZH<|⟨.tuple ⟨[iv 2,iv 2]⟩,[],ZcE rfl (RV.tmp rfl) (RV.tmp rfl),Sub.nil,?_⟩
  exact ⟨by simp_all [loK,hiK],rfl⟩
 refine Zc<|JLn (Pu.eql rfl rfl)<|JAn rfl<|ZF rfl (fun h11=>?_) (fun h11=>?_)
 ·refine Zc<|JLA rfl<|JAn rfl<|ZH<|⟨.tuple ⟨[iv 0,iv 4]⟩,[],ZcE rfl (RV.tmp rfl) (RV.tmp rfl),Sub.nil,?_⟩
  exact ⟨by simp_all [loK,hiK],rfl⟩
 refine Zc<|JLn (Pu.eql rfl rfl)<|JAn rfl<|ZF rfl (fun h12=>?_) (fun h12=>?_)
 ·refine Zc<|JLA rfl<|JAn rfl<|ZH<|⟨.tuple ⟨[iv 2,iv 10]⟩,[],ZcE rfl (RV.tmp rfl) (RV.tmp rfl),Sub.nil,?_⟩
  exact ⟨by simp_all [loK,hiK],rfl⟩
 refine Zk<|Zc<|JLA rfl<|JAn rfl<|ZH<|⟨.tuple ⟨[iv 0,iv 0]⟩,[],ZcE rfl (RV.tmp rfl) (RV.tmp rfl),Sub.nil,?_⟩
 exact ⟨by simp_all [loK,hiK],rfl⟩
theorem O7 (k:Int) (H:Heap):CT prog 193 ⟨[iv k]⟩ [] H (fun v N=>v=.agg ⟨[.bool (fN k),.bool (fR k),.bool (fC k)]⟩∧N=[]):=by
 refine Zl func193 rfl rfl<|Zc<|JLr (Zp (l:=[.bool false,.bool false,.bool false]) zeroValue235 rfl fun b1=>Za<|Zc<|JLr (Zp (l:=[.bool false,.bool false,.bool false]) zeroValue235 rfl fun b2=>Za<|Zf<|Zc<|JLM rfl ?_))
 refine Za<|Zh<|Zf<|Zc<|JLn (Pu.eql rfl rfl)<|JAn rfl<|ZF rfl (fun h3=>?_) (fun h3=>?_)
 ·refine Zk<|Zs rfl (fun _=>?_) (fun h4=>absurd h3 (df h4))
  refine Zd<|JLq (pp b2 0) (ZcB 0 X4 ty4 rfl rfl (by decide) (by decide))<|JLr (Ze 0 (vs:=[.bool true]) (l:=[.bool true,.bool false,.bool false]) ty4 rfl rfl rfl rfl rfl (Zg rfl Zq) rfl<|Za<|Zc<|JLr (Zn YE rfl (Zcu 0 rfl) rfl<|JLr (Ze 1 (vs:=[.bool true,.bool false,.bool false]) (l:=[.bool true,.bool false,.bool false]) YE rfl rfl rfl rfl rfl (Zg rfl (Zg rfl (Zg rfl Zq))) rfl<|Za<|ZH<|⟨.agg ⟨[.bool true,.bool false,.bool false]⟩,[],Ret.one rfl (RV.cell YE rfl (Zcu 1 rfl) rfl),Sub.nil,?_⟩)))
  exact ⟨by simp_all [fN,fR,fC],rfl⟩
 refine Zc<|JLn (Pu.eql rfl rfl)<|JAn rfl<|ZF rfl (fun h5=>?_) (fun h5=>?_)
 ·refine Zk<|Zs rfl (fun _=>?_) (fun h6=>absurd h5 (df h6))
  refine Zd<|JLq (pp b2 0) (ZcB 0 X4 ty4 rfl rfl (by decide) (by decide))<|JLr (Ze 0 (vs:=[.bool true]) (l:=[.bool true,.bool false,.bool false]) ty4 rfl rfl rfl rfl rfl (Zg rfl Zq) rfl<|Za<|Zc<|JLr (Zn YE rfl (Zcu 0 rfl) rfl<|JLr (Ze 1 (vs:=[.bool true,.bool false,.bool false]) (l:=[.bool true,.bool false,.bool false]) YE rfl rfl rfl rfl rfl (Zg rfl (Zg rfl (Zg rfl Zq))) rfl<|Za<|ZH<|⟨.agg ⟨[.bool true,.bool false,.bool false]⟩,[],Ret.one rfl (RV.cell YE rfl (Zcu 1 rfl) rfl),Sub.nil,?_⟩)))
  exact ⟨by simp_all [fN,fR,fC],rfl⟩
 refine Zc<|JLn (Pu.eql rfl rfl)<|JAn rfl<|ZF rfl (fun h7=>?_) (fun h7=>?_)
 ·refine Zk<|Zs rfl (fun _=>?_) (fun h8=>absurd h7 (df h8))
  refine Zd<|JLq (pp b2 0) (ZcB 0 X4 ty4 rfl rfl (by decide) (by decide))<|JLr (Ze 0 (vs:=[.bool true]) (l:=[.bool true,.bool false,.bool false]) ty4 rfl rfl rfl rfl rfl (Zg rfl Zq) rfl<|Za<|Zc<|JLr (Zn YE rfl (Zcu 0 rfl) rfl<|JLr (Ze 1 (vs:=[.bool true,.bool false,.bool false]) (l:=[.bool true,.bool false,.bool false]) YE rfl rfl rfl rfl rfl (Zg rfl (Zg rfl (Zg rfl Zq))) rfl<|Za<|ZH<|⟨.agg ⟨[.bool true,.bool false,.bool false]⟩,[],Ret.one rfl (RV.cell YE rfl (Zcu 1 rfl) rfl),Sub.nil,?_⟩)))
  exact ⟨by simp_all [fN,fR,fC],rfl⟩
 refine Zd<|JLn (Pu.eql rfl rfl)<|JAn rfl<|ZF rfl (fun h9=>?_) (fun h9=>?_)
 ·refine Zd<|JLq (pp b2 0) (ZcB 0 X4 ty4 rfl rfl (by decide) (by decide))<|JLr (Ze 0 (vs:=[.bool true]) (l:=[.bool true,.bool false,.bool false]) ty4 rfl rfl rfl rfl rfl (Zg rfl Zq) rfl<|Za<|Zc<|JLr (Zn YE rfl (Zcu 0 rfl) rfl<|JLr (Ze 1 (vs:=[.bool true,.bool false,.bool false]) (l:=[.bool true,.bool false,.bool false]) YE rfl rfl rfl rfl rfl (Zg rfl (Zg rfl (Zg rfl Zq))) rfl<|Za<|ZH<|⟨.agg ⟨[.bool true,.bool false,.bool false]⟩,[],Ret.one rfl (RV.cell YE rfl (Zcu 1 rfl) rfl),Sub.nil,?_⟩)))
  exact ⟨by simp_all [fN,fR,fC],rfl⟩
 refine Zf<|Zc<|JLn (Pu.eql rfl rfl)<|JAn rfl<|ZF rfl (fun h10=>?_) (fun h10=>?_)
 ·refine Zk<|Zs rfl (fun _=>?_) (fun h11=>absurd h10 (df h11))
  refine Zd<|JLq (pp b2 0) (ZcB 0 X4 ty4 rfl rfl (by decide) (by decide))<|JLr (Ze 0 (vs:=[.bool true]) (l:=[.bool true,.bool false,.bool false]) ty4 rfl rfl rfl rfl rfl (Zg rfl Zq) rfl<|JLq (pp b2 1) (ZcB 1 X4 ty4 rfl rfl (by decide) (by decide))<|JLr (Ze 0 (vs:=[.bool true]) (l:=[.bool true,.bool true,.bool false]) ty4 rfl rfl rfl rfl rfl (Zg rfl Zq) rfl<|Za<|Zc<|JLr (Zn YE rfl (Zcu 0 rfl) rfl<|JLr (Ze 1 (vs:=[.bool true,.bool true,.bool false]) (l:=[.bool true,.bool true,.bool false]) YE rfl rfl rfl rfl rfl (Zg rfl (Zg rfl (Zg rfl Zq))) rfl<|Za<|ZH<|⟨.agg ⟨[.bool true,.bool true,.bool false]⟩,[],Ret.one rfl (RV.cell YE rfl (Zcu 1 rfl) rfl),Sub.nil,?_⟩))))
  exact ⟨by simp_all [fN,fR,fC],rfl⟩
 refine Zd<|JLn (Pu.eql rfl rfl)<|JAn rfl<|ZF rfl (fun h12=>?_) (fun h12=>?_)
 ·refine Zd<|JLq (pp b2 0) (ZcB 0 X4 ty4 rfl rfl (by decide) (by decide))<|JLr (Ze 0 (vs:=[.bool true]) (l:=[.bool true,.bool false,.bool false]) ty4 rfl rfl rfl rfl rfl (Zg rfl Zq) rfl<|JLq (pp b2 1) (ZcB 1 X4 ty4 rfl rfl (by decide) (by decide))<|JLr (Ze 0 (vs:=[.bool true]) (l:=[.bool true,.bool true,.bool false]) ty4 rfl rfl rfl rfl rfl (Zg rfl Zq) rfl<|Za<|Zc<|JLr (Zn YE rfl (Zcu 0 rfl) rfl<|JLr (Ze 1 (vs:=[.bool true,.bool true,.bool false]) (l:=[.bool true,.bool true,.bool false]) YE rfl rfl rfl rfl rfl (Zg rfl (Zg rfl (Zg rfl Zq))) rfl<|Za<|ZH<|⟨.agg ⟨[.bool true,.bool true,.bool false]⟩,[],Ret.one rfl (RV.cell YE rfl (Zcu 1 rfl) rfl),Sub.nil,?_⟩))))
  exact ⟨by simp_all [fN,fR,fC],rfl⟩
 refine Zf<|Zc<|JLn (Pu.eql rfl rfl)<|JAn rfl<|ZF rfl (fun h13=>?_) (fun h13=>?_)
 ·refine Zk<|Zs rfl (fun _=>?_) (fun h14=>absurd h13 (df h14))
  refine Zd<|JLq (pp b2 1) (ZcB 1 X4 ty4 rfl rfl (by decide) (by decide))<|JLr (Ze 0 (vs:=[.bool true]) (l:=[.bool false,.bool true,.bool false]) ty4 rfl rfl rfl rfl rfl (Zg rfl Zq) rfl<|Za<|Zc<|JLr (Zn YE rfl (Zcu 0 rfl) rfl<|JLr (Ze 1 (vs:=[.bool false,.bool true,.bool false]) (l:=[.bool false,.bool true,.bool false]) YE rfl rfl rfl rfl rfl (Zg rfl (Zg rfl (Zg rfl Zq))) rfl<|Za<|ZH<|⟨.agg ⟨[.bool false,.bool true,.bool false]⟩,[],Ret.one rfl (RV.cell YE rfl (Zcu 1 rfl) rfl),Sub.nil,?_⟩)))
  exact ⟨by simp_all [fN,fR,fC],rfl⟩
 refine Zd<|JLn (Pu.eql rfl rfl)<|JAn rfl<|ZF rfl (fun h15=>?_) (fun h15=>?_)
 ·refine Zd<|JLq (pp b2 1) (ZcB 1 X4 ty4 rfl rfl (by decide) (by decide))<|JLr (Ze 0 (vs:=[.bool true]) (l:=[.bool false,.bool true,.bool false]) ty4 rfl rfl rfl rfl rfl (Zg rfl Zq) rfl<|Za<|Zc<|JLr (Zn YE rfl (Zcu 0 rfl) rfl<|JLr (Ze 1 (vs:=[.bool false,.bool true,.bool false]) (l:=[.bool false,.bool true,.bool false]) YE rfl rfl rfl rfl rfl (Zg rfl (Zg rfl (Zg rfl Zq))) rfl<|Za<|ZH<|⟨.agg ⟨[.bool false,.bool true,.bool false]⟩,[],Ret.one rfl (RV.cell YE rfl (Zcu 1 rfl) rfl),Sub.nil,?_⟩)))
  exact ⟨by simp_all [fN,fR,fC],rfl⟩
 refine Zc<|JLn (Pu.eql rfl rfl)<|JAn rfl<|ZF rfl (fun h16=>?_) (fun h16=>?_)
 ·refine Zd<|JLq (pp b2 2) (ZcB 2 X4 ty4 rfl rfl (by decide) (by decide))<|JLr (Ze 0 (vs:=[.bool true]) (l:=[.bool false,.bool false,.bool true]) ty4 rfl rfl rfl rfl rfl (Zg rfl Zq) rfl<|Za<|Zc<|JLr (Zn YE rfl (Zcu 0 rfl) rfl<|JLr (Ze 1 (vs:=[.bool false,.bool false,.bool true]) (l:=[.bool false,.bool false,.bool true]) YE rfl rfl rfl rfl rfl (Zg rfl (Zg rfl (Zg rfl Zq))) rfl<|Za<|ZH<|⟨.agg ⟨[.bool false,.bool false,.bool true]⟩,[],Ret.one rfl (RV.cell YE rfl (Zcu 1 rfl) rfl),Sub.nil,?_⟩)))
  exact ⟨by simp_all [fN,fR,fC],rfl⟩
 refine Zk<|Zc<|JLr (Zn YE rfl (Zcu 0 rfl) rfl<|JLr (Ze 1 (vs:=[.bool false,.bool false,.bool false]) (l:=[.bool false,.bool false,.bool false]) YE rfl rfl rfl rfl rfl (Zg rfl (Zg rfl (Zg rfl Zq))) rfl<|Za<|ZH<|⟨.agg ⟨[.bool false,.bool false,.bool false]⟩,[],Ret.one rfl (RV.cell YE rfl (Zcu 1 rfl) rfl),Sub.nil,?_⟩))
 exact ⟨by simp_all [fN,fR,fC],rfl⟩
theorem V7 (k:Int) (H:Heap):CT prog 236 ⟨[iv k]⟩ [] H (fun v N=>v=.agg ⟨[.bool (pfN k),.bool (pfR k),.bool false]⟩∧N=[]):=by
 refine Zl func236 rfl rfl<|Zc<|JLr (Zp (l:=[.bool false,.bool false,.bool false]) zeroValue235 rfl fun b1=>Za<|Zf<|Zc<|JLM rfl<|Za<|Zh<|Zf<|Zd ?_)
 refine JLn (Pu.eql rfl rfl)<|JAn rfl<|ZF rfl (fun h2=>?_) (fun h2=>?_)
 ·refine Zc<|JLq (.agg ⟨[.bool true,.bool false,.bool false]⟩) (Pu.build (pv:=[(0,.bool true),(1,.bool false),(2,.bool false)]) (l:=[.bool true,.bool false,.bool false]) rfl (UK _ _ _))<|JLr (Ze 0 (vs:=[.bool true,.bool false,.bool false]) (l:=[.bool true,.bool false,.bool false]) YE rfl rfl rfl rfl rfl (Zg rfl (Zg rfl (Zg rfl Zq))) rfl<|Za<|ZH<|⟨.agg ⟨[.bool true,.bool false,.bool false]⟩,[],Ret.one rfl (RV.cell YE rfl (Zcu 0 rfl) rfl),Sub.nil,?_⟩)
  exact ⟨by simp_all [pfN,pfR],rfl⟩
 refine Zc<|JLn (Pu.eql rfl rfl)<|JAn rfl<|ZF rfl (fun h3=>?_) (fun h3=>?_)
 ·refine Zc<|JLq (.agg ⟨[.bool true,.bool true,.bool false]⟩) (Pu.build (pv:=[(0,.bool true),(1,.bool true),(2,.bool false)]) (l:=[.bool true,.bool true,.bool false]) rfl (UK _ _ _))<|JLr (Ze 0 (vs:=[.bool true,.bool true,.bool false]) (l:=[.bool true,.bool true,.bool false]) YE rfl rfl rfl rfl rfl (Zg rfl (Zg rfl (Zg rfl Zq))) rfl<|Za<|ZH<|⟨.agg ⟨[.bool true,.bool true,.bool false]⟩,[],Ret.one rfl (RV.cell YE rfl (Zcu 0 rfl) rfl),Sub.nil,?_⟩)
  exact ⟨by simp_all [pfN,pfR],rfl⟩
 refine Zk<|Zc<|JLq (.agg ⟨[.bool false,.bool false,.bool false]⟩) (Pu.build (pv:=[]) (l:=[.bool false,.bool false,.bool false]) rfl BE)<|JLr (Ze 0 (vs:=[.bool false,.bool false,.bool false]) (l:=[.bool false,.bool false,.bool false]) YE rfl rfl rfl rfl rfl (Zg rfl (Zg rfl (Zg rfl Zq))) rfl<|Za<|ZH<|⟨.agg ⟨[.bool false,.bool false,.bool false]⟩,[],Ret.one rfl (RV.cell YE rfl (Zcu 0 rfl) rfl),Sub.nil,?_⟩)
 exact ⟨by simp_all [pfN,pfR],rfl⟩
theorem PU (a b c:Bool) (n:Int) (r:Sm) (m:Int) (H:Heap):CT prog 212 ⟨[.agg ⟨[.bool a,.bool b,.bool c]⟩,iv n,.agg ⟨sC r⟩,iv m]⟩ [] H (fun v N=>v=.bool (RZ a b c n r m)∧N=[]):=by
 refine Zl func212 rfl rfl<|Zc<|JLr (Zr (l:=[.bool a,.bool b,.bool c]) rfl rfl fun b1=>JLr (Zr (l:=sC r) rfl rfl fun b2=>JAn rfl<|Zc<|JLM rfl<|JLn (Pu.neq rfl rfl)<|JLr (Zn Yq rfl (Zcu 0 rfl) (ZE rfl)<|JLq (.agg ⟨sC zS⟩) (Pu.build (pv:=[]) (l:=sC zS) rfl KK) ?_)))
 refine JLn (neqS rfl rfl)<|JLM rfl<|JLn (Pu.gtr rfl rfl)<|JLq (.agg ⟨[.bool (!decide (n=0)),.bool (!decide (r=zS)),.bool (decide (0<m))]⟩) (Pu.build (pv:=[(0,.bool (!decide (n=0))),(1,.bool (!decide (r=zS))),(2,.bool (decide (0<m)))]) (l:=[.bool (!decide (n=0)),.bool (!decide (r=zS)),.bool (decide (0<m))]) rfl (UK _ _ _))<|JLr (Zp (l:=[.bool false,.bool false,.bool false]) zeroValue235 rfl fun b3=>JLr (Ze 0 (vs:=[.bool (!decide (n=0)),.bool (!decide (r=zS)),.bool (decide (0<m))]) (l:=[.bool (!decide (n=0)),.bool (!decide (r=zS)),.bool (decide (0<m))]) YE rfl rfl rfl rfl rfl (Zg rfl (Zg rfl (Zg rfl Zq))) rfl<|Za<|Zc<|JLr (Zn YE rfl (Zcu 0 rfl) rfl<|JLr (Zp (l:=[.bool false,.bool false,.bool false]) zeroValue235 rfl fun b4=>JLr (Ze 0 (vs:=[.bool (!decide (n=0)),.bool (!decide (r=zS)),.bool (decide (0<m))]) (l:=[.bool (!decide (n=0)),.bool (!decide (r=zS)),.bool (decide (0<m))]) YE rfl rfl rfl rfl rfl (Zg rfl (Zg rfl (Zg rfl Zq))) rfl<|Za ?_)))))
 refine Zf<|Zc<|JLM rfl<|Za<|Zh<|Og 4<|W9<|Zc<|JLq (.bool true) (show Pu _ _ _ (.bool (decide ((0:Int)<3))) from Pu.lss rfl rfl)<|Za<|Zf ?_
 refine Zs (b:=true) rfl (fun _=>?_) (fun h=>absurd h (by simp))
 refine Zk<|Zf<|Zh<|Zc<|JLM rfl<|JAn rfl<|Zd<|JLM rfl<|JLM rfl<|JLq (pp b3 0) (ZcB 0 X4 ty4 rfl rfl (by decide) (by decide))<|JLr (Zb ty4 rfl (Zcu 1 rfl) rfl ?_)
 refine JLM rfl<|ZA 3 [29,30,31] [(31,cond (!decide (n=0)) (.bool a) undef)] ?_ fun f6=>?_
 ·cases h5:(!decide (n=0)) with
  | true=>
   replace h5:=nt h5
   replace h5:=df h5
   refine JLM rfl<|JLq (pp b1 0) (ZcB 0 X4 ty4 rfl rfl (by decide) (by decide))<|JLr (Zb ty4 rfl (Zcu 3 rfl) rfl ?_)
   exact Za ⟨⟨rfl,trivial⟩,rfl⟩
  | false=>
   exact ZJ rfl ⟨rfl,trivial⟩
 refine JLn (ZcA rfl rfl rfl)<|JLq (pp b4 0) (ZcB 0 X4 ty4 rfl rfl (by decide) (by decide))<|JLr (Ze 0 (vs:=[.bool ((!decide (n=0))&&a)]) (l:=[.bool ((!decide (n=0))&&a),.bool (!decide (r=zS)),.bool (decide (0<m))]) ty4 rfl rfl rfl rfl rfl (Zg rfl Zq) rfl<|Za<|Zd<|JLq (iv 1) (ZcO rfl rfl rfl)<|JLM rfl<|Za<|W9<|Zc<|JLq (.bool true) (show Pu _ _ _ (.bool (decide ((1:Int)<3))) from Pu.lss rfl rfl)<|Za ?_)
 refine Zf<|Zs (b:=true) rfl (fun _=>?_) (fun h=>absurd h (by simp))
 refine Zk<|Zf<|Zh<|Zc<|JLM rfl<|JAn rfl<|Zd<|JLM rfl<|JLM rfl<|JLq (pp b3 1) (ZcB 1 X4 ty4 rfl rfl (by decide) (by decide))<|JLr (Zb ty4 rfl (Zcu 1 rfl) rfl ?_)
 refine JLM rfl<|ZA 3 [29,30,31] [(31,cond (!decide (r=zS)) (.bool b) undef)] ?_ fun f8=>?_
 ·cases h7:(!decide (r=zS)) with
  | true=>
   replace h7:=nt h7
   replace h7:=df h7
   refine JLM rfl<|JLq (pp b1 1) (ZcB 1 X4 ty4 rfl rfl (by decide) (by decide))<|JLr (Zb ty4 rfl (Zcu 3 rfl) rfl ?_)
   exact Za ⟨⟨rfl,trivial⟩,rfl⟩
  | false=>
   exact ZJ rfl ⟨rfl,trivial⟩
 refine JLn (ZcA rfl rfl rfl)<|JLq (pp b4 1) (ZcB 1 X4 ty4 rfl rfl (by decide) (by decide))<|JLr (Ze 0 (vs:=[.bool ((!decide (r=zS))&&b)]) (l:=[.bool ((!decide (n=0))&&a),.bool ((!decide (r=zS))&&b),.bool (decide (0<m))]) ty4 rfl rfl rfl rfl rfl (Zg rfl Zq) rfl<|Za<|Zd<|JLq (iv 2) (ZcO rfl rfl rfl)<|JLM rfl<|Za<|W9<|Zc<|JLq (.bool true) (show Pu _ _ _ (.bool (decide ((2:Int)<3))) from Pu.lss rfl rfl)<|Za ?_)
 refine Zf<|Zs (b:=true) rfl (fun _=>?_) (fun h=>absurd h (by simp))
 refine Zk<|Zf<|Zh<|Zc<|JLM rfl<|JAn rfl<|Zd<|JLM rfl<|JLM rfl<|JLq (pp b3 2) (ZcB 2 X4 ty4 rfl rfl (by decide) (by decide))<|JLr (Zb ty4 rfl (Zcu 1 rfl) rfl ?_)
 refine JLM rfl<|ZA 3 [29,30,31] [(31,cond (decide (0<m)) (.bool c) undef)] ?_ fun f10=>?_
 ·cases h9:(decide (0<m)) with
  | true=>
   replace h9:=dt h9
   refine JLM rfl<|JLq (pp b1 2) (ZcB 2 X4 ty4 rfl rfl (by decide) (by decide))<|JLr (Zb ty4 rfl (Zcu 3 rfl) rfl ?_)
   exact Za ⟨⟨rfl,trivial⟩,rfl⟩
  | false=>
   exact ZJ rfl ⟨rfl,trivial⟩
 refine JLn (ZcA rfl rfl rfl)<|JLq (pp b4 2) (ZcB 2 X4 ty4 rfl rfl (by decide) (by decide))<|JLr (Ze 0 (vs:=[.bool ((decide (0<m))&&c)]) (l:=[.bool ((!decide (n=0))&&a),.bool ((!decide (r=zS))&&b),.bool ((decide (0<m))&&c)]) ty4 rfl rfl rfl rfl rfl (Zg rfl Zq) rfl<|Za<|Zd<|JLq (iv 3) (ZcO rfl rfl rfl)<|JLM rfl<|Za<|W9<|Zc<|JLq (.bool false) (show Pu _ _ _ (.bool (decide ((3:Int)<3))) from Pu.lss rfl rfl)<|Za ?_)
 refine Zf<|Zs (b:=false) rfl (fun h=>absurd h (by simp)) (fun _=>Zu _ rfl<|Zc<|JLr (Zn YE rfl (Zcu 0 rfl) rfl<|JLr (Zn YE rfl (Zcu 1 rfl) rfl<|JLq (.bool (!((((!decide (n=0))&&a)==(!decide (n=0)))&&((((!decide (r=zS))&&b)==(!decide (r=zS)))&&(((decide (0<m))&&c)==(decide (0<m))))))) (Zbt rfl rfl)<|JAn rfl<|ZC (.bool (!((((!decide (n=0))&&a)==(!decide (n=0)))&&((((!decide (r=zS))&&b)==(!decide (r=zS)))&&(((decide (0<m))&&c)==(decide (0<m))))))) [] Sub.nil (?_))))
 exact ⟨by unfold RZ;congr 1;cases a <;> cases b <;> cases c <;> simp,rfl⟩
theorem FX (k n:Int) (H:Heap):CT prog 213 ⟨[iv k,iv n]⟩ [] H (fun v N=>v=.bool (VK k n)∧N=[]):=by
 refine Zl func213 rfl rfl<|Zc<|JAn rfl<|Zf<|Zc<|JLM rfl<|Za<|Zh<|Zf<|Zf ?_
 refine Zd<|JLn (Pu.eql rfl rfl)<|JAn rfl<|ZF rfl (fun h1=>?_) (fun h1=>?_)
 ·refine Zk<|Zs rfl (fun _=>?_) (fun h2=>absurd h1 (df h2))
  refine Zc<|JLM rfl<|JLn (Pu.eql rfl rfl)<|JAn rfl<|ZC (.bool (decide (n=1))) [] Sub.nil (?_)
  exact ⟨by simp_all [VK],rfl⟩
 refine Zc<|JLn (Pu.eql rfl rfl)<|JAn rfl<|ZF rfl (fun h3=>?_) (fun h3=>?_)
 ·refine Zk<|Zs rfl (fun _=>?_) (fun h4=>absurd h3 (df h4))
  refine Zc<|JLM rfl<|JLn (Pu.eql rfl rfl)<|JAn rfl<|ZC (.bool (decide (n=1))) [] Sub.nil (?_)
  exact ⟨by simp_all [VK],rfl⟩
 refine Zd<|JLn (Pu.eql rfl rfl)<|JAn rfl<|ZF rfl (fun h5=>?_) (fun h5=>?_)
 ·refine Zc<|JLM rfl<|JLn (Pu.eql rfl rfl)<|JAn rfl<|ZC (.bool (decide (n=1))) [] Sub.nil (?_)
  exact ⟨by simp_all [VK],rfl⟩
 refine Zf<|Zc<|JLn (Pu.eql rfl rfl)<|JAn rfl<|ZF rfl (fun h6=>?_) (fun h6=>?_)
 ·refine Zk<|Zs rfl (fun _=>?_) (fun h7=>absurd h6 (df h7))
  refine Zc<|JLM rfl<|JLn (Pu.eql rfl rfl)<|JAn rfl<|ZC (.bool (decide (n=2))) [] Sub.nil (?_)
  exact ⟨by simp_all [VK],rfl⟩
 refine Zc<|JLn (Pu.eql rfl rfl)<|JAn rfl<|ZF rfl (fun h8=>?_) (fun h8=>?_)
 ·refine Zk<|Zs rfl (fun _=>?_) (fun h9=>absurd h8 (df h9))
  refine Zc<|JLM rfl<|JLn (Pu.eql rfl rfl)<|JAn rfl<|ZC (.bool (decide (n=2))) [] Sub.nil (?_)
  exact ⟨by simp_all [VK],rfl⟩
 refine Zd<|JLn (Pu.eql rfl rfl)<|JAn rfl<|ZF rfl (fun h10=>?_) (fun h10=>?_)
 ·refine Zc<|JLM rfl<|JLn (Pu.eql rfl rfl)<|JAn rfl<|ZC (.bool (decide (n=2))) [] Sub.nil (?_)
  exact ⟨by simp_all [VK],rfl⟩
 refine Zc<|JLn (Pu.eql rfl rfl)<|JAn rfl<|ZF rfl (fun h11=>?_) (fun h11=>?_)
 ·refine Zc<|JLM rfl<|JLn (Pu.leq rfl rfl)<|JAn rfl<|ZC (.bool (decide (n≤4))) [] Sub.nil (?_)
  exact ⟨by simp_all [VK],rfl⟩
 refine Zc<|JLn (Pu.eql rfl rfl)<|JAn rfl<|ZF rfl (fun h12=>?_) (fun h12=>?_)
 ·refine Zc<|JLM rfl<|Jc call211 rfl (fun hin=>X9 _ _ _ _) rfl ?_
  rintro _ _ ⟨rfl,rfl⟩
  refine JLn (Pu.not rfl)<|JAn rfl<|ZC (.bool (!(decide (n<2∨10<n)))) [] Sub.nil (?_)
  exact ⟨by simp_all [VK],rfl⟩
 refine Zk<|Zc<|JLM rfl<|JLn (Pu.eql rfl rfl)<|JAn rfl<|ZC (.bool (decide (n=0))) [] Sub.nil (?_)
 exact ⟨by simp_all [VK],rfl⟩
theorem Qr (kind num:Int) (ref:Sm) (ks:Value) (kids:List Pt) (H:Heap) (hks:rdS RP 35 H ks kids):CT prog 214 ⟨[.agg ⟨pkP kind num ref ks⟩]⟩ [] H (fun v N=>v=iv (V9 kind num ref kids.length)∧N=[]):=by
 refine Zl func214 rfl rfl<|Zc<|JLr (Zr (l:=pkP kind num ref ks) rfl rfl fun b1=>JAn rfl<|Zc<|JAn rfl<|Zf<|Zf<|Zd ?_)
 refine JLq (pp b1 0) (Yr rfl rfl)<|JLr (Zb ty3 rfl (Zcu 0 rfl) (Xp ..)<|JLn (Pu.eql rfl rfl)<|Za<|ZF rfl (fun h2=>?_) (fun h2=>?_))
 ·refine Zd<|JAn rfl<|Zf<|Zh<|Zc<|JLq (pp b1 0) (Yr rfl rfl)<|JLr (Zb ty3 rfl (Zcu 0 rfl) (Xp ..)<|Jc call211 rfl (fun hin=>X9 _ _ _ _) rfl ?_)
  rintro _ _ ⟨rfl,rfl⟩
  refine JAn rfl<|ZF rfl (fun h3=>?_) (fun h3=>?_)
  ·refine Zc<|JAn rfl<|ZC (iv 3) [] Sub.nil (?_)
   exact ⟨by refine congrArg (Value.int .i64) ?_;simp only [V9];(repeat' split) <;> first | omega | grind,rfl⟩
  refine Zf<|ZI mixed #[0,1,3,0,8,0,32,127,255] 7 (sm 12 7) [] [(2,fun _ _ vw qw=>vw=.agg ⟨[.bool (pfN kind),.bool (pfR kind),.bool false]⟩∧qw=[])] rfl (by kernel_rfl) rfl (by kernel_rfl)<|Dq (pp b1 0) (fun _=>Yr rfl rfl)<|Dl1 ty3 (Zcu 0 rfl) (Xp ..)<|Dc rfl call236 (fun _=>rfl) (fun hin=>V7 _ _) ?_
  rintro _ _ ⟨rfl,rfl⟩
  refine Dq (pp b1 1) (fun _=>Xg rfl rfl)<|Dl1 ty3 (Zcu 0 rfl) (Wy ..)<|Dq (pp b1 2) (fun _=>X7 rfl rfl)<|Dl Yq (Zcu 0 rfl) (US ..)<|ZM (M':=[(BX b1 (pkP kind num ref ks) 115)]) rfl ?_
  show JL _ _ _ [_,_] _ _ _
  refine Jc call212 rfl (fun hin=>PU _ _ _ _ _ _ _) rfl ?_
  rintro _ _ ⟨rfl,rfl⟩
  refine JAn rfl<|Zs rfl (fun h4=>?_) (fun h4=>?_)
  ·refine Zc<|JAn rfl<|ZC (iv 7) [] Sub.nil (?_)
   exact ⟨by refine congrArg (Value.int .i64) ?_;simp only [V9];(repeat' split) <;> first | omega | grind,rfl⟩
  refine Zc<|JLq (pp b1 34) (Z5 rfl rfl)<|JLr (Zb YB rfl (Zcu 0 rfl) (Yo ..) ?_)
  obtain ⟨a5,cap5,hv5⟩:=hks.sl
  have hle5:=hks.le
  refine JLn (Zcv Yt hv5)<|JLM rfl<|JLn (Pu.gtr rfl rfl)<|JAn rfl<|ZF rfl (fun h6=>?_) (fun h6=>?_)
  ·refine Zc<|JAn rfl<|ZC (iv 2) [] Sub.nil (?_)
   exact ⟨by refine congrArg (Value.int .i64) ?_;simp only [V9];(repeat' split) <;> first | omega | grind,rfl⟩
  refine Zf<|Zc<|JLq (pp b1 0) (Yr rfl rfl)<|JLr (Zb ty3 rfl (Zcu 0 rfl) (Xp ..)<|JLn (Pu.eql rfl rfl)<|JLM rfl<|ZA 3 [31,32,33] [(33,cond (decide (kind=2)) (.bool (decide (num<0∨1073741824<num))) undef)] ?_ fun f8=>?_)
  ·cases h7:(decide (kind=2)) with
   | true=>
    replace h7:=dt h7
    refine JLq (pp b1 1) (Xg rfl rfl)<|JLr (Zb ty3 rfl (Zcu 0 rfl) (Wy ..)<|Jc call211 rfl (fun hin=>X9 _ _ _ _) rfl ?_)
    rintro _ _ ⟨rfl,rfl⟩
    exact Za ⟨⟨rfl,trivial⟩,rfl⟩
   | false=>
    exact ZJ rfl ⟨rfl,trivial⟩
  refine JLn (ZcA rfl rfl rfl)<|JAn rfl<|Zs rfl (fun h9=>?_) (fun h9=>?_)
  ·obtain ⟨h9a,h9b⟩:=Xa h9
   replace h9a:=dt h9a
   replace h9b:=dt h9b
   refine Zk<|Zs rfl (fun h10=>?_) (fun h10=>?_)
   ·obtain ⟨h10a,h10b⟩:=Xa h10
    replace h10a:=dt h10a
    replace h10b:=dt h10b
    refine Zc<|JAn rfl<|ZC (iv 3) [] Sub.nil (?_)
    exact ⟨by refine congrArg (Value.int .i64) ?_;simp only [V9];(repeat' split) <;> first | omega | grind,rfl⟩
   refine Zk<|Zc<|JAn rfl<|ZC (iv 0) [] Sub.nil (?_)
   exact ⟨by refine congrArg (Value.int .i64) ?_;simp only [V9];(repeat' split) <;> first | omega | grind,rfl⟩
  refine Zd<|JLq (pp b1 0) (Yr rfl rfl)<|JLr (Zb ty3 rfl (Zcu 0 rfl) (Xp ..)<|JLn (Pu.eql rfl rfl)<|JLM rfl<|ZA 3 [39,40,41] [(41,cond (decide (kind=3)) (.bool (decide (num<0∨7<num))) undef)] ?_ fun f12=>?_)
  ·cases h11:(decide (kind=3)) with
   | true=>
    replace h11:=dt h11
    refine JLq (pp b1 1) (Xg rfl rfl)<|JLr (Zb ty3 rfl (Zcu 0 rfl) (Wy ..)<|Jc call211 rfl (fun hin=>X9 _ _ _ _) rfl ?_)
    rintro _ _ ⟨rfl,rfl⟩
    exact Za ⟨⟨rfl,trivial⟩,rfl⟩
   | false=>
    exact ZJ rfl ⟨rfl,trivial⟩
  refine JLn (ZcA rfl rfl rfl)<|JAn rfl<|Zs rfl (fun h13=>?_) (fun h13=>?_)
  ·obtain ⟨h13a,h13b⟩:=Xa h13
   replace h13a:=dt h13a
   replace h13b:=dt h13b
   refine Zc<|JAn rfl<|ZC (iv 3) [] Sub.nil (?_)
   exact ⟨by refine congrArg (Value.int .i64) ?_;simp only [V9];(repeat' split) <;> first | omega | grind,rfl⟩
  refine Zk<|Zc<|JAn rfl<|ZC (iv 0) [] Sub.nil (?_)
  exact ⟨by refine congrArg (Value.int .i64) ?_;simp only [V9];(repeat' split) <;> first | omega | grind,rfl⟩
 refine Zk<|Zf<|Zh<|Zc<|JLq (pp b1 0) (Yr rfl rfl)<|JLr (Zb ty3 rfl (Zcu 0 rfl) (Xp ..)<|Jc call211 rfl (fun hin=>X9 _ _ _ _) rfl ?_)
 rintro _ _ ⟨rfl,rfl⟩
 refine JAn rfl<|ZF rfl (fun h14=>?_) (fun h14=>?_)
 ·refine Zc<|JAn rfl<|ZC (iv 3) [] Sub.nil (?_)
  exact ⟨by refine congrArg (Value.int .i64) ?_;simp only [V9];(repeat' split) <;> first | omega | grind,rfl⟩
 refine Zf<|ZI mixed #[0,1,3,0,8,0,32,127,255] 7 (sm 12 7) [] [(2,fun _ _ vw qw=>vw=.agg ⟨[.bool (pfN kind),.bool (pfR kind),.bool false]⟩∧qw=[])] rfl (by kernel_rfl) rfl (by kernel_rfl)<|Dq (pp b1 0) (fun _=>Yr rfl rfl)<|Dl1 ty3 (Zcu 0 rfl) (Xp ..)<|Dc rfl call236 (fun _=>rfl) (fun hin=>V7 _ _) ?_
 rintro _ _ ⟨rfl,rfl⟩
 refine Dq (pp b1 1) (fun _=>Xg rfl rfl)<|Dl1 ty3 (Zcu 0 rfl) (Wy ..)<|Dq (pp b1 2) (fun _=>X7 rfl rfl)<|Dl Yq (Zcu 0 rfl) (US ..)<|ZM (M':=[(BX b1 (pkP kind num ref ks) 115)]) rfl ?_
 show JL _ _ _ [_,_] _ _ _
 refine Jc call212 rfl (fun hin=>PU _ _ _ _ _ _ _) rfl ?_
 rintro _ _ ⟨rfl,rfl⟩
 refine JAn rfl<|Zs rfl (fun h15=>?_) (fun h15=>?_)
 ·refine Zc<|JAn rfl<|ZC (iv 7) [] Sub.nil (?_)
  exact ⟨by refine congrArg (Value.int .i64) ?_;simp only [V9];(repeat' split) <;> first | omega | grind,rfl⟩
 refine Zc<|JLq (pp b1 34) (Z5 rfl rfl)<|JLr (Zb YB rfl (Zcu 0 rfl) (Yo ..) ?_)
 obtain ⟨a16,cap16,hv16⟩:=hks.sl
 have hle16:=hks.le
 refine JLn (Zcv Yt hv16)<|JLM rfl<|JLn (Pu.gtr rfl rfl)<|JAn rfl<|ZF rfl (fun h17=>?_) (fun h17=>?_)
 ·refine Zc<|JAn rfl<|ZC (iv 2) [] Sub.nil (?_)
  exact ⟨by refine congrArg (Value.int .i64) ?_;simp only [V9];(repeat' split) <;> first | omega | grind,rfl⟩
 refine Zf<|Zc<|JLq (pp b1 0) (Yr rfl rfl)<|JLr (Zb ty3 rfl (Zcu 0 rfl) (Xp ..)<|JLn (Pu.eql rfl rfl)<|JLM rfl<|ZA 3 [31,32,33] [(33,cond (decide (kind=2)) (.bool (decide (num<0∨1073741824<num))) undef)] ?_ fun f19=>?_)
 ·cases h18:(decide (kind=2)) with
  | true=>
   replace h18:=dt h18
   refine JLq (pp b1 1) (Xg rfl rfl)<|JLr (Zb ty3 rfl (Zcu 0 rfl) (Wy ..)<|Jc call211 rfl (fun hin=>X9 _ _ _ _) rfl ?_)
   rintro _ _ ⟨rfl,rfl⟩
   exact Za ⟨⟨rfl,trivial⟩,rfl⟩
  | false=>
   exact ZJ rfl ⟨rfl,trivial⟩
 refine JLn (ZcA rfl rfl rfl)<|JAn rfl<|Zs rfl (fun h20=>?_) (fun h20=>?_)
 ·obtain ⟨h20a,h20b⟩:=Xa h20
  replace h20a:=dt h20a
  replace h20b:=dt h20b
  refine Zk<|Zs rfl (fun h21=>?_) (fun h21=>?_)
  ·obtain ⟨h21a,h21b⟩:=Xa h21
   replace h21a:=dt h21a
   replace h21b:=dt h21b
   refine Zc<|JAn rfl<|ZC (iv 3) [] Sub.nil (?_)
   exact ⟨by refine congrArg (Value.int .i64) ?_;simp only [V9];(repeat' split) <;> first | omega | grind,rfl⟩
  refine Zk<|Zc<|JAn rfl<|ZC (iv 0) [] Sub.nil (?_)
  exact ⟨by refine congrArg (Value.int .i64) ?_;simp only [V9];(repeat' split) <;> first | omega | grind,rfl⟩
 refine Zd<|JLq (pp b1 0) (Yr rfl rfl)<|JLr (Zb ty3 rfl (Zcu 0 rfl) (Xp ..)<|JLn (Pu.eql rfl rfl)<|JLM rfl<|ZA 3 [39,40,41] [(41,cond (decide (kind=3)) (.bool (decide (num<0∨7<num))) undef)] ?_ fun f23=>?_)
 ·cases h22:(decide (kind=3)) with
  | true=>
   replace h22:=dt h22
   refine JLq (pp b1 1) (Xg rfl rfl)<|JLr (Zb ty3 rfl (Zcu 0 rfl) (Wy ..)<|Jc call211 rfl (fun hin=>X9 _ _ _ _) rfl ?_)
   rintro _ _ ⟨rfl,rfl⟩
   exact Za ⟨⟨rfl,trivial⟩,rfl⟩
  | false=>
   exact ZJ rfl ⟨rfl,trivial⟩
 refine JLn (ZcA rfl rfl rfl)<|JAn rfl<|Zs rfl (fun h24=>?_) (fun h24=>?_)
 ·obtain ⟨h24a,h24b⟩:=Xa h24
  replace h24a:=dt h24a
  replace h24b:=dt h24b
  refine Zc<|JAn rfl<|ZC (iv 3) [] Sub.nil (?_)
  exact ⟨by refine congrArg (Value.int .i64) ?_;simp only [V9];(repeat' split) <;> first | omega | grind,rfl⟩
 refine Zk<|Zc<|JAn rfl<|ZC (iv 0) [] Sub.nil (?_)
 exact ⟨by refine congrArg (Value.int .i64) ?_;simp only [V9];(repeat' split) <;> first | omega | grind,rfl⟩
theorem Ry:∀ (p:Pt) (cs:List Value) (H:Heap),RP H cs p→CT prog 188 ⟨[.agg ⟨cs⟩]⟩ [] H (fun v N=>v=iv (V8 p)∧N=[]):=by
 intro p
 induction p using Pt.ind with
 | h kind num ref kids ih=>
 intro cs H hp
 obtain ⟨ks,rfl,hk,hn,hks⟩:=RP_mk.1 hp
 refine Zl func188 rfl rfl<|Zc<|JLr (Zr (l:=pkP kind num ref ks) rfl rfl fun b1=>JAn rfl<|Zc<|JLr (Zn ZU rfl (Zcu 0 rfl) (SA ..)<|Jc call214 rfl (fun hin=>Qr _ _ _ _ _ _ (RPs.mono (Hle.hu _ _) hks)) rfl ?_))
 rintro _ _ ⟨rfl,rfl⟩
 refine JAn rfl<|Zf<|Zc<|JAn rfl<|Zh<|Zv (fun k ρ M=>∃ (j:Nat) (e:Int),ZR ρ [(1,pp b1 0),(2,iv 0),(3,iv e),(4,iv ((j:Int)))]=ρ∧Sub [(BX b1 (pkP kind num ref ks) 115)] M∧j≤kids.length∧(if e=0 then RD (kids.drop j) else e)=V8 (.mk kind num ref kids)∧k=kids.length-j) _ ⟨0,(V9 kind num ref kids.length),Zj rfl,(Sk Sub.nil),Nat.zero_le _,(by rw [V8];rfl),rfl⟩ ?_
 rintro _ ρ2 _ ⟨j,e,e3,hm7,hj,hinv,rfl⟩
 obtain ⟨ρ8,rfl⟩:=Zo e3
 clear e3
 refine ZD hm7 ?_
 have hlen:=hks.le
 refine Zf<|Zc<|JLM rfl<|JLq (pp b1 34) (Z5 rfl rfl)<|JLr (Zb YB rfl (Zcu 0 rfl) (Yo ..) ?_)
 obtain ⟨a9,cap9,hv9⟩:=hks.sl
 have hle9:=hks.le
 refine JLn (Zcv Yt hv9)<|JLn (Pu.lss rfl rfl)<|JLM rfl<|ZA 2 [13,14] [(14,cond (decide ((j:Int)<(kids.length:Int))) (.bool (decide (e=0))) undef)] ?_ fun f11=>?_
 ·cases h10:(decide ((j:Int)<(kids.length:Int))) with
  | true=>
   replace h10:=dt h10
   have h10n:j<kids.length:=by omega
   refine JLM rfl<|JLn (Pu.eql rfl rfl) ?_
   exact Za ⟨⟨rfl,trivial⟩,rfl⟩
  | false=>
   exact ZJ rfl ⟨rfl,trivial⟩
 refine JLn (ZcA rfl rfl rfl)<|Za<|Zs rfl (fun h12=>?_) (fun h12=>?_)
 ·obtain ⟨h12a,h12b⟩:=Xa h12
  replace h12a:=dt h12a
  have h12an:j<kids.length:=by omega
  replace h12b:=dt h12b
  refine Zk<|Zf<|Zh<|Zd<|JLq (pp b1 34) (Z5 rfl rfl)<|JLr (Zb YB rfl (Zcu 0 rfl) (Yo ..)<|JLM rfl ?_)
  obtain ⟨b13,o13,cap13,row13,T13,fr13,cs13,hv13,hb13,hs13,hE13⟩:=hks.get j (by omega)
  refine JLn (Zcw j Yt ZU hv13 rfl rfl (by omega))<|JLr (Zn ZU rfl (Zcx hb13) hs13<|Jc call188 rfl (fun hin=>ih _ (getElem_mem h12an) _ _ (RP.mono (Hle.hu _ _) hE13)) rfl ?_)
  rintro _ _ ⟨rfl,rfl⟩
  refine JAn rfl<|Zd<|JLM rfl<|JLn (Zcy rfl rfl (by omega))<|JAn rfl<|⟨_,?_,(j+1),(V8 (kids[j])),Zj rfl,(Sk Sub.nil),?_,?_,rfl⟩
  ·omega
  ·omega
  rw [if_pos (by assumption),YU h12an,RD] at hinv;exact hinv
 refine Zu _ rfl<|Zc<|JLM rfl<|JAn rfl<|ZC (iv e) [] Sub.nil (?_)
 refine ⟨?_,rfl⟩
 rw [← hinv];by_cases he:e=0
 ·have hj2:kids.length≤j:=by
   apply Nat.le_of_not_lt;intro hlt;have:(j:Int)<(kids.length:Int):=by omega
   simp_all
  rw [if_pos he,WU hj2,he];rfl
 rw [if_neg he]
theorem Rz:∀ (p:Pt) (cs:List Value) (H:Heap),RP H cs p→CT prog 137 ⟨[.agg ⟨cs⟩]⟩ [] H (fun v N=>v=iv (Wz p)∧N=[]):=by
 intro p
 induction p using Pt.ind with
 | h kind num ref kids ih=>
 intro cs H hp
 obtain ⟨ks,rfl,hk,hn,hks⟩:=RP_mk.1 hp
 refine Zl func137 rfl rfl<|Zc<|JLr (Zr (l:=pkP kind num ref ks) rfl rfl fun b1=>JAn rfl<|Zf<|Zc<|JLq (pp b1 0) (Yr rfl rfl)<|JLr (Zb ty3 rfl (Zcu 0 rfl) (Xp ..)<|Jc call134 rfl (fun hin=>VJ _ _ _ _) rfl ?_))
 rintro _ _ ⟨rfl,rfl⟩
 refine Za<|ZF rfl (fun h2=>?_) (fun h2=>?_)
 ·refine Zc<|JAn rfl<|ZC (iv 3) [] Sub.nil (?_)
  have hx:Vj kind num ref kids.length=3:=by simp only [Vj];(repeat' split) <;> first | omega | grind
  exact ⟨by rw [Wz,hx];rfl,rfl⟩
 refine Zk<|Zf<|Zc<|JLq (pp b1 0) (Yr rfl rfl)<|JLr (Zb ty3 rfl (Zcu 0 rfl) (Xp ..)<|JLn (Pu.eql rfl rfl)<|JLM rfl<|ZA 3 [12,13,14] [(14,cond (decide (kind=1)) (.bool (!decide (num=0))) undef)] ?_ fun f4=>?_)
 ·cases h3:(decide (kind=1)) with
  | true=>
   replace h3:=dt h3
   refine JLq (pp b1 1) (Xg rfl rfl)<|JLr (Zb ty3 rfl (Zcu 0 rfl) (Wy ..)<|JLn (Pu.neq rfl rfl) ?_)
   exact Za ⟨⟨rfl,trivial⟩,rfl⟩
  | false=>
   exact ZJ rfl ⟨rfl,trivial⟩
 refine JLn (ZcA rfl rfl rfl)<|JLM rfl<|ZA 9 [17,18,19,20,21,22,23,24,25] [(25,cond ((decide (kind=1))&&(!decide (num=0))) undef (.bool ((!decide (kind=3))&&(!decide (ref=zS)))))] ?_ fun f8=>?_
 ·cases h5:((decide (kind=1))&&(!decide (num=0))) with
  | false=>
   refine JLq (pp b1 0) (Yr rfl rfl)<|JLr (Zb ty3 rfl (Zcu 0 rfl) (Xp ..)<|JLn (Pu.neq rfl rfl)<|JLM rfl<|ZA 4 [21,22,23,24] [(24,cond (!decide (kind=3)) (.bool (!decide (ref=zS))) undef)] ?_ fun f7=>?_)
   ·cases h6:(!decide (kind=3)) with
    | true=>
     replace h6:=nt h6
     replace h6:=df h6
     refine JLq (pp b1 2) (X7 rfl rfl)<|JLr (Zn Yq rfl (Zcu 0 rfl) (US ..)<|JLq (.agg ⟨sC zS⟩) (Pu.build (pv:=[]) (l:=sC zS) rfl KK)<|JLn (neqS rfl rfl) ?_)
     exact Za ⟨⟨rfl,trivial⟩,rfl⟩
    | false=>
     exact ZJ rfl ⟨rfl,trivial⟩
   refine JLn (ZcA rfl rfl rfl) ?_
   exact Za ⟨⟨rfl,trivial⟩,rfl⟩
  | true=>
   exact ZJ rfl ⟨rfl,trivial⟩
 refine JLn (ZcC rfl rfl rfl)<|Za<|Zs rfl (fun h9=>?_) (fun h9=>?_)
 ·refine Zc<|JAn rfl<|ZC (iv 7) [] Sub.nil (?_)
  have hx:Vj kind num ref kids.length=7:=by simp only [Vj];(repeat' split) <;> first | omega | grind
  exact ⟨by rw [Wz,hx];rfl,rfl⟩
 obtain ⟨h9a,h9b⟩:=orF h9
 refine Zk<|Zf<|Zc<|JLq (pp b1 0) (Yr rfl rfl)<|JLr (Zb ty3 rfl (Zcu 0 rfl) (Xp ..)<|JLn (Pu.neq rfl rfl)<|JLM rfl<|ZA 4 [31,32,33,34] [(34,cond (!decide (kind=3)) (.bool (decide (0<(kids.length:Int)))) undef)] ?_ fun f12=>?_)
 ·cases h10:(!decide (kind=3)) with
  | true=>
   replace h10:=nt h10
   replace h10:=df h10
   refine JLq (pp b1 34) (Z5 rfl rfl)<|JLr (Zb YB rfl (Zcu 0 rfl) (Yo ..) ?_)
   obtain ⟨a11,cap11,hv11⟩:=hks.sl
   have hle11:=hks.le
   refine JLn (Zcv Yt hv11)<|JLn (Pu.gtr rfl rfl) ?_
   exact Za ⟨⟨rfl,trivial⟩,rfl⟩
  | false=>
   exact ZJ rfl ⟨rfl,trivial⟩
 refine JLn (ZcA rfl rfl rfl)<|JLM rfl<|ZA 4 [37,38,39,40] [(40,cond ((!decide (kind=3))&&(decide (0<(kids.length:Int)))) undef (.bool (decide (4<(kids.length:Int)))))] ?_ fun f15=>?_
 ·cases h13:((!decide (kind=3))&&(decide (0<(kids.length:Int)))) with
  | false=>
   refine JLq (pp b1 34) (Z5 rfl rfl)<|JLr (Zb YB rfl (Zcu 0 rfl) (Yo ..) ?_)
   obtain ⟨a14,cap14,hv14⟩:=hks.sl
   have hle14:=hks.le
   refine JLn (Zcv Yt hv14)<|JLn (Pu.gtr rfl rfl) ?_
   exact Za ⟨⟨rfl,trivial⟩,rfl⟩
  | true=>
   exact ZJ rfl ⟨rfl,trivial⟩
 refine JLn (ZcC rfl rfl rfl)<|Za<|Zs rfl (fun h16=>?_) (fun h16=>?_)
 ·refine Zc<|JAn rfl<|ZC (iv 2) [] Sub.nil (?_)
  have hx:Vj kind num ref kids.length=2:=by simp only [Vj];(repeat' split) <;> first | omega | grind
  exact ⟨by rw [Wz,hx];rfl,rfl⟩
 obtain ⟨h16a,h16b⟩:=orF h16
 replace h16b:=df h16b
 refine Zk<|Zf<|Zc<|JLq (pp b1 0) (Yr rfl rfl)<|JLr (Zb ty3 rfl (Zcu 0 rfl) (Xp ..)<|JLn (Pu.eql rfl rfl)<|JLM rfl<|ZA 3 [46,47,48] [(48,cond (decide (kind=2)) (.bool (decide (num<0∨1073741824<num))) undef)] ?_ fun f18=>?_)
 ·cases h17:(decide (kind=2)) with
  | true=>
   replace h17:=dt h17
   refine JLq (pp b1 1) (Xg rfl rfl)<|JLr (Zb ty3 rfl (Zcu 0 rfl) (Wy ..)<|Jc call134 rfl (fun hin=>VJ _ _ _ _) rfl ?_)
   rintro _ _ ⟨rfl,rfl⟩
   exact Za ⟨⟨rfl,trivial⟩,rfl⟩
  | false=>
   exact ZJ rfl ⟨rfl,trivial⟩
 refine JLn (ZcA rfl rfl rfl)<|JLM rfl<|ZA 8 [51,52,53,54,55,56,57,58] [(58,cond ((decide (kind=2))&&(decide (num<0∨1073741824<num))) undef (.bool ((decide (kind=3))&&(decide (num<0∨7<num)))))] ?_ fun f22=>?_
 ·cases h19:((decide (kind=2))&&(decide (num<0∨1073741824<num))) with
  | false=>
   refine JLq (pp b1 0) (Yr rfl rfl)<|JLr (Zb ty3 rfl (Zcu 0 rfl) (Xp ..)<|JLn (Pu.eql rfl rfl)<|JLM rfl<|ZA 3 [55,56,57] [(57,cond (decide (kind=3)) (.bool (decide (num<0∨7<num))) undef)] ?_ fun f21=>?_)
   ·cases h20:(decide (kind=3)) with
    | true=>
     replace h20:=dt h20
     refine JLq (pp b1 1) (Xg rfl rfl)<|JLr (Zb ty3 rfl (Zcu 0 rfl) (Wy ..)<|Jc call134 rfl (fun hin=>VJ _ _ _ _) rfl ?_)
     rintro _ _ ⟨rfl,rfl⟩
     exact Za ⟨⟨rfl,trivial⟩,rfl⟩
    | false=>
     exact ZJ rfl ⟨rfl,trivial⟩
   refine JLn (ZcA rfl rfl rfl) ?_
   exact Za ⟨⟨rfl,trivial⟩,rfl⟩
  | true=>
   exact ZJ rfl ⟨rfl,trivial⟩
 refine JLn (ZcC rfl rfl rfl)<|Za<|Zs rfl (fun h23=>?_) (fun h23=>?_)
 ·refine Zc<|JAn rfl<|ZC (iv 3) [] Sub.nil (?_)
  have hx:Vj kind num ref kids.length=3:=by simp only [Vj];(repeat' split) <;> first | omega | grind
  exact ⟨by rw [Wz,hx];rfl,rfl⟩
 obtain ⟨h23a,h23b⟩:=orF h23
 refine Zk<|Zf<|Zc<|JAn rfl<|Zh<|Zv (fun k ρ M=>∃ (j:Nat),ZR ρ [(1,pp b1 0),(2,iv 0),(3,iv ((j:Int)))]=ρ∧Sub [(BX b1 (pkP kind num ref ks) 115)] M∧j≤kids.length∧Vj kind num ref kids.length=0∧VT (kids.drop j)=VT kids∧k=kids.length-j) _ ⟨0,Zj rfl,(Sk Sub.nil),Nat.zero_le _,(by simp only [Vj];(repeat' split) <;> first | omega | grind),rfl,rfl⟩ ?_
 rintro _ ρ24 _ ⟨j,e25,hm28,hj,hh,hinv,rfl⟩
 obtain ⟨ρ29,rfl⟩:=Zo e25
 clear e25
 refine ZD hm28 ?_
 have hlen:=hks.le
 refine Zf<|Zc<|JLM rfl<|JLq (pp b1 34) (Z5 rfl rfl)<|JLr (Zb YB rfl (Zcu 0 rfl) (Yo ..) ?_)
 obtain ⟨a30,cap30,hv30⟩:=hks.sl
 have hle30:=hks.le
 refine JLn (Zcv Yt hv30)<|JLn (Pu.lss rfl rfl)<|Za<|ZF rfl (fun h31=>?_) (fun h31=>?_)
 ·have h31n:j<kids.length:=by omega
  refine Zk<|Zf<|Zh<|Zc<|JLq (pp b1 34) (Z5 rfl rfl)<|JLr (Zb YB rfl (Zcu 0 rfl) (Yo ..)<|JLM rfl ?_)
  obtain ⟨b32,o32,cap32,row32,T32,fr32,cs32,hv32,hb32,hs32,hE32⟩:=hks.get j (by omega)
  refine JLn (Zcw j Yt ZU hv32 rfl rfl (by omega))<|JLr (Zn ZU rfl (Zcx hb32) hs32<|Jc call137 rfl (fun hin=>ih _ (getElem_mem h31n) _ _ (RP.mono (Hle.hu _ _) hE32)) rfl ?_)
  rintro _ _ ⟨rfl,rfl⟩
  refine JAn rfl<|Zc<|JLM rfl<|JLn (Pu.neq rfl rfl)<|Za<|Zs rfl (fun h33=>?_) (fun h33=>?_)
  ·replace h33:=nt h33
   replace h33:=df h33
   refine Zc<|JLM rfl<|JAn rfl<|ZC (iv (Wz (kids[j]))) [] Sub.nil (?_)
   exact ⟨by rw [Wz,if_pos hh,← hinv,YU h31n,VT,if_neg h33],rfl⟩
  replace h33:=nf h33
  replace h33:=dt h33
  refine Zk<|Zd<|JLM rfl<|JLn (Zcy rfl rfl (by omega))<|JAn rfl<|⟨_,?_,(j+1),Zj rfl,(Sk Sub.nil),?_,?_,?_,rfl⟩
  ·omega
  ·omega
  ·assumption
  rw [YU h31n,VT,if_pos h33] at hinv;exact hinv
 have h31n:kids.length≤j:=by omega
 refine Zu _ rfl<|Zc<|JAn rfl<|ZC (iv 0) [] Sub.nil (?_)
 exact ⟨by rw [Wz,if_pos hh,← hinv,WU h31n];rfl,rfl⟩
theorem NO:∀ (t:Tm) (d m b:Int) (cs:List Value) (H:Heap),RT H cs t→0≤b→b+2*sizeT t≤1000000→CT prog 86 ⟨[.agg ⟨cs⟩,iv d,iv m,iv b]⟩ [] H (fun v N=>v=iv (Y6 d m b t)∧N=[]):=by
 intro t
 induction t using Tm.ind with
 | h kind num ref kids cases ih ih'=>
 intro d m b cs H ht hb0 hb
 obtain ⟨ks,cv,rfl,hk,hn,hks,hcv⟩:=RT_mk.1 ht
 rw [sizeT] at hb
 have hn1: -9223372036854775808≤num:=hn.1
 have hn2:num≤9223372036854775807:=hn.2
 refine Zl func86 rfl rfl<|Zc<|JLr (Zr (l:=pkT kind num ref ks cv) rfl rfl fun b1=>JAn rfl<|Zf<|Zc<|JLq (pp b1 0) (Z1 rfl rfl)<|JLr (Zb ty3 rfl (Zcu 0 rfl) (Yf ..)<|Jc call134 rfl (fun hin=>VJ _ _ _ _) rfl ?_))
 rintro _ _ ⟨rfl,rfl⟩
 refine Za<|ZF rfl (fun h2=>?_) (fun h2=>?_)
 ·refine Zc<|JAn rfl<|ZC (iv 3) [] Sub.nil (?_)
  have hx:Xb d m b kind num ref kids.length cases.length=3:=by simp only [Xb];(repeat' split) <;> first | omega | grind
  exact ⟨by rw [Y6,hx];rfl,rfl⟩
 refine Zk<|Zf<|Zc<|JLq (pp b1 0) (Z1 rfl rfl)<|JLr (Zb ty3 rfl (Zcu 0 rfl) (Yf ..)<|Jc call135 rfl (fun hin=>Hb _ _) rfl ?_)
 rintro _ _ ⟨rfl,rfl⟩
 refine JLn (Pu.not rfl)<|JLM rfl<|ZA 3 [25,26,27] [(27,cond (!(Xj kind)) (.bool (!decide (num=0))) undef)] ?_ fun f4=>?_
 ·cases h3:(!(Xj kind)) with
  | true=>
   replace h3:=nt h3
   refine JLq (pp b1 1) (Yj rfl rfl)<|JLr (Zb ty3 rfl (Zcu 0 rfl) (YP ..)<|JLn (Pu.neq rfl rfl) ?_)
   exact Za ⟨⟨rfl,trivial⟩,rfl⟩
  | false=>
   exact ZJ rfl ⟨rfl,trivial⟩
 refine JLn (ZcA rfl rfl rfl)<|JLM rfl<|ZA 10 [30,31,32,33,34,35,36,37,38,39] [(39,cond ((!(Xj kind))&&(!decide (num=0))) undef (.bool ((!(Y8 kind))&&(!decide (ref=zS)))))] ?_ fun f8=>?_
 ·cases h5:((!(Xj kind))&&(!decide (num=0))) with
  | false=>
   refine JLq (pp b1 0) (Z1 rfl rfl)<|JLr (Zb ty3 rfl (Zcu 0 rfl) (Yf ..)<|Jc call92 rfl (fun hin=>O3 _ _) rfl ?_)
   rintro _ _ ⟨rfl,rfl⟩
   refine JLn (Pu.not rfl)<|JLM rfl<|ZA 4 [35,36,37,38] [(38,cond (!(Y8 kind)) (.bool (!decide (ref=zS))) undef)] ?_ fun f7=>?_
   ·cases h6:(!(Y8 kind)) with
    | true=>
     replace h6:=nt h6
     refine JLq (pp b1 2) (WL rfl rfl)<|JLr (Zn Yq rfl (Zcu 0 rfl) (V5 ..)<|JLq (.agg ⟨sC zS⟩) (Pu.build (pv:=[]) (l:=sC zS) rfl KK)<|JLn (neqS rfl rfl) ?_)
     exact Za ⟨⟨rfl,trivial⟩,rfl⟩
    | false=>
     exact ZJ rfl ⟨rfl,trivial⟩
   refine JLn (ZcA rfl rfl rfl) ?_
   exact Za ⟨⟨rfl,trivial⟩,rfl⟩
  | true=>
   exact ZJ rfl ⟨rfl,trivial⟩
 refine JLn (ZcC rfl rfl rfl)<|JLM rfl<|ZA 9 [42,43,44,45,46,47,48,49,50] [(50,cond (((!(Xj kind))&&(!decide (num=0)))||((!(Y8 kind))&&(!decide (ref=zS)))) undef (.bool ((!decide (kind=9))&&(decide (0<(cases.length:Int))))))] ?_ fun f13=>?_
 ·cases h9:(((!(Xj kind))&&(!decide (num=0)))||((!(Y8 kind))&&(!decide (ref=zS)))) with
  | false=>
   obtain ⟨h9a,h9b⟩:=orF h9
   refine JLq (pp b1 0) (Z1 rfl rfl)<|JLr (Zb ty3 rfl (Zcu 0 rfl) (Yf ..)<|JLn (Pu.neq rfl rfl)<|JLM rfl<|ZA 4 [46,47,48,49] [(49,cond (!decide (kind=9)) (.bool (decide (0<(cases.length:Int)))) undef)] ?_ fun f12=>?_)
   ·cases h10:(!decide (kind=9)) with
    | true=>
     replace h10:=nt h10
     replace h10:=df h10
     refine JLq (pp b1 35) (ZY rfl rfl)<|JLr (Zb YL rfl (Zcu 0 rfl) (Z3 ..) ?_)
     obtain ⟨a11,cap11,hv11⟩:=hcv.sl
     have hle11:=hcv.le
     refine JLn (Zcv Yz hv11)<|JLn (Pu.gtr rfl rfl) ?_
     exact Za ⟨⟨rfl,trivial⟩,rfl⟩
    | false=>
     exact ZJ rfl ⟨rfl,trivial⟩
   refine JLn (ZcA rfl rfl rfl) ?_
   exact Za ⟨⟨rfl,trivial⟩,rfl⟩
  | true=>
   exact ZJ rfl ⟨rfl,trivial⟩
 refine JLn (ZcC rfl rfl rfl)<|Za<|Zs rfl (fun h14=>?_) (fun h14=>?_)
 ·refine Zc<|JAn rfl<|ZC (iv 7) [] Sub.nil (?_)
  have hx:Xb d m b kind num ref kids.length cases.length=7:=by simp only [Xb];(repeat' split) <;> first | omega | grind
  exact ⟨by rw [Y6,hx];rfl,rfl⟩
 obtain ⟨h14a,h14b⟩:=orF h14
 obtain ⟨h14aa,h14ab⟩:=orF h14a
 refine Zk<|Zc<|JLq (pp b1 0) (Z1 rfl rfl)<|JLr (Zb ty3 rfl (Zcu 0 rfl) (Yf ..)<|Jc call136 rfl (fun hin=>FY _ _) rfl ?_)
 rintro _ _ ⟨rfl,rfl⟩
 refine JLM rfl<|JLn (Pu.extract rfl rfl)<|JLn (Pu.extract rfl rfl)<|JLA rfl<|JAn rfl<|Zf<|Zc<|JLq (pp b1 34) (Yd rfl rfl)<|JLr (Zb YZ rfl (Zcu 0 rfl) (Yh ..) ?_)
 obtain ⟨a15,cap15,hv15⟩:=hks.sl
 have hle15:=hks.le
 refine JLn (Zcv ZQ hv15)<|JLM rfl<|JLM rfl<|Jc call134 rfl (fun hin=>VJ _ _ _ _) rfl ?_
 rintro _ _ ⟨rfl,rfl⟩
 refine JLM rfl<|ZA 4 [65,66,67,68] [(68,cond (decide ((kids.length:Int)<loK kind∨hiK kind<(kids.length:Int))) undef (.bool (decide (8<(cases.length:Int)))))] ?_ fun f18=>?_
 ·cases h16:(decide ((kids.length:Int)<loK kind∨hiK kind<(kids.length:Int))) with
  | false=>
   replace h16:=df h16
   refine JLq (pp b1 35) (ZY rfl rfl)<|JLr (Zb YL rfl (Zcu 0 rfl) (Z3 ..) ?_)
   obtain ⟨a17,cap17,hv17⟩:=hcv.sl
   have hle17:=hcv.le
   refine JLn (Zcv Yz hv17)<|JLn (Pu.gtr rfl rfl) ?_
   exact Za ⟨⟨rfl,trivial⟩,rfl⟩
  | true=>
   exact ZJ rfl ⟨rfl,trivial⟩
 refine JLn (ZcC rfl rfl rfl)<|Za<|Zs rfl (fun h19=>?_) (fun h19=>?_)
 ·refine Zc<|JAn rfl<|ZC (iv 2) [] Sub.nil (?_)
  have hx:Xb d m b kind num ref kids.length cases.length=2:=by simp only [Xb];(repeat' split) <;> first | omega | grind
  exact ⟨by rw [Y6,hx];rfl,rfl⟩
 obtain ⟨h19a,h19b⟩:=orF h19
 replace h19a:=df h19a
 replace h19b:=df h19b
 refine Zk<|Zf<|Zc<|JLq (pp b1 0) (Z1 rfl rfl)<|JLr (Zb ty3 rfl (Zcu 0 rfl) (Yf ..)<|JLn (Pu.eql rfl rfl)<|JLM rfl<|ZA 3 [74,75,76] [(76,cond (decide (kind=2)) (.bool (decide (num<0∨1073741824<num))) undef)] ?_ fun f21=>?_)
 ·cases h20:(decide (kind=2)) with
  | true=>
   replace h20:=dt h20
   refine JLq (pp b1 1) (Yj rfl rfl)<|JLr (Zb ty3 rfl (Zcu 0 rfl) (YP ..)<|Jc call134 rfl (fun hin=>VJ _ _ _ _) rfl ?_)
   rintro _ _ ⟨rfl,rfl⟩
   exact Za ⟨⟨rfl,trivial⟩,rfl⟩
  | false=>
   exact ZJ rfl ⟨rfl,trivial⟩
 refine JLn (ZcA rfl rfl rfl)<|JLM rfl<|ZA 8 [79,80,81,82,83,84,85,86] [(86,cond ((decide (kind=2))&&(decide (num<0∨1073741824<num))) undef (.bool ((decide (kind=10))&&(decide (num<1∨5<num)))))] ?_ fun f25=>?_
 ·cases h22:((decide (kind=2))&&(decide (num<0∨1073741824<num))) with
  | false=>
   refine JLq (pp b1 0) (Z1 rfl rfl)<|JLr (Zb ty3 rfl (Zcu 0 rfl) (Yf ..)<|JLn (Pu.eql rfl rfl)<|JLM rfl<|ZA 3 [83,84,85] [(85,cond (decide (kind=10)) (.bool (decide (num<1∨5<num))) undef)] ?_ fun f24=>?_)
   ·cases h23:(decide (kind=10)) with
    | true=>
     replace h23:=dt h23
     refine JLq (pp b1 1) (Yj rfl rfl)<|JLr (Zb ty3 rfl (Zcu 0 rfl) (YP ..)<|Jc call134 rfl (fun hin=>VJ _ _ _ _) rfl ?_)
     rintro _ _ ⟨rfl,rfl⟩
     exact Za ⟨⟨rfl,trivial⟩,rfl⟩
    | false=>
     exact ZJ rfl ⟨rfl,trivial⟩
   refine JLn (ZcA rfl rfl rfl) ?_
   exact Za ⟨⟨rfl,trivial⟩,rfl⟩
  | true=>
   exact ZJ rfl ⟨rfl,trivial⟩
 refine JLn (ZcC rfl rfl rfl)<|JLM rfl<|ZA 13 [89,90,91,92,93,94,95,96,97,98,99,100,101] [(101,cond (((decide (kind=2))&&(decide (num<0∨1073741824<num)))||((decide (kind=10))&&(decide (num<1∨5<num)))) undef (.bool (((decide (kind=8))||(decide (kind=11)))&&(decide (num<0∨7<num)))))] ?_ fun f31=>?_
 ·cases h26:(((decide (kind=2))&&(decide (num<0∨1073741824<num)))||((decide (kind=10))&&(decide (num<1∨5<num)))) with
  | false=>
   obtain ⟨h26a,h26b⟩:=orF h26
   refine JLq (pp b1 0) (Z1 rfl rfl)<|JLr (Zb ty3 rfl (Zcu 0 rfl) (Yf ..)<|JLn (Pu.eql rfl rfl)<|JLM rfl<|ZA 3 [93,94,95] [(95,cond (decide (kind=8)) undef (.bool (decide (kind=11))))] ?_ fun f28=>?_)
   ·cases h27:(decide (kind=8)) with
    | false=>
     replace h27:=df h27
     refine JLq (pp b1 0) (Z1 rfl rfl)<|JLr (Zb ty3 rfl (Zcu 0 rfl) (Yf ..)<|JLn (Pu.eql rfl rfl) ?_)
     exact Za ⟨⟨rfl,trivial⟩,rfl⟩
    | true=>
     exact ZJ rfl ⟨rfl,trivial⟩
   refine JLn (ZcC rfl rfl rfl)<|JLM rfl<|ZA 3 [98,99,100] [(100,cond ((decide (kind=8))||(decide (kind=11))) (.bool (decide (num<0∨7<num))) undef)] ?_ fun f30=>?_
   ·cases h29:((decide (kind=8))||(decide (kind=11))) with
    | true=>
     refine JLq (pp b1 1) (Yj rfl rfl)<|JLr (Zb ty3 rfl (Zcu 0 rfl) (YP ..)<|Jc call134 rfl (fun hin=>VJ _ _ _ _) rfl ?_)
     rintro _ _ ⟨rfl,rfl⟩
     exact Za ⟨⟨rfl,trivial⟩,rfl⟩
    | false=>
     exact ZJ rfl ⟨rfl,trivial⟩
   refine JLn (ZcA rfl rfl rfl) ?_
   exact Za ⟨⟨rfl,trivial⟩,rfl⟩
  | true=>
   exact ZJ rfl ⟨rfl,trivial⟩
 refine JLn (ZcC rfl rfl rfl)<|Za<|Zs rfl (fun h32=>?_) (fun h32=>?_)
 ·refine Zc<|JAn rfl<|ZC (iv 3) [] Sub.nil (?_)
  have hx:Xb d m b kind num ref kids.length cases.length=3:=by simp only [Xb];(repeat' split) <;> first | omega | grind
  exact ⟨by rw [Y6,hx];rfl,rfl⟩
 obtain ⟨h32a,h32b⟩:=orF h32
 obtain ⟨h32aa,h32ab⟩:=orF h32a
 refine Zk<|Zf<|Zc<|JLq (pp b1 0) (Z1 rfl rfl)<|JLr (Zb ty3 rfl (Zcu 0 rfl) (Yf ..)<|JLn (Pu.eql rfl rfl)<|JLM rfl<|ZA 17 [107,108,109,110,111,112,113,114,115,116,117,118,119,120,121,122,123] [(123,cond (decide (kind=1)) (.bool ((decide (num<0))||((decide (b≤num))&&(decide (d≤num-b))))) undef)] ?_ fun f38=>?_)
 ·cases h33:(decide (kind=1)) with
  | true=>
   replace h33:=dt h33
   refine JLq (pp b1 1) (Yj rfl rfl)<|JLr (Zb ty3 rfl (Zcu 0 rfl) (YP ..)<|JLn (Pu.lss rfl rfl)<|JLM rfl<|ZA 12 [111,112,113,114,115,116,117,118,119,120,121,122] [(122,cond (decide (num<0)) undef (.bool ((decide (b≤num))&&(decide (d≤num-b)))))] ?_ fun f37=>?_)
   ·cases h34:(decide (num<0)) with
    | false=>
     replace h34:=df h34
     refine JLq (pp b1 1) (Yj rfl rfl)<|JLr (Zb ty3 rfl (Zcu 0 rfl) (YP ..)<|JLM rfl<|JLn (Pu.geq rfl rfl)<|JLM rfl<|ZA 6 [116,117,118,119,120,121] [(121,cond (decide (b≤num)) (.bool (decide (d≤num-b))) undef)] ?_ fun f36=>?_)
     ·cases h35:(decide (b≤num)) with
      | true=>
       replace h35:=dt h35
       refine JLq (pp b1 1) (Yj rfl rfl)<|JLr (Zb ty3 rfl (Zcu 0 rfl) (YP ..)<|JLM rfl<|JLn (ZcK rfl rfl (by first | omega | (constructor <;> omega)))<|JLM rfl<|JLn (Pu.geq rfl rfl) ?_)
       exact Za ⟨⟨rfl,trivial⟩,rfl⟩
      | false=>
       exact ZJ rfl ⟨rfl,trivial⟩
     refine JLn (ZcA rfl rfl rfl) ?_
     exact Za ⟨⟨rfl,trivial⟩,rfl⟩
    | true=>
     exact ZJ rfl ⟨rfl,trivial⟩
   refine JLn (ZcC rfl rfl rfl) ?_
   exact Za ⟨⟨rfl,trivial⟩,rfl⟩
  | false=>
   exact ZJ rfl ⟨rfl,trivial⟩
 refine JLn (ZcA rfl rfl rfl)<|JLM rfl<|ZA 14 [126,127,128,129,130,131,132,133,134,135,136,137,138,139] [(139,cond ((decide (kind=1))&&((decide (num<0))||((decide (b≤num))&&(decide (d≤num-b))))) undef (.bool ((decide (kind=7))&&((decide (num<0))||(decide (m≤num))))))] ?_ fun f44=>?_
 ·cases h39:((decide (kind=1))&&((decide (num<0))||((decide (b≤num))&&(decide (d≤num-b))))) with
  | false=>
   refine JLq (pp b1 0) (Z1 rfl rfl)<|JLr (Zb ty3 rfl (Zcu 0 rfl) (Yf ..)<|JLn (Pu.eql rfl rfl)<|JLM rfl<|ZA 9 [130,131,132,133,134,135,136,137,138] [(138,cond (decide (kind=7)) (.bool ((decide (num<0))||(decide (m≤num)))) undef)] ?_ fun f43=>?_)
   ·cases h40:(decide (kind=7)) with
    | true=>
     replace h40:=dt h40
     refine JLq (pp b1 1) (Yj rfl rfl)<|JLr (Zb ty3 rfl (Zcu 0 rfl) (YP ..)<|JLn (Pu.lss rfl rfl)<|JLM rfl<|ZA 4 [134,135,136,137] [(137,cond (decide (num<0)) undef (.bool (decide (m≤num))))] ?_ fun f42=>?_)
     ·cases h41:(decide (num<0)) with
      | false=>
       replace h41:=df h41
       refine JLq (pp b1 1) (Yj rfl rfl)<|JLr (Zb ty3 rfl (Zcu 0 rfl) (YP ..)<|JLM rfl<|JLn (Pu.geq rfl rfl) ?_)
       exact Za ⟨⟨rfl,trivial⟩,rfl⟩
      | true=>
       exact ZJ rfl ⟨rfl,trivial⟩
     refine JLn (ZcC rfl rfl rfl) ?_
     exact Za ⟨⟨rfl,trivial⟩,rfl⟩
    | false=>
     exact ZJ rfl ⟨rfl,trivial⟩
   refine JLn (ZcA rfl rfl rfl) ?_
   exact Za ⟨⟨rfl,trivial⟩,rfl⟩
  | true=>
   exact ZJ rfl ⟨rfl,trivial⟩
 refine JLn (ZcC rfl rfl rfl)<|Za<|Zs rfl (fun h45=>?_) (fun h45=>?_)
 ·refine Zc<|JAn rfl<|ZC (iv 1) [] Sub.nil (?_)
  have hx:Xb d m b kind num ref kids.length cases.length=1:=by simp only [Xb];(repeat' split) <;> first | omega | grind
  exact ⟨by rw [Y6,hx];rfl,rfl⟩
 obtain ⟨h45a,h45b⟩:=orF h45
 refine Zk<|Zf<|Zc<|JAn rfl<|Zh<|Zv (fun k ρ M=>∃ (j:Nat),ZR ρ [(1,iv d),(2,iv m),(3,iv b),(4,pp b1 0),(8,iv 0),(11,iv ((j:Int)))]=ρ∧Sub [(BX b1 (pkT kind num ref ks cv) 51)] M∧j≤cases.length∧Xb d m b kind num ref kids.length cases.length=0∧XD (cases.drop j)=XD cases∧k=cases.length-j) _ ⟨0,Zj rfl,(Sk Sub.nil),Nat.zero_le _,(by simp only [Xb];(repeat' split) <;> first | omega | grind),rfl,rfl⟩ ?_
 rintro _ ρ46 _ ⟨j,e47,hm53,hj,hh,hinv,rfl⟩
 obtain ⟨ρ54,rfl⟩:=Zo e47
 clear e47
 refine ZD hm53 ?_
 have hlen:=hcv.le
 refine Zf<|Zc<|JLM rfl<|JLq (pp b1 35) (ZY rfl rfl)<|JLr (Zb YL rfl (Zcu 0 rfl) (Z3 ..) ?_)
 obtain ⟨a55,cap55,hv55⟩:=hcv.sl
 have hle55:=hcv.le
 refine JLn (Zcv Yz hv55)<|JLn (Pu.lss rfl rfl)<|Za<|ZF rfl (fun h56=>?_) (fun h56=>?_)
 ·have h56n:j<cases.length:=by omega
  refine Zk<|Zf<|Zh<|Zc<|JLq (pp b1 35) (ZY rfl rfl)<|JLr (Zb YL rfl (Zcu 0 rfl) (Z3 ..)<|JLM rfl ?_)
  obtain ⟨b57,o57,cap57,row57,T57,fr57,cs57,hv57,hb57,hs57,hE57⟩:=hcv.get j (by omega)
  obtain ⟨ca57,cb57,rfl,hA57,hB57⟩:=hE57
  refine JLn (Zcw j Yz Yg hv57 rfl rfl (by omega))<|JLq (pp b57 (o57+j*71)) (YO rfl rfl)<|JLr (Zn ZU rfl (Zcx hb57) (We hs57 (XE (ZN hA57)))<|Jc call137 rfl (fun hin=>Rz _ _ _ (RP.mono (Hle.hu _ _) hA57)) rfl ?_)
  rintro _ _ ⟨rfl,rfl⟩
  refine JAn rfl<|Zc<|JLM rfl<|JLn (Pu.neq rfl rfl)<|Za<|Zs rfl (fun h58=>?_) (fun h58=>?_)
  ·replace h58:=nt h58
   replace h58:=df h58
   refine Zc<|JLM rfl<|JAn rfl<|ZC (iv (Wz (cases[j].1))) [] Sub.nil (?_)
   exact ⟨by rw [Y6,if_pos hh,← hinv,YU h56n,XD,if_neg h58,if_neg h58],rfl⟩
  replace h58:=nf h58
  replace h58:=dt h58
  refine Zk<|Zd<|JLM rfl<|JLn (Zcy rfl rfl (by omega))<|JAn rfl<|⟨_,?_,(j+1),Zj rfl,(Sk Sub.nil),?_,?_,?_,rfl⟩
  ·omega
  ·omega
  ·assumption
  rw [YU h56n,XD,if_pos h58] at hinv;exact hinv
 have h56n:cases.length≤j:=by omega
 refine Zu _ rfl<|Zf<|Zc<|JAn rfl<|Zh<|Zv (fun k ρ M=>∃ (j:Nat),ZR ρ [(1,iv d),(2,iv m),(3,iv b),(4,pp b1 0),(8,iv 0),(13,iv ((j:Int)))]=ρ∧Sub [(BX b1 (pkT kind num ref ks cv) 51)] M∧j≤kids.length∧XD cases=0∧YQ d m b kind j (kids.drop j)=YQ d m b kind 0 kids∧k=kids.length-j) _ ⟨0,Zj rfl,(Sk Sub.nil),Nat.zero_le _,(by rw [← hinv,WU h56n];rfl),rfl,rfl⟩ ?_
 rintro _ ρ59 _ ⟨j,e60,hm66,hj,h1,hinv,rfl⟩
 obtain ⟨ρ67,rfl⟩:=Zo e60
 clear e60
 refine ZD hm66 ?_
 have hlen:=hks.le
 refine Zf<|Zc<|JLM rfl<|JLq (pp b1 34) (Yd rfl rfl)<|JLr (Zb YZ rfl (Zcu 0 rfl) (Yh ..) ?_)
 obtain ⟨a68,cap68,hv68⟩:=hks.sl
 have hle68:=hks.le
 refine JLn (Zcv ZQ hv68)<|JLn (Pu.lss rfl rfl)<|Za<|ZF rfl (fun h69=>?_) (fun h69=>?_)
 ·have h69n:j<kids.length:=by omega
  have hs1:=Ym _ (getElem_mem h69n)
  have hm1:=NU kind j
  refine Zk<|Zf<|Zh<|Zf<|ZI mixed #[0,1,0,7,15,0,0,0,0,256,0,1792,3968,8191,16383] 13 (sm 165 13) [] [(11,fun _ _ vw qw=>vw=iv (more kind ((j:Int)))∧qw=[])] rfl (by kernel_rfl) rfl (by kernel_rfl)<|Dq (pp b1 34) (fun _=>Yd rfl rfl)<|Dl1 YZ (Zcu 0 rfl) (Yh ..)<|DM (fun _=>rfl) ?_
  obtain ⟨b71,o71,cap71,row71,T71,fr71,cs71,hv71,hb71,hs71,hE71⟩:=hks.get j (by omega)
  refine Dn (fun _=>Zcw j ZQ Zy hv71 rfl rfl (by omega))<|Dl Zy (Zcx hb71) hs71<|DM (fun _=>rfl)<|DM (fun _=>rfl)<|DM (fun _=>rfl)<|Dq (pp b1 0) (fun _=>Z1 rfl rfl)<|Dl1 ty3 (Zcu 0 rfl) (Yf ..)<|DM (fun _=>rfl)<|Dc rfl call138 (fun _=>rfl) (fun hin=>FF _ _ _) ?_
  rintro _ _ ⟨rfl,rfl⟩
  refine Dn (fun _=>ZcG rfl rfl (by first | omega | (constructor <;> omega)))<|ZM (M':=[(BX b1 (pkT kind num ref ks cv) 51)]) rfl ?_
  show JL _ _ _ [_,_] _ _ _
  refine Jc call86 rfl (fun hin=>ih _ (getElem_mem h69n) _ _ _ _ _ (RT.mono (Hle.hu _ _) hE71) (by omega) (by omega)) rfl ?_
  rintro _ _ ⟨rfl,rfl⟩
  refine JAn rfl<|Zc<|JLM rfl<|JLn (Pu.neq rfl rfl)<|Za<|Zs rfl (fun h72=>?_) (fun h72=>?_)
  ·replace h72:=nt h72
   replace h72:=df h72
   refine Zc<|JLM rfl<|JAn rfl<|ZC (iv (Y6 d m (b+(more kind ((j:Int)))) (kids[j]))) [] Sub.nil (?_)
   exact ⟨by rw [Y6,if_pos hh,if_pos h1,← hinv,YU h69n,YQ,if_neg h72,if_neg h72],rfl⟩
  replace h72:=nf h72
  replace h72:=dt h72
  refine Zk<|Zd<|JLM rfl<|JLn (Zcy rfl rfl (by omega))<|JAn rfl<|⟨_,?_,(j+1),Zj rfl,(Sk Sub.nil),?_,?_,?_,rfl⟩
  ·omega
  ·omega
  ·assumption
  rw [YU h69n,YQ,if_pos h72] at hinv;exact hinv
 have h69n:kids.length≤j:=by omega
 refine Zu _ rfl<|Zf<|Zc<|JAn rfl<|Zh<|Zv (fun k ρ M=>∃ (j:Nat),ZR ρ [(1,iv d),(2,iv m),(3,iv b),(4,pp b1 0),(8,iv 0),(15,iv ((j:Int)))]=ρ∧Sub [(BX b1 (pkT kind num ref ks cv) 51)] M∧j≤cases.length∧YQ d m b kind 0 kids=0∧YX d m b (cases.drop j)=YX d m b cases∧k=cases.length-j) _ ⟨0,Zj rfl,(Sk Sub.nil),Nat.zero_le _,(by rw [← hinv,WU h69n];rfl),rfl,rfl⟩ ?_
 rintro _ ρ73 _ ⟨j,e74,hm80,hj,h2,hinv,rfl⟩
 obtain ⟨ρ81,rfl⟩:=Zo e74
 clear e74
 refine ZD hm80 ?_
 have hlen:=hcv.le
 refine Zf<|Zc<|JLM rfl<|JLq (pp b1 35) (ZY rfl rfl)<|JLr (Zb YL rfl (Zcu 0 rfl) (Z3 ..) ?_)
 obtain ⟨a82,cap82,hv82⟩:=hcv.sl
 have hle82:=hcv.le
 refine JLn (Zcv Yz hv82)<|JLn (Pu.lss rfl rfl)<|Za<|ZF rfl (fun h83=>?_) (fun h83=>?_)
 ·have h83n:j<cases.length:=by omega
  have hs1:=Y1 _ (getElem_mem h83n)
  have hm1:=Rc (cases[j]).1
  refine Zk<|Zf<|Zh<|Zf<|ZI mixed #[0,1,0,7,15,31,0,0,0,0,512,0,3584,7680,15872,32256,65280,131071,262143] 17 (sm 189 17) [] [(15,fun _ _ vw qw=>vw=iv ((binds (cases[j].1):Int))∧qw=[])] rfl (by kernel_rfl) rfl (by kernel_rfl)<|Dq (pp b1 35) (fun _=>ZY rfl rfl)<|Dl1 YL (Zcu 0 rfl) (Z3 ..)<|DM (fun _=>rfl) ?_
  obtain ⟨b86,o86,cap86,row86,T86,fr86,cs86,hv86,hb86,hs86,hE86⟩:=hcv.get j (by omega)
  obtain ⟨ca86,cb86,rfl,hA86,hB86⟩:=hE86
  refine Dn (fun _=>Zcw j Yz Yg hv86 rfl rfl (by omega))<|Dq (pp b86 (o86+j*71+35)) (fun _=>YV rfl rfl)<|Dl Zy (Zcx hb86) (XS hs86 (XK (ZN hA86) (ZB hB86)))<|DM (fun _=>rfl)<|DM (fun _=>rfl)<|DM (fun _=>rfl)<|Dq (pp b1 35) (fun _=>ZY rfl rfl)<|Dl1 YL (Zcu 0 rfl) (Z3 ..)<|DM (fun _=>rfl) ?_
  obtain ⟨b87,o87,cap87,row87,T87,fr87,cs87,hv87,hb87,hs87,hE87⟩:=hcv.get j (by omega)
  obtain ⟨ca87,cb87,rfl,hA87,hB87⟩:=hE87
  refine Dn (fun _=>Zcw j Yz Yg hv87 rfl rfl (by omega))<|Dq (pp b87 (o87+j*71)) (fun _=>YO rfl rfl)<|Dl ZU (Zcx hb87) (We hs87 (XE (ZN hA87))) ?_
  refine Dc rfl call139 (fun _=>rfl) (fun hin=>Hz _ _ _ (RP.mono (Hle.hu _ _) hA87) (by omega)) ?_
  rintro _ _ ⟨rfl,rfl⟩
  refine Dn (fun _=>ZcG rfl rfl (by first | omega | (constructor <;> omega)))<|ZM (M':=[(BX b1 (pkT kind num ref ks cv) 51)]) rfl ?_
  show JL _ _ _ [_,_] _ _ _
  refine Jc call86 rfl (fun hin=>ih' _ (getElem_mem h83n) _ _ _ _ _ (RT.mono (Hle.hu _ _) hB86) (by omega) (by omega)) rfl ?_
  rintro _ _ ⟨rfl,rfl⟩
  refine JAn rfl<|Zc<|JLM rfl<|JLn (Pu.neq rfl rfl)<|Za<|Zs rfl (fun h88=>?_) (fun h88=>?_)
  ·replace h88:=nt h88
   replace h88:=df h88
   refine Zc<|JLM rfl<|JAn rfl<|ZC (iv (Y6 d m (b+((binds (cases[j].1):Int))) (cases[j].2))) [] Sub.nil (?_)
   exact ⟨by rw [Y6,if_pos hh,if_pos h1,if_pos h2,← hinv,YU h83n,YX,if_neg h88],rfl⟩
  replace h88:=nf h88
  replace h88:=dt h88
  refine Zk<|Zd<|JLM rfl<|JLn (Zcy rfl rfl (by omega))<|JAn rfl<|⟨_,?_,(j+1),Zj rfl,(Sk Sub.nil),?_,?_,?_,rfl⟩
  ·omega
  ·omega
  ·assumption
  rw [YU h83n,YX,if_pos h88] at hinv;exact hinv
 have h83n:cases.length≤j:=by omega
 refine Zu _ rfl<|Zc<|JAn rfl<|ZC (iv 0) [] Sub.nil (?_)
 exact ⟨by rw [Y6,if_pos hh,if_pos h1,if_pos h2,← hinv,WU h83n];rfl,rfl⟩
theorem Pk:∀ (p:Pt) (m:Int) (cs:List Value) (H:Heap),RP H cs p→sizeP p≤1000000000→sizeP p≤m+2000000000→m≤2000000000→CT prog 178 ⟨[.agg ⟨cs⟩,iv m]⟩ [] H (fun v N=>v=.tuple ⟨[iv (Wm m p).1,iv (Wm m p).2]⟩∧N=[]):=by
 intro p
 induction p using Pt.ind with
 | h kind num ref kids ih=>
 intro m cs H hp hz1 hz2 hz3
 obtain ⟨ks,rfl,hk,hn,hks⟩:=RP_mk.1 hp
 rw [sizeP] at hz1 hz2
 refine Zl func178 rfl rfl<|Zc<|JLr (Zr (l:=pkP kind num ref ks) rfl rfl fun b1=>JLA rfl<|JAn rfl<|Zc<|JLA rfl<|JAn rfl<|Zf ?_)
 refine Zc<|JAn rfl<|Zh<|Zv (fun k ρ M=>∃ (j:Nat) (n d:Int),ZR ρ [(1,iv m),(2,pp b1 0),(4,iv 0),(5,iv 0),(6,iv n),(7,iv d),(8,iv ((j:Int)))]=ρ∧Sub [(BX b1 (pkP kind num ref ks) 115)] M∧j≤kids.length∧Wl m (kids.drop j) n d=Wl m kids 1 0∧0≤d∧d<n∧n+Yv (kids.drop j)≤1+Yv kids∧k=kids.length-j) _ ⟨0,1,0,Zj rfl,(Sk Sub.nil),Nat.zero_le _,rfl,(by omega),(by omega),(by simp),rfl⟩ ?_
 rintro _ ρ2 _ ⟨j,n,d,e3,hm10,hj,hinv,hd0,hdn,hnn,rfl⟩
 obtain ⟨ρ11,rfl⟩:=Zo e3
 clear e3
 refine ZD hm10 ?_
 have hlen:=hks.le
 refine Zf<|Zc<|JLM rfl<|JLq (pp b1 34) (Z5 rfl rfl)<|JLr (Zb YB rfl (Zcu 0 rfl) (Yo ..) ?_)
 obtain ⟨a12,cap12,hv12⟩:=hks.sl
 have hle12:=hks.le
 refine JLn (Zcv Yt hv12)<|JLn (Pu.lss rfl rfl)<|JLM rfl<|ZA 3 [17,18,19] [(19,cond (decide ((j:Int)<(kids.length:Int))) (.bool (decide (n≤m))) undef)] ?_ fun f14=>?_
 ·cases h13:(decide ((j:Int)<(kids.length:Int))) with
  | true=>
   replace h13:=dt h13
   have h13n:j<kids.length:=by omega
   have hs1:=X8 _ (getElem_mem h13n)
   have hs2:Yv (kids.drop j)=sizeP kids[j]+Yv (kids.drop (j+1)):=by rw [YU h13n,Yv]
   have hs3:=UF kids[j] (m-1)
   refine JLM rfl<|JLM rfl<|JLn (Pu.leq rfl rfl) ?_
   exact Za ⟨⟨rfl,trivial⟩,rfl⟩
  | false=>
   exact ZJ rfl ⟨rfl,trivial⟩
 refine JLn (ZcA rfl rfl rfl)<|Za<|Zs rfl (fun h15=>?_) (fun h15=>?_)
 ·obtain ⟨h15a,h15b⟩:=Xa h15
  replace h15a:=dt h15a
  have h15an:j<kids.length:=by omega
  have hs1:=X8 _ (getElem_mem h15an)
  have hs2:Yv (kids.drop j)=sizeP kids[j]+Yv (kids.drop (j+1)):=by rw [YU h15an,Yv]
  have hs3:=UF kids[j] (m-1)
  replace h15b:=dt h15b
  refine Zk<|Zf<|Zh<|Zc<|JLq (pp b1 34) (Z5 rfl rfl)<|JLr (Zb YB rfl (Zcu 0 rfl) (Yo ..)<|JLM rfl ?_)
  obtain ⟨b16,o16,cap16,row16,T16,fr16,cs16,hv16,hb16,hs16,hE16⟩:=hks.get j (by omega)
  refine JLn (Zcw j Yt ZU hv16 rfl rfl (by omega))<|JLr (Zn ZU rfl (Zcx hb16) hs16<|JLM rfl<|JLn (ZcK rfl rfl (by first | omega | (constructor <;> omega)))<|Jc call178 rfl (fun hin=>ih _ (getElem_mem h15an) _ _ _ (RP.mono (Hle.hu _ _) hE16) (by omega) (by omega) (by omega)) rfl ?_)
  rintro _ _ ⟨rfl,rfl⟩
  refine JLM rfl<|JLn (Pu.extract rfl rfl)<|JLn (Pu.extract rfl rfl)<|JLA rfl<|JAn rfl<|Zd<|JLM rfl<|JLM rfl<|JLn (ZcG rfl rfl (by first | omega | (constructor <;> omega)))<|JLM rfl<|JLM rfl<|JLq (iv (max d ((Wm (m-1) (kids[j])).2))) (Pu.max2 rfl rfl) ?_
  refine JLA rfl<|JAn rfl<|Zd<|JLM rfl<|JLn (Zcy rfl rfl (by omega))<|JAn rfl<|⟨_,?_,(j+1),(n+((Wm (m-1) (kids[j])).1)),(max d ((Wm (m-1) (kids[j])).2)),Zj rfl,(Sk Sub.nil),?_,?_,?_,?_,?_,rfl⟩
  ·omega
  ·omega
  ·rw [YU h15an,Wl,if_pos (by omega)] at hinv;exact hinv
  ·omega
  ·omega
  omega
 refine Zu _ rfl<|Zc<|JLM rfl<|JLM rfl<|JLn (ZcG rfl rfl (by first | omega | (constructor <;> omega)))<|JLA rfl<|JAn rfl<|ZH<|⟨.tuple ⟨[iv n,iv (d+1)]⟩,[],ZcE rfl (RV.tmp rfl) (RV.tmp rfl),Sub.nil,?_⟩
 have hf:¬ ((j:Int)<(kids.length:Int)∧n≤m):=by
  intro ⟨hx1,hx2⟩
  have:=h15
  simp [hx1,hx2] at this
  try omega
 have hr:Wl m kids 1 0=(n,d):=by
  rw [← hinv];rcases Nat.lt_or_ge j kids.length with hl | hl
  ·have hnm:¬ n≤m:=fun hle=>hf ⟨by omega,hle⟩
   rw [YU hl,Wl,if_neg hnm]
  ·rw [WU hl,Wl]
 exact ⟨by rw [Wm,hr],rfl⟩
theorem Hi:∀ (t:Tm) (m:Int) (cs:List Value) (H:Heap),RT H cs t→sizeT t≤1000000000→sizeT t≤m+2000000000→m≤2000000000→CT prog 133 ⟨[.agg ⟨cs⟩,iv m]⟩ [] H (fun v N=>v=.tuple ⟨[iv (XC m t).1,iv (XC m t).2]⟩∧N=[]):=by
 intro t
 induction t using Tm.ind with
 | h kind num ref kids cases ih ih'=>
 intro m cs H ht hz1 hz2 hz3
 obtain ⟨ks,cv,rfl,hk,hn,hks,hcv⟩:=RT_mk.1 ht
 rw [sizeT] at hz1 hz2
 refine Zl func133 rfl rfl<|Zc<|JLr (Zr (l:=pkT kind num ref ks cv) rfl rfl fun b1=>JLA rfl<|JAn rfl<|Zc<|JLA rfl<|JAn rfl<|Zf ?_)
 refine Zc<|JAn rfl<|Zh<|Zv (fun k ρ M=>∃ (j:Nat) (n d:Int),ZR ρ [(1,iv m),(2,pp b1 0),(4,iv 0),(5,iv 0),(6,iv n),(7,iv d),(8,iv ((j:Int)))]=ρ∧Sub [(BX b1 (pkT kind num ref ks cv) 51)] M∧j≤kids.length∧Xq m (kids.drop j) n d=Xq m kids 1 0∧0≤d∧d<n∧n+ZL (kids.drop j)≤1+ZL kids∧k=kids.length-j) _ ⟨0,1,0,Zj rfl,(Sk Sub.nil),Nat.zero_le _,rfl,(by omega),(by omega),(by simp),rfl⟩ ?_
 rintro _ ρ2 _ ⟨j,n,d,e3,hm10,hj,hinv,hd0,hdn,hnn,rfl⟩
 obtain ⟨ρ11,rfl⟩:=Zo e3
 clear e3
 refine ZD hm10 ?_
 have hlen:=hks.le
 refine Zf<|Zc<|JLM rfl<|JLq (pp b1 34) (Yd rfl rfl)<|JLr (Zb YZ rfl (Zcu 0 rfl) (Yh ..) ?_)
 obtain ⟨a12,cap12,hv12⟩:=hks.sl
 have hle12:=hks.le
 refine JLn (Zcv ZQ hv12)<|JLn (Pu.lss rfl rfl)<|JLM rfl<|ZA 3 [22,23,24] [(24,cond (decide ((j:Int)<(kids.length:Int))) (.bool (decide (n≤m))) undef)] ?_ fun f14=>?_
 ·cases h13:(decide ((j:Int)<(kids.length:Int))) with
  | true=>
   replace h13:=dt h13
   have h13n:j<kids.length:=by omega
   have hs1:=Ym _ (getElem_mem h13n)
   have hs2:ZL (kids.drop j)=sizeT kids[j]+ZL (kids.drop (j+1)):=by rw [YU h13n,ZL]
   have hs3:=UE kids[j] (m-1)
   refine JLM rfl<|JLM rfl<|JLn (Pu.leq rfl rfl) ?_
   exact Za ⟨⟨rfl,trivial⟩,rfl⟩
  | false=>
   exact ZJ rfl ⟨rfl,trivial⟩
 refine JLn (ZcA rfl rfl rfl)<|Za<|Zs rfl (fun h15=>?_) (fun h15=>?_)
 ·obtain ⟨h15a,h15b⟩:=Xa h15
  replace h15a:=dt h15a
  have h15an:j<kids.length:=by omega
  have hs1:=Ym _ (getElem_mem h15an)
  have hs2:ZL (kids.drop j)=sizeT kids[j]+ZL (kids.drop (j+1)):=by rw [YU h15an,ZL]
  have hs3:=UE kids[j] (m-1)
  replace h15b:=dt h15b
  refine Zk<|Zf<|Zh<|Zc<|JLq (pp b1 34) (Yd rfl rfl)<|JLr (Zb YZ rfl (Zcu 0 rfl) (Yh ..)<|JLM rfl ?_)
  obtain ⟨b16,o16,cap16,row16,T16,fr16,cs16,hv16,hb16,hs16,hE16⟩:=hks.get j (by omega)
  refine JLn (Zcw j ZQ Zy hv16 rfl rfl (by omega))<|JLr (Zn Zy rfl (Zcx hb16) hs16<|JLM rfl<|JLn (ZcK rfl rfl (by first | omega | (constructor <;> omega)))<|Jc call133 rfl (fun hin=>ih _ (getElem_mem h15an) _ _ _ (RT.mono (Hle.hu _ _) hE16) (by omega) (by omega) (by omega)) rfl ?_)
  rintro _ _ ⟨rfl,rfl⟩
  refine JLM rfl<|JLn (Pu.extract rfl rfl)<|JLn (Pu.extract rfl rfl)<|JLA rfl<|JAn rfl<|Zd<|JLM rfl<|JLM rfl<|JLn (ZcG rfl rfl (by first | omega | (constructor <;> omega)))<|JLM rfl<|JLM rfl<|JLq (iv (max d ((XC (m-1) (kids[j])).2))) (Pu.max2 rfl rfl) ?_
  refine JLA rfl<|JAn rfl<|Zd<|JLM rfl<|JLn (Zcy rfl rfl (by omega))<|JAn rfl<|⟨_,?_,(j+1),(n+((XC (m-1) (kids[j])).1)),(max d ((XC (m-1) (kids[j])).2)),Zj rfl,(Sk Sub.nil),?_,?_,?_,?_,?_,rfl⟩
  ·omega
  ·omega
  ·rw [YU h15an,Xq,if_pos (by omega)] at hinv;exact hinv
  ·omega
  ·omega
  omega
 refine Zu _ rfl<|Zf<|Zc<|JAn rfl<|Zh ?_
 have hf:¬ ((j:Int)<(kids.length:Int)∧n≤m):=by
  intro ⟨hx1,hx2⟩
  have:=h15
  simp [hx1,hx2] at this
  try omega
 have hr:Xq m kids 1 0=(n,d):=by
  rw [← hinv];rcases Nat.lt_or_ge j kids.length with hl | hl
  ·have hnm:¬ n≤m:=fun hle=>hf ⟨by omega,hle⟩
   rw [YU hl,Xq,if_neg hnm]
  ·rw [WU hl,Xq]
 refine Zv (fun k ρ M=>∃ (j:Nat) (n d:Int),ZR ρ [(1,iv m),(2,pp b1 0),(4,iv 0),(5,iv 0),(6,iv n),(7,iv d),(11,iv ((j:Int)))]=ρ∧Sub [(BX b1 (pkT kind num ref ks cv) 51)] M∧j≤cases.length∧Wn m (cases.drop j) n d=Wn m cases (Xq m kids 1 0).1 (Xq m kids 1 0).2∧0≤d∧d<n∧n+ZX (cases.drop j)≤1+ZL kids+ZX cases∧k=cases.length-j) _ ⟨0,n,d,Zj rfl,(Sk Sub.nil),Nat.zero_le _,(by rw [hr];rfl),(by omega),(by omega),(by simp only [List.drop_zero];omega),rfl⟩ ?_
 rintro _ ρ17 _ ⟨j,n,d,e18,hm25,hj,hinv,hd0,hdn,hnn,rfl⟩
 obtain ⟨ρ26,rfl⟩:=Zo e18
 clear e18
 refine ZD hm25 ?_
 have hlen:=hcv.le
 refine Zf<|Zc<|JLM rfl<|JLq (pp b1 35) (ZY rfl rfl)<|JLr (Zb YL rfl (Zcu 0 rfl) (Z3 ..) ?_)
 obtain ⟨a27,cap27,hv27⟩:=hcv.sl
 have hle27:=hcv.le
 refine JLn (Zcv Yz hv27)<|JLn (Pu.lss rfl rfl)<|JLM rfl<|ZA 3 [51,52,53] [(53,cond (decide ((j:Int)<(cases.length:Int))) (.bool (decide (n≤m))) undef)] ?_ fun f29=>?_
 ·cases h28:(decide ((j:Int)<(cases.length:Int))) with
  | true=>
   replace h28:=dt h28
   have h28n:j<cases.length:=by omega
   have hs1:=Y1 _ (getElem_mem h28n)
   have hs2:ZX (cases.drop j)=sizeP cases[j].1+sizeT cases[j].2+ZX (cases.drop (j+1)):=by rw [YU h28n,ZX]
   have hs3:=UE cases[j].2 (m-1)
   have hs4:=UF cases[j].1 (m-1)
   refine JLM rfl<|JLM rfl<|JLn (Pu.leq rfl rfl) ?_
   exact Za ⟨⟨rfl,trivial⟩,rfl⟩
  | false=>
   exact ZJ rfl ⟨rfl,trivial⟩
 refine JLn (ZcA rfl rfl rfl)<|Za<|Zs rfl (fun h30=>?_) (fun h30=>?_)
 ·obtain ⟨h30a,h30b⟩:=Xa h30
  replace h30a:=dt h30a
  have h30an:j<cases.length:=by omega
  have hs1:=Y1 _ (getElem_mem h30an)
  have hs2:ZX (cases.drop j)=sizeP cases[j].1+sizeT cases[j].2+ZX (cases.drop (j+1)):=by rw [YU h30an,ZX]
  have hs3:=UE cases[j].2 (m-1)
  have hs4:=UF cases[j].1 (m-1)
  replace h30b:=dt h30b
  refine Zk<|Zf<|Zh<|Zc<|JLq (pp b1 35) (ZY rfl rfl)<|JLr (Zb YL rfl (Zcu 0 rfl) (Z3 ..)<|JLM rfl ?_)
  obtain ⟨b31,o31,cap31,row31,T31,fr31,cs31,hv31,hb31,hs31,hE31⟩:=hcv.get j (by omega)
  obtain ⟨ca31,cb31,rfl,hA31,hB31⟩:=hE31
  refine JLn (Zcw j Yz Yg hv31 rfl rfl (by omega))<|JLq (pp b31 (o31+j*71)) (YO rfl rfl)<|JLr (Zn ZU rfl (Zcx hb31) (We hs31 (XE (ZN hA31)))<|JLM rfl<|JLn (ZcK rfl rfl (by first | omega | (constructor <;> omega)))<|Jc call178 rfl (fun hin=>Pk _ _ _ _ (RP.mono (Hle.hu _ _) hA31) (by omega) (by omega) (by omega)) rfl ?_)
  rintro _ _ ⟨rfl,rfl⟩
  refine JLM rfl<|JLn (Pu.extract rfl rfl)<|JLn (Pu.extract rfl rfl)<|JLA rfl<|JAn rfl<|Zc<|JLq (pp b1 35) (ZY rfl rfl)<|JLr (Zb YL rfl (Zcu 0 rfl) (Z3 ..)<|JLM rfl ?_)
  obtain ⟨b32,o32,cap32,row32,T32,fr32,cs32,hv32,hb32,hs32,hE32⟩:=hcv.get j (by omega)
  obtain ⟨ca32,cb32,rfl,hA32,hB32⟩:=hE32
  refine JLn (Zcw j Yz Yg hv32 rfl rfl (by omega))<|JLq (pp b32 (o32+j*71+35)) (YV rfl rfl)<|JLr (Zn Zy rfl (Zcx hb32) (XS hs32 (XK (ZN hA32) (ZB hB32)))<|JLM rfl<|JLn (ZcK rfl rfl (by first | omega | (constructor <;> omega)))<|Jc call133 rfl (fun hin=>ih' _ (getElem_mem h30an) _ _ _ (RT.mono (Hle.hu _ _) hB32) (by omega) (by omega) (by omega)) rfl ?_)
  rintro _ _ ⟨rfl,rfl⟩
  refine JLM rfl<|JLn (Pu.extract rfl rfl)<|JLn (Pu.extract rfl rfl)<|JLA rfl<|JAn rfl<|Zd<|JLM rfl<|JLM rfl<|JLn (ZcG rfl rfl (by first | omega | (constructor <;> omega)))<|JLM rfl<|JLn (ZcG rfl rfl (by first | omega | (constructor <;> omega)))<|JLM rfl ?_
  refine JLM rfl<|JLM rfl<|JLq (iv (max (max d ((Wm (m-1) (cases[j].1)).2)) ((XC (m-1) (cases[j].2)).2))) (Zdt rfl rfl rfl)<|JLA rfl<|JAn rfl<|Zd<|JLM rfl<|JLn (Zcy rfl rfl (by omega))<|JAn rfl<|⟨_,?_,(j+1),(n+((Wm (m-1) (cases[j].1)).1)+((XC (m-1) (cases[j].2)).1)),(max (max d ((Wm (m-1) (cases[j].1)).2)) ((XC (m-1) (cases[j].2)).2)),Zj rfl,(Sk Sub.nil),?_,?_,?_,?_,?_,rfl⟩
  ·omega
  ·omega
  ·rw [YU h30an,Wn,if_pos (by omega)] at hinv;exact hinv
  ·omega
  ·omega
  omega
 refine Zu _ rfl<|Zc<|JLM rfl<|JLM rfl<|JLn (ZcG rfl rfl (by first | omega | (constructor <;> omega)))<|JLA rfl<|JAn rfl<|ZH<|⟨.tuple ⟨[iv n,iv (d+1)]⟩,[],ZcE rfl (RV.tmp rfl) (RV.tmp rfl),Sub.nil,?_⟩
 have hf:¬ ((j:Int)<(cases.length:Int)∧n≤m):=by
  intro ⟨hx1,hx2⟩
  have:=h30
  simp [hx1,hx2] at this
  try omega
 have hr:Wn m cases (Xq m kids 1 0).1 (Xq m kids 1 0).2=(n,d):=by
  rw [← hinv];rcases Nat.lt_or_ge j cases.length with hl | hl
  ·have hnm:¬ n≤m:=fun hle=>hf ⟨by omega,hle⟩
   rw [YU hl,Wn,if_neg hnm]
  ·rw [WU hl,Wn]
 exact ⟨by rw [XC,hr],rfl⟩
theorem FM (t:Tm) (cs:List Value) (H:Heap) (ht:RT H cs t) (hz:sizeT t≤1000000000):CT prog 85 ⟨[.agg ⟨cs⟩]⟩ [] H (fun v N=>v=.bool (SM t)∧N=[]):=by
 refine Zl func85 rfl rfl<|Zc<|JLr (Zr (l:=cs) rfl rfl fun b1=>JAn rfl<|Zc<|JLr (Zn Zy rfl (Zcu 0 rfl) (ZE (ZB ht))<|Jc call133 rfl (fun hin=>Hi _ _ _ _ (RT.mono (Hle.hu _ _) ht) (by omega) (by omega) (by omega)) rfl ?_))
 rintro _ _ ⟨rfl,rfl⟩
 refine JLM rfl<|JLn (Pu.extract rfl rfl)<|JLn (Pu.extract rfl rfl)<|JLA rfl<|JAn rfl<|Zc<|JLM rfl<|JLn (Pu.gtr rfl rfl)<|JLM rfl<|ZA 2 [13,14] [(14,cond (decide (300<(XC 400 t).1)) undef (.bool (decide (60<(XC 400 t).2))))] ?_ fun f3=>?_
 ·cases h2:(decide (300<(XC 400 t).1)) with
  | false=>
   replace h2:=df h2
   refine JLM rfl<|JLn (Pu.gtr rfl rfl) ?_
   exact Za ⟨⟨rfl,trivial⟩,rfl⟩
  | true=>
   exact ZJ rfl ⟨rfl,trivial⟩
 refine JLn (ZcC rfl rfl rfl)<|JAn rfl<|ZC (.bool ((decide (300<(XC 400 t).1))||(decide (60<(XC 400 t).2)))) [] Sub.nil (?_)
 exact ⟨rfl,rfl⟩
theorem Hr (t:Tm) (d m:Int) (cs:List Value) (H:Heap) (ht:RT H cs t) (hz:sizeT t≤400000):CT prog 41 ⟨[.agg ⟨cs⟩,iv d,iv m]⟩ [] H (fun v N=>v=iv (Zx d m t)∧N=[]):=by
 refine Zl func41 rfl rfl<|Zc<|JLr (Zr (l:=cs) rfl rfl fun b1=>JAn rfl<|Zf<|Zc<|JLr (Zn Zy rfl (Zcu 0 rfl) (ZE (ZB ht))<|Jc call85 rfl (fun hin=>FM _ _ _ (RT.mono (Hle.hu _ _) ht) (by omega)) rfl ?_))
 rintro _ _ ⟨rfl,rfl⟩
 refine Za<|Zs rfl (fun h2=>?_) (fun h2=>?_)
 ·refine Zc<|JAn rfl<|ZC (iv 11) [] Sub.nil (?_)
  exact ⟨by rw [Zx,if_pos (by simp [h2])],rfl⟩
 refine Zk<|Zc<|JLr (Zn Zy rfl (Zcu 0 rfl) (ZE (ZB ht))<|JLM rfl<|JLM rfl<|Jc call86 rfl (fun hin=>NO _ _ _ _ _ _ (RT.mono (Hle.hu _ _) ht) (by omega) (by omega)) rfl ?_)
 rintro _ _ ⟨rfl,rfl⟩
 refine JAn rfl<|ZC (iv (Y6 d m 0 t)) [] Sub.nil (?_)
 exact ⟨by rw [Zx,if_neg (by simp [h2])],rfl⟩
theorem CL (g:Nat) (fs cv:List Value) (hcall:∀ args w,(callFunc g args).run prog w=.ok (.enter g args) w) {σ:Type} (Sc:σ→Zi) (Inv:σ→Prop) (step:Pt→σ→Bool×σ) (l:List Pt) (v:Value) (H:Heap) (hl:rdS RP 35 H v l) (s0:σ) (h0:Inv s0) (hI:∀ x∈l,∀ s,Inv s→(step x s).1=false→Inv (step x s).2) (hg:∀ x∈l,∀ s,Inv s→∀ a h,Hle H h→RP h a x→CT prog g ⟨fs++[.agg ⟨a⟩]++cv⟩ [Sc s] h (fun v N=>v=.bool (step x s).1∧N=[Sc (step x s).2])):CT prog 114 ⟨[v,.func (.func g) ⟨fs⟩ ⟨cv⟩]⟩ [Sc s0] H (fun v N=>v=iv (idxS step l 0 s0).1∧N=[Sc (idxS step l 0 s0).2]):=by
 refine Zl func114 rfl rfl<|Zc<|JAn rfl<|Zf<|Zc<|JLm v ?_
 obtain ⟨a1,cap1,hv1⟩:=hl.sl
 have hle1:=hl.le
 refine JLn (Zcv Yt hv1)<|JLM rfl<|Za<|Zh<|Zv (fun k ρ M=>∃ (j:Nat) (s:σ),ZR ρ [(0,v),(1,.func (.func g) ⟨fs⟩ ⟨cv⟩),(4,iv 0),(7,iv ((l.length:Int))),(8,iv ((j:Int)))]=ρ∧Sub [Sc s] M∧j≤l.length∧Inv s∧idxS step (l.drop j) j s=idxS step l 0 s0∧k=l.length-j) _ ⟨0,s0,Zj rfl,(Sk Sub.nil),Nat.zero_le _,h0,rfl,rfl⟩ ?_
 rintro _ ρ2 _ ⟨j,s,e3,hm8,hj,hs,hinv,rfl⟩
 obtain ⟨ρ9,rfl⟩:=Zo e3
 clear e3
 refine ZD hm8<|Zc<|JLn (Pu.lss rfl rfl)<|Za<|Zf<|ZF rfl (fun h10=>?_) (fun h10=>?_)
 ·have h10n:j<l.length:=by omega
  have hlenl:=hl.le
  refine Zk<|Zf<|Zh<|Zc<|JLM rfl<|JAn rfl<|Zc<|JLM rfl<|JLm v<|JLM rfl ?_
  obtain ⟨b11,o11,cap11,row11,T11,fr11,cs11,hv11,hb11,hs11,hE11⟩:=hl.get j (by omega)
  refine JLn (Zcw j Yt ZU hv11 rfl rfl (by omega))<|JLr (Zn ZU rfl (Zcx hb11) hs11<|ZG 0 rfl hcall rfl rfl (fun hin=>hg _ (getElem_mem h10n) _ hs _ _ (Hle.hu _ _) (RP.mono (Hle.hu _ _) hE11)) rfl ?_)
  rintro _ _ ⟨rfl,rfl⟩
  refine Za<|Zs rfl (fun h12=>?_) (fun h12=>?_)
  ·refine Zc<|JLM rfl<|JAn rfl<|ZC (iv ((j:Int))) [Sc (step (l[j]) s).2] (Sk Sub.nil) (?_)
   refine ⟨?_,?_⟩ <;> rw [← hinv,YU h10n,idxS,if_pos h12]
  refine Zk<|Zd<|JLn (Zcy rfl rfl (by omega))<|JLM rfl<|Za<|⟨_,?_,(j+1),((step (l[j]) s).2),Zj rfl,(Sk Sub.nil),?_,?_,?_,rfl⟩
  ·omega
  ·omega
  ·exact hI _ (getElem_mem h10n) s hs h12
  rw [YU h10n,idxS,if_neg (by simp [h12])] at hinv;exact hinv
 have h10n:l.length≤j:=by omega
 refine Zu _ rfl<|Zc<|JAn rfl<|ZC (iv (-1)) [Sc s] (Sk Sub.nil) (?_)
 refine ⟨?_,?_⟩ <;> rw [← hinv,WU h10n] <;> rfl
theorem CK (g:Nat) (fs cv:List Value) (hcall:∀ args w,(callFunc g args).run prog w=.ok (.enter g args) w) {σ:Type} (Sc:σ→Zi) (Inv:σ→Prop) (step:Tm→σ→Bool×σ) (l:List Tm) (v:Value) (H:Heap) (hl:rdS RT 36 H v l) (s0:σ) (h0:Inv s0) (hI:∀ x∈l,∀ s,Inv s→(step x s).1=false→Inv (step x s).2) (hg:∀ x∈l,∀ s,Inv s→∀ a h,Hle H h→RT h a x→CT prog g ⟨fs++[.agg ⟨a⟩]++cv⟩ [Sc s] h (fun v N=>v=.bool (step x s).1∧N=[Sc (step x s).2])):CT prog 68 ⟨[v,.func (.func g) ⟨fs⟩ ⟨cv⟩]⟩ [Sc s0] H (fun v N=>v=iv (idxS step l 0 s0).1∧N=[Sc (idxS step l 0 s0).2]):=by
 refine Zl func68 rfl rfl<|Zc<|JAn rfl<|Zf<|Zc<|JLm v ?_
 obtain ⟨a1,cap1,hv1⟩:=hl.sl
 have hle1:=hl.le
 refine JLn (Zcv ZQ hv1)<|JLM rfl<|Za<|Zh<|Zv (fun k ρ M=>∃ (j:Nat) (s:σ),ZR ρ [(0,v),(1,.func (.func g) ⟨fs⟩ ⟨cv⟩),(4,iv 0),(7,iv ((l.length:Int))),(8,iv ((j:Int)))]=ρ∧Sub [Sc s] M∧j≤l.length∧Inv s∧idxS step (l.drop j) j s=idxS step l 0 s0∧k=l.length-j) _ ⟨0,s0,Zj rfl,(Sk Sub.nil),Nat.zero_le _,h0,rfl,rfl⟩ ?_
 rintro _ ρ2 _ ⟨j,s,e3,hm8,hj,hs,hinv,rfl⟩
 obtain ⟨ρ9,rfl⟩:=Zo e3
 clear e3
 refine ZD hm8<|Zc<|JLn (Pu.lss rfl rfl)<|Za<|Zf<|ZF rfl (fun h10=>?_) (fun h10=>?_)
 ·have h10n:j<l.length:=by omega
  have hlenl:=hl.le
  refine Zk<|Zf<|Zh<|Zc<|JLM rfl<|JAn rfl<|Zc<|JLM rfl<|JLm v<|JLM rfl ?_
  obtain ⟨b11,o11,cap11,row11,T11,fr11,cs11,hv11,hb11,hs11,hE11⟩:=hl.get j (by omega)
  refine JLn (Zcw j ZQ Zy hv11 rfl rfl (by omega))<|JLr (Zn Zy rfl (Zcx hb11) hs11<|ZG 0 rfl hcall rfl rfl (fun hin=>hg _ (getElem_mem h10n) _ hs _ _ (Hle.hu _ _) (RT.mono (Hle.hu _ _) hE11)) rfl ?_)
  rintro _ _ ⟨rfl,rfl⟩
  refine Za<|Zs rfl (fun h12=>?_) (fun h12=>?_)
  ·refine Zc<|JLM rfl<|JAn rfl<|ZC (iv ((j:Int))) [Sc (step (l[j]) s).2] (Sk Sub.nil) (?_)
   refine ⟨?_,?_⟩ <;> rw [← hinv,YU h10n,idxS,if_pos h12]
  refine Zk<|Zd<|JLn (Zcy rfl rfl (by omega))<|JLM rfl<|Za<|⟨_,?_,(j+1),((step (l[j]) s).2),Zj rfl,(Sk Sub.nil),?_,?_,?_,rfl⟩
  ·omega
  ·omega
  ·exact hI _ (getElem_mem h10n) s hs h12
  rw [YU h10n,idxS,if_neg (by simp [h12])] at hinv;exact hinv
 have h10n:l.length≤j:=by omega
 refine Zu _ rfl<|Zc<|JAn rfl<|ZC (iv (-1)) [Sc s] (Sk Sub.nil) (?_)
 refine ⟨?_,?_⟩ <;> rw [← hinv,WU h10n] <;> rfl
theorem CN (g:Nat) (fs cv:List Value) (hcall:∀ args w,(callFunc g args).run prog w=.ok (.enter g args) w) {σ:Type} (Sc:σ→Zi) (Inv:σ→Prop) (step:(Pt×Tm)→σ→Bool×σ) (l:List (Pt×Tm)) (v:Value) (H:Heap) (hl:rdS RC 71 H v l) (s0:σ) (h0:Inv s0) (hI:∀ x∈l,∀ s,Inv s→(step x s).1=false→Inv (step x s).2) (hg:∀ x∈l,∀ s,Inv s→∀ a h,Hle H h→RC h a x→CT prog g ⟨fs++[.agg ⟨a⟩]++cv⟩ [Sc s] h (fun v N=>v=.bool (step x s).1∧N=[Sc (step x s).2])):CT prog 115 ⟨[v,.func (.func g) ⟨fs⟩ ⟨cv⟩]⟩ [Sc s0] H (fun v N=>v=iv (idxS step l 0 s0).1∧N=[Sc (idxS step l 0 s0).2]):=by
 refine Zl func115 rfl rfl<|Zc<|JAn rfl<|Zf<|Zc<|JLm v ?_
 obtain ⟨a1,cap1,hv1⟩:=hl.sl
 have hle1:=hl.le
 refine JLn (Zcv Yz hv1)<|JLM rfl<|Za<|Zh<|Zv (fun k ρ M=>∃ (j:Nat) (s:σ),ZR ρ [(0,v),(1,.func (.func g) ⟨fs⟩ ⟨cv⟩),(4,iv 0),(7,iv ((l.length:Int))),(8,iv ((j:Int)))]=ρ∧Sub [Sc s] M∧j≤l.length∧Inv s∧idxS step (l.drop j) j s=idxS step l 0 s0∧k=l.length-j) _ ⟨0,s0,Zj rfl,(Sk Sub.nil),Nat.zero_le _,h0,rfl,rfl⟩ ?_
 rintro _ ρ2 _ ⟨j,s,e3,hm8,hj,hs,hinv,rfl⟩
 obtain ⟨ρ9,rfl⟩:=Zo e3
 clear e3
 refine ZD hm8<|Zc<|JLn (Pu.lss rfl rfl)<|Za<|Zf<|ZF rfl (fun h10=>?_) (fun h10=>?_)
 ·have h10n:j<l.length:=by omega
  have hlenl:=hl.le
  refine Zk<|Zf<|Zh<|Zc<|JLM rfl<|JAn rfl<|Zc<|JLM rfl<|JLm v<|JLM rfl ?_
  obtain ⟨b11,o11,cap11,row11,T11,fr11,cs11,hv11,hb11,hs11,hE11⟩:=hl.get j (by omega)
  obtain ⟨ca11,cb11,rfl,hA11,hB11⟩:=hE11
  refine JLn (Zcw j Yz Yg hv11 rfl rfl (by omega))<|JLr (Zn Yg rfl (Zcx hb11) hs11<|ZG 0 rfl hcall rfl rfl (fun hin=>hg _ (getElem_mem h10n) _ hs _ _ (Hle.hu _ _) (RC.mono (Hle.hu _ _) (LL hA11 hB11))) rfl ?_)
  rintro _ _ ⟨rfl,rfl⟩
  refine Za<|Zs rfl (fun h12=>?_) (fun h12=>?_)
  ·refine Zc<|JLM rfl<|JAn rfl<|ZC (iv ((j:Int))) [Sc (step (l[j]) s).2] (Sk Sub.nil) (?_)
   refine ⟨?_,?_⟩ <;> rw [← hinv,YU h10n,idxS,if_pos h12]
  refine Zk<|Zd<|JLn (Zcy rfl rfl (by omega))<|JLM rfl<|Za<|⟨_,?_,(j+1),((step (l[j]) s).2),Zj rfl,(Sk Sub.nil),?_,?_,?_,rfl⟩
  ·omega
  ·omega
  ·exact hI _ (getElem_mem h10n) s hs h12
  rw [YU h10n,idxS,if_neg (by simp [h12])] at hinv;exact hinv
 have h10n:l.length≤j:=by omega
 refine Zu _ rfl<|Zc<|JAn rfl<|ZC (iv (-1)) [Sc s] (Sk Sub.nil) (?_)
 refine ⟨?_,?_⟩ <;> rw [← hinv,WU h10n] <;> rfl
theorem S2 (g:Nat) (fs cv:List Value) (hcall:∀ args w,(callFunc g args).run prog w=.ok (.enter g args) w) {σ:Type} (Sc:σ→Zi) (Inv:σ→Prop) (step:Pt→σ→Bool×σ) (l:List Pt) (v:Value) (H:Heap) (hl:rdS RP 35 H v l) (s0:σ) (h0:Inv s0) (hI:∀ x∈l,∀ s,Inv s→(step x s).1=false→Inv (step x s).2) (hg:∀ x∈l,∀ s,Inv s→∀ a h,Hle H h→RP h a x→CT prog g ⟨fs++[.agg ⟨a⟩]++cv⟩ [Sc s] h (fun v N=>v=.bool (step x s).1∧N=[Sc (step x s).2])):CT prog 70 ⟨[v,.func (.func g) ⟨fs⟩ ⟨cv⟩]⟩ [Sc s0] H (fun v N=>v=.bool (YM step l s0).1∧N=[Sc (YM step l s0).2]):=by
 refine Zl func70 rfl rfl<|Zc<|JAn rfl<|Zc<|JLm v<|JLM rfl<|ZG 0 rfl call114 rfl rfl (fun hin=>CL g fs cv hcall Sc Inv step _ _ _ (RPs.mono (Hle.hu _ _) hl) s0 h0 hI (fun x hx s hs a h hh ra=>hg x hx s hs a h (Hle.trans (Hle.hu _ _) hh) ra)) rfl ?_
 rintro _ _ ⟨rfl,rfl⟩
 refine JLn (Pu.geq rfl rfl)<|JAn rfl<|ZC (.bool (decide (0≤(idxS step l 0 s0).1))) [Sc (idxS step l 0 s0).2] (Sk Sub.nil) (?_)
 exact ⟨by rw [(Uf step l 0 s0).1],by rw [(Uf step l 0 s0).2]⟩
theorem UJ (g:Nat) (fs cv:List Value) (hcall:∀ args w,(callFunc g args).run prog w=.ok (.enter g args) w) {σ:Type} (Sc:σ→Zi) (Inv:σ→Prop) (step:Tm→σ→Bool×σ) (l:List Tm) (v:Value) (H:Heap) (hl:rdS RT 36 H v l) (s0:σ) (h0:Inv s0) (hI:∀ x∈l,∀ s,Inv s→(step x s).1=false→Inv (step x s).2) (hg:∀ x∈l,∀ s,Inv s→∀ a h,Hle H h→RT h a x→CT prog g ⟨fs++[.agg ⟨a⟩]++cv⟩ [Sc s] h (fun v N=>v=.bool (step x s).1∧N=[Sc (step x s).2])):CT prog 26 ⟨[v,.func (.func g) ⟨fs⟩ ⟨cv⟩]⟩ [Sc s0] H (fun v N=>v=.bool (YM step l s0).1∧N=[Sc (YM step l s0).2]):=by
 refine Zl func26 rfl rfl<|Zc<|JAn rfl<|Zc<|JLm v<|JLM rfl<|ZG 0 rfl call68 rfl rfl (fun hin=>CK g fs cv hcall Sc Inv step _ _ _ (RTs.mono (Hle.hu _ _) hl) s0 h0 hI (fun x hx s hs a h hh ra=>hg x hx s hs a h (Hle.trans (Hle.hu _ _) hh) ra)) rfl ?_
 rintro _ _ ⟨rfl,rfl⟩
 refine JLn (Pu.geq rfl rfl)<|JAn rfl<|ZC (.bool (decide (0≤(idxS step l 0 s0).1))) [Sc (idxS step l 0 s0).2] (Sk Sub.nil) (?_)
 exact ⟨by rw [(Uf step l 0 s0).1],by rw [(Uf step l 0 s0).2]⟩
theorem S3 (g:Nat) (fs cv:List Value) (hcall:∀ args w,(callFunc g args).run prog w=.ok (.enter g args) w) {σ:Type} (Sc:σ→Zi) (Inv:σ→Prop) (step:(Pt×Tm)→σ→Bool×σ) (l:List (Pt×Tm)) (v:Value) (H:Heap) (hl:rdS RC 71 H v l) (s0:σ) (h0:Inv s0) (hI:∀ x∈l,∀ s,Inv s→(step x s).1=false→Inv (step x s).2) (hg:∀ x∈l,∀ s,Inv s→∀ a h,Hle H h→RC h a x→CT prog g ⟨fs++[.agg ⟨a⟩]++cv⟩ [Sc s] h (fun v N=>v=.bool (step x s).1∧N=[Sc (step x s).2])):CT prog 72 ⟨[v,.func (.func g) ⟨fs⟩ ⟨cv⟩]⟩ [Sc s0] H (fun v N=>v=.bool (YM step l s0).1∧N=[Sc (YM step l s0).2]):=by
 refine Zl func72 rfl rfl<|Zc<|JAn rfl<|Zc<|JLm v<|JLM rfl<|ZG 0 rfl call115 rfl rfl (fun hin=>CN g fs cv hcall Sc Inv step _ _ _ (RCs.mono (Hle.hu _ _) hl) s0 h0 hI (fun x hx s hs a h hh ra=>hg x hx s hs a h (Hle.trans (Hle.hu _ _) hh) ra)) rfl ?_
 rintro _ _ ⟨rfl,rfl⟩
 refine JLn (Pu.geq rfl rfl)<|JAn rfl<|ZC (.bool (decide (0≤(idxS step l 0 s0).1))) [Sc (idxS step l 0 s0).2] (Sk Sub.nil) (?_)
 exact ⟨by rw [(Uf step l 0 s0).1],by rw [(Uf step l 0 s0).2]⟩
theorem I5:∀ (x:Pt) (d s:Int) (a:List Value) (H:Heap) (bL bA bD:Nat),RP H a x→H bA=some (.cells ⟨[pp bL 0]⟩ 189 (0,0))→H bD=some (.cells ⟨[iv d]⟩ 3 (0,0))→0≤d→d≤100→(∀ h a,Hle H h→RP h a x→CT prog 186 ⟨[pp bL 0,.agg ⟨a⟩,iv (d+1)]⟩ [(BX bL [iv s] 191)] h (fun v N=>v=.bool (cnP stL (d+1) x s).1∧N=[(BX bL [iv ((cnP stL (d+1) x s).2)] 191)]))→CT prog 210 ⟨[.agg ⟨a⟩,pp bA 0,pp bD 0]⟩ [(BX bL [iv s] 191)] H (fun v N=>v=.bool (cnP stL (d+1) x s).1∧N=[(BX bL [iv ((cnP stL (d+1) x s).2)] 191)]):=by
 intro x d s a H bL bA bD ra hH1 hH5 hd0 hd1 hg
 refine Zl func210 rfl rfl<|Zc<|JLr (Zr (l:=a) rfl rfl fun b1=>JAn rfl<|Zc<|JLr (Zb QW rfl (Zcx hH1) rfl<|JLr (Zn ZU rfl (Zcu 0 rfl) (ZE (ZN ra))<|JLr (Zb ty3 rfl (Zcx hH5) rfl<|JLn (ZcG rfl rfl (by first | omega | (constructor <;> omega)))<|ZG 1 rfl call186 rfl rfl (fun hin=>hg _ _ (Hle.hu _ _) (RP.mono (Hle.hu _ _) ra)) rfl ?_))))
 rintro _ _ ⟨rfl,rfl⟩
 refine JAn rfl<|ZC (.bool ((cnP stL (d+1) x s).1)) [(BX bL [iv ((cnP stL (d+1) x s).2)] 191)] (Sk Sub.nil) (?_)
 exact ⟨rfl,rfl⟩
theorem OY:∀ (x:Tm) (d s:Int) (a:List Value) (H:Heap) (bL bA bD:Nat),RT H a x→H bA=some (.cells ⟨[pp bL 0]⟩ 189 (0,0))→H bD=some (.cells ⟨[iv d]⟩ 3 (0,0))→0≤d→d≤100→(∀ h a,Hle H h→RT h a x→CT prog 145 ⟨[pp bL 0,.agg ⟨a⟩,iv (d+1)]⟩ [(BX bL [iv s] 191)] h (fun v N=>v=.bool (cnT stL (d+1) x s).1∧N=[(BX bL [iv ((cnT stL (d+1) x s).2)] 191)]))→CT prog 184 ⟨[.agg ⟨a⟩,pp bA 0,pp bD 0]⟩ [(BX bL [iv s] 191)] H (fun v N=>v=.bool (cnT stL (d+1) x s).1∧N=[(BX bL [iv ((cnT stL (d+1) x s).2)] 191)]):=by
 intro x d s a H bL bA bD ra hH1 hH5 hd0 hd1 hg
 refine Zl func184 rfl rfl<|Zc<|JLr (Zr (l:=a) rfl rfl fun b1=>JAn rfl<|Zc<|JLr (Zb QW rfl (Zcx hH1) rfl<|JLr (Zn Zy rfl (Zcu 0 rfl) (ZE (ZB ra))<|JLr (Zb ty3 rfl (Zcx hH5) rfl<|JLn (ZcG rfl rfl (by first | omega | (constructor <;> omega)))<|ZG 1 rfl call145 rfl rfl (fun hin=>hg _ _ (Hle.hu _ _) (RT.mono (Hle.hu _ _) ra)) rfl ?_))))
 rintro _ _ ⟨rfl,rfl⟩
 refine JAn rfl<|ZC (.bool ((cnT stL (d+1) x s).1)) [(BX bL [iv ((cnT stL (d+1) x s).2)] 191)] (Sk Sub.nil) (?_)
 exact ⟨rfl,rfl⟩
theorem FN:∀ (p:Pt) (d n:Int) (cs:List Value) (H:Heap) (bL:Nat),RP H cs p→0≤n→n≤300→0≤d→d≤61→CT prog 186 ⟨[pp bL 0,.agg ⟨cs⟩,iv d]⟩ [(BX bL [iv n] 191)] H (fun v N=>v=.bool (cnP stL d p n).1∧N=[(BX bL [iv ((cnP stL d p n).2)] 191)]):=by
 intro p
 induction p using Pt.ind with
 | h kind num ref kids ih=>
 intro d n cs H bL hp hn0 hn1 hd0 hd1
 obtain ⟨ks,rfl,hk,hn,hks⟩:=RP_mk.1 hp
 refine Zl func186 rfl rfl<|Zc<|JLr (Zr (l:=[pp bL 0]) rfl rfl fun b1=>JLr (Zr (l:=pkP kind num ref ks) rfl rfl fun b2=>JLr (Zr (l:=[iv d]) rfl rfl fun b3=>JAn rfl<|Zf<|Zc<|JLr (Zb QW rfl (Zcu 2 rfl) rfl<|JLq (pp bL 0) (Pu.nilCheck rfl) ?_))))
 refine JLq (pp bL 0) (TD rfl rfl)<|JLr (Zb ty3 rfl (Zcu 3 rfl) rfl<|JLn (ZcG rfl rfl (by first | omega | (constructor <;> omega)))<|JLq (pp bL 0) (Pu.nilCheck rfl)<|JLq (pp bL 0) (TD rfl rfl)<|JLr (Ze 3 (vs:=[iv (n+1)]) (l:=[iv (n+1)]) ty3 rfl rfl rfl rfl rfl (Zg rfl Zq) rfl<|Za<|Zc<|JLr (Zb QW rfl (Zcu 2 rfl) rfl<|JLq (pp bL 0) (Pu.nilCheck rfl)<|JLq (pp bL 0) (TD rfl rfl)<|JLr (Zb ty3 rfl (Zcu 3 rfl) rfl ?_))))
 refine JLn (Pu.gtr rfl rfl)<|JLM rfl<|ZA 2 [20,21] [(21,cond (decide (300<n+1)) undef (.bool (decide (60<d))))] ?_ fun f5=>?_
 ·cases h4:(decide (300<n+1)) with
  | false=>
   replace h4:=df h4
   refine JLr (Zb ty3 rfl (Zcu 0 rfl) rfl<|JLn (Pu.gtr rfl rfl) ?_)
   exact Za ⟨⟨rfl,trivial⟩,rfl⟩
  | true=>
   exact ZJ rfl ⟨rfl,trivial⟩
 refine JLn (ZcC rfl rfl rfl)<|Za<|Zs rfl (fun h6=>?_) (fun h6=>?_)
 ·refine Zc<|JAn rfl<|ZC (.bool true) [(BX bL [iv (n+1)] 191)] (Sd (Sd (Sd (Sk Sub.nil)))) (?_)
  refine ⟨?_,?_⟩ <;> rw [cnP,if_pos (by simpa [stL] using h6)]
 obtain ⟨h6a,h6b⟩:=orF h6
 replace h6a:=df h6a
 replace h6b:=df h6b
 refine Zk<|Zc<|JLq (pp b2 34) (Z5 rfl rfl)<|JLr (Zb YB rfl (Zcu 1 rfl) (Yo ..)<|JLq (.func (.func 210) ⟨[]⟩ ⟨[pp b1 0,pp b3 0]⟩) (Pu.makeFunc rfl rfl)<|ZG 3 rfl call70 rfl rfl (fun hin=>S2 210 [] [pp b1 0,pp b3 0] (fun _ _=>rfl) (fun n=>(BX bL [iv n] 191)) (fun n=>0≤n∧n≤300) (cnP stL (d+1)) _ _ _ (RPs.mono (Hle.hu _ _) hks) (n+1) ⟨by omega,by omega⟩ (fun x hx s hs hf=>Vq TU x _ s hs.1 hf) (fun x hx s hs a h hh ra=>I5 x d s a h bL b1 b3 ra (hh _ _ (hin 2 _ rfl _ _ mem_cons_self)) (hh _ _ (hin 0 _ rfl _ _ mem_cons_self)) (by omega) (by omega) (fun h' a' hh' ra'=>ih x hx (d+1) s a' h' bL ra' hs.1 hs.2 (by omega) (by omega)))) rfl ?_)
 rintro _ _ ⟨rfl,rfl⟩
 refine JAn rfl<|ZC (.bool ((YM (cnP stL (d+1)) kids (n+1)).1)) [(BX bL [iv ((YM (cnP stL (d+1)) kids (n+1)).2)] 191)] (Sk Sub.nil) (?_)
 refine ⟨?_,?_⟩ <;> rw [cnP,if_neg (by simp [stL];omega),PT]
theorem FO:∀ (c:Pt×Tm) (d n:Int) (a:List Value) (H:Heap) (bL bA bD bK:Nat),RC H a c→0≤n→n≤300→0≤d→d≤60→H bA=some (.cells ⟨[pp bL 0]⟩ 189 (0,0))→H bD=some (.cells ⟨[iv d]⟩ 3 (0,0))→H bK=some (.cells ⟨[.func (.func 184) ⟨[]⟩ ⟨[pp bA 0,pp bD 0]⟩]⟩ 56 (0,0))→(∀ s a h,Hle H h→RT h a c.2→0≤s→s≤300→CT prog 145 ⟨[pp bL 0,.agg ⟨a⟩,iv (d+1)]⟩ [(BX bL [iv s] 191)] h (fun v N=>v=.bool (cnT stL (d+1) c.2 s).1∧N=[(BX bL [iv ((cnT stL (d+1) c.2 s).2)] 191)]))→CT prog 185 ⟨[.agg ⟨a⟩,pp bA 0,pp bD 0,pp bK 0]⟩ [(BX bL [iv n] 191)] H (fun v N=>v=.bool (cnC stL (d+1) c n).1∧N=[(BX bL [iv ((cnC stL (d+1) c n).2)] 191)]):=by
 intro c d n a H bL bA bD bK ⟨ca,cb,e1,ra1,ra2⟩ hn0 hn1 hd0 hd1 hH1 hH5 hH7 hg
 subst e1
 refine Zl func185 rfl rfl<|Zc<|JLr (Zr (l:=ca++cb) rfl rfl fun b1=>JAn rfl<|Zc<|JLr (Zb QW rfl (Zcx hH1) rfl<|JLq (pp b1 0) (YO rfl rfl)<|JLr (Zn ZU rfl (Zcu 0 rfl) (XE (ZN ra1))<|JLr (Zb ty3 rfl (Zcx hH5) rfl<|JLn (ZcG rfl rfl (by first | omega | (constructor <;> omega))) ?_))))
 refine ZG 1 rfl call186 rfl rfl (fun hin=>FN _ _ _ _ _ _ (RP.mono (Hle.hu _ _) ra1) (by omega) (by omega) (by omega) (by omega)) rfl ?_
 rintro _ _ ⟨rfl,rfl⟩
 refine JLM rfl ?_
 cases h3:((cnP stL (d+1) (c.1) n).1) with
 | true=>
  iterate 4 refine Xs rfl ?_
  refine JLq (.bool true) (ZcI rfl rfl)<|JAn rfl<|ZC (.bool true) [(BX bL [iv ((cnP stL (d+1) (c.1) n).2)] 191)] (Sk Sub.nil) (?_)
  refine ⟨?_,?_⟩ <;> rw [cnC,if_pos h3]
 | false=>
  refine JLr (Zb Rm rfl (Zcx hH7) rfl<|JLq (pp b1 35) (YV rfl rfl)<|JLr (Zn Zy rfl (Zcu 1 rfl) (XK (ZN ra1) (ZB ra2))<|ZG 0 rfl call184 rfl rfl (fun hin=>OY _ d _ _ _ bL bA bD (RT.mono (Hle.hu _ _) ra2) (Hle.hu _ _ _ _ hH1) (Hle.hu _ _ _ _ hH5) (by omega) (by omega) (fun h' a' hh' ra'=>hg _ _ _ (Hle.trans (Hle.hu _ _) hh') ra' (Vq TU _ _ _ hn0 h3).1 (Vq TU _ _ _ hn0 h3).2)) rfl ?_))
  rintro _ _ ⟨rfl,rfl⟩
  refine JLq (.bool ((cnT stL (d+1) (c.2) ((cnP stL (d+1) (c.1) n).2)).1)) (ZcH rfl rfl)<|JAn rfl<|ZC (.bool ((cnT stL (d+1) (c.2) ((cnP stL (d+1) (c.1) n).2)).1)) [(BX bL [iv ((cnT stL (d+1) (c.2) ((cnP stL (d+1) (c.1) n).2)).2)] 191)] (Sk Sub.nil) (?_)
  refine ⟨?_,?_⟩ <;> rw [cnC,if_neg (by simp [h3])]
theorem FL:∀ (t:Tm) (d n:Int) (cs:List Value) (H:Heap) (bL:Nat),RT H cs t→0≤n→n≤300→0≤d→d≤61→CT prog 145 ⟨[pp bL 0,.agg ⟨cs⟩,iv d]⟩ [(BX bL [iv n] 191)] H (fun v N=>v=.bool (cnT stL d t n).1∧N=[(BX bL [iv ((cnT stL d t n).2)] 191)]):=by
 intro t
 induction t using Tm.ind with
 | h kind num ref kids cases ih ih'=>
 intro d n cs H bL ht hn0 hn1 hd0 hd1
 obtain ⟨ks,cv,rfl,hk,hn,hks,hcv⟩:=RT_mk.1 ht
 refine Zl func145 rfl rfl<|Zc<|JLr (Zr (l:=[pp bL 0]) rfl rfl fun b1=>JLr (Zr (l:=pkT kind num ref ks cv) rfl rfl fun b2=>JLr (Zr (l:=[iv d]) rfl rfl fun b3=>JAn rfl<|Zf<|Zc<|JLr (Zb QW rfl (Zcu 2 rfl) rfl<|JLq (pp bL 0) (Pu.nilCheck rfl) ?_))))
 refine JLq (pp bL 0) (TD rfl rfl)<|JLr (Zb ty3 rfl (Zcu 3 rfl) rfl<|JLn (ZcG rfl rfl (by first | omega | (constructor <;> omega)))<|JLq (pp bL 0) (Pu.nilCheck rfl)<|JLq (pp bL 0) (TD rfl rfl)<|JLr (Ze 3 (vs:=[iv (n+1)]) (l:=[iv (n+1)]) ty3 rfl rfl rfl rfl rfl (Zg rfl Zq) rfl<|Za<|Zc<|JLr (Zb QW rfl (Zcu 2 rfl) rfl<|JLq (pp bL 0) (Pu.nilCheck rfl)<|JLq (pp bL 0) (TD rfl rfl)<|JLr (Zb ty3 rfl (Zcu 3 rfl) rfl ?_))))
 refine JLn (Pu.gtr rfl rfl)<|JLM rfl<|ZA 2 [21,22] [(22,cond (decide (300<n+1)) undef (.bool (decide (60<d))))] ?_ fun f5=>?_
 ·cases h4:(decide (300<n+1)) with
  | false=>
   replace h4:=df h4
   refine JLr (Zb ty3 rfl (Zcu 0 rfl) rfl<|JLn (Pu.gtr rfl rfl) ?_)
   exact Za ⟨⟨rfl,trivial⟩,rfl⟩
  | true=>
   exact ZJ rfl ⟨rfl,trivial⟩
 refine JLn (ZcC rfl rfl rfl)<|Za<|Zs rfl (fun h6=>?_) (fun h6=>?_)
 ·refine Zc<|JAn rfl<|ZC (.bool true) [(BX bL [iv (n+1)] 191)] (Sd (Sd (Sd (Sk Sub.nil)))) (?_)
  refine ⟨?_,?_⟩ <;> rw [cnT,if_pos (by simpa [stL] using h6)]
 obtain ⟨h6a,h6b⟩:=orF h6
 replace h6a:=df h6a
 replace h6b:=df h6b
 refine Zk<|Zc<|JLq (.func (.func 184) ⟨[]⟩ ⟨[pp b1 0,pp b3 0]⟩) (Pu.makeFunc rfl rfl)<|JLr (Zp (l:=[.nilFunc]) zeroValue56 rfl fun b7=>JLr (Ze 0 (vs:=[.func (.func 184) ⟨[]⟩ ⟨[pp b1 0,pp b3 0]⟩]) (l:=[.func (.func 184) ⟨[]⟩ ⟨[pp b1 0,pp b3 0]⟩]) Rm rfl rfl rfl rfl rfl (Zg rfl Zq) rfl<|Za<|Zc<|JLq (pp b2 34) (Yd rfl rfl)<|JLr (Zb YZ rfl (Zcu 2 rfl) (Yh ..)<|JLr (Zb Rm rfl (Zcu 0 rfl) rfl<|ZG 4 rfl call26 rfl rfl (fun hin=>UJ 184 [] [pp b1 0,pp b3 0] (fun _ _=>rfl) (fun n=>(BX bL [iv n] 191)) (fun n=>0≤n∧n≤300) (cnT stL (d+1)) _ _ _ (RTs.mono (Hle.hu _ _) hks) (n+1) ⟨by omega,by omega⟩ (fun x hx s hs hf=>S4 TU x _ s hs.1 hf) (fun x hx s hs a h hh ra=>OY x d s a h bL b1 b3 ra (hh _ _ (hin 3 _ rfl _ _ mem_cons_self)) (hh _ _ (hin 1 _ rfl _ _ mem_cons_self)) (by omega) (by omega) (fun h' a' hh' ra'=>ih x hx (d+1) s a' h' bL ra' hs.1 hs.2 (by omega) (by omega)))) rfl ?_))))
 rintro _ _ ⟨rfl,rfl⟩
 refine JLM rfl ?_
 cases h9:((YM (cnT stL (d+1)) kids (n+1)).1) with
 | true=>
  iterate 4 refine Xs rfl ?_
  refine JLq (.bool true) (ZcI rfl rfl)<|JAn rfl<|ZC (.bool true) [(BX bL [iv ((YM (cnT stL (d+1)) kids (n+1)).2)] 191)] (Sk Sub.nil) (?_)
  refine ⟨?_,?_⟩ <;> rw [cnT,if_neg (by simp [stL];omega),Uj,if_pos h9]
 | false=>
  refine JLq (pp b2 35) (ZY rfl rfl)<|JLr (Zb YL rfl (Zcu 3 rfl) (Z3 ..)<|JLq (.func (.func 185) ⟨[]⟩ ⟨[pp b1 0,pp b3 0,pp b7 0]⟩) (Pu.makeFunc rfl rfl)<|ZG 0 rfl call72 rfl rfl (fun hin=>S3 185 [] [pp b1 0,pp b3 0,pp b7 0] (fun _ _=>rfl) (fun n=>(BX bL [iv n] 191)) (fun n=>0≤n∧n≤300) (cnC stL (d+1)) _ _ _ (RCs.mono (Hle.hu _ _) hcv) ((YM (cnT stL (d+1)) kids (n+1)).2) (Nj TU _ _ _ (by omega) (by omega) h9) (fun x hx s hs hf=>Lr TU x _ s hs.1 hf) (fun x hx s hs a h hh ra=>FO x d s a h bL b1 b3 b7 ra hs.1 hs.2 (by omega) (by omega) (hh _ _ (hin 3 _ rfl _ _ mem_cons_self)) (hh _ _ (hin 1 _ rfl _ _ mem_cons_self)) (hh _ _ (hin 0 _ rfl _ _ mem_cons_self)) (fun s' a' h' hh' ra' k1 k2=>ih' x hx (d+1) s' a' h' bL ra' k1 k2 (by omega) (by omega)))) rfl ?_)
  rintro _ _ ⟨rfl,rfl⟩
  refine JLq (.bool ((YM (cnC stL (d+1)) cases ((YM (cnT stL (d+1)) kids (n+1)).2)).1)) (ZcH rfl rfl)<|JAn rfl<|ZC (.bool ((YM (cnC stL (d+1)) cases ((YM (cnT stL (d+1)) kids (n+1)).2)).1)) [(BX bL [iv ((YM (cnC stL (d+1)) cases ((YM (cnT stL (d+1)) kids (n+1)).2)).2)] 191)] (Sk Sub.nil) (?_)
  refine ⟨?_,?_⟩ <;> rw [cnT,if_neg (by simp [stL];omega),Uj,if_neg (by simp [h9]),S6]
theorem FS (n b d:Int) (H:Heap) (bD:Nat) (hD:H bD=some (.cells ⟨[iv d]⟩ 3 (0,0))) (hb0:0≤b) (hb1:b≤1000000) (hn1: -9223372036854775808≤n) (hn2:n≤9223372036854775807):CT prog 146 ⟨[iv n,iv b,pp bD 0]⟩ [] H (fun v N=>v=.bool (Kg d n b)∧N=[]):=by
 refine Zl func146 rfl rfl<|Zc<|JAn rfl<|Zc<|JLM rfl<|JLn (Pu.geq rfl rfl)<|JLM rfl<|ZA 10 [9,10,11,12,13,14,15,16,17,18] [(18,cond (decide (0≤n)) (.bool ((decide (n<b))||(decide (n-b<d)))) undef)] ?_ fun f4=>?_
 ·cases h1:(decide (0≤n)) with
  | true=>
   replace h1:=dt h1
   refine JLM rfl<|JLM rfl<|JLn (Pu.lss rfl rfl)<|JLM rfl<|ZA 5 [13,14,15,16,17] [(17,cond (decide (n<b)) undef (.bool (decide (n-b<d))))] ?_ fun f3=>?_
   ·cases h2:(decide (n<b)) with
    | false=>
     replace h2:=df h2
     refine JLM rfl<|JLM rfl<|JLn (ZcK rfl rfl (by first | omega | (constructor <;> omega)))<|JLr (Zb ty3 rfl (Zcx hD) rfl<|JLn (Pu.lss rfl rfl) ?_)
     exact Za ⟨⟨rfl,trivial⟩,rfl⟩
    | true=>
     exact ZJ rfl ⟨rfl,trivial⟩
   refine JLn (ZcC rfl rfl rfl) ?_
   exact Za ⟨⟨rfl,trivial⟩,rfl⟩
  | false=>
   exact ZJ rfl ⟨rfl,trivial⟩
 refine JLn (ZcA rfl rfl rfl)<|JAn rfl<|ZC (.bool ((decide (0≤n))&&((decide (n<b))||(decide (n-b<d))))) [] Sub.nil (?_)
 exact ⟨rfl,rfl⟩
set_option maxHeartbeats 2000000 in
theorem KE (kind num:Int) (ref:Sm) (ks cv:Value) (kids:List Tm) (cases:List (Pt×Tm)) (d m b:Int) (H:Heap) (bD:Nat) (hks:rdS RT 36 H ks kids) (hcv:rdS RC 71 H cv cases) (hD:H bD=some (.cells ⟨[iv d]⟩ 3 (0,0))) (hb0:0≤b) (hb1:b≤1000000) (hn1: -9223372036854775808≤num) (hn2:num≤9223372036854775807):CT prog 187 ⟨[.agg ⟨[iv m,.func (.func 146) ⟨[]⟩ ⟨[pp bD 0]⟩]⟩,.agg ⟨pkT kind num ref ks cv⟩,iv b]⟩ [] H (fun v N=>v=iv (Xt d m b kind num ref kids.length cases.length)∧N=[]):=by
 refine Zl func187 rfl rfl<|Zc<|JLr (Zr (l:=[iv m,.func (.func 146) ⟨[]⟩ ⟨[pp bD 0]⟩]) rfl rfl fun b1=>JLr (Zr (l:=pkT kind num ref ks cv) rfl rfl fun b2=>JAn rfl<|Zf<|Zh<|Zc<|JLq (pp b2 0) (Z1 rfl rfl)<|JLr (Zb ty3 rfl (Zcu 0 rfl) (Yf ..) ?_)))
 refine Jc call211 rfl (fun hin=>X9 _ _ _ _) rfl ?_
 rintro _ _ ⟨rfl,rfl⟩
 refine JAn rfl<|ZF rfl (fun h3=>?_) (fun h3=>?_)
 ·refine Zc<|JAn rfl<|ZC (iv 3) [] Sub.nil (?_)
  exact ⟨by refine congrArg (Value.int .i64) ?_;simp only [Xt];(repeat' split) <;> first | omega | grind,rfl⟩
 refine Zf<|ZI mixed #[0,1,3,0,8,0,32,0,128,384,1023,2047] 10 (sm 13 10) [] [(2,fun _ _ vw qw=>vw=.agg ⟨[.bool (fN kind),.bool (fR kind),.bool (fC kind)]⟩∧qw=[])] rfl (by kernel_rfl) rfl (by kernel_rfl)<|Dq (pp b2 0) (fun _=>Z1 rfl rfl)<|Dl1 ty3 (Zcu 0 rfl) (Yf ..)<|Dc rfl call193 (fun _=>rfl) (fun hin=>O7 _ _) ?_
 rintro _ _ ⟨rfl,rfl⟩
 refine Dq (pp b2 1) (fun _=>Yj rfl rfl)<|Dl1 ty3 (Zcu 0 rfl) (YP ..)<|Dq (pp b2 2) (fun _=>WL rfl rfl)<|Dl Yq (Zcu 0 rfl) (V5 ..)<|Dq (pp b2 35) (fun _=>ZY rfl rfl)<|Dl1 YL (Zcu 0 rfl) (Z3 ..) ?_
 obtain ⟨a5,cap5,hv5⟩:=hcv.sl
 have hle5:=hcv.le
 refine Dn (fun _=>Zcv Yz hv5)<|ZM (M':=[(BX b2 (pkT kind num ref ks cv) 51),(BX b1 [iv m,.func (.func 146) ⟨[]⟩ ⟨[pp bD 0]⟩] 195)]) rfl ?_
 show JL _ _ _ [_,_] _ _ _
 refine Jc call212 rfl (fun hin=>PU _ _ _ _ _ _ _) rfl ?_
 rintro _ _ ⟨rfl,rfl⟩
 refine JAn rfl<|Zs rfl (fun h6=>?_) (fun h6=>?_)
 ·refine Zc<|JAn rfl<|ZC (iv 7) [] Sub.nil (?_)
  exact ⟨by refine congrArg (Value.int .i64) ?_;simp only [Xt];(repeat' split) <;> first | omega | grind,rfl⟩
 refine Zc<|JLq (pp b2 0) (Z1 rfl rfl)<|JLr (Zb ty3 rfl (Zcu 0 rfl) (Yf ..)<|JLq (pp b2 34) (Yd rfl rfl)<|JLr (Zb YZ rfl (Zcu 0 rfl) (Yh ..) ?_))
 obtain ⟨a7,cap7,hv7⟩:=hks.sl
 have hle7:=hks.le
 refine JLn (Zcv ZQ hv7)<|Jc call213 rfl (fun hin=>FX _ _ _) rfl ?_
 rintro _ _ ⟨rfl,rfl⟩
 refine JLn (Pu.not rfl)<|JLM rfl<|ZA 4 [33,34,35,36] [(36,cond (!(VK kind ((kids.length:Int)))) undef (.bool (decide (8<(cases.length:Int)))))] ?_ fun f10=>?_
 ·cases h8:(!(VK kind ((kids.length:Int)))) with
  | false=>
   replace h8:=nf h8
   refine JLq (pp b2 35) (ZY rfl rfl)<|JLr (Zb YL rfl (Zcu 0 rfl) (Z3 ..) ?_)
   obtain ⟨a9,cap9,hv9⟩:=hcv.sl
   have hle9:=hcv.le
   refine JLn (Zcv Yz hv9)<|JLn (Pu.gtr rfl rfl) ?_
   exact Za ⟨⟨rfl,trivial⟩,rfl⟩
  | true=>
   exact ZJ rfl ⟨rfl,trivial⟩
 refine JLn (ZcC rfl rfl rfl)<|JAn rfl<|Zs rfl (fun h11=>?_) (fun h11=>?_)
 ·refine Zc<|JAn rfl<|ZC (iv 2) [] Sub.nil (?_)
  exact ⟨by refine congrArg (Value.int .i64) ?_;simp only [Xt];(repeat' split) <;> first | omega | grind,rfl⟩
 obtain ⟨h11a,h11b⟩:=orF h11
 replace h11a:=nf h11a
 replace h11b:=df h11b
 refine Zk<|Zc<|JAn rfl<|Zf<|Zc<|JLq (pp b2 0) (Z1 rfl rfl)<|JLr (Zb ty3 rfl (Zcu 0 rfl) (Yf ..)<|Za<|Zh<|Zf ?_)
 refine Zd<|JLn (Pu.eql rfl rfl)<|JAn rfl<|ZF rfl (fun h12=>?_) (fun h12=>?_)
 ·refine Zc<|JLq (pp b2 1) (Yj rfl rfl)<|JLr (Zb ty3 rfl (Zcu 0 rfl) (YP ..)<|Jc call211 rfl (fun hin=>X9 _ _ _ _) rfl ?_)
  rintro _ _ ⟨rfl,rfl⟩
  refine Za<|ZF rfl (fun h13=>?_) (fun h13=>?_)
  ·refine Zc<|JAn rfl<|ZC (iv 3) [] Sub.nil (?_)
   exact ⟨by refine congrArg (Value.int .i64) ?_;simp only [Xt];(repeat' split) <;> first | omega | grind,rfl⟩
  refine Zk<|Zf<|Zc<|JLq (pp b2 0) (Z1 rfl rfl)<|JLr (Zb ty3 rfl (Zcu 0 rfl) (Yf ..)<|JLn (Pu.eql rfl rfl)<|JLM rfl<|ZA 3 [73,74,75] [(75,cond (decide (kind=2)) undef (.bool (decide (kind=8))))] ?_ fun f15=>?_)
  ·cases h14:(decide (kind=2)) with
   | false=>
    replace h14:=df h14
    refine JLq (pp b2 0) (Z1 rfl rfl)<|JLr (Zb ty3 rfl (Zcu 0 rfl) (Yf ..)<|JLn (Pu.eql rfl rfl) ?_)
    exact Za ⟨⟨rfl,trivial⟩,rfl⟩
   | true=>
    exact ZJ rfl ⟨rfl,trivial⟩
  refine JLn (ZcC rfl rfl rfl)<|JLM rfl<|ZA 3 [78,79,80] [(80,cond ((decide (kind=2))||(decide (kind=8))) undef (.bool (decide (kind=11))))] ?_ fun f17=>?_
  ·cases h16:((decide (kind=2))||(decide (kind=8))) with
   | false=>
    obtain ⟨h16a,h16b⟩:=orF h16
    replace h16a:=df h16a
    replace h16b:=df h16b
    refine JLq (pp b2 0) (Z1 rfl rfl)<|JLr (Zb ty3 rfl (Zcu 0 rfl) (Yf ..)<|JLn (Pu.eql rfl rfl) ?_)
    exact Za ⟨⟨rfl,trivial⟩,rfl⟩
   | true=>
    exact ZJ rfl ⟨rfl,trivial⟩
  refine JLn (ZcC rfl rfl rfl)<|JLM rfl<|ZA 4 [83,84,85,86] [(86,cond (((decide (kind=2))||(decide (kind=8)))||(decide (kind=11))) (.bool (decide (num<0∨1073741824<num))) undef)] ?_ fun f19=>?_
  ·cases h18:(((decide (kind=2))||(decide (kind=8)))||(decide (kind=11))) with
   | true=>
    refine JLq (pp b2 1) (Yj rfl rfl)<|JLr (Zb ty3 rfl (Zcu 0 rfl) (YP ..)<|JLM rfl<|Jc call211 rfl (fun hin=>X9 _ _ _ _) rfl ?_)
    rintro _ _ ⟨rfl,rfl⟩
    exact Za ⟨⟨rfl,trivial⟩,rfl⟩
   | false=>
    exact ZJ rfl ⟨rfl,trivial⟩
  refine JLn (ZcA rfl rfl rfl)<|Za<|Zs rfl (fun h20=>?_) (fun h20=>?_)
  ·obtain ⟨h20a,h20b⟩:=Xa h20
   replace h20b:=dt h20b
   refine Zc<|JAn rfl<|ZC (iv 3) [] Sub.nil (?_)
   exact ⟨by refine congrArg (Value.int .i64) ?_;simp only [Xt];(repeat' split) <;> first | omega | grind,rfl⟩
  refine Zk<|Zc<|JAn rfl<|ZC (iv 0) [] Sub.nil (?_)
  exact ⟨by refine congrArg (Value.int .i64) ?_;simp only [Xt];(repeat' split) <;> first | omega | grind,rfl⟩
 refine Zf<|Zc<|JLn (Pu.eql rfl rfl)<|JAn rfl<|ZF rfl (fun h21=>?_) (fun h21=>?_)
 ·refine Zk<|Zs rfl (fun _=>?_) (fun h22=>absurd h21 (df h22))
  refine Zd<|JAn rfl<|Zf<|Zc<|JLq (pp b2 0) (Z1 rfl rfl)<|JLr (Zb ty3 rfl (Zcu 0 rfl) (Yf ..)<|JLn (Pu.eql rfl rfl)<|JLM rfl<|ZA 3 [73,74,75] [(75,cond (decide (kind=2)) undef (.bool (decide (kind=8))))] ?_ fun f24=>?_)
  ·cases h23:(decide (kind=2)) with
   | false=>
    replace h23:=df h23
    refine JLq (pp b2 0) (Z1 rfl rfl)<|JLr (Zb ty3 rfl (Zcu 0 rfl) (Yf ..)<|JLn (Pu.eql rfl rfl) ?_)
    exact Za ⟨⟨rfl,trivial⟩,rfl⟩
   | true=>
    exact ZJ rfl ⟨rfl,trivial⟩
  refine JLn (ZcC rfl rfl rfl)<|JLM rfl<|ZA 3 [78,79,80] [(80,cond ((decide (kind=2))||(decide (kind=8))) undef (.bool (decide (kind=11))))] ?_ fun f26=>?_
  ·cases h25:((decide (kind=2))||(decide (kind=8))) with
   | false=>
    obtain ⟨h25a,h25b⟩:=orF h25
    replace h25a:=df h25a
    replace h25b:=df h25b
    refine JLq (pp b2 0) (Z1 rfl rfl)<|JLr (Zb ty3 rfl (Zcu 0 rfl) (Yf ..)<|JLn (Pu.eql rfl rfl) ?_)
    exact Za ⟨⟨rfl,trivial⟩,rfl⟩
   | true=>
    exact ZJ rfl ⟨rfl,trivial⟩
  refine JLn (ZcC rfl rfl rfl)<|JLM rfl<|ZA 4 [83,84,85,86] [(86,cond (((decide (kind=2))||(decide (kind=8)))||(decide (kind=11))) (.bool (decide (num<0∨7<num))) undef)] ?_ fun f28=>?_
  ·cases h27:(((decide (kind=2))||(decide (kind=8)))||(decide (kind=11))) with
   | true=>
    refine JLq (pp b2 1) (Yj rfl rfl)<|JLr (Zb ty3 rfl (Zcu 0 rfl) (YP ..)<|JLM rfl<|Jc call211 rfl (fun hin=>X9 _ _ _ _) rfl ?_)
    rintro _ _ ⟨rfl,rfl⟩
    exact Za ⟨⟨rfl,trivial⟩,rfl⟩
   | false=>
    exact ZJ rfl ⟨rfl,trivial⟩
  refine JLn (ZcA rfl rfl rfl)<|Za<|Zs rfl (fun h29=>?_) (fun h29=>?_)
  ·obtain ⟨h29a,h29b⟩:=Xa h29
   replace h29b:=dt h29b
   refine Zc<|JAn rfl<|ZC (iv 3) [] Sub.nil (?_)
   exact ⟨by refine congrArg (Value.int .i64) ?_;simp only [Xt];(repeat' split) <;> first | omega | grind,rfl⟩
  refine Zk<|Zc<|JAn rfl<|ZC (iv 0) [] Sub.nil (?_)
  exact ⟨by refine congrArg (Value.int .i64) ?_;simp only [Xt];(repeat' split) <;> first | omega | grind,rfl⟩
 refine Zd<|JLn (Pu.eql rfl rfl)<|JAn rfl<|ZF rfl (fun h30=>?_) (fun h30=>?_)
 ·refine Zd<|JAn rfl<|Zf<|Zc<|JLq (pp b2 0) (Z1 rfl rfl)<|JLr (Zb ty3 rfl (Zcu 0 rfl) (Yf ..)<|JLn (Pu.eql rfl rfl)<|JLM rfl<|ZA 3 [73,74,75] [(75,cond (decide (kind=2)) undef (.bool (decide (kind=8))))] ?_ fun f32=>?_)
  ·cases h31:(decide (kind=2)) with
   | false=>
    replace h31:=df h31
    refine JLq (pp b2 0) (Z1 rfl rfl)<|JLr (Zb ty3 rfl (Zcu 0 rfl) (Yf ..)<|JLn (Pu.eql rfl rfl) ?_)
    exact Za ⟨⟨rfl,trivial⟩,rfl⟩
   | true=>
    exact ZJ rfl ⟨rfl,trivial⟩
  refine JLn (ZcC rfl rfl rfl)<|JLM rfl<|ZA 3 [78,79,80] [(80,cond ((decide (kind=2))||(decide (kind=8))) undef (.bool (decide (kind=11))))] ?_ fun f34=>?_
  ·cases h33:((decide (kind=2))||(decide (kind=8))) with
   | false=>
    obtain ⟨h33a,h33b⟩:=orF h33
    replace h33a:=df h33a
    replace h33b:=df h33b
    refine JLq (pp b2 0) (Z1 rfl rfl)<|JLr (Zb ty3 rfl (Zcu 0 rfl) (Yf ..)<|JLn (Pu.eql rfl rfl) ?_)
    exact Za ⟨⟨rfl,trivial⟩,rfl⟩
   | true=>
    exact ZJ rfl ⟨rfl,trivial⟩
  refine JLn (ZcC rfl rfl rfl)<|JLM rfl<|ZA 4 [83,84,85,86] [(86,cond (((decide (kind=2))||(decide (kind=8)))||(decide (kind=11))) (.bool (decide (num<0∨7<num))) undef)] ?_ fun f36=>?_
  ·cases h35:(((decide (kind=2))||(decide (kind=8)))||(decide (kind=11))) with
   | true=>
    refine JLq (pp b2 1) (Yj rfl rfl)<|JLr (Zb ty3 rfl (Zcu 0 rfl) (YP ..)<|JLM rfl<|Jc call211 rfl (fun hin=>X9 _ _ _ _) rfl ?_)
    rintro _ _ ⟨rfl,rfl⟩
    exact Za ⟨⟨rfl,trivial⟩,rfl⟩
   | false=>
    exact ZJ rfl ⟨rfl,trivial⟩
  refine JLn (ZcA rfl rfl rfl)<|Za<|Zs rfl (fun h37=>?_) (fun h37=>?_)
  ·obtain ⟨h37a,h37b⟩:=Xa h37
   replace h37b:=dt h37b
   refine Zc<|JAn rfl<|ZC (iv 3) [] Sub.nil (?_)
   exact ⟨by refine congrArg (Value.int .i64) ?_;simp only [Xt];(repeat' split) <;> first | omega | grind,rfl⟩
  refine Zk<|Zc<|JAn rfl<|ZC (iv 0) [] Sub.nil (?_)
  exact ⟨by refine congrArg (Value.int .i64) ?_;simp only [Xt];(repeat' split) <;> first | omega | grind,rfl⟩
 refine Zc<|JLn (Pu.eql rfl rfl)<|JAn rfl<|ZF rfl (fun h38=>?_) (fun h38=>?_)
 ·refine Zc<|JLq (pp b1 1) (C3 rfl rfl)<|JLr (Zb B3 rfl (Zcu 1 rfl) rfl<|JLq (pp b2 1) (Yj rfl rfl)<|JLr (Zb ty3 rfl (Zcu 0 rfl) (YP ..)<|JLM rfl<|Jc call146 rfl (fun hin=>FS _ _ _ _ bD (Hle.hu _ _ _ _ hD) hb0 hb1 hn1 hn2) rfl ?_))
  rintro _ _ ⟨rfl,rfl⟩
  refine JLn (Pu.not rfl)<|Za<|Zs rfl (fun h39=>?_) (fun h39=>?_)
  ·replace h39:=nt h39
   refine Zc<|JAn rfl<|ZC (iv 1) [] Sub.nil (?_)
   exact ⟨by refine congrArg (Value.int .i64) ?_;simp only [Xt];(repeat' split) <;> first | omega | grind,rfl⟩
  replace h39:=nf h39
  refine Zk<|Zf<|Zc<|JLq (pp b2 0) (Z1 rfl rfl)<|JLr (Zb ty3 rfl (Zcu 0 rfl) (Yf ..)<|JLn (Pu.eql rfl rfl)<|JLM rfl<|ZA 3 [73,74,75] [(75,cond (decide (kind=2)) undef (.bool (decide (kind=8))))] ?_ fun f41=>?_)
  ·cases h40:(decide (kind=2)) with
   | false=>
    replace h40:=df h40
    refine JLq (pp b2 0) (Z1 rfl rfl)<|JLr (Zb ty3 rfl (Zcu 0 rfl) (Yf ..)<|JLn (Pu.eql rfl rfl) ?_)
    exact Za ⟨⟨rfl,trivial⟩,rfl⟩
   | true=>
    exact ZJ rfl ⟨rfl,trivial⟩
  refine JLn (ZcC rfl rfl rfl)<|JLM rfl<|ZA 3 [78,79,80] [(80,cond ((decide (kind=2))||(decide (kind=8))) undef (.bool (decide (kind=11))))] ?_ fun f43=>?_
  ·cases h42:((decide (kind=2))||(decide (kind=8))) with
   | false=>
    obtain ⟨h42a,h42b⟩:=orF h42
    replace h42a:=df h42a
    replace h42b:=df h42b
    refine JLq (pp b2 0) (Z1 rfl rfl)<|JLr (Zb ty3 rfl (Zcu 0 rfl) (Yf ..)<|JLn (Pu.eql rfl rfl) ?_)
    exact Za ⟨⟨rfl,trivial⟩,rfl⟩
   | true=>
    exact ZJ rfl ⟨rfl,trivial⟩
  refine JLn (ZcC rfl rfl rfl)<|JLM rfl<|ZA 4 [83,84,85,86] [(86,cond (((decide (kind=2))||(decide (kind=8)))||(decide (kind=11))) (.bool (decide (num<0∨1073741824<num))) undef)] ?_ fun f45=>?_
  ·cases h44:(((decide (kind=2))||(decide (kind=8)))||(decide (kind=11))) with
   | true=>
    refine JLq (pp b2 1) (Yj rfl rfl)<|JLr (Zb ty3 rfl (Zcu 0 rfl) (YP ..)<|JLM rfl<|Jc call211 rfl (fun hin=>X9 _ _ _ _) rfl ?_)
    rintro _ _ ⟨rfl,rfl⟩
    exact Za ⟨⟨rfl,trivial⟩,rfl⟩
   | false=>
    exact ZJ rfl ⟨rfl,trivial⟩
  refine JLn (ZcA rfl rfl rfl)<|Za<|Zs rfl (fun h46=>?_) (fun h46=>?_)
  ·obtain ⟨h46a,h46b⟩:=Xa h46
   replace h46b:=dt h46b
   refine Zc<|JAn rfl<|ZC (iv 3) [] Sub.nil (?_)
   exact ⟨by refine congrArg (Value.int .i64) ?_;simp only [Xt];(repeat' split) <;> first | omega | grind,rfl⟩
  refine Zk<|Zc<|JAn rfl<|ZC (iv 0) [] Sub.nil (?_)
  exact ⟨by refine congrArg (Value.int .i64) ?_;simp only [Xt];(repeat' split) <;> first | omega | grind,rfl⟩
 refine Zc<|JLn (Pu.eql rfl rfl)<|JAn rfl<|ZF rfl (fun h47=>?_) (fun h47=>?_)
 ·refine Zc<|JLq (pp b2 1) (Yj rfl rfl)<|JLr (Zb ty3 rfl (Zcu 0 rfl) (YP ..)<|JLn (Pu.lss rfl rfl)<|JLM rfl<|ZA 5 [63,64,65,66,67] [(67,cond (decide (num<0)) undef (.bool (decide (m≤num))))] ?_ fun f49=>?_)
  ·cases h48:(decide (num<0)) with
   | false=>
    replace h48:=df h48
    refine JLq (pp b2 1) (Yj rfl rfl)<|JLr (Zb ty3 rfl (Zcu 0 rfl) (YP ..)<|JLq (pp b1 0) (C4 rfl rfl)<|JLr (Zb ty3 rfl (Zcu 1 rfl) rfl<|JLn (Pu.geq rfl rfl) ?_))
    exact Za ⟨⟨rfl,trivial⟩,rfl⟩
   | true=>
    exact ZJ rfl ⟨rfl,trivial⟩
  refine JLn (ZcC rfl rfl rfl)<|Za<|Zs rfl (fun h50=>?_) (fun h50=>?_)
  ·refine Zc<|JAn rfl<|ZC (iv 1) [] Sub.nil (?_)
   exact ⟨by refine congrArg (Value.int .i64) ?_;simp only [Xt];(repeat' split) <;> first | omega | grind,rfl⟩
  obtain ⟨h50a,h50b⟩:=orF h50
  replace h50a:=df h50a
  replace h50b:=df h50b
  refine Zk<|Zf<|Zc<|JLq (pp b2 0) (Z1 rfl rfl)<|JLr (Zb ty3 rfl (Zcu 0 rfl) (Yf ..)<|JLn (Pu.eql rfl rfl)<|JLM rfl<|ZA 3 [73,74,75] [(75,cond (decide (kind=2)) undef (.bool (decide (kind=8))))] ?_ fun f52=>?_)
  ·cases h51:(decide (kind=2)) with
   | false=>
    replace h51:=df h51
    refine JLq (pp b2 0) (Z1 rfl rfl)<|JLr (Zb ty3 rfl (Zcu 0 rfl) (Yf ..)<|JLn (Pu.eql rfl rfl) ?_)
    exact Za ⟨⟨rfl,trivial⟩,rfl⟩
   | true=>
    exact ZJ rfl ⟨rfl,trivial⟩
  refine JLn (ZcC rfl rfl rfl)<|JLM rfl<|ZA 3 [78,79,80] [(80,cond ((decide (kind=2))||(decide (kind=8))) undef (.bool (decide (kind=11))))] ?_ fun f54=>?_
  ·cases h53:((decide (kind=2))||(decide (kind=8))) with
   | false=>
    obtain ⟨h53a,h53b⟩:=orF h53
    replace h53a:=df h53a
    replace h53b:=df h53b
    refine JLq (pp b2 0) (Z1 rfl rfl)<|JLr (Zb ty3 rfl (Zcu 0 rfl) (Yf ..)<|JLn (Pu.eql rfl rfl) ?_)
    exact Za ⟨⟨rfl,trivial⟩,rfl⟩
   | true=>
    exact ZJ rfl ⟨rfl,trivial⟩
  refine JLn (ZcC rfl rfl rfl)<|JLM rfl<|ZA 4 [83,84,85,86] [(86,cond (((decide (kind=2))||(decide (kind=8)))||(decide (kind=11))) (.bool (decide (num<0∨1073741824<num))) undef)] ?_ fun f56=>?_
  ·cases h55:(((decide (kind=2))||(decide (kind=8)))||(decide (kind=11))) with
   | true=>
    refine JLq (pp b2 1) (Yj rfl rfl)<|JLr (Zb ty3 rfl (Zcu 0 rfl) (YP ..)<|JLM rfl<|Jc call211 rfl (fun hin=>X9 _ _ _ _) rfl ?_)
    rintro _ _ ⟨rfl,rfl⟩
    exact Za ⟨⟨rfl,trivial⟩,rfl⟩
   | false=>
    exact ZJ rfl ⟨rfl,trivial⟩
  refine JLn (ZcA rfl rfl rfl)<|Za<|Zs rfl (fun h57=>?_) (fun h57=>?_)
  ·obtain ⟨h57a,h57b⟩:=Xa h57
   replace h57b:=dt h57b
   refine Zc<|JAn rfl<|ZC (iv 3) [] Sub.nil (?_)
   exact ⟨by refine congrArg (Value.int .i64) ?_;simp only [Xt];(repeat' split) <;> first | omega | grind,rfl⟩
  refine Zk<|Zc<|JAn rfl<|ZC (iv 0) [] Sub.nil (?_)
  exact ⟨by refine congrArg (Value.int .i64) ?_;simp only [Xt];(repeat' split) <;> first | omega | grind,rfl⟩
 refine Zk<|Zf<|Zc<|JLq (pp b2 0) (Z1 rfl rfl)<|JLr (Zb ty3 rfl (Zcu 0 rfl) (Yf ..)<|JLn (Pu.eql rfl rfl)<|JLM rfl<|ZA 3 [73,74,75] [(75,cond (decide (kind=2)) undef (.bool (decide (kind=8))))] ?_ fun f59=>?_)
 ·cases h58:(decide (kind=2)) with
  | false=>
   replace h58:=df h58
   refine JLq (pp b2 0) (Z1 rfl rfl)<|JLr (Zb ty3 rfl (Zcu 0 rfl) (Yf ..)<|JLn (Pu.eql rfl rfl) ?_)
   exact Za ⟨⟨rfl,trivial⟩,rfl⟩
  | true=>
   exact ZJ rfl ⟨rfl,trivial⟩
 refine JLn (ZcC rfl rfl rfl)<|JLM rfl<|ZA 3 [78,79,80] [(80,cond ((decide (kind=2))||(decide (kind=8))) undef (.bool (decide (kind=11))))] ?_ fun f61=>?_
 ·cases h60:((decide (kind=2))||(decide (kind=8))) with
  | false=>
   obtain ⟨h60a,h60b⟩:=orF h60
   replace h60a:=df h60a
   replace h60b:=df h60b
   refine JLq (pp b2 0) (Z1 rfl rfl)<|JLr (Zb ty3 rfl (Zcu 0 rfl) (Yf ..)<|JLn (Pu.eql rfl rfl) ?_)
   exact Za ⟨⟨rfl,trivial⟩,rfl⟩
  | true=>
   exact ZJ rfl ⟨rfl,trivial⟩
 refine JLn (ZcC rfl rfl rfl)<|JLM rfl<|ZA 4 [83,84,85,86] [(86,cond (((decide (kind=2))||(decide (kind=8)))||(decide (kind=11))) (.bool (decide (num<0∨1073741824<num))) undef)] ?_ fun f63=>?_
 ·cases h62:(((decide (kind=2))||(decide (kind=8)))||(decide (kind=11))) with
  | true=>
   refine JLq (pp b2 1) (Yj rfl rfl)<|JLr (Zb ty3 rfl (Zcu 0 rfl) (YP ..)<|JLM rfl<|Jc call211 rfl (fun hin=>X9 _ _ _ _) rfl ?_)
   rintro _ _ ⟨rfl,rfl⟩
   exact Za ⟨⟨rfl,trivial⟩,rfl⟩
  | false=>
   exact ZJ rfl ⟨rfl,trivial⟩
 refine JLn (ZcA rfl rfl rfl)<|Za<|Zs rfl (fun h64=>?_) (fun h64=>?_)
 ·obtain ⟨h64a,h64b⟩:=Xa h64
  replace h64b:=dt h64b
  refine Zc<|JAn rfl<|ZC (iv 3) [] Sub.nil (?_)
  exact ⟨by refine congrArg (Value.int .i64) ?_;simp only [Xt];(repeat' split) <;> first | omega | grind,rfl⟩
 refine Zk<|Zc<|JAn rfl<|ZC (iv 0) [] Sub.nil (?_)
 exact ⟨by refine congrArg (Value.int .i64) ?_;simp only [Xt];(repeat' split) <;> first | omega | grind,rfl⟩
theorem G8 (cs:List Value) (H:Heap) (hl:cs.length=36):CT prog 189 ⟨[.agg ⟨cs⟩]⟩ [] H (fun v N=>∃ b,v=.func (.func 215) ⟨[]⟩ ⟨[pp b 0]⟩∧N=[(BX b cs 51)]):=by
 refine Zl func189 rfl rfl<|Zc<|JLr (Zr (l:=cs) rfl rfl fun b1=>JLa .nilFunc<|Za<|Zc<|JLq (.func (.func 215) ⟨[]⟩ ⟨[pp b1 0]⟩) (Pu.makeFunc rfl rfl)<|JAn rfl<|ZC (.func (.func 215) ⟨[]⟩ ⟨[pp b1 0]⟩) [(BX b1 cs 51)] (Sk Sub.nil) (?_))
 exact ⟨_,rfl,rfl⟩
theorem IV (kind num:Int) (ref:Sm) (ks cv:Value) (kids:List Tm) (cases:List (Pt×Tm)) (H:Heap) (bT:Nat) (hks:rdS RT 36 H ks kids) (hcv:rdS RC 71 H cv cases) (hT:H bT=some (.cells ⟨pkT kind num ref ks cv⟩ 51 (0,0))) (hsz:∀ c∈cases,binds c.1≤1000000) (hkl:kids.length≤1000000) (hcl:cases.length≤1000000) (l:Nat) {σ:Type} (yc:σ→Zi) (Inv:σ→Prop) (step:Tm→Int→σ→Bool×σ) (s0:σ) (h0:Inv s0) (It:Tm→Int→Prop) (hIK:∀ (j:Nat) (hj:j<kids.length),It kids[j] (more kind j)) (hIC:∀ (j:Nat) (hj:j<cases.length),It cases[j].2 (binds cases[j].1:Int)) (hI:∀ x mo s,Inv s→(step x mo s).1=true→Inv (step x mo s).2) (hy:∀ x mo,It x mo→∀ s (i:Int) a h,Inv s→Hle H h→RT h a x→YT prog l ⟨[iv i,.agg ⟨a++[iv mo]⟩]⟩ [yc s] h (fun v N=>v=.bool (step x mo s).1∧N=[yc (step x mo s).2])):CT prog 215 ⟨[.func (.yield l) ⟨[]⟩ ⟨[]⟩,pp bT 0]⟩ [yc s0] H (fun _ N=>N=[yc (yP step kind kids cases s0)]):=by
 refine Zl func215 rfl rfl<|Zf<|Zc<|JLq (pp bT 34) (Yd rfl rfl)<|JLr (Zb YZ rfl (Zcx hT) (Yh ..) ?_)
 obtain ⟨a1,cap1,hv1⟩:=hks.sl
 have hle1:=hks.le
 refine JLn (Zcv ZQ hv1)<|JLM rfl<|Za<|Zh<|Zv (fun k ρ M=>∃ (j:Nat) (s:σ),ZR ρ [(0,.func (.yield l) ⟨[]⟩ ⟨[]⟩),(1,pp bT 0),(8,ks),(9,iv ((kids.length:Int))),(10,iv ((j:Int)))]=ρ∧Sub [yc s] M∧j≤kids.length∧Inv s∧yK step kind j (kids.drop j) s=yK step kind 0 kids s0∧k=kids.length-j) _ ⟨0,s0,Zj rfl,(Sk Sub.nil),Nat.zero_le _,h0,rfl,rfl⟩ ?_
 rintro _ ρ2 _ ⟨j,s,e3,hm8,hj,hs,hinv,rfl⟩
 obtain ⟨ρ9,rfl⟩:=Zo e3
 clear e3
 refine ZD hm8 ?_
 have hlen:=hks.le
 refine Zc<|JLn (Pu.lss rfl rfl)<|Za<|Zf<|ZF rfl (fun h10=>?_) (fun h10=>?_)
 ·have h10n:j<kids.length:=by omega
  refine Zk<|Zf<|Zh<|Zc<|JLM rfl ?_
  obtain ⟨b11,o11,cap11,row11,T11,fr11,cs11,hv11,hb11,hs11,hE11⟩:=hks.get j (by omega)
  refine JLn (Zcw j ZQ Zy hv11 rfl rfl (by omega))<|JLr (Zn Zy rfl (Zcx hb11) hs11<|JLr (Zp (l:=pkT 0 0 zS nS nS) zeroValue51 rfl fun b12=>JLA rfl<|JLr (Ze 0 (vs:=cs11) (l:=cs11) Zy rfl rfl rfl rfl (ZB hE11) (XA hE11) (Yb (n:=36) rfl (ZB hE11))<|Za<|Zf<|ZI mixed #[0,0,0,0,8,0,56,124,255,511] 8 (sm 15 8) [] [(6,fun _ _ vw qw=>vw=iv (more kind ((j:Int)))∧qw=[])] rfl (by kernel_rfl) rfl (by kernel_rfl)<|DM (fun _=>rfl)<|DM (fun _=>rfl)<|Dl Zy (Zcu 0 rfl) (ZE (ZB hE11))<|Dq (pp bT 0) (fun _=>Z1 rfl rfl)<|Dl1 ty3 (Zcx hT) (Yf ..) ?_)))
  refine DM (fun _=>rfl)<|Dc rfl call216 (fun _=>rfl) (fun hin=>Cz _ _ _) ?_
  rintro _ _ ⟨rfl,rfl⟩
  refine Dq (.agg ⟨cs11++([iv (more kind ((j:Int)))]:List Value)⟩) (fun _=>Pu.build (pv:=[(0,.agg ⟨cs11⟩),(1,iv (more kind ((j:Int))))]) (l:=cs11++([iv (more kind ((j:Int)))]:List Value)) rfl (P3 (ZB hE11)))<|ZM (M':=[(BX b12 cs11 51),yc s]) rfl ?_
  show JL _ _ _ [_,_] _ _ _
  refine TL 1 rfl rfl rfl (fun hin=>hy _ _ (hIK j h10n) _ _ _ _ hs (Hle.hu _ _) (RT.mono (Hle.hu _ _) hE11)) rfl ?_
  rintro _ _ ⟨rfl,rfl⟩
  refine JLn (Pu.not rfl)<|Za<|Zs rfl (fun h13=>?_) (fun h13=>?_)
  ·replace h13:=nt h13
   refine ZH<|⟨.tuple ⟨[]⟩,[yc (step (kids[j]) (more kind ((j:Int))) s).2],Ret.none rfl,(Sk Sub.nil),?_⟩
   rw [YU h10n,yK,if_neg (by simp [h13])] at hinv
   show _=_;rw [yP,← hinv];rfl
  replace h13:=nf h13
  refine Zk<|Zd<|JLn (Zcy rfl rfl (by omega))<|JLM rfl<|Za<|⟨_,?_,(j+1),((step (kids[j]) (more kind ((j:Int))) s).2),Zj rfl,(Sk Sub.nil),?_,?_,?_,rfl⟩
  ·omega
  ·omega
  ·exact hI _ _ s hs h13
  rw [YU h10n,yK,if_pos h13] at hinv;exact hinv
 have h10n:kids.length≤j:=by omega
 refine Zu _ rfl<|Zc<|JLq (pp bT 35) (ZY rfl rfl)<|JLr (Zb YL rfl (Zcx hT) (Z3 ..) ?_)
 obtain ⟨a14,cap14,hv14⟩:=hcv.sl
 have hle14:=hcv.le
 refine JLn (Zcv Yz hv14)<|JLM rfl<|Za<|Zh ?_
 have hk1:yK step kind 0 kids s0=(true,s):=by rw [← hinv,WU h10n];rfl
 refine Zv (fun k ρ M=>∃ (j:Nat) (s2:σ),ZR ρ [(0,.func (.yield l) ⟨[]⟩ ⟨[]⟩),(1,pp bT 0),(27,cv),(28,iv ((cases.length:Int))),(29,iv ((j:Int)))]=ρ∧Sub [yc s2] M∧j≤cases.length∧Inv s2∧yC step (cases.drop j) s2=yC step cases s∧k=cases.length-j) _ ⟨0,s,Zj rfl,(Sk Sub.nil),Nat.zero_le _,hs,rfl,rfl⟩ ?_
 rintro _ ρ15 _ ⟨j,s2,e16,hm21,hj,hs,hinv,rfl⟩
 obtain ⟨ρ22,rfl⟩:=Zo e16
 clear e16
 refine ZD hm21 ?_
 have hlen:=hcv.le
 refine Zc<|JLn (Pu.lss rfl rfl)<|Za<|Zf<|ZF rfl (fun h23=>?_) (fun h23=>?_)
 ·have h23n:j<cases.length:=by omega
  have hbm:=hsz _ (getElem_mem h23n)
  have hlenk:=hks.le
  refine Zk<|Zf<|Zh<|Zc<|JLM rfl ?_
  obtain ⟨b24,o24,cap24,row24,T24,fr24,cs24,hv24,hb24,hs24,hE24⟩:=hcv.get j (by omega)
  obtain ⟨ca24,cb24,rfl,hA24,hB24⟩:=hE24
  refine JLn (Zcw j Yz Yg hv24 rfl rfl (by omega))<|JLr (Zn Yg rfl (Zcx hb24) hs24<|JLr (Zp (l:=(pkP 0 0 zS nS)++(pkT 0 0 zS nS nS)) zeroValue117 rfl fun b25=>JLA rfl<|JLr (Ze 0 (vs:=ca24++cb24) (l:=ca24++cb24) Yg rfl rfl rfl rfl (ZW (ZN hA24) (ZB hB24)) (Y5 (Ur hA24) (XA hB24)) (Yb (n:=71) rfl (ZW (ZN hA24) (ZB hB24)))<|Za<|Zf<|ZI mixed #[0,0,2,6,0,30,0,64,0,256,768,1984,4095,8191] 12 (sm 34 12) [] [(10,fun _ _ vw qw=>vw=iv ((binds (cases[j].1):Int))∧qw=[])] rfl (by kernel_rfl) rfl (by kernel_rfl)<|DM (fun _=>rfl)<|Dq (pp bT 34) (fun _=>Yd rfl rfl)<|Dl1 YZ (Zcx hT) (Yh ..) ?_)))
  obtain ⟨a27,cap27,hv27⟩:=hks.sl
  have hle27:=hks.le
  refine Dn (fun _=>Zcv ZQ hv27)<|DM (fun _=>rfl) ?_
  refine Dn (fun _=>ZcG rfl rfl (by first | omega | (constructor <;> omega)))<|Dq (pp b25 35) (fun _=>YV rfl rfl)<|Dl Zy (Zcu 0 rfl) (XK (ZN hA24) (ZB hB24))<|Dq (pp b25 0) (fun _=>YO rfl rfl)<|Dl ZU (Zcu 0 rfl) (XE (ZN hA24)) ?_
  refine Dc rfl call217 (fun _=>rfl) (fun hin=>E7 _ _ _ (RP.mono (Hle.hu _ _) hA24) (by omega)) ?_
  rintro _ _ ⟨rfl,rfl⟩
  refine Dq (.agg ⟨cb24++([iv ((binds (cases[j].1):Int))]:List Value)⟩) (fun _=>Pu.build (pv:=[(0,.agg ⟨cb24⟩),(1,iv ((binds (cases[j].1):Int)))]) (l:=cb24++([iv ((binds (cases[j].1):Int))]:List Value)) rfl (P3 (ZB hB24)))<|ZM (M':=[(BX b25 (ca24++cb24) 117),yc s2]) rfl ?_
  show JL _ _ _ [_,_] _ _ _
  refine TL 1 rfl rfl rfl (fun hin=>hy _ _ (hIC j h23n) _ _ _ _ hs (Hle.hu _ _) (RT.mono (Hle.hu _ _) hB24)) rfl ?_
  rintro _ _ ⟨rfl,rfl⟩
  refine JLn (Pu.not rfl)<|Za<|Zs rfl (fun h28=>?_) (fun h28=>?_)
  ·replace h28:=nt h28
   refine ZH<|⟨.tuple ⟨[]⟩,[yc (step (cases[j].2) ((binds (cases[j].1):Int)) s2).2],Ret.none rfl,(Sk Sub.nil),?_⟩
   rw [YU h23n,yC,if_neg (by simp [h28])] at hinv
   show _=_;rw [yP,hk1,if_pos rfl,← hinv]
  replace h28:=nf h28
  refine Zk<|Zd<|JLn (Zcy rfl rfl (by omega))<|JLM rfl<|Za<|⟨_,?_,(j+1),((step (cases[j].2) ((binds (cases[j].1):Int)) s2).2),Zj rfl,(Sk Sub.nil),?_,?_,?_,rfl⟩
  ·omega
  ·omega
  ·exact hI _ _ s2 hs h28
  rw [YU h23n,yC,if_pos h28] at hinv;exact hinv
 have h23n:cases.length≤j:=by omega
 refine Zu _ rfl<|⟨.tuple ⟨[]⟩,[yc s2],Ret.none rfl,(Sk Sub.nil),?_⟩
 show _=_;rw [yP,hk1,if_pos rfl,← hinv,WU h23n];rfl
theorem ZaJ:∀ (t:Tm) (d m b:Int) (cs:List Value) (H:Heap) (bD:Nat),RT H cs t→H bD=some (.cells ⟨[iv d]⟩ 3 (0,0))→0≤b→b+2*sizeT t≤1000000→CT prog 147 ⟨[.agg ⟨[iv m,.func (.func 146) ⟨[]⟩ ⟨[pp bD 0]⟩]⟩,.agg ⟨cs⟩,iv b]⟩ [] H (fun v N=>v=iv (X0 d m b t)∧N=[]):=by
 intro t
 induction t using Tm.ind with
 | h kind num ref kids cases ih ih'=>
 intro d m b cs H bD ht hD hb0 hb
 obtain ⟨ks,cv,rfl,hk,hn,hks,hcv⟩:=RT_mk.1 ht
 rw [sizeT] at hb
 have hn1: -9223372036854775808≤num:=hn.1
 have hn2:num≤9223372036854775807:=hn.2
 have ihx:∀ x mo,(fun x mo=>((∃ (j:Nat) (hj:j<kids.length),x=kids[j])∨∃ (j:Nat) (hj:j<cases.length),x=cases[j].2)∧0≤mo∧mo+2*(sizeT x:Int)≤2*((1+ZL kids+ZX cases:Nat):Int)) x mo→∀ (d m b:Int) (cs:List Value) (H:Heap) (bD:Nat),RT H cs x→H bD=some (.cells ⟨[iv d]⟩ 3 (0,0))→0≤b→b+2*sizeT x≤1000000→CT prog 147 ⟨[.agg ⟨[iv m,.func (.func 146) ⟨[]⟩ ⟨[pp bD 0]⟩]⟩,.agg ⟨cs⟩,iv b]⟩ [] H (fun v N=>v=iv (X0 d m b x)∧N=[]):=by
  rintro x mo ⟨⟨j,hj,rfl⟩ | ⟨j,hj,rfl⟩,_,_⟩
  ·exact ih _ (getElem_mem hj)
  ·exact ih' _ (getElem_mem hj)
 refine Zl func147 rfl rfl<|Zc<|JLr (Zr (l:=[iv m,.func (.func 146) ⟨[]⟩ ⟨[pp bD 0]⟩]) rfl rfl fun b1=>JLr (Zr (l:=pkT kind num ref ks cv) rfl rfl fun b2=>JLr (Zr (l:=[iv b]) rfl rfl fun b3=>JLr (Zp (l:=[iv 0]) zeroValue26 rfl fun b4=>Za<|Zf<|Zc<|JLr (Zn KY rfl (Zcu 3 rfl) rfl<|JLr (Zn Zy rfl (Zcu 2 rfl) (YH ..) ?_))))))
 refine JLr (Zb ty3 rfl (Zcu 1 rfl) rfl<|Jc call187 rfl (fun hin=>KE _ _ _ _ _ _ _ _ _ _ _ bD (RTs.mono (Hle.hu _ _) hks) (RCs.mono (Hle.hu _ _) hcv) (Hle.hu _ _ _ _ hD) hb0 (by omega) hn1 hn2) rfl ?_)
 rintro _ _ ⟨rfl,rfl⟩
 refine JAn rfl<|Zc<|JLM rfl<|JLn (Pu.neq rfl rfl)<|Za<|Zs rfl (fun h5=>?_) (fun h5=>?_)
 ·replace h5:=nt h5
  replace h5:=df h5
  refine Zc<|JLM rfl<|JLr (Ze 0 (vs:=[iv (Xt d m b kind num ref kids.length cases.length)]) (l:=[iv (Xt d m b kind num ref kids.length cases.length)]) Ol rfl rfl rfl rfl rfl (Zg rfl Zq) rfl<|Za<|ZH<|⟨iv (Xt d m b kind num ref kids.length cases.length),[],Ret.one rfl (ZcY Ol rfl (Zcu 0 rfl) rfl),Sub.nil,?_⟩)
  exact ⟨by rw [X0,if_neg h5],rfl⟩
 replace h5:=nf h5
 replace h5:=dt h5
 refine Zk<|Zf<|Zc<|JLq (pp b2 35) (ZY rfl rfl)<|JLr (Zb YL rfl (Zcu 2 rfl) (Z3 ..) ?_)
 obtain ⟨a6,cap6,hv6⟩:=hcv.sl
 have hle6:=hcv.le
 refine JLn (Zcv Yz hv6)<|JLM rfl<|Za<|Zh ?_
 have hh0:Xt d m b kind num ref kids.length cases.length=0:=h5
 refine Zv (fun k ρ M=>∃ (j:Nat),ZR ρ [(3,pp b1 0),(4,pp b2 0),(5,pp b3 0),(6,pp b4 0),(22,cv),(23,iv ((cases.length:Int))),(24,iv ((j:Int)))]=ρ∧Sub [(BX b4 [iv 0] 26),(BX b3 [iv b] 3),(BX b2 (pkT kind num ref ks cv) 51),(BX b1 [iv m,.func (.func 146) ⟨[]⟩ ⟨[pp bD 0]⟩] 195)] M∧j≤cases.length∧VS (cases.drop j)=VS cases∧k=cases.length-j) _ ⟨0,Zj rfl,(Sk (Sk (Sk (Sk Sub.nil)))),Nat.zero_le _,rfl,rfl⟩ ?_
 rintro _ ρ7 _ ⟨j,e8,hm15,hj,hinv,rfl⟩
 obtain ⟨ρ16,rfl⟩:=Zo e8
 clear e8
 refine ZD hm15 ?_
 have hlen:=hcv.le
 refine Zc<|JLn (Pu.lss rfl rfl)<|Za<|Zf<|ZF rfl (fun h17=>?_) (fun h17=>?_)
 ·have h17n:j<cases.length:=by omega
  refine Zk<|Zf<|Zh<|Zf<|Zd ?_
  obtain ⟨b18,o18,cap18,row18,T18,fr18,cs18,hv18,hb18,hs18,hE18⟩:=hcv.get j (by omega)
  obtain ⟨ca18,cb18,rfl,hA18,hB18⟩:=hE18
  refine JLn (Zcw j Yz Yg hv18 rfl rfl (by omega))<|JLr (Zn Yg rfl (Zcx hb18) hs18<|JLr (Zp (l:=(pkP 0 0 zS nS)++(pkT 0 0 zS nS nS)) zeroValue117 rfl fun b19=>JLr (Ze 0 (vs:=ca18++cb18) (l:=ca18++cb18) Yg rfl rfl rfl rfl (ZW (ZN hA18) (ZB hB18)) (Y5 (Ur hA18) (XA hB18)) (Yb (n:=71) rfl (ZW (ZN hA18) (ZB hB18)))<|Za<|Zc<|JLq (pp b19 0) (YO rfl rfl)<|JLr (Zn ZU rfl (Zcu 0 rfl) (XE (ZN hA18))<|Jc call188 rfl (fun hin=>Ry _ _ _ (RP.mono (Hle.hu _ _) hA18)) rfl ?_))))
  rintro _ _ ⟨rfl,rfl⟩
  refine JAn rfl<|Zc<|JLM rfl<|JLn (Pu.neq rfl rfl)<|Za<|Zs rfl (fun h20=>?_) (fun h20=>?_)
  ·replace h20:=nt h20
   replace h20:=df h20
   refine Zc<|JLM rfl<|JLr (Ze 1 (vs:=[iv (V8 (cases[j].1))]) (l:=[iv (V8 (cases[j].1))]) Ol rfl rfl rfl rfl rfl (Zg rfl Zq) rfl<|Za<|ZH<|⟨iv (V8 (cases[j].1)),[],Ret.one rfl (ZcY Ol rfl (Zcu 1 rfl) rfl),Sub.nil,?_⟩)
   exact ⟨by rw [X0,if_pos hh0,← hinv,YU h17n,VS,if_neg h20,if_neg h20],rfl⟩
  replace h20:=nf h20
  replace h20:=dt h20
  refine Zk<|Zd<|JLn (Zcy rfl rfl (by omega))<|JLM rfl<|Za<|⟨_,?_,(j+1),Zj rfl,(Sd (Sk (Sk (Sk (Sk Sub.nil))))),?_,?_,rfl⟩
  ·omega
  ·omega
  rw [YU h17n,VS,if_pos h20] at hinv;exact hinv
 have h17n:cases.length≤j:=by omega
 refine Zu _ rfl<|Zf<|Zc<|JLr (Zn Zy rfl (Zcu 2 rfl) (YH ..)<|Jc call189 rfl (fun hin=>G8 _ _ rfl) rfl ?_)
 rintro _ _ ⟨bT21,rfl,rfl⟩
 refine Za<|Zh ?_
 have h1:VS cases=0:=by rw [← hinv,WU h17n];rfl
 refine QQ (L:=[(BX bT21 (pkT kind num ref ks cv) 51),(BX b3 [iv b] 3),(BX b2 (pkT kind num ref ks cv) 51),(BX b1 [iv m,.func (.func 146) ⟨[]⟩ ⟨[pp bD 0]⟩] 195)]) (fun e:Int=>[(BX b4 [iv e] 26)]) (fun e=> !decide (e=0)) 0 (fun e=>e=yP (fun x mo _=>(decide (X0 d m (b+mo) x=0),X0 d m (b+mo) x)) kind kids cases 0) rfl rfl call215 (UD (i:=1) rfl) ?_ ?_ ?_
 ·intro l yc hY hin
  refine CT.mono (IV kind num ref ks cv kids cases _ bT21 (RTs.mono (Hle.hu _ _) hks) (RCs.mono (Hle.hu _ _) hcv) (hin 0 _ rfl _ _ mem_cons_self) (fun c hc=>by have:=Y1 c hc;have:=Rc c.1;omega) (by have:=XN kids;omega) (by have:=WG cases;omega) l yc (fun e=>e=0) (fun x mo _=>(decide (X0 d m (b+mo) x=0),X0 d m (b+mo) x)) 0 rfl (fun x mo=>((∃ (j:Nat) (hj:j<kids.length),x=kids[j])∨∃ (j:Nat) (hj:j<cases.length),x=cases[j].2)∧0≤mo∧mo+2*(sizeT x:Int)≤2*((1+ZL kids+ZX cases:Nat):Int)) ?_ ?_ (fun x mo s _ h=>of_decide_eq_true h) ?_) (fun v N hN=>⟨_,hN,rfl⟩)
  ·intro j hj;have hs1:=Ym _ (getElem_mem hj);have hm1:=NU kind j;exact ⟨.inl ⟨j,hj,rfl⟩,by omega,by omega⟩
  ·intro j hj;have hs1:=Y1 _ (getElem_mem hj);have hm1:=Rc (cases[j]).1;have hp1:=V2 (cases[j]).2;exact ⟨.inr ⟨j,hj,rfl⟩,by omega,by omega⟩
  intro x mo hit e i a h he hh ra
  subst he
  have hb0x:0≤b+mo:=by have:=hit.2.1;omega
  have hb1x:b+mo+2*(sizeT x:Int)≤1000000:=by have:=hit.2.2;omega
  have hp1:=V2 x
  refine YT.mono (hY 0 [_,_] h (fun e'=>e'=X0 d m (b+mo) x) rfl rfl (RoundOk.mk ?_)) ?_
  ·show J _ _ _ _ [(BX b4 [iv 0] 26)] _
   refine Zd<|JLr (Zp (l:=(pkT 0 0 zS nS nS)++([iv 0]:List Value)) zeroValue230 rfl fun b22=>JLr (Ze 0 (vs:=a++([iv mo]:List Value)) (l:=a++([iv mo]:List Value)) ZaY rfl rfl rfl rfl (ZW (ZB ra) rfl) (Y5 (XA ra) (Zg rfl Zq)) (Yb (n:=37) rfl (ZW (ZB ra) rfl))<|Za<|Zh<|Zc<|JLr (Zn KY rfl (Zcx (hh _ _ (hin 3 _ rfl _ _ mem_cons_self))) rfl<|JLq (pp b22 0) (C2 rfl rfl)<|JLr (Zn Zy rfl (Zcu 0 rfl) (XE (ZB ra))<|JLr (Zb ty3 rfl (Zcx (hh _ _ (hin 1 _ rfl _ _ mem_cons_self))) rfl<|JLq (pp b22 36) (C1 rfl rfl)<|JLr (Zb ty3 rfl (Zcu 0 rfl) (Qe (n:=36) (i:=0) (ZB ra) rfl) ?_))))))
   refine JLn (ZcG rfl rfl (by first | omega | (constructor <;> omega)))<|Jc call147 rfl (fun hin=>ihx x mo hit d m _ _ _ bD (RT.mono (Hle.hu _ _) ra) (Hle.hu _ _ _ _ (hh _ _ (Hle.hu _ _ _ _ hD))) hb0x hb1x) rfl ?_
   rintro _ _ ⟨rfl,rfl⟩
   refine JAn rfl<|Zc<|JLM rfl<|JLn (Pu.neq rfl rfl)<|Za<|Zs rfl (fun h23=>?_) (fun h23=>?_)
   ·replace h23:=nt h23
    replace h23:=df h23
    refine Zc<|JLM rfl<|JLr (Ze 1 (vs:=[iv (X0 d m (b+mo) x)]) (l:=[iv (X0 d m (b+mo) x)]) Ol rfl rfl rfl rfl rfl (Zg rfl Zq) rfl<|Za<|ZH ?_)
    exact ⟨X0 d m (b+mo) x,by simp [h23],(Sd (Sk Sub.nil)),rfl⟩
   replace h23:=nf h23
   replace h23:=dt h23
   refine Zk ?_
   exact ⟨0,rfl,(Sd (Sk Sub.nil)),h23.symm⟩
  rintro v N ⟨e',rfl,rfl,rfl⟩;exact ⟨by simp,rfl⟩
 ·rintro ef hef hp
  refine Zc<|JLr (Ze 0 (vs:=[iv 0]) (l:=[iv 0]) Ol rfl rfl rfl rfl rfl (Zg rfl Zq) rfl<|Za<|ZH<|⟨iv 0,[],Ret.one rfl (ZcY Ol rfl (Zcu 0 rfl) rfl),Sub.nil,?_⟩)
  rw [HU] at hef
  have hp0:ef=0:=by simpa using hp
  exact ⟨by rw [X0,if_pos hh0,if_pos h1,← hef,hp0],rfl⟩
 rintro ef hef hp
 refine ⟨iv ef,[],Ret.one rfl (ZcY Ol rfl (Zcu 0 rfl) rfl),Sub.nil,?_⟩
 rw [HU] at hef
 have hp0:¬ ef=0:=by simpa using hp
 exact ⟨by rw [X0,if_pos hh0,if_pos h1,← hef],rfl⟩
theorem PX (t:Tm) (d m:Int) (cs:List Value) (H:Heap) (ht:RT H cs t):CT prog 97 ⟨[.agg ⟨cs⟩,iv d,iv m]⟩ [] H (fun v N=>v=iv (XR d m t)∧N=[]):=by
 refine Zl func97 rfl rfl<|Zc<|JLr (Zr (l:=cs) rfl rfl fun b1=>JLr (Zr (l:=[iv d]) rfl rfl fun b2=>JAn rfl<|Zf<|Zc<|JLq (.agg ⟨[iv 0]⟩) (Pu.build (pv:=[]) (l:=[iv 0]) rfl BF)<|JLr (Zr (l:=[iv 0]) rfl rfl fun b3=>JLr (Zn Zy rfl (Zcu 2 rfl) (ZE (ZB ht)) ?_))))
 refine ZG 0 rfl call145 rfl rfl (fun hin=>FL _ _ _ _ _ _ (RT.mono (Hle.hu _ _) ht) (by omega) (by omega) (by omega) (by omega)) rfl ?_
 rintro _ _ ⟨rfl,rfl⟩
 refine Za<|Zs rfl (fun h5=>?_) (fun h5=>?_)
 ·refine Zc<|JAn rfl<|ZC (iv 11) [] Sub.nil (?_)
  exact ⟨by rw [XR,if_pos (by simp [h5])],rfl⟩
 refine Zk<|Zc<|JLM rfl<|JLq (.func (.func 146) ⟨[]⟩ ⟨[pp b2 0]⟩) (Pu.makeFunc rfl rfl)<|JLq (.agg ⟨[iv m,.func (.func 146) ⟨[]⟩ ⟨[pp b2 0]⟩]⟩) (Pu.build (pv:=[(0,iv m),(1,.func (.func 146) ⟨[]⟩ ⟨[pp b2 0]⟩)]) (l:=[iv m,.func (.func 146) ⟨[]⟩ ⟨[pp b2 0]⟩]) rfl (KM _ _ _ _))<|JLr (Zp (l:=[iv 0,.nilFunc]) zeroValue195 rfl fun b6=>JLr (Ze 0 (vs:=[iv m,.func (.func 146) ⟨[]⟩ ⟨[pp b2 0]⟩]) (l:=[iv m,.func (.func 146) ⟨[]⟩ ⟨[pp b2 0]⟩]) KY rfl rfl rfl rfl rfl (Zg rfl (Zg rfl Zq)) rfl<|Za<|Zc<|JLr (Zn KY rfl (Zcu 0 rfl) rfl<|JLr (Zn Zy rfl (Zcu 3 rfl) (ZE (ZB ht)) ?_))))
 refine Jc call147 rfl (fun hin=>ZaJ _ _ _ _ _ _ _ (RT.mono (Hle.hu _ _) ht) (hin 2 _ rfl _ _ mem_cons_self) (by decide) (by have e1:=Ul t 1 0 h5;have e2:=EK TU t 1 0 h5;omega)) rfl ?_
 rintro _ _ ⟨rfl,rfl⟩
 refine JAn rfl<|ZC (iv (X0 d m 0 t)) [] Sub.nil (?_)
 exact ⟨by rw [XR,if_neg (by simp [h5])],rfl⟩
theorem GX (l:List Tm) (v:Value) (H:Heap) (hl:rdS RT 36 H v l):CT prog 151 ⟨[v]⟩ [] H (fun v N=>v=iv (W0 l)∧N=[]):=by
 refine Zl func151 rfl rfl<|Zc<|JAn rfl<|Zf<|Zc<|JLm v ?_
 obtain ⟨a1,cap1,hv1⟩:=hl.sl
 have hle1:=hl.le
 refine JLn (Zcv ZQ hv1)<|JLM rfl<|Za<|Zh<|Zv (fun k ρ M=>∃ (j:Nat),ZR ρ [(2,iv 0),(6,v),(7,iv ((l.length:Int))),(8,iv ((j:Int)))]=ρ∧Sub [] M∧j≤l.length∧W0 (l.drop j)=W0 l∧k=l.length-j) _ ⟨0,Zj rfl,Sub.nil,Nat.zero_le _,rfl,rfl⟩ ?_
 rintro _ ρ2 _ ⟨j,e3,hm7,hj,hinv,rfl⟩
 obtain ⟨ρ8,rfl⟩:=Zo e3
 clear e3
 refine ZD hm7<|Zc<|JLn (Pu.lss rfl rfl)<|Za<|Zf<|ZF rfl (fun h9=>?_) (fun h9=>?_)
 ·have h9n:j<l.length:=by omega
  have hlenl:=hl.le
  refine Zk<|Zf<|Zh<|Zf<|Zd ?_
  obtain ⟨b10,o10,cap10,row10,T10,fr10,cs10,hv10,hb10,hs10,hE10⟩:=hl.get j (by omega)
  refine JLn (Zcw j ZQ Zy hv10 rfl rfl (by omega))<|JLr (Zn Zy rfl (Zcx hb10) hs10<|JLr (Zp (l:=pkT 0 0 zS nS nS) zeroValue51 rfl fun b11=>JLr (Ze 0 (vs:=cs10) (l:=cs10) Zy rfl rfl rfl rfl (ZB hE10) (XA hE10) (Yb (n:=36) rfl (ZB hE10))<|Za<|Zc<|JLr (Zn Zy rfl (Zcu 0 rfl) (ZE (ZB hE10))<|Jc call97 rfl (fun hin=>PX _ _ _ _ _ (RT.mono (Hle.hu _ _) hE10)) rfl ?_))))
  rintro _ _ ⟨rfl,rfl⟩
  refine JAn rfl<|Zc<|JLM rfl<|JLn (Pu.neq rfl rfl)<|Za<|Zs rfl (fun h12=>?_) (fun h12=>?_)
  ·replace h12:=nt h12
   replace h12:=df h12
   refine Zc<|JLM rfl<|JAn rfl<|ZC (iv (XR 60 8 (l[j]))) [] Sub.nil (?_)
   exact ⟨by rw [← hinv,YU h9n,W0,if_neg h12],rfl⟩
  replace h12:=nf h12
  replace h12:=dt h12
  refine Zk<|Zd<|JLn (Zcy rfl rfl (by omega))<|JLM rfl<|Za<|⟨_,?_,(j+1),Zj rfl,Sub.nil,?_,?_,rfl⟩
  ·omega
  ·omega
  rw [YU h9n,W0,if_pos h12] at hinv;exact hinv
 have h9n:l.length≤j:=by omega
 refine Zu _ rfl<|Zc<|JAn rfl<|ZC (iv 0) [] Sub.nil (?_)
 exact ⟨by rw [← hinv,WU h9n];rfl,rfl⟩
theorem Pn:∀ (p:Pt) (cs:List Value) (H:Heap),RP H cs p→sizeP p≤1000000→CT prog 142 ⟨[.agg ⟨cs⟩]⟩ [] H (fun v N=>∃ cs k,v=.agg ⟨cs⟩∧N=[k]∧OP p cs k):=by
 intro p
 induction p using Pt.ind with
 | h kind num ref kids ih=>
 intro cs H hp hz
 rw [sizeP] at hz
 have hlk:=Vm kids
 obtain ⟨ks,rfl,hk,hn,hks⟩:=RP_mk.1 hp
 refine Zl func142 rfl rfl<|Zc<|JLr (Zr (l:=pkP kind num ref ks) rfl rfl fun b1=>JLr (Zp (l:=pkP 0 0 zS nS) zeroValue115 rfl fun b2=>Za<|Zc<|JLq (pp b1 0) (Yr rfl rfl)<|JLr (Zb ty3 rfl (Zcu 1 rfl) (Xp ..)<|JLq (pp b1 1) (Xg rfl rfl)<|JLr (Zb ty3 rfl (Zcu 1 rfl) (Wy ..)<|JLq (pp b1 2) (X7 rfl rfl) ?_))))
 refine JLr (Zn Yq rfl (Zcu 1 rfl) (US ..)<|JLq (.agg ⟨pkP kind num ref nS⟩) (Pu.build (pv:=[(0,iv kind),(1,iv num),(2,.agg ⟨sC ref⟩)]) (l:=pkP kind num ref nS) rfl (Md _ _ _))<|JLr (Zp (l:=pkP 0 0 zS nS) zeroValue115 rfl fun b3=>JLr (Ze 0 (vs:=pkP kind num ref nS) (l:=pkP kind num ref nS) ZU rfl rfl rfl rfl rfl (W1 rfl) (ON ..)<|Za<|Zf<|Zc<|JAn rfl<|Zh<|Zv (fun k ρ M=>∃ (j:Nat) (v:Value) (es:List (List Value)) (k1 k2:Zi),ZR ρ [(1,pp b1 0),(2,pp b2 0),(3,pp b3 0),(4,iv ((j:Int)))]=ρ∧Sub [(BX b3 (pkP kind num ref v) 115),k1,k2,(BX b2 (pkP 0 0 zS nS) 115),(BX b1 (pkP kind num ref ks) 115)] M∧j≤kids.length∧Own 115 35 v es k1∧OPs ((kids.take j)) es k2∧k=kids.length-j) _ ⟨0,nS,[],[],[],Zj rfl,(Sk (Zcz (Zcz (Sk (Sk Sub.nil))))),Nat.zero_le _,Own.nil,OPs.nil,rfl⟩ ?_)))
 rintro _ ρ4 _ ⟨j,v,es,k1,k2,e5,hm9,hj,hov,hopv,rfl⟩
 obtain ⟨ρ10,rfl⟩:=Zo e5
 clear e5
 refine ZD hm9 ?_
 have hlen:=hks.le
 refine Zf<|Zc<|JLM rfl<|JLq (pp b1 34) (Z5 rfl rfl)<|JLr (Zb YB rfl (Zcu 4 rfl) (Yo ..) ?_)
 obtain ⟨a11,cap11,hv11⟩:=hks.sl
 have hle11:=hks.le
 refine JLn (Zcv Yt hv11)<|JLn (Pu.lss rfl rfl)<|Za<|ZF rfl (fun h12=>?_) (fun h12=>?_)
 ·have h12n:j<kids.length:=by omega
  have helv:=Rh hopv
  rw [length_take] at helv
  have hs1:=X8 _ (getElem_mem h12n)
  refine Zk<|Zf<|Zh<|ZI mixed #[0,1,0,4,0,28,60,124,252,511,1023,2047] 9 (sm 19 9) [] [(7,fun _ _ vw qw=>∃ cs k,vw=.agg ⟨cs⟩∧qw=[k]∧OP (kids[j]) cs k),(8,fun r _ vw qw=>∃ b k,vw=.slice (some ⟨b,0,none⟩) 1 1∧qw=[k]∧Own 115 35 (.slice (some ⟨b,0,none⟩) 1 1) [(cel (r 7))] k∧k=(BX b (flatten [(cel (r 7))]) 115))] rfl (by kernel_rfl) rfl (by kernel_rfl)<|Dq (pp b3 34) (fun _=>Z5 rfl rfl)<|Dl1 YB (Zcu 0 rfl) (Yo ..)<|Dq (pp b1 34) (fun _=>Z5 rfl rfl)<|Dl1 YB (Zcu 4 rfl) (Yo ..)<|DM (fun _=>rfl) ?_
  obtain ⟨b16,o16,cap16,row16,T16,fr16,cs16,hv16,hb16,hs16,hE16⟩:=hks.get j (by omega)
  refine Dn (fun _=>Zcw j Yt ZU hv16 rfl rfl (by omega))<|Dl ZU (Zcx hb16) hs16 ?_
  refine Dc rfl call142 (fun _=>rfl) (fun hin=>ih _ (getElem_mem h12n) _ _ (RP.mono (Hle.hu _ _) hE16) (by omega)) ?_
  rintro _ _ ⟨cs17,k17,rfl,rfl,hO17⟩
  refine Dr rfl (fun _=>Zm (vs:=[.agg ⟨cs17⟩]) [cs17] Yt O8 rfl rfl (al1 hO17.len) rfl (by decide) fun b k h1 h2=>⟨[k],by rw [Z4 rfl];exact Sub.refl,b,k,rfl,rfl,h1,h2⟩) (fun _ _ ⟨b18,k18,e1,e2,ho18,hk18⟩=>?_);subst e1 e2
  refine ZM (M':=[k18,k17,(BX b3 (pkP kind num ref v) 115),k1,k2,(BX b2 (pkP 0 0 zS nS) 115),(BX b1 (pkP kind num ref ks) 115)]) rfl ?_
  show JL _ _ _ [_,_,_] _ _ _
  have hlens19:∀ e∈([cs17]:List (List Value)),List.length e=35:=al1 hO17.len
  have hoks19:∀ e∈([cs17]:List (List Value)),okc e:=al1 hO17.ok
  refine JLr (Zz (i:=3) (n:=1) (es':=[cs17]) Yt Yt (Or.inl rfl) O8 rfl rfl rfl hov (fun F w m=>Src.row (((ZcD 0 rfl (by rw [hk18];exact mem_cons_self))).heap m) (ZE (Zw hlens19))) rfl hlens19 hoks19 (by decide) (by omega) fun v19 k19 ho19=>JLq (pp b3 34) (Z5 rfl rfl)<|JLr (Ze 2 (vs:=[v19]) (l:=pkP kind num ref v19) YB rfl rfl rfl (ZS ho19.one) rfl (Zg ho19.one Zq) (Sz ..)<|Za<|Zd<|JLM rfl<|JLn (Zcy rfl rfl (by omega))<|JAn rfl<|⟨_,?_,(j+1),v19,(es++[cs17]),k19,(k2++k17),Zj rfl,(Sd (Sub.cons 1 rfl (Sub.cons 1 rfl (ZcF (Sub.cons 1 rfl (Sk (Sk (Sk Sub.nil)))))))),?_,?_,?_,rfl⟩))
  ·omega
  ·omega
  ·assumption
  rw [take_succ_eq_append_getElem h12n];exact OPs.snoc hO17 hopv
 have h12n:kids.length≤j:=by omega
 refine Zu _ rfl<|Zc<|JLr (Zn ZU rfl (Zcu 0 rfl) (SA ..)<|JLr (Ze 3 (vs:=pkP kind num ref v) (l:=pkP kind num ref v) ZU rfl rfl rfl rfl rfl (W1 hov.one) (ON ..)<|Za<|ZH<|⟨.agg ⟨pkP kind num ref v⟩,[k1++k2],Ret.one rfl (RV.cell ZU rfl (Zcu 3 rfl) (SA ..)),(ZcF (Sd (Sk (Sk Sub.nil)))),?_⟩))
 rw [take_of_length_le h12n] at hopv
 exact ⟨_,_,rfl,rfl,OP_mk.2 ⟨v,es,k1,k2,rfl,hk,hn,hov,hopv,rfl,hks.le⟩⟩
theorem On:∀ (p:Pt) (cs:List Value) (H:Heap),RP H cs p→sizeP p≤1000000→CT prog 66 ⟨[.agg ⟨cs⟩]⟩ [] H (fun v N=>∃ cs k,v=.agg ⟨cs⟩∧N=[k]∧OP p cs k):=by
 intro p
 induction p using Pt.ind with
 | h kind num ref kids ih=>
 intro cs H hp hz
 rw [sizeP] at hz
 have hlk:=Vm kids
 obtain ⟨ks,rfl,hk,hn,hks⟩:=RP_mk.1 hp
 refine Zl func66 rfl rfl<|Zc<|JLr (Zr (l:=pkP kind num ref ks) rfl rfl fun b1=>JLr (Zp (l:=pkP 0 0 zS nS) zeroValue115 rfl fun b2=>Za<|Zc<|JLq (pp b1 34) (Z5 rfl rfl)<|JLr (Zb YB rfl (Zcu 1 rfl) (Yo ..)<|JLa ks<|Za<|Zf ?_)))
 refine Zd<|JLq (pp b1 34) (Z5 rfl rfl)<|JLr (Ze 1 (vs:=[nS]) (l:=pkP kind num ref nS) YB rfl rfl rfl rfl rfl (Zg rfl Zq) (Sz ..)<|Za<|Zf<|Zc<|JLm ks ?_)
 obtain ⟨a3,cap3,hv3⟩:=hks.sl
 have hle3:=hks.le
 refine JLn (Zcv Yt hv3)<|JLM rfl<|Za<|Zh<|Zv (fun k ρ M=>∃ (j:Nat) (v:Value) (es:List (List Value)) (k1 k2:Zi),ZR ρ [(1,pp b1 0),(2,pp b2 0),(9,ks),(10,iv ((kids.length:Int))),(11,iv ((j:Int)))]=ρ∧Sub [(BX b1 (pkP kind num ref v) 115),k1,k2,(BX b2 (pkP 0 0 zS nS) 115)] M∧j≤kids.length∧Own 115 35 v es k1∧OPs ((kids.take j)) es k2∧k=kids.length-j) _ ⟨0,nS,[],[],[],Zj rfl,(Sub.cons 1 rfl (Zcz (Zcz (Sk Sub.nil)))),Nat.zero_le _,Own.nil,OPs.nil,rfl⟩ ?_
 rintro _ ρ4 _ ⟨j,v,es,k1,k2,e5,hm10,hj,hov,hopv,rfl⟩
 obtain ⟨ρ11,rfl⟩:=Zo e5
 clear e5
 refine ZD hm10 ?_
 have hlen:=hks.le
 refine Zc<|JLn (Pu.lss rfl rfl)<|Za<|Zf<|ZF rfl (fun h12=>?_) (fun h12=>?_)
 ·have h12n:j<kids.length:=by omega
  have helv:=Rh hopv
  rw [length_take] at helv
  have hs1:=X8 _ (getElem_mem h12n)
  refine Zk<|Zf<|Zh<|Zf<|Zd ?_
  obtain ⟨b13,o13,cap13,row13,T13,fr13,cs13,hv13,hb13,hs13,hE13⟩:=hks.get j (by omega)
  refine JLn (Zcw j Yt ZU hv13 rfl rfl (by omega))<|JLr (Zn ZU rfl (Zcx hb13) hs13<|JLr (Zp (l:=pkP 0 0 zS nS) zeroValue115 rfl fun b14=>JLr (Ze 0 (vs:=cs13) (l:=cs13) ZU rfl rfl rfl rfl (ZN hE13) (Ur hE13) (Yb (n:=35) rfl (ZN hE13))<|Za<|ZI mixed #[0,1,0,4,12,31,63,127] 5 (sm 15 5) [] [(3,fun _ _ vw qw=>∃ cs k,vw=.agg ⟨cs⟩∧qw=[k]∧OP (kids[j]) cs k),(4,fun r _ vw qw=>∃ b k,vw=.slice (some ⟨b,0,none⟩) 1 1∧qw=[k]∧Own 115 35 (.slice (some ⟨b,0,none⟩) 1 1) [(cel (r 3))] k∧k=(BX b (flatten [(cel (r 3))]) 115))] rfl (by kernel_rfl) rfl (by kernel_rfl)<|Dq (pp b1 34) (fun _=>Z5 rfl rfl)<|Dl1 YB (Zcu 1 rfl) (Yo ..)<|Dl ZU (Zcu 0 rfl) (ZE (ZN hE13)) ?_)))
  refine Dc rfl call66 (fun _=>rfl) (fun hin=>ih _ (getElem_mem h12n) _ _ (RP.mono (Hle.hu _ _) hE13) (by omega)) ?_
  rintro _ _ ⟨cs17,k17,rfl,rfl,hO17⟩
  refine Dr rfl (fun _=>Zm (vs:=[.agg ⟨cs17⟩]) [cs17] Yt O8 rfl rfl (al1 hO17.len) rfl (by decide) fun b k h1 h2=>⟨[k],by rw [Z4 rfl];exact Sub.refl,b,k,rfl,rfl,h1,h2⟩) (fun _ _ ⟨b18,k18,e1,e2,ho18,hk18⟩=>?_);subst e1 e2
  refine ZM (M':=[k18,k17,(BX b14 cs13 115),(BX b1 (pkP kind num ref v) 115),k1,k2,(BX b2 (pkP 0 0 zS nS) 115)]) rfl ?_
  show JL _ _ _ [_,_,_] _ _ _
  have hlens19:∀ e∈([cs17]:List (List Value)),List.length e=35:=al1 hO17.len
  have hoks19:∀ e∈([cs17]:List (List Value)),okc e:=al1 hO17.ok
  refine JLr (Zz (i:=4) (n:=1) (es':=[cs17]) Yt Yt (Or.inl rfl) O8 rfl rfl rfl hov (fun F w m=>Src.row (((ZcD 0 rfl (by rw [hk18];exact mem_cons_self))).heap m) (ZE (Zw hlens19))) rfl hlens19 hoks19 (by decide) (by omega) fun v19 k19 ho19=>JLq (pp b1 34) (Z5 rfl rfl)<|JLr (Ze 3 (vs:=[v19]) (l:=pkP kind num ref v19) YB rfl rfl rfl (ZS ho19.one) rfl (Zg ho19.one Zq) (Sz ..)<|Za<|Zd<|JLn (Zcy rfl rfl (by omega))<|JLM rfl<|Za<|⟨_,?_,(j+1),v19,(es++[cs17]),k19,(k2++k17),Zj rfl,(Sd (Sub.cons 2 rfl (Sub.cons 2 rfl (ZcF (Sub.cons 2 rfl (Sk (Sd (Sk Sub.nil)))))))),?_,?_,?_,rfl⟩))
  ·omega
  ·omega
  ·assumption
  rw [take_succ_eq_append_getElem h12n];exact OPs.snoc hO17 hopv
 have h12n:kids.length≤j:=by omega
 refine Zu _ rfl<|Zc<|JLr (Zn ZU rfl (Zcu 0 rfl) (SA ..)<|JLr (Ze 3 (vs:=pkP kind num ref v) (l:=pkP kind num ref v) ZU rfl rfl rfl rfl rfl (W1 hov.one) (ON ..)<|Za<|ZH<|⟨.agg ⟨pkP kind num ref v⟩,[k1++k2],Ret.one rfl (RV.cell ZU rfl (Zcu 3 rfl) (SA ..)),(ZcF (Sd (Sk (Sk Sub.nil)))),?_⟩))
 rw [take_of_length_le h12n] at hopv
 exact ⟨_,_,rfl,rfl,OP_mk.2 ⟨v,es,k1,k2,rfl,hk,hn,hov,hopv,rfl,hks.le⟩⟩
theorem Po:∀ (p:Pt) (cs:List Value) (H:Heap),RP H cs p→sizeP p≤1000000→CT prog 108 ⟨[.agg ⟨cs⟩]⟩ [] H (fun v N=>∃ cs k,v=.agg ⟨cs⟩∧N=[k]∧OP p cs k):=by
 intro p
 induction p using Pt.ind with
 | h kind num ref kids ih=>
 intro cs H hp hz
 rw [sizeP] at hz
 have hlk:=Vm kids
 obtain ⟨ks,rfl,hk,hn,hks⟩:=RP_mk.1 hp
 refine Zl func108 rfl rfl<|Zc<|JLr (Zr (l:=pkP kind num ref ks) rfl rfl fun b1=>JLr (Zp (l:=pkP 0 0 zS nS) zeroValue115 rfl fun b2=>Za<|Zc<|JLq (pp b1 34) (Z5 rfl rfl)<|JLr (Zb YB rfl (Zcu 1 rfl) (Yo ..)<|JLa ks<|Za<|Zf ?_)))
 refine Zd<|JLq (pp b1 34) (Z5 rfl rfl)<|JLr (Ze 1 (vs:=[nS]) (l:=pkP kind num ref nS) YB rfl rfl rfl rfl rfl (Zg rfl Zq) (Sz ..)<|Za<|Zf<|Zc<|JLm ks ?_)
 obtain ⟨a3,cap3,hv3⟩:=hks.sl
 have hle3:=hks.le
 refine JLn (Zcv Yt hv3)<|JLM rfl<|Za<|Zh<|Zv (fun k ρ M=>∃ (j:Nat) (v:Value) (es:List (List Value)) (k1 k2:Zi),ZR ρ [(1,pp b1 0),(2,pp b2 0),(9,ks),(10,iv ((kids.length:Int))),(11,iv ((j:Int)))]=ρ∧Sub [(BX b1 (pkP kind num ref v) 115),k1,k2,(BX b2 (pkP 0 0 zS nS) 115)] M∧j≤kids.length∧Own 115 35 v es k1∧OPs ((kids.take j)) es k2∧k=kids.length-j) _ ⟨0,nS,[],[],[],Zj rfl,(Sub.cons 1 rfl (Zcz (Zcz (Sk Sub.nil)))),Nat.zero_le _,Own.nil,OPs.nil,rfl⟩ ?_
 rintro _ ρ4 _ ⟨j,v,es,k1,k2,e5,hm10,hj,hov,hopv,rfl⟩
 obtain ⟨ρ11,rfl⟩:=Zo e5
 clear e5
 refine ZD hm10 ?_
 have hlen:=hks.le
 refine Zc<|JLn (Pu.lss rfl rfl)<|Za<|Zf<|ZF rfl (fun h12=>?_) (fun h12=>?_)
 ·have h12n:j<kids.length:=by omega
  have helv:=Rh hopv
  rw [length_take] at helv
  have hs1:=X8 _ (getElem_mem h12n)
  refine Zk<|Zf<|Zh<|Zf<|Zd ?_
  obtain ⟨b13,o13,cap13,row13,T13,fr13,cs13,hv13,hb13,hs13,hE13⟩:=hks.get j (by omega)
  refine JLn (Zcw j Yt ZU hv13 rfl rfl (by omega))<|JLr (Zn ZU rfl (Zcx hb13) hs13<|JLr (Zp (l:=pkP 0 0 zS nS) zeroValue115 rfl fun b14=>JLr (Ze 0 (vs:=cs13) (l:=cs13) ZU rfl rfl rfl rfl (ZN hE13) (Ur hE13) (Yb (n:=35) rfl (ZN hE13))<|Za<|ZI mixed #[0,1,0,4,12,31,63,127] 5 (sm 15 5) [] [(3,fun _ _ vw qw=>∃ cs k,vw=.agg ⟨cs⟩∧qw=[k]∧OP (kids[j]) cs k),(4,fun r _ vw qw=>∃ b k,vw=.slice (some ⟨b,0,none⟩) 1 1∧qw=[k]∧Own 115 35 (.slice (some ⟨b,0,none⟩) 1 1) [(cel (r 3))] k∧k=(BX b (flatten [(cel (r 3))]) 115))] rfl (by kernel_rfl) rfl (by kernel_rfl)<|Dq (pp b1 34) (fun _=>Z5 rfl rfl)<|Dl1 YB (Zcu 1 rfl) (Yo ..)<|Dl ZU (Zcu 0 rfl) (ZE (ZN hE13)) ?_)))
  refine Dc rfl call108 (fun _=>rfl) (fun hin=>ih _ (getElem_mem h12n) _ _ (RP.mono (Hle.hu _ _) hE13) (by omega)) ?_
  rintro _ _ ⟨cs17,k17,rfl,rfl,hO17⟩
  refine Dr rfl (fun _=>Zm (vs:=[.agg ⟨cs17⟩]) [cs17] Yt O8 rfl rfl (al1 hO17.len) rfl (by decide) fun b k h1 h2=>⟨[k],by rw [Z4 rfl];exact Sub.refl,b,k,rfl,rfl,h1,h2⟩) (fun _ _ ⟨b18,k18,e1,e2,ho18,hk18⟩=>?_);subst e1 e2
  refine ZM (M':=[k18,k17,(BX b14 cs13 115),(BX b1 (pkP kind num ref v) 115),k1,k2,(BX b2 (pkP 0 0 zS nS) 115)]) rfl ?_
  show JL _ _ _ [_,_,_] _ _ _
  have hlens19:∀ e∈([cs17]:List (List Value)),List.length e=35:=al1 hO17.len
  have hoks19:∀ e∈([cs17]:List (List Value)),okc e:=al1 hO17.ok
  refine JLr (Zz (i:=4) (n:=1) (es':=[cs17]) Yt Yt (Or.inl rfl) O8 rfl rfl rfl hov (fun F w m=>Src.row (((ZcD 0 rfl (by rw [hk18];exact mem_cons_self))).heap m) (ZE (Zw hlens19))) rfl hlens19 hoks19 (by decide) (by omega) fun v19 k19 ho19=>JLq (pp b1 34) (Z5 rfl rfl)<|JLr (Ze 3 (vs:=[v19]) (l:=pkP kind num ref v19) YB rfl rfl rfl (ZS ho19.one) rfl (Zg ho19.one Zq) (Sz ..)<|Za<|Zd<|JLn (Zcy rfl rfl (by omega))<|JLM rfl<|Za<|⟨_,?_,(j+1),v19,(es++[cs17]),k19,(k2++k17),Zj rfl,(Sd (Sub.cons 2 rfl (Sub.cons 2 rfl (ZcF (Sub.cons 2 rfl (Sk (Sd (Sk Sub.nil)))))))),?_,?_,?_,rfl⟩))
  ·omega
  ·omega
  ·assumption
  rw [take_succ_eq_append_getElem h12n];exact OPs.snoc hO17 hopv
 have h12n:kids.length≤j:=by omega
 refine Zu _ rfl<|Zc<|JLr (Zn ZU rfl (Zcu 0 rfl) (SA ..)<|JLr (Ze 3 (vs:=pkP kind num ref v) (l:=pkP kind num ref v) ZU rfl rfl rfl rfl rfl (W1 hov.one) (ON ..)<|Za<|ZH<|⟨.agg ⟨pkP kind num ref v⟩,[k1++k2],Ret.one rfl (RV.cell ZU rfl (Zcu 3 rfl) (SA ..)),(ZcF (Sd (Sk (Sk Sub.nil)))),?_⟩))
 rw [take_of_length_le h12n] at hopv
 exact ⟨_,_,rfl,rfl,OP_mk.2 ⟨v,es,k1,k2,rfl,hk,hn,hov,hopv,rfl,hks.le⟩⟩
theorem PJ (g:Nat) (fs cv:List Value) (hcall:∀ args w,(callFunc g args).run prog w=.ok (.enter g args) w) (l m:List Pt) (v u:Value) (H:Heap) (hl:rdS RP 35 H v l) (hm:rdS RP 35 H u m) (hg:∀ x∈l,∀ y∈m,∀ a b h,Hle H h→RP h a x→RP h b y→CT prog g ⟨fs++[.agg ⟨a⟩,.agg ⟨b⟩]++cv⟩ [] h (fun v N=>v=.bool (decide (x=y))∧N=[])):CT prog 156 ⟨[v,u,.func (.func g) ⟨fs⟩ ⟨cv⟩]⟩ [] H (fun v N=>v=.bool (decide (l=m))∧N=[]):=by
 refine Zl func156 rfl rfl<|Zc<|JAn rfl<|Zf<|Zc<|JLm v ?_
 obtain ⟨a1,cap1,hv1⟩:=hl.sl
 have hle1:=hl.le
 refine JLn (Zcv Yt hv1)<|JLm u ?_
 obtain ⟨a2,cap2,hv2⟩:=hm.sl
 have hle2:=hm.le
 refine JLn (Zcv Yt hv2)<|JLn (Pu.neq rfl rfl)<|Za<|Zs rfl (fun h3=>?_) (fun h3=>?_)
 ·replace h3:=nt h3
  replace h3:=df h3
  refine Zc<|JAn rfl<|ZC (.bool false) [] Sub.nil (?_)
  exact ⟨by rw [decide_eq_false];intro e;subst e;exact h3 rfl,rfl⟩
 replace h3:=nf h3
 replace h3:=dt h3
 refine Zk<|Zf<|Zc<|JLm v ?_
 obtain ⟨a4,cap4,hv4⟩:=hl.sl
 have hle4:=hl.le
 refine JLn (Zcv Yt hv4)<|JLM rfl<|Za<|Zh<|Zv (fun k ρ M=>∃ (j:Nat),ZR ρ [(1,u),(2,.func (.func g) ⟨fs⟩ ⟨cv⟩),(6,.bool false),(15,v),(16,iv ((l.length:Int))),(17,iv ((j:Int)))]=ρ∧Sub [] M∧j≤l.length∧l.length=m.length∧l.take j=m.take j∧k=l.length-j) _ ⟨0,Zj rfl,Sub.nil,Nat.zero_le _,(by omega),rfl,rfl⟩ ?_
 rintro _ ρ5 _ ⟨j,e6,hm12,hj,hlen,htake,rfl⟩
 obtain ⟨ρ13,rfl⟩:=Zo e6
 clear e6
 refine ZD hm12<|Zc<|JLn (Pu.lss rfl rfl)<|Za<|Zf<|ZF rfl (fun h14=>?_) (fun h14=>?_)
 ·have h14n:j<l.length:=by omega
  have hlenl:=hl.le
  have hltm:j<m.length:=by omega
  refine Zk<|Zf<|Zh<|Zc<|JLM rfl ?_
  obtain ⟨b15,o15,cap15,row15,T15,fr15,cs15,hv15,hb15,hs15,hE15⟩:=hl.get j (by omega)
  refine JLn (Zcw j Yt ZU hv15 rfl rfl (by omega))<|JLr (Zn ZU rfl (Zcx hb15) hs15<|JLr (Zp (l:=pkP 0 0 zS nS) zeroValue115 rfl fun b16=>JLA rfl<|JLr (Ze 0 (vs:=cs15) (l:=cs15) ZU rfl rfl rfl rfl (ZN hE15) (Ur hE15) (Yb (n:=35) rfl (ZN hE15))<|Za<|Zc<|JLm u<|JLM rfl ?_)))
  obtain ⟨b17,o17,cap17,row17,T17,fr17,cs17,hv17,hb17,hs17,hE17⟩:=hm.get j (by omega)
  refine JLn (Zcw j Yt ZU hv17 rfl rfl (by omega))<|JLr (Zn ZU rfl (Zcx hb17) hs17<|JLr (Zp (l:=pkP 0 0 zS nS) zeroValue115 rfl fun b18=>JLr (Ze 0 (vs:=cs17) (l:=cs17) ZU rfl rfl rfl rfl (ZN hE17) (Ur hE17) (Yb (n:=35) rfl (ZN hE17))<|Za<|Zc<|JLM rfl<|JLr (Zn ZU rfl (Zcu 1 rfl) (ZE (ZN hE15))<|JLr (Zn ZU rfl (Zcu 0 rfl) (ZE (ZN hE17))<|Jc hcall rfl (fun hin=>hg _ (getElem_mem h14n) _ (getElem_mem (by omega)) _ _ _ (Hle.hu _ _) (RP.mono (Hle.hu _ _) hE15) (RP.mono (Hle.hu _ _) hE17)) rfl ?_)))))
  rintro _ _ ⟨rfl,rfl⟩
  refine JLn (Pu.not rfl)<|Za<|Zs rfl (fun h19=>?_) (fun h19=>?_)
  ·replace h19:=nt h19
   replace h19:=df h19
   refine Zc<|JAn rfl<|ZC (.bool false) [] Sub.nil (?_)
   exact ⟨by rw [decide_eq_false];intro e;subst e;exact h19 rfl,rfl⟩
  replace h19:=nf h19
  replace h19:=dt h19
  refine Zk<|Zd<|JLn (Zcy rfl rfl (by omega))<|JLM rfl<|Za<|⟨_,?_,(j+1),Zj rfl,Sub.nil,?_,?_,?_,rfl⟩
  ·omega
  ·omega
  ·assumption
  rw [take_succ_eq_append_getElem h14n,take_succ_eq_append_getElem (by omega),htake,h19]
 have h14n:l.length≤j:=by omega
 refine Zu _ rfl<|Zc<|JAn rfl<|ZC (.bool true) [] Sub.nil (?_)
 exact ⟨by rw [decide_eq_true];have e:=htake;rw [take_of_length_le h14n,take_of_length_le (by omega)] at e;exact e,rfl⟩
theorem PI (g:Nat) (fs cv:List Value) (hcall:∀ args w,(callFunc g args).run prog w=.ok (.enter g args) w) (l m:List Tm) (v u:Value) (H:Heap) (hl:rdS RT 36 H v l) (hm:rdS RT 36 H u m) (hg:∀ x∈l,∀ y∈m,∀ a b h,Hle H h→RT h a x→RT h b y→CT prog g ⟨fs++[.agg ⟨a⟩,.agg ⟨b⟩]++cv⟩ [] h (fun v N=>v=.bool (decide (x=y))∧N=[])):CT prog 60 ⟨[v,u,.func (.func g) ⟨fs⟩ ⟨cv⟩]⟩ [] H (fun v N=>v=.bool (decide (l=m))∧N=[]):=by
 refine Zl func60 rfl rfl<|Zc<|JAn rfl<|Zf<|Zc<|JLm v ?_
 obtain ⟨a1,cap1,hv1⟩:=hl.sl
 have hle1:=hl.le
 refine JLn (Zcv ZQ hv1)<|JLm u ?_
 obtain ⟨a2,cap2,hv2⟩:=hm.sl
 have hle2:=hm.le
 refine JLn (Zcv ZQ hv2)<|JLn (Pu.neq rfl rfl)<|Za<|Zs rfl (fun h3=>?_) (fun h3=>?_)
 ·replace h3:=nt h3
  replace h3:=df h3
  refine Zc<|JAn rfl<|ZC (.bool false) [] Sub.nil (?_)
  exact ⟨by rw [decide_eq_false];intro e;subst e;exact h3 rfl,rfl⟩
 replace h3:=nf h3
 replace h3:=dt h3
 refine Zk<|Zf<|Zc<|JLm v ?_
 obtain ⟨a4,cap4,hv4⟩:=hl.sl
 have hle4:=hl.le
 refine JLn (Zcv ZQ hv4)<|JLM rfl<|Za<|Zh<|Zv (fun k ρ M=>∃ (j:Nat),ZR ρ [(1,u),(2,.func (.func g) ⟨fs⟩ ⟨cv⟩),(6,.bool false),(15,v),(16,iv ((l.length:Int))),(17,iv ((j:Int)))]=ρ∧Sub [] M∧j≤l.length∧l.length=m.length∧l.take j=m.take j∧k=l.length-j) _ ⟨0,Zj rfl,Sub.nil,Nat.zero_le _,(by omega),rfl,rfl⟩ ?_
 rintro _ ρ5 _ ⟨j,e6,hm12,hj,hlen,htake,rfl⟩
 obtain ⟨ρ13,rfl⟩:=Zo e6
 clear e6
 refine ZD hm12<|Zc<|JLn (Pu.lss rfl rfl)<|Za<|Zf<|ZF rfl (fun h14=>?_) (fun h14=>?_)
 ·have h14n:j<l.length:=by omega
  have hlenl:=hl.le
  have hltm:j<m.length:=by omega
  refine Zk<|Zf<|Zh<|Zc<|JLM rfl ?_
  obtain ⟨b15,o15,cap15,row15,T15,fr15,cs15,hv15,hb15,hs15,hE15⟩:=hl.get j (by omega)
  refine JLn (Zcw j ZQ Zy hv15 rfl rfl (by omega))<|JLr (Zn Zy rfl (Zcx hb15) hs15<|JLr (Zp (l:=pkT 0 0 zS nS nS) zeroValue51 rfl fun b16=>JLA rfl<|JLr (Ze 0 (vs:=cs15) (l:=cs15) Zy rfl rfl rfl rfl (ZB hE15) (XA hE15) (Yb (n:=36) rfl (ZB hE15))<|Za<|Zc<|JLm u<|JLM rfl ?_)))
  obtain ⟨b17,o17,cap17,row17,T17,fr17,cs17,hv17,hb17,hs17,hE17⟩:=hm.get j (by omega)
  refine JLn (Zcw j ZQ Zy hv17 rfl rfl (by omega))<|JLr (Zn Zy rfl (Zcx hb17) hs17<|JLr (Zp (l:=pkT 0 0 zS nS nS) zeroValue51 rfl fun b18=>JLr (Ze 0 (vs:=cs17) (l:=cs17) Zy rfl rfl rfl rfl (ZB hE17) (XA hE17) (Yb (n:=36) rfl (ZB hE17))<|Za<|Zc<|JLM rfl<|JLr (Zn Zy rfl (Zcu 1 rfl) (ZE (ZB hE15))<|JLr (Zn Zy rfl (Zcu 0 rfl) (ZE (ZB hE17))<|Jc hcall rfl (fun hin=>hg _ (getElem_mem h14n) _ (getElem_mem (by omega)) _ _ _ (Hle.hu _ _) (RT.mono (Hle.hu _ _) hE15) (RT.mono (Hle.hu _ _) hE17)) rfl ?_)))))
  rintro _ _ ⟨rfl,rfl⟩
  refine JLn (Pu.not rfl)<|Za<|Zs rfl (fun h19=>?_) (fun h19=>?_)
  ·replace h19:=nt h19
   replace h19:=df h19
   refine Zc<|JAn rfl<|ZC (.bool false) [] Sub.nil (?_)
   exact ⟨by rw [decide_eq_false];intro e;subst e;exact h19 rfl,rfl⟩
  replace h19:=nf h19
  replace h19:=dt h19
  refine Zk<|Zd<|JLn (Zcy rfl rfl (by omega))<|JLM rfl<|Za<|⟨_,?_,(j+1),Zj rfl,Sub.nil,?_,?_,?_,rfl⟩
  ·omega
  ·omega
  ·assumption
  rw [take_succ_eq_append_getElem h14n,take_succ_eq_append_getElem (by omega),htake,h19]
 have h14n:l.length≤j:=by omega
 refine Zu _ rfl<|Zc<|JAn rfl<|ZC (.bool true) [] Sub.nil (?_)
 exact ⟨by rw [decide_eq_true];have e:=htake;rw [take_of_length_le h14n,take_of_length_le (by omega)] at e;exact e,rfl⟩
theorem PK (g:Nat) (fs cv:List Value) (hcall:∀ args w,(callFunc g args).run prog w=.ok (.enter g args) w) (l m:List (Pt×Tm)) (v u:Value) (H:Heap) (hl:rdS RC 71 H v l) (hm:rdS RC 71 H u m) (hg:∀ x∈l,∀ y∈m,∀ a b h,Hle H h→RC h a x→RC h b y→CT prog g ⟨fs++[.agg ⟨a⟩,.agg ⟨b⟩]++cv⟩ [] h (fun v N=>v=.bool (decide (x=y))∧N=[])):CT prog 110 ⟨[v,u,.func (.func g) ⟨fs⟩ ⟨cv⟩]⟩ [] H (fun v N=>v=.bool (decide (l=m))∧N=[]):=by
 refine Zl func110 rfl rfl<|Zc<|JAn rfl<|Zf<|Zc<|JLm v ?_
 obtain ⟨a1,cap1,hv1⟩:=hl.sl
 have hle1:=hl.le
 refine JLn (Zcv Yz hv1)<|JLm u ?_
 obtain ⟨a2,cap2,hv2⟩:=hm.sl
 have hle2:=hm.le
 refine JLn (Zcv Yz hv2)<|JLn (Pu.neq rfl rfl)<|Za<|Zs rfl (fun h3=>?_) (fun h3=>?_)
 ·replace h3:=nt h3
  replace h3:=df h3
  refine Zc<|JAn rfl<|ZC (.bool false) [] Sub.nil (?_)
  exact ⟨by rw [decide_eq_false];intro e;subst e;exact h3 rfl,rfl⟩
 replace h3:=nf h3
 replace h3:=dt h3
 refine Zk<|Zf<|Zc<|JLm v ?_
 obtain ⟨a4,cap4,hv4⟩:=hl.sl
 have hle4:=hl.le
 refine JLn (Zcv Yz hv4)<|JLM rfl<|Za<|Zh<|Zv (fun k ρ M=>∃ (j:Nat),ZR ρ [(1,u),(2,.func (.func g) ⟨fs⟩ ⟨cv⟩),(6,.bool false),(15,v),(16,iv ((l.length:Int))),(17,iv ((j:Int)))]=ρ∧Sub [] M∧j≤l.length∧l.length=m.length∧l.take j=m.take j∧k=l.length-j) _ ⟨0,Zj rfl,Sub.nil,Nat.zero_le _,(by omega),rfl,rfl⟩ ?_
 rintro _ ρ5 _ ⟨j,e6,hm12,hj,hlen,htake,rfl⟩
 obtain ⟨ρ13,rfl⟩:=Zo e6
 clear e6
 refine ZD hm12<|Zc<|JLn (Pu.lss rfl rfl)<|Za<|Zf<|ZF rfl (fun h14=>?_) (fun h14=>?_)
 ·have h14n:j<l.length:=by omega
  have hlenl:=hl.le
  have hltm:j<m.length:=by omega
  refine Zk<|Zf<|Zh<|Zc<|JLM rfl ?_
  obtain ⟨b15,o15,cap15,row15,T15,fr15,cs15,hv15,hb15,hs15,hE15⟩:=hl.get j (by omega)
  obtain ⟨ca15,cb15,rfl,hA15,hB15⟩:=hE15
  refine JLn (Zcw j Yz Yg hv15 rfl rfl (by omega))<|JLr (Zn Yg rfl (Zcx hb15) hs15<|JLr (Zp (l:=(pkP 0 0 zS nS)++(pkT 0 0 zS nS nS)) zeroValue117 rfl fun b16=>JLA rfl<|JLr (Ze 0 (vs:=ca15++cb15) (l:=ca15++cb15) Yg rfl rfl rfl rfl (ZW (ZN hA15) (ZB hB15)) (Y5 (Ur hA15) (XA hB15)) (Yb (n:=71) rfl (ZW (ZN hA15) (ZB hB15)))<|Za<|Zc<|JLm u<|JLM rfl ?_)))
  obtain ⟨b17,o17,cap17,row17,T17,fr17,cs17,hv17,hb17,hs17,hE17⟩:=hm.get j (by omega)
  obtain ⟨ca17,cb17,rfl,hA17,hB17⟩:=hE17
  refine JLn (Zcw j Yz Yg hv17 rfl rfl (by omega))<|JLr (Zn Yg rfl (Zcx hb17) hs17<|JLr (Zp (l:=(pkP 0 0 zS nS)++(pkT 0 0 zS nS nS)) zeroValue117 rfl fun b18=>JLr (Ze 0 (vs:=ca17++cb17) (l:=ca17++cb17) Yg rfl rfl rfl rfl (ZW (ZN hA17) (ZB hB17)) (Y5 (Ur hA17) (XA hB17)) (Yb (n:=71) rfl (ZW (ZN hA17) (ZB hB17)))<|Za<|Zc<|JLM rfl<|JLr (Zn Yg rfl (Zcu 1 rfl) (ZE (ZW (ZN hA15) (ZB hB15)))<|JLr (Zn Yg rfl (Zcu 0 rfl) (ZE (ZW (ZN hA17) (ZB hB17)))<|Jc hcall rfl (fun hin=>hg _ (getElem_mem h14n) _ (getElem_mem (by omega)) _ _ _ (Hle.hu _ _) (RC.mono (Hle.hu _ _) (LL hA15 hB15)) (RC.mono (Hle.hu _ _) (LL hA17 hB17))) rfl ?_)))))
  rintro _ _ ⟨rfl,rfl⟩
  refine JLn (Pu.not rfl)<|Za<|Zs rfl (fun h19=>?_) (fun h19=>?_)
  ·replace h19:=nt h19
   replace h19:=df h19
   refine Zc<|JAn rfl<|ZC (.bool false) [] Sub.nil (?_)
   exact ⟨by rw [decide_eq_false];intro e;subst e;exact h19 rfl,rfl⟩
  replace h19:=nf h19
  replace h19:=dt h19
  refine Zk<|Zd<|JLn (Zcy rfl rfl (by omega))<|JLM rfl<|Za<|⟨_,?_,(j+1),Zj rfl,Sub.nil,?_,?_,?_,rfl⟩
  ·omega
  ·omega
  ·assumption
  rw [take_succ_eq_append_getElem h14n,take_succ_eq_append_getElem (by omega),htake,h19]
 have h14n:l.length≤j:=by omega
 refine Zu _ rfl<|Zc<|JAn rfl<|ZC (.bool true) [] Sub.nil (?_)
 exact ⟨by rw [decide_eq_true];have e:=htake;rw [take_of_length_le h14n,take_of_length_le (by omega)] at e;exact e,rfl⟩
theorem Pa:∀ (p q:Pt) (cs ds:List Value) (H:Heap),RP H cs p→RP H ds q→CT prog 112 ⟨[.agg ⟨cs⟩,.agg ⟨ds⟩]⟩ [] H (fun v N=>v=.bool (decide (p=q))∧N=[]):=by
 intro p
 induction p using Pt.ind with
 | h kind num ref kids ih=>
 intro q cs ds H hp hq
 obtain ⟨ks,rfl,hk,hn,hks⟩:=RP_mk.1 hp
 obtain ⟨ksq,rfl,hkq,hnq,hksq⟩:=Mm hq
 refine Zl func112 rfl rfl<|Zc<|JLr (Zr (l:=pkP kind num ref ks) rfl rfl fun b1=>JLr (Zr (l:=pkP (q.kind) (q.num) (q.ref) ksq) rfl rfl fun b2=>JAn rfl<|Zc<|JLq (pp b1 0) (Yr rfl rfl)<|JLr (Zb ty3 rfl (Zcu 1 rfl) (Xp ..)<|JLq (pp b2 0) (Yr rfl rfl)<|JLr (Zb ty3 rfl (Zcu 0 rfl) (Xp ..) ?_))))
 refine JLn (Pu.eql rfl rfl)<|JLM rfl<|ZA 5 [11,12,13,14,15] [(15,cond (decide (kind=q.kind)) (.bool (decide (num=q.num))) undef)] ?_ fun f4=>?_
 ·cases h3:(decide (kind=q.kind)) with
  | true=>
   replace h3:=dt h3
   refine JLq (pp b1 1) (Xg rfl rfl)<|JLr (Zb ty3 rfl (Zcu 1 rfl) (Wy ..)<|JLq (pp b2 1) (Xg rfl rfl)<|JLr (Zb ty3 rfl (Zcu 0 rfl) (Wy ..)<|JLn (Pu.eql rfl rfl) ?_))
   exact Za ⟨⟨rfl,trivial⟩,rfl⟩
  | false=>
   exact ZJ rfl ⟨rfl,trivial⟩
 refine JLn (ZcA rfl rfl rfl)<|JLM rfl<|ZA 5 [18,19,20,21,22] [(22,cond ((decide (kind=q.kind))&&(decide (num=q.num))) (.bool (decide (ref=q.ref))) undef)] ?_ fun f6=>?_
 ·cases h5:((decide (kind=q.kind))&&(decide (num=q.num))) with
  | true=>
   obtain ⟨h5a,h5b⟩:=Xa h5
   replace h5a:=dt h5a
   replace h5b:=dt h5b
   refine JLq (pp b1 2) (X7 rfl rfl)<|JLr (Zn Yq rfl (Zcu 1 rfl) (US ..)<|JLq (pp b2 2) (X7 rfl rfl)<|JLr (Zn Yq rfl (Zcu 0 rfl) (US ..)<|JLn (eqS rfl rfl) ?_))
   exact Za ⟨⟨rfl,trivial⟩,rfl⟩
  | false=>
   exact ZJ rfl ⟨rfl,trivial⟩
 refine JLn (ZcA rfl rfl rfl)<|JLM rfl<|ZA 5 [25,26,27,28,29] [(29,cond (((decide (kind=q.kind))&&(decide (num=q.num)))&&(decide (ref=q.ref))) (.bool (decide (kids=(q.kids)))) undef)] ?_ fun f8=>?_
 ·cases h7:(((decide (kind=q.kind))&&(decide (num=q.num)))&&(decide (ref=q.ref))) with
  | true=>
   obtain ⟨h7a,h7b⟩:=Xa h7
   obtain ⟨h7aa,h7ab⟩:=Xa h7a
   replace h7aa:=dt h7aa
   replace h7ab:=dt h7ab
   replace h7b:=dt h7b
   refine JLq (pp b1 34) (Z5 rfl rfl)<|JLr (Zb YB rfl (Zcu 1 rfl) (Yo ..)<|JLq (pp b2 34) (Z5 rfl rfl)<|JLr (Zb YB rfl (Zcu 0 rfl) (Yo ..)<|Jc call156 rfl (fun hin=>PJ 112 [] [] (fun _ _=>rfl) _ _ _ _ _ (RPs.mono (Hle.hu _ _) hks) (RPs.mono (Hle.hu _ _) hksq) (fun x hx y hy a b h hh ra rb=>ih x hx y a b h ra rb)) rfl ?_))
   rintro _ _ ⟨rfl,rfl⟩
   exact Za ⟨⟨rfl,trivial⟩,rfl⟩
  | false=>
   exact ZJ rfl ⟨rfl,trivial⟩
 refine JLn (ZcA rfl rfl rfl)<|JAn rfl<|ZC (.bool ((((decide (kind=q.kind))&&(decide (num=q.num)))&&(decide (ref=q.ref)))&&(decide (kids=(q.kids))))) [] Sub.nil (?_)
 exact ⟨congrArg Value.bool (Zcq ..),rfl⟩
theorem ME:∀ (c d:Pt×Tm) (a b:List Value) (H:Heap),RC H a c→RC H b d→(∀ h a b,Hle H h→RT h a c.2→RT h b d.2→CT prog 61 ⟨[.agg ⟨a⟩,.agg ⟨b⟩]⟩ [] h (fun v N=>v=.bool (decide (c.2=d.2))∧N=[]))→CT prog 111 ⟨[.agg ⟨a⟩,.agg ⟨b⟩]⟩ [] H (fun v N=>v=.bool (decide (c=d))∧N=[]):=by
 intro c d a b H ⟨ca,cb,e1,ra1,ra2⟩ ⟨da,db,e2,rb1,rb2⟩ hg
 subst e1 e2
 refine Zl func111 rfl rfl<|Zc<|JLr (Zr (l:=ca++cb) rfl rfl fun b1=>JLr (Zr (l:=da++db) rfl rfl fun b2=>JAn rfl<|Zc<|JLq (pp b1 0) (YO rfl rfl)<|JLr (Zn ZU rfl (Zcu 1 rfl) (XE (ZN ra1))<|JLq (pp b2 0) (YO rfl rfl)<|JLr (Zn ZU rfl (Zcu 0 rfl) (XE (ZN rb1)) ?_))))
 refine Jc call112 rfl (fun hin=>Pa _ _ _ _ _ (RP.mono (Hle.hu _ _) ra1) (RP.mono (Hle.hu _ _) rb1)) rfl ?_
 rintro _ _ ⟨rfl,rfl⟩
 refine JLM rfl<|ZA 5 [11,12,13,14,15] [(15,cond (decide ((c.1)=(d.1))) (.bool (decide ((c.2)=(d.2)))) undef)] ?_ fun f4=>?_
 ·cases h3:(decide ((c.1)=(d.1))) with
  | true=>
   replace h3:=dt h3
   refine JLq (pp b1 35) (YV rfl rfl)<|JLr (Zn Zy rfl (Zcu 1 rfl) (XK (ZN ra1) (ZB ra2))<|JLq (pp b2 35) (YV rfl rfl)<|JLr (Zn Zy rfl (Zcu 0 rfl) (XK (ZN rb1) (ZB rb2))<|Jc call61 rfl (fun hin=>hg _ _ _ (Hle.hu _ _) (RT.mono (Hle.hu _ _) ra2) (RT.mono (Hle.hu _ _) rb2)) rfl ?_))
   rintro _ _ ⟨rfl,rfl⟩
   exact Za ⟨⟨rfl,trivial⟩,rfl⟩
  | false=>
   exact ZJ rfl ⟨rfl,trivial⟩
 refine JLn (ZcA rfl rfl rfl)<|JAn rfl<|ZC (.bool ((decide ((c.1)=(d.1)))&&(decide ((c.2)=(d.2))))) [] Sub.nil (?_)
 exact ⟨by obtain ⟨c1,c2⟩:=c;obtain ⟨d1,d2⟩:=d;refine congrArg Value.bool ?_;rw [Bool.eq_iff_iff];simp,rfl⟩
theorem Uw:∀ (l m:List Tm) (v u:Value) (H:Heap) (_:rdS RT 36 H v l) (_:rdS RT 36 H u m) (_:∀ x∈l,∀ y a b h,Hle H h→RT h a x→RT h b y→CT prog 61 ⟨[.agg ⟨a⟩,.agg ⟨b⟩]⟩ [] h (fun v N=>v=.bool (decide (x=y))∧N=[])),CT prog 17 ⟨[v,u]⟩ [] H (fun v N=>v=.bool (decide (l=m))∧N=[]):=by
 intro l m v u H hl hm hg
 refine Zl func17 rfl rfl<|Zc<|JAn rfl<|Zc<|JLm v<|JLm u<|Jc call60 rfl (fun hin=>PI 61 [] [] (fun _ _=>rfl) _ _ _ _ _ (RTs.mono (Hle.hu _ _) hl) (RTs.mono (Hle.hu _ _) hm) (fun x hx y hy a b h hh ra rb=>hg x hx y a b h (Hle.trans (Hle.hu _ _) hh) ra rb)) rfl ?_
 rintro _ _ ⟨rfl,rfl⟩
 refine JAn rfl<|ZC (.bool (decide (l=m))) [] Sub.nil (?_)
 exact ⟨rfl,rfl⟩
theorem R9:∀ (t u:Tm) (cs ds:List Value) (H:Heap),RT H cs t→RT H ds u→CT prog 61 ⟨[.agg ⟨cs⟩,.agg ⟨ds⟩]⟩ [] H (fun v N=>v=.bool (decide (t=u))∧N=[]):=by
 intro t
 induction t using Tm.ind with
 | h kind num ref kids cases ih ih'=>
 intro u cs ds H ht hu
 obtain ⟨ks,cv,rfl,hk,hn,hks,hcv⟩:=RT_mk.1 ht
 obtain ⟨ksu,cvu,rfl,hku,hnu,hksu,hcvu⟩:=Rf hu
 refine Zl func61 rfl rfl<|Zc<|JLr (Zr (l:=pkT kind num ref ks cv) rfl rfl fun b1=>JLr (Zr (l:=pkT (u.kind) (u.num) (u.ref) ksu cvu) rfl rfl fun b2=>JAn rfl<|Zc<|JLq (pp b1 0) (Z1 rfl rfl)<|JLr (Zb ty3 rfl (Zcu 1 rfl) (Yf ..)<|JLq (pp b2 0) (Z1 rfl rfl)<|JLr (Zb ty3 rfl (Zcu 0 rfl) (Yf ..) ?_))))
 refine JLn (Pu.eql rfl rfl)<|JLM rfl<|ZA 5 [11,12,13,14,15] [(15,cond (decide (kind=u.kind)) (.bool (decide (num=u.num))) undef)] ?_ fun f4=>?_
 ·cases h3:(decide (kind=u.kind)) with
  | true=>
   replace h3:=dt h3
   refine JLq (pp b1 1) (Yj rfl rfl)<|JLr (Zb ty3 rfl (Zcu 1 rfl) (YP ..)<|JLq (pp b2 1) (Yj rfl rfl)<|JLr (Zb ty3 rfl (Zcu 0 rfl) (YP ..)<|JLn (Pu.eql rfl rfl) ?_))
   exact Za ⟨⟨rfl,trivial⟩,rfl⟩
  | false=>
   exact ZJ rfl ⟨rfl,trivial⟩
 refine JLn (ZcA rfl rfl rfl)<|JLM rfl<|ZA 5 [18,19,20,21,22] [(22,cond ((decide (kind=u.kind))&&(decide (num=u.num))) (.bool (decide (ref=u.ref))) undef)] ?_ fun f6=>?_
 ·cases h5:((decide (kind=u.kind))&&(decide (num=u.num))) with
  | true=>
   obtain ⟨h5a,h5b⟩:=Xa h5
   replace h5a:=dt h5a
   replace h5b:=dt h5b
   refine JLq (pp b1 2) (WL rfl rfl)<|JLr (Zn Yq rfl (Zcu 1 rfl) (V5 ..)<|JLq (pp b2 2) (WL rfl rfl)<|JLr (Zn Yq rfl (Zcu 0 rfl) (V5 ..)<|JLn (eqS rfl rfl) ?_))
   exact Za ⟨⟨rfl,trivial⟩,rfl⟩
  | false=>
   exact ZJ rfl ⟨rfl,trivial⟩
 refine JLn (ZcA rfl rfl rfl)<|JLM rfl<|ZA 5 [25,26,27,28,29] [(29,cond (((decide (kind=u.kind))&&(decide (num=u.num)))&&(decide (ref=u.ref))) (.bool (decide (kids=(u.kids)))) undef)] ?_ fun f8=>?_
 ·cases h7:(((decide (kind=u.kind))&&(decide (num=u.num)))&&(decide (ref=u.ref))) with
  | true=>
   obtain ⟨h7a,h7b⟩:=Xa h7
   obtain ⟨h7aa,h7ab⟩:=Xa h7a
   replace h7aa:=dt h7aa
   replace h7ab:=dt h7ab
   replace h7b:=dt h7b
   refine JLq (pp b1 34) (Yd rfl rfl)<|JLr (Zb YZ rfl (Zcu 1 rfl) (Yh ..)<|JLq (pp b2 34) (Yd rfl rfl)<|JLr (Zb YZ rfl (Zcu 0 rfl) (Yh ..)<|Jc call17 rfl (fun hin=>Uw _ _ _ _ _ (RTs.mono (Hle.hu _ _) hks) (RTs.mono (Hle.hu _ _) hksu) (fun x hx y a b h _ ra rb=>ih x hx y a b h ra rb)) rfl ?_))
   rintro _ _ ⟨rfl,rfl⟩
   exact Za ⟨⟨rfl,trivial⟩,rfl⟩
  | false=>
   exact ZJ rfl ⟨rfl,trivial⟩
 refine JLn (ZcA rfl rfl rfl)<|JLM rfl<|ZA 5 [32,33,34,35,36] [(36,cond ((((decide (kind=u.kind))&&(decide (num=u.num)))&&(decide (ref=u.ref)))&&(decide (kids=(u.kids)))) (.bool (decide (cases=(u.cases)))) undef)] ?_ fun f10=>?_
 ·cases h9:((((decide (kind=u.kind))&&(decide (num=u.num)))&&(decide (ref=u.ref)))&&(decide (kids=(u.kids)))) with
  | true=>
   obtain ⟨h9a,h9b⟩:=Xa h9
   obtain ⟨h9aa,h9ab⟩:=Xa h9a
   obtain ⟨h9aaa,h9aab⟩:=Xa h9aa
   replace h9aaa:=dt h9aaa
   replace h9aab:=dt h9aab
   replace h9ab:=dt h9ab
   replace h9b:=dt h9b
   refine JLq (pp b1 35) (ZY rfl rfl)<|JLr (Zb YL rfl (Zcu 1 rfl) (Z3 ..)<|JLq (pp b2 35) (ZY rfl rfl)<|JLr (Zb YL rfl (Zcu 0 rfl) (Z3 ..)<|Jc call110 rfl (fun hin=>PK 111 [] [] (fun _ _=>rfl) _ _ _ _ _ (RCs.mono (Hle.hu _ _) hcv) (RCs.mono (Hle.hu _ _) hcvu) (fun x hx y hy a b h hh ra rb=>ME x y a b h ra rb (fun h' a' b' _ r1 r2=>ih' x hx y.2 a' b' h' r1 r2))) rfl ?_))
   rintro _ _ ⟨rfl,rfl⟩
   exact Za ⟨⟨rfl,trivial⟩,rfl⟩
  | false=>
   exact ZJ rfl ⟨rfl,trivial⟩
 refine JLn (ZcA rfl rfl rfl)<|JAn rfl<|ZC (.bool (((((decide (kind=u.kind))&&(decide (num=u.num)))&&(decide (ref=u.ref)))&&(decide (kids=(u.kids))))&&(decide (cases=(u.cases))))) [] Sub.nil (?_)
 exact ⟨congrArg Value.bool (ZbL ..),rfl⟩
theorem Gx:∀ (t:Tm) (cs:List Value) (k:Zi) (H:Heap),OT t cs k→CT prog 109 ⟨[.agg ⟨cs⟩]⟩ [k] H (fun v N=>v=.tuple ⟨[]⟩∧N=[]):=by
 intro t
 induction t using Tm.ind with
 | h kind num ref kids cases ih ih'=>
 intro cs k H hO
 obtain ⟨ks,cv,es,es',k1,k2,k3,k4,rfl,hk,hn,ho1,ho2,ho3,ho4,rfl,hlK,hlC⟩:=OT_mk.1 hO
 refine Zl func109 rfl rfl<|ZD (M':=[k1,k2,k3,k4]) (Sub.flat Sub.refl (by simp))<|Zc<|JLr (Zr (l:=pkT kind num ref ks cv) rfl rfl fun b1=>Za<|Zf<|Zc<|JLq (pp b1 34) (Yd rfl rfl)<|JLr (Zb YZ rfl (Zcu 0 rfl) (Yh ..) ?_))
 obtain ⟨a2,cap2,hv2⟩:=ho1.sl
 rw [(Xr ho2)] at hv2
 refine JLn (Zcv ZQ hv2)<|JLM rfl<|Za<|Zh<|Zv (fun k ρ M=>∃ (j:Nat) (es5:List (List Value)) (k5 c0:Zi),ZR ρ [(1,pp b1 0),(7,iv ((kids.length:Int))),(8,iv ((j:Int)))]=ρ∧Sub [(BX b1 (pkT kind num ref ks cv) 51),k5,c0,k3,k4] M∧j≤kids.length∧Own 51 36 ks es5 k5∧es5.length=kids.length∧OTs (kids.drop j) (es5.drop j) c0∧k=kids.length-j) _ ⟨0,es,k1,k2,Zj rfl,(Sk (Sk (Sk (Sk (Sk Sub.nil))))),Nat.zero_le _,ho1,Xr ho2,by simpa using ho2,rfl⟩ ?_
 rintro _ ρ3 _ ⟨j,es5,k5,c0,e4,hm7,hj,ho5,hl5,hr5,rfl⟩
 obtain ⟨ρ8,rfl⟩:=Zo e4
 clear e4
 refine ZD hm7<|Zc<|JLn (Pu.lss rfl rfl)<|Za<|Zf<|ZF rfl (fun h9=>?_) (fun h9=>?_)
 ·have h9n:j<kids.length:=by omega
  obtain ⟨e5,kc5,c5,hE,hO5,rfl,hR5⟩:=OTs.take hr5 h9n
  refine ZD (M':=[(BX b1 (pkT kind num ref ks cv) 51),k5,kc5,c5,k3,k4]) (Sub.flat Sub.refl (by simp))<|Zk<|Zf<|Zh<|Zc<|JLM rfl<|JAn rfl<|Zc<|JLq (pp b1 34) (Yd rfl rfl)<|JLr (Zb YZ rfl (Zcu 0 rfl) (Yh ..) ?_)
  refine JLM rfl ?_
  obtain ⟨b10,cap10,row10,hv10,hm10,hs10⟩:=ho5.at' hE
  refine JLn (Zcw j ZQ Zy hv10 rfl rfl (by rw [hl5];exact h9n))<|JLr (Zn Zy rfl (ZcD 1 rfl hm10) hs10<|ZG 2 rfl call109 rfl rfl (fun hin=>ih _ (getElem_mem h9n) _ _ _ hO5) rfl ?_)
  rintro _ _ ⟨rfl,rfl⟩
  refine Za<|Zd<|JLq (pp b1 34) (Yd rfl rfl)<|JLr (Zb YZ rfl (Zcu 0 rfl) (Yh ..)<|JLM rfl<|JLq (.agg ⟨pkT 98 0 zS nS nS⟩) (Pu.build (pv:=[(0,iv 98)]) (l:=pkT 98 0 zS nS nS) rfl (BD _)) ?_)
  obtain ⟨b11,cap11,row11,hv11,hm11,hs11⟩:=ho5.at' hE
  refine JLn (Zcw j ZQ Zy hv11 rfl rfl (by rw [hl5];exact h9n))<|JLr (Yu (i:=1) (j:=j) (b:=b11) Zy rfl ho5 ⟨_,_,hv11⟩ rfl (by rw [hl5];exact h9n) rfl rfl rfl (Ys rfl rfl) fun k12 ho12=>Za<|Zd<|JLn (Zcy rfl rfl (by omega))<|JLM rfl<|Za<|⟨_,?_,(j+1),(es5.set j (pkT 98 0 zS nS nS)),k12,c5,Zj rfl,(Sk (Sk (Sk (Sk (Sk Sub.nil))))),?_,?_,?_,?_,rfl⟩)
  ·omega
  ·omega
  ·exact ho12
  ·rw [length_set];exact hl5
  exact hR5 _
 have h9n:kids.length≤j:=by omega
 refine Zu _ rfl<|Zc<|JLq (pp b1 35) (ZY rfl rfl)<|JLr (Zb YL rfl (Zcu 0 rfl) (Z3 ..) ?_)
 obtain ⟨a13,cap13,hv13⟩:=ho3.sl
 rw [(UQ ho4)] at hv13
 refine JLn (Zcv Yz hv13)<|JLM rfl<|Za<|Zh<|Zv (fun k ρ M=>∃ (j:Nat) (es7:List (List Value)) (k7 c1:Zi),ZR ρ [(1,pp b1 0),(25,iv ((cases.length:Int))),(26,iv ((j:Int)))]=ρ∧Sub [(BX b1 (pkT kind num ref ks cv) 51),k7,c1] M∧j≤cases.length∧Own 117 71 cv es7 k7∧es7.length=cases.length∧OCs (cases.drop j) (es7.drop j) c1∧k=cases.length-j) _ ⟨0,es',k3,k4,Zj rfl,(Sk (Sd (Sd (Sk (Sk Sub.nil))))),Nat.zero_le _,ho3,UQ ho4,by simpa using ho4,rfl⟩ ?_
 rintro _ ρ14 _ ⟨j,es7,k7,c1,e15,hm18,hj,ho7,hl7,hr6,rfl⟩
 obtain ⟨ρ19,rfl⟩:=Zo e15
 clear e15
 refine ZD hm18<|Zc<|JLn (Pu.lss rfl rfl)<|Za<|Zf<|ZF rfl (fun h20=>?_) (fun h20=>?_)
 ·have h20n:j<cases.length:=by omega
  obtain ⟨kk6,n6,r6,ks6,e6,esp6,q6,kp6,kq6,kc6,c6,hE,hOp,hq6,hq66,hO6,rfl,hR6⟩:=OCs.take hr6 h20n
  refine ZD (M':=[(BX b1 (pkT kind num ref ks cv) 51),k7,kp6,kq6,kc6,c6]) (Sub.flat Sub.refl (by simp))<|Zk<|Zf<|Zh<|Zc<|JLM rfl<|JAn rfl<|Zc<|JLq (pp b1 35) (ZY rfl rfl)<|JLr (Zb YL rfl (Zcu 0 rfl) (Z3 ..) ?_)
  refine JLM rfl ?_
  obtain ⟨b21,cap21,row21,hv21,hm21,hs21⟩:=ho7.at' hE
  refine JLn (Zcw j Yz Yg hv21 rfl rfl (by rw [hl7];exact h20n))<|JLq (pp b21 (0+j*71+35)) (YV rfl rfl)<|JLr (Zn Zy rfl (ZcD 1 rfl hm21) (XS hs21 (XK rfl hO6.len))<|ZG 4 rfl call109 rfl rfl (fun hin=>ih' _ (getElem_mem h20n) _ _ _ hO6) rfl ?_)
  rintro _ _ ⟨rfl,rfl⟩
  refine Za<|Zf<|Zc<|JLq (pp b1 35) (ZY rfl rfl)<|JLr (Zb YL rfl (Zcu 0 rfl) (Z3 ..)<|JLM rfl ?_)
  obtain ⟨b22,cap22,row22,hv22,hm22,hs22⟩:=ho7.at' hE
  refine JLn (Zcw j Yz Yg hv22 rfl rfl (by rw [hl7];exact h20n))<|JLq (pp b22 (0+j*71)) (YO rfl rfl)<|JLq (pp b22 (0+j*71+34)) (Z5 rfl rfl)<|JLr (Zb YB rfl (ZcD 1 rfl hm22) (K8 hs22 (Ed (Yo ..))) ?_)
  obtain ⟨a23,cap23,hv23⟩:=hOp.sl
  rw [hq6] at hv23
  refine JLn (Zcv Yt hv23)<|JLM rfl<|Za<|Zh<|Zv (fun k ρ M=>∃ (i:Nat) (es8:List (List Value)) (k8:Zi),ZR ρ [(1,pp b1 0),(3,iv ((j:Int))),(25,iv ((cases.length:Int))),(26,iv ((j:Int))),(43,iv ((q6:Int))),(44,iv ((i:Int)))]=ρ∧Sub [k8,(BX b1 (pkT kind num ref ks cv) 51),k7,kq6,c6] M∧i≤q6∧Own 115 35 ks6 es8 k8∧es8.length=q6∧k=q6-i) _ ⟨0,esp6,kp6,Zj rfl,(Sub.cons 2 rfl (Sk (Sk (Sk (Sk Sub.nil))))),Nat.zero_le _,hOp,hq6,rfl⟩ ?_
  rintro _ ρ24 _ ⟨i,es8,k8,e25,hm31,hi,ho8,hl8,rfl⟩
  obtain ⟨ρ32,rfl⟩:=Zo e25
  clear e25
  refine ZD hm31<|Zc<|JLn (Pu.lss rfl rfl)<|Za<|Zf<|ZF rfl (fun h33=>?_) (fun h33=>?_)
  ·have h33n:i<q6:=by omega
   refine Zk<|Zf<|Zh<|Zc<|JLM rfl<|JAn rfl<|Zd<|JLq (pp b1 35) (ZY rfl rfl)<|JLr (Zb YL rfl (Zcu 1 rfl) (Z3 ..)<|JLM rfl ?_)
   obtain ⟨b34,cap34,row34,hv34,hm34,hs34⟩:=ho7.at' hE
   refine JLn (Zcw j Yz Yg hv34 rfl rfl (by rw [hl7];exact h20n))<|JLq (pp b34 (0+j*71)) (YO rfl rfl)<|JLq (pp b34 (0+j*71+34)) (Z5 rfl rfl)<|JLr (Zb YB rfl (ZcD 2 rfl hm34) (K8 hs34 (Ed (Yo ..)))<|JLM rfl<|JLq (.agg ⟨pkP 98 0 zS nS⟩) (Pu.build (pv:=[(0,iv 98)]) (l:=pkP 98 0 zS nS) rfl (LA _)) ?_)
   obtain ⟨b35,cap35,row35,hv35,hm35,hs35⟩:=ho8.at (j:=i) (by rw [hl8];exact h33n)
   refine JLn (Zcw i Yt ZU hv35 rfl rfl (by rw [hl8];exact h33n))<|JLr (Yu (i:=0) (j:=i) (b:=b35) ZU rfl ho8 ⟨_,_,hv35⟩ rfl (by rw [hl8];exact h33n) rfl rfl rfl (W1 rfl) fun k36 ho36=>Za<|Zd<|JLn (Zcy rfl rfl (by omega))<|JLM rfl<|Za<|⟨_,?_,(i+1),(es8.set i (pkP 98 0 zS nS)),k36,Zj rfl,(Sk (Sk (Sk (Sk (Sk Sub.nil))))),?_,?_,?_,rfl⟩)
   ·omega
   ·omega
   ·exact ho36
   rw [length_set];exact hl8
  have h33n:q6≤i:=by omega
  refine Zu _ rfl<|Zd<|JLq (pp b1 35) (ZY rfl rfl)<|JLr (Zb YL rfl (Zcu 1 rfl) (Z3 ..)<|JLM rfl<|JLq (.agg ⟨(pkP 0 0 zS nS)++(pkT 0 0 zS nS nS)⟩) (Pu.build (pv:=[]) (l:=(pkP 0 0 zS nS)++(pkT 0 0 zS nS nS)) rfl BG) ?_)
  obtain ⟨b37,cap37,row37,hv37,hm37,hs37⟩:=ho7.at' hE
  refine JLn (Zcw j Yz Yg hv37 rfl rfl (by rw [hl7];exact h20n))<|JLr (Yu (i:=2) (j:=j) (b:=b37) Yg rfl ho7 ⟨_,_,hv37⟩ rfl (by rw [hl7];exact h20n) rfl rfl rfl (Y5 (W1 rfl) (Ys rfl rfl)) fun k38 ho38=>Za<|Zd<|JLn (Zcy rfl rfl (by omega))<|JLM rfl<|Za<|⟨_,?_,(j+1),(es7.set j ((pkP 0 0 zS nS)++(pkT 0 0 zS nS nS))),k38,c6,Zj rfl,(Sd (Sk (Sk (Sd (Sk Sub.nil))))),?_,?_,?_,?_,rfl⟩)
  ·omega
  ·omega
  ·exact ho38
  ·rw [length_set];exact hl7
  exact hR6 _
 have h20n:cases.length≤j:=by omega
 refine Zu _ rfl<|⟨.tuple ⟨[]⟩,[],Ret.none rfl,Sub.nil,?_⟩
 exact ⟨rfl,rfl⟩
theorem He:∀ (p:Pt) (d n:Int) (cs:List Value) (H:Heap) (bN bP:Nat),RP H cs p→0≤n→n≤400→H bP=some (.cells ⟨[.func (.func 69) ⟨[]⟩ ⟨[pp bN 0,pp bP 0]⟩]⟩ 120 (0,0))→CT prog 69 ⟨[.agg ⟨cs⟩,pp bN 0,pp bP 0]⟩ [(BX bN [iv n] 3)] H (fun v N=>v=.bool (cnP stG d p n).1∧N=[(BX bN [iv ((cnP stG d p n).2)] 3)]):=by
 intro p
 induction p using Pt.ind with
 | h kind num ref kids ih=>
 intro d n cs H bN bP hp hn0 hn1 hP
 obtain ⟨ks,rfl,hk,hn,hks⟩:=RP_mk.1 hp
 refine Zl func69 rfl rfl<|Zc<|JLr (Zr (l:=pkP kind num ref ks) rfl rfl fun b1=>JAn rfl<|Zc<|JLr (Zb ty3 rfl (Zcu 1 rfl) rfl<|JLn (ZcG rfl rfl (by first | omega | (constructor <;> omega)))<|JLr (Ze 1 (vs:=[iv (n+1)]) (l:=[iv (n+1)]) ty3 rfl rfl rfl rfl rfl (Zg rfl Zq) rfl<|Za<|Zf ?_)))
 refine Zd<|JLr (Zb ty3 rfl (Zcu 1 rfl) rfl<|JLn (Pu.gtr rfl rfl)<|JLM rfl ?_)
 cases h2:(decide (400<n+1)) with
 | true=>
  replace h2:=dt h2
  iterate 4 refine Xs rfl ?_
  refine JLq (.bool true) (ZcI rfl rfl)<|JAn rfl<|ZC (.bool true) [(BX bN [iv (n+1)] 3)] (Sd (Sk Sub.nil)) (?_)
  refine ⟨?_,?_⟩ <;> rw [cnP,if_pos (by simp [stG];omega)]
 | false=>
  replace h2:=df h2
  refine JLq (pp b1 34) (Z5 rfl rfl)<|JLr (Zb YB rfl (Zcu 0 rfl) (Yo ..)<|JLr (Zb Gg rfl (Zcx hP) rfl<|ZG 1 rfl call70 rfl rfl (fun hin=>S2 69 [] [pp bN 0,pp bP 0] (fun _ _=>rfl) (fun n=>(BX bN [iv n] 3)) (fun n=>0≤n∧n≤400) (cnP stG (d+1)) _ _ _ (RPs.mono (Hle.hu _ _) hks) (n+1) ⟨by omega,by omega⟩ (fun x hx s hs hf=>Vq Rp x _ s hs.1 hf) (fun x hx s hs a h hh ra=>ih x hx (d+1) s a h bN bP ra hs.1 hs.2 (hh _ _ (Hle.hu _ _ _ _ hP)))) rfl ?_))
  rintro _ _ ⟨rfl,rfl⟩
  refine JLq (.bool ((YM (cnP stG (d+1)) kids (n+1)).1)) (ZcH rfl rfl)<|JAn rfl<|ZC (.bool ((YM (cnP stG (d+1)) kids (n+1)).1)) [(BX bN [iv ((YM (cnP stG (d+1)) kids (n+1)).2)] 3)] (Sk Sub.nil) (?_)
  refine ⟨?_,?_⟩ <;> rw [cnP,if_neg (by simp [stG];omega),PT]
theorem Hf:∀ (c:Pt×Tm) (d n:Int) (a:List Value) (H:Heap) (bN bW bP:Nat),RC H a c→0≤n→n≤400→H bW=some (.cells ⟨[.func (.func 71) ⟨[]⟩ ⟨[pp bN 0,pp bW 0,pp bP 0]⟩]⟩ 56 (0,0))→H bP=some (.cells ⟨[.func (.func 69) ⟨[]⟩ ⟨[pp bN 0,pp bP 0]⟩]⟩ 120 (0,0))→(∀ s a h,Hle H h→RT h a c.2→0≤s→s≤400→CT prog 71 ⟨[.agg ⟨a⟩,pp bN 0,pp bW 0,pp bP 0]⟩ [(BX bN [iv s] 3)] h (fun v N=>v=.bool (cnT stG d c.2 s).1∧N=[(BX bN [iv ((cnT stG d c.2 s).2)] 3)]))→CT prog 73 ⟨[.agg ⟨a⟩,pp bP 0,pp bW 0]⟩ [(BX bN [iv n] 3)] H (fun v N=>v=.bool (cnC stG d c n).1∧N=[(BX bN [iv ((cnC stG d c n).2)] 3)]):=by
 intro c d n a H bN bW bP ⟨ca,cb,e1,ra1,ra2⟩ hn0 hn1 hW hP hg
 subst e1
 refine Zl func73 rfl rfl<|Zc<|JLr (Zr (l:=ca++cb) rfl rfl fun b1=>JAn rfl<|Zc<|JLr (Zb Gg rfl (Zcx hP) rfl<|JLq (pp b1 0) (YO rfl rfl)<|JLr (Zn ZU rfl (Zcu 0 rfl) (XE (ZN ra1))<|ZG 1 rfl call69 rfl rfl (fun hin=>He _ d _ _ _ bN bP (RP.mono (Hle.hu _ _) ra1) hn0 hn1 (Hle.hu _ _ _ _ hP)) rfl ?_)))
 rintro _ _ ⟨rfl,rfl⟩
 refine JLM rfl ?_
 cases h3:((cnP stG d (c.1) n).1) with
 | true=>
  iterate 4 refine Xs rfl ?_
  refine JLq (.bool true) (ZcI rfl rfl)<|JAn rfl<|ZC (.bool true) [(BX bN [iv ((cnP stG d (c.1) n).2)] 3)] (Sk Sub.nil) (?_)
  refine ⟨?_,?_⟩ <;> rw [cnC,if_pos h3]
 | false=>
  refine JLr (Zb Rm rfl (Zcx hW) rfl<|JLq (pp b1 35) (YV rfl rfl)<|JLr (Zn Zy rfl (Zcu 1 rfl) (XK (ZN ra1) (ZB ra2))<|ZG 0 rfl call71 rfl rfl (fun hin=>hg _ _ _ (Hle.hu _ _) (RT.mono (Hle.hu _ _) ra2) (Vq Rp _ _ _ hn0 h3).1 (Vq Rp _ _ _ hn0 h3).2) rfl ?_))
  rintro _ _ ⟨rfl,rfl⟩
  refine JLq (.bool ((cnT stG d (c.2) ((cnP stG d (c.1) n).2)).1)) (ZcH rfl rfl)<|JAn rfl<|ZC (.bool ((cnT stG d (c.2) ((cnP stG d (c.1) n).2)).1)) [(BX bN [iv ((cnT stG d (c.2) ((cnP stG d (c.1) n).2)).2)] 3)] (Sk Sub.nil) (?_)
  refine ⟨?_,?_⟩ <;> rw [cnC,if_neg (by simp [h3])]
theorem Hc:∀ (t:Tm) (d n:Int) (cs:List Value) (H:Heap) (bN bW bP:Nat),RT H cs t→0≤n→n≤400→H bW=some (.cells ⟨[.func (.func 71) ⟨[]⟩ ⟨[pp bN 0,pp bW 0,pp bP 0]⟩]⟩ 56 (0,0))→H bP=some (.cells ⟨[.func (.func 69) ⟨[]⟩ ⟨[pp bN 0,pp bP 0]⟩]⟩ 120 (0,0))→CT prog 71 ⟨[.agg ⟨cs⟩,pp bN 0,pp bW 0,pp bP 0]⟩ [(BX bN [iv n] 3)] H (fun v N=>v=.bool (cnT stG d t n).1∧N=[(BX bN [iv ((cnT stG d t n).2)] 3)]):=by
 intro t
 induction t using Tm.ind with
 | h kind num ref kids cases ih ih'=>
 intro d n cs H bN bW bP ht hn0 hn1 hW hP
 obtain ⟨ks,cv,rfl,hk,hn,hks,hcv⟩:=RT_mk.1 ht
 refine Zl func71 rfl rfl<|Zc<|JLr (Zr (l:=pkT kind num ref ks cv) rfl rfl fun b1=>JAn rfl<|Zc<|JLr (Zb ty3 rfl (Zcu 1 rfl) rfl<|JLn (ZcG rfl rfl (by first | omega | (constructor <;> omega)))<|JLr (Ze 1 (vs:=[iv (n+1)]) (l:=[iv (n+1)]) ty3 rfl rfl rfl rfl rfl (Zg rfl Zq) rfl<|Za<|Zf ?_)))
 refine Zd<|JLr (Zb ty3 rfl (Zcu 1 rfl) rfl<|JLn (Pu.gtr rfl rfl)<|JLM rfl ?_)
 cases h2:(decide (400<n+1)) with
 | true=>
  replace h2:=dt h2
  iterate 4 refine Xs rfl ?_
  refine JLq (.bool true) (ZcI rfl rfl)<|JLM rfl ?_
  iterate 4 refine Xs rfl ?_
  refine JLq (.bool true) (ZcI rfl rfl)<|JAn rfl<|ZC (.bool true) [(BX bN [iv (n+1)] 3)] (Sd (Sk Sub.nil)) (?_)
  refine ⟨?_,?_⟩ <;> rw [cnT,if_pos (by simp [stG];omega)]
 | false=>
  replace h2:=df h2
  refine JLq (pp b1 34) (Yd rfl rfl)<|JLr (Zb YZ rfl (Zcu 0 rfl) (Yh ..)<|JLr (Zb Rm rfl (Zcx hW) rfl<|ZG 1 rfl call26 rfl rfl (fun hin=>UJ 71 [] [pp bN 0,pp bW 0,pp bP 0] (fun _ _=>rfl) (fun n=>(BX bN [iv n] 3)) (fun n=>0≤n∧n≤400) (cnT stG (d+1)) _ _ _ (RTs.mono (Hle.hu _ _) hks) (n+1) ⟨by omega,by omega⟩ (fun x hx s hs hf=>S4 Rp x _ s hs.1 hf) (fun x hx s hs a h hh ra=>ih x hx (d+1) s a h bN bW bP ra hs.1 hs.2 (hh _ _ (Hle.hu _ _ _ _ hW)) (hh _ _ (Hle.hu _ _ _ _ hP)))) rfl ?_))
  rintro _ _ ⟨rfl,rfl⟩
  refine JLq (.bool ((YM (cnT stG (d+1)) kids (n+1)).1)) (ZcH rfl rfl)<|JLM rfl ?_
  cases h4:((YM (cnT stG (d+1)) kids (n+1)).1) with
  | true=>
   iterate 4 refine Xs rfl ?_
   refine JLq (.bool true) (ZcI rfl rfl)<|JAn rfl<|ZC (.bool true) [(BX bN [iv ((YM (cnT stG (d+1)) kids (n+1)).2)] 3)] (Sk Sub.nil) (?_)
   refine ⟨?_,?_⟩ <;> rw [cnT,if_neg (by simp [stG];omega),Uj,if_pos h4]
  | false=>
   refine JLq (pp b1 35) (ZY rfl rfl)<|JLr (Zb YL rfl (Zcu 1 rfl) (Z3 ..)<|JLq (.func (.func 73) ⟨[]⟩ ⟨[pp bP 0,pp bW 0]⟩) (Pu.makeFunc rfl rfl)<|ZG 0 rfl call72 rfl rfl (fun hin=>S3 73 [] [pp bP 0,pp bW 0] (fun _ _=>rfl) (fun n=>(BX bN [iv n] 3)) (fun n=>0≤n∧n≤400) (cnC stG (d+1)) _ _ _ (RCs.mono (Hle.hu _ _) hcv) ((YM (cnT stG (d+1)) kids (n+1)).2) (Nj Rp _ _ _ (by omega) (by omega) h4) (fun x hx s hs hf=>Lr Rp x _ s hs.1 hf) (fun x hx s hs a h hh ra=>Hf x (d+1) s a h bN bW bP ra hs.1 hs.2 (hh _ _ (Hle.hu _ _ _ _ hW)) (hh _ _ (Hle.hu _ _ _ _ hP)) (fun s' a' h' hh' ra' k1 k2=>ih' x hx (d+1) s' a' h' bN bW bP ra' k1 k2 (hh' _ _ (hh _ _ (Hle.hu _ _ _ _ hW))) (hh' _ _ (hh _ _ (Hle.hu _ _ _ _ hP)))))) rfl ?_)
   rintro _ _ ⟨rfl,rfl⟩
   refine JLq (.bool ((YM (cnC stG (d+1)) cases ((YM (cnT stG (d+1)) kids (n+1)).2)).1)) (ZcH rfl rfl)<|JAn rfl<|ZC (.bool ((YM (cnC stG (d+1)) cases ((YM (cnT stG (d+1)) kids (n+1)).2)).1)) [(BX bN [iv ((YM (cnC stG (d+1)) cases ((YM (cnT stG (d+1)) kids (n+1)).2)).2)] 3)] (Sk Sub.nil) (?_)
   refine ⟨?_,?_⟩ <;> rw [cnT,if_neg (by simp [stG];omega),Uj,if_neg (by simp [h4]),S6]
theorem Eb (t:Tm) (cs:List Value) (H:Heap) (ht:RT H cs t):CT prog 27 ⟨[.agg ⟨cs⟩]⟩ [] H (fun v N=>v=.bool (cnT stG 0 t 0).1∧N=[]):=by
 refine Zl func27 rfl rfl<|Zc<|JLr (Zr (l:=cs) rfl rfl fun b1=>JAn rfl<|Zc<|JLr (Zp (l:=[iv 0]) zeroValue3 rfl fun b2=>JLr (Ze 0 (vs:=[iv 0]) (l:=[iv 0]) ty3 rfl rfl rfl rfl rfl (Zg rfl Zq) rfl<|Za<|Zf<|Zd ?_)))
 refine JLr (Zp (l:=[.nilFunc]) zeroValue120 rfl fun b3=>Za<|Zc<|JLq (.func (.func 69) ⟨[]⟩ ⟨[pp b2 0,pp b3 0]⟩) (Pu.makeFunc rfl rfl)<|JLr (Ze 0 (vs:=[.func (.func 69) ⟨[]⟩ ⟨[pp b2 0,pp b3 0]⟩]) (l:=[.func (.func 69) ⟨[]⟩ ⟨[pp b2 0,pp b3 0]⟩]) Gg rfl rfl rfl rfl rfl (Zg rfl Zq) rfl<|Za<|Zc<|JLr (Zp (l:=[.nilFunc]) zeroValue56 rfl fun b4=>Za<|Zf<|Zd ?_)))
 refine JLq (.func (.func 71) ⟨[]⟩ ⟨[pp b2 0,pp b4 0,pp b3 0]⟩) (Pu.makeFunc rfl rfl)<|JLr (Ze 0 (vs:=[.func (.func 71) ⟨[]⟩ ⟨[pp b2 0,pp b4 0,pp b3 0]⟩]) (l:=[.func (.func 71) ⟨[]⟩ ⟨[pp b2 0,pp b4 0,pp b3 0]⟩]) Rm rfl rfl rfl rfl rfl (Zg rfl Zq) rfl<|Za<|Zc<|JLr (Zb Rm rfl (Zcu 0 rfl) rfl<|JLr (Zn Zy rfl (Zcu 3 rfl) (ZE (ZB ht))<|ZG 2 rfl call71 rfl rfl (fun hin=>Hc _ 0 _ _ _ _ _ _ (RT.mono (Hle.hu _ _) ht) (by decide) (by decide) (hin 0 _ rfl _ _ mem_cons_self) (hin 1 _ rfl _ _ mem_cons_self)) rfl ?_)))
 rintro _ _ ⟨rfl,rfl⟩
 refine JAn rfl<|ZC (.bool ((cnT stG 0 t 0).1)) [] Sub.nil (?_)
 exact ⟨rfl,rfl⟩
end
end Go.Proofs.YtjdjmjgleadcfaaGreatDoor.Hs
