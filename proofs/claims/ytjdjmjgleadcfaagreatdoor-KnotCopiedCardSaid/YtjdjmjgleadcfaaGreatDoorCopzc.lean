import Derived.Test.YtjdjmjgleadcfaaGreatDoorCopzb
import Derived.Test.YtjdjmjgleadcfaaGreatDoorRows
import Derived.ChangeSame
import Derived.JoinedOf
import Derived.ChangeCalls
import Derived.Laws.IdiomStrings
import Derived.Lib.Bytealg
import Derived.Lib.BytesEntry
import Derived.Laws.Externs
set_option linter.unusedVariables false
set_option linter.unusedSimpArgs false
set_option maxRecDepth 100000
open Go.Proofs.Tryz
open List (getElem_mem replicate mem_cons_self mem_cons append_assoc take_of_length_le range length_append getD_eq_getElem?_getD getElem?_eq_getElem mem_append length_take take_succ_eq_append_getElem length_cons length_map length_set flatten_cons mem_map map_append length_drop flatten map_cons length_replicate flatten_append append_nil take_succ_cons cons_append eq_nil_of_length_eq_zero mem_flatten getElem?_map getElem?_cons_zero getElem_map drop_eq_getElem_cons mem_singleton flatten_nil map_congr_left take_append_drop getElem?_replicate map_nil getElem?_cons_succ mem_of_getElem?)
namespace Go.Proofs.YtjdjmjgleadcfaaGreatDoor.Hs
theorem BA (s:ByteArray):EY (sB s)=s:=by
  unfold EY sB
  rw [List.map_map]
  apply ByteArray.ext
  apply Array.ext'
  simp only
  have:((fun n:Int=>UInt8.ofNat n.toNat) ∘ fun b:UInt8=>(b.toNat:Int))=id:=by funext b;simp
  rw [this]
  simp
theorem Ld (a b:List Int):YU (a++b)=YU a++YU b:=by unfold YU;rw [map_append]
theorem ST (a:List Int) (x:Int):YU a++[[.int .u8 x]]=YU (a++[x]):=by unfold YU;rw [map_append];rfl
theorem D0 {r:Sm} {l:List Int} (hl:l=sB (txS r)) {j:Nat} (h:j<l.length):(sC r)[0+j*1]?=some (.int .u8 l[j]):=by
  subst hl
  rw [UA,TW] at h
  rw [show 0+j*1=j from by omega,V0 r j h]
  have:(sB (txS r))[j]'(by rw [UA,TW];exact h)=((r[j]).toNat:Int):=by simp [sB,txS]
  rw [this]
theorem ZcB {M:List Zf} {F:Zf} {H:Heap} {w:World} (mm:Mem w (M.flatten++F) H) {i:Nat} {k:Zf} (hi:M[i]?=some k):Has k (hu M.flatten H):=fun b o hb=>by
  have hmem:(b,o)∈M.flatten:=mem_flatten.2 ⟨k,mem_of_getElem? hi,hb⟩
  rw [Xf,mm.left.sep b o hmem];exact YP mm.left.nd hmem
section
variable {c:Cx} {H:Heap} {ρ:Nat→Value} {M:List Zf} {K:Value→List Zf→Prop} {d:Option Nat} {ot:TypeId} {pos:String} {af:Array Edge} {g:Option (Nat×Bool)} {x y z:Operand}
theorem Lv {T T' el E:TypeId} {r:Sm} {b:Nat} (i:Nat) (hi:M[i]?=some [(b,.cells ⟨sC r⟩ E (0,0))]) (hT:∀ w,(underlying T).run c.P w=.ok (.slice el) w) (hel:∀ w,(underlying el).run c.P w=.ok (.int .u8) w) (hT':∀ w,(underlying T').run c.P w=.ok .string w) (hx:ev c.n ρ x=.slice (some ⟨b,0,none⟩) 32 32)
    (h:K (.string (txS r)) M):Runs c H ⟨d,.convert T T' x,ot,pos,af,g⟩ ρ M K:=fun F w mm=>by
  refine ⟨_,w,M,.inl ?_,mm,h⟩
  have hb:hu M.flatten H b=some (.cells ⟨sC r⟩ E (0,0)):=ZcB mm hi b _ (by simp)
  have hlen:(sB (txS r)).length=32:=by rw [UA,TW]
  have hr:Hs.rdS RB 1 (hu M.flatten H) (.slice (some ⟨b,0,none⟩) 32 32) (sB (txS r)):=by
    refine ⟨some ⟨b,0,none⟩,32,by rw [hlen],by rw [hlen];omega,.inr ⟨b,0,sC r,E,(0,0),rfl,hb,rows.mk fun i hi=>⟨[.int .u8 (sB (txS r))[i]],?_,rfl⟩⟩⟩
    have h1:=D0 (r:=r) rfl hi
    obtain ⟨h2,h3⟩:=List.getElem?_eq_some_iff.1 h1
    rw [Wp (by omega)]
    congr 1
    rw [drop_eq_getElem_cons h2,take_succ_cons,List.take_zero,h3]
  have:=IF mm.hu hr hT hel hT'
  rw [BA] at this
  simp only [execOp,hx]
  simp [this]
end
theorem Hr (k n:Int):∀ w,(Instr.build 82 ⟨[(0,.int .i64 k),(1,.int .i64 n)]⟩).run prog w=.ok (.agg ⟨[.int .i64 k,.int .i64 n,.string ⟨#[]⟩,.slice none 0 0]⟩) w:=ZT zeroValue82 runUnderlying82 Cj (by kernel_rfl)
theorem RZ (k n:Int) (t:ByteArray):∀ w,(Instr.build 82 ⟨[(0,.int .i64 k),(1,.int .i64 n),(2,.string t)]⟩).run prog w=.ok (.agg ⟨[.int .i64 k,.int .i64 n,.string t,.slice none 0 0]⟩) w:=ZT zeroValue82 runUnderlying82 Cj (by kernel_rfl)
theorem Hq (k:Int) (a:Option Addr) (n c:Nat):∀ w,(Instr.build 82 ⟨[(0,.int .i64 k),(3,.slice a n c)]⟩).run prog w=.ok (.agg ⟨[.int .i64 k,.int .i64 0,.string ⟨#[]⟩,.slice a n c]⟩) w:=ZT zeroValue82 runUnderlying82 Cj (by kernel_rfl)
theorem Ha {l:List Pt} {j:Nat} (h:j<l.length):WZ (l.take (j+1))=WZ (l.take j)++[itP l[j]]:=by
  induction l generalizing j with
  | nil=>simp at h
  | cons x l ih=>
    cases j with
    | zero=>simp [WZ]
    | succ j=>rw [take_succ_cons,take_succ_cons,WZ,WZ,ih (by simpa using h)];rfl
theorem I9 {l:List Tm} {j:Nat} (h:j<l.length):Wy (l.take (j+1))=Wy (l.take j)++[itT l[j]]:=by
  induction l generalizing j with
  | nil=>simp at h
  | cons x l ih=>
    cases j with
    | zero=>simp [Wy]
    | succ j=>rw [take_succ_cons,take_succ_cons,Wy,Wy,ih (by simpa using h)];rfl
theorem Hb {l:List (Pt×Tm)} {j:Nat} (h:j<l.length):Vm (l.take (j+1))=Vm (l.take j)++[.mk 20 0 ⟨#[]⟩ [itP l[j].1,itT l[j].2]]:=by
  induction l generalizing j with
  | nil=>simp at h
  | cons x l ih=>
    obtain ⟨p,t⟩:=x
    cases j with
    | zero=>simp [Vm]
    | succ j=>rw [take_succ_cons,take_succ_cons,Vm,Vm,ih (by simpa using h)];rfl
theorem MG (l:List Pt):(WZ l).length=l.length:=by
  induction l with
  | nil=>rw [WZ];rfl
  | cons x l ih=>rw [WZ,length_cons,ih,length_cons]
theorem Pe (l:List Tm):(Wy l).length=l.length:=by
  induction l with
  | nil=>rw [Wy];rfl
  | cons x l ih=>rw [Wy,length_cons,ih,length_cons]
theorem MH (l:List (Pt×Tm)):(Vm l).length=l.length:=by
  induction l with
  | nil=>rw [Vm];rfl
  | cons x l ih=>obtain ⟨p,t⟩:=x;rw [Vm,length_cons,ih,length_cons]
theorem F7 {l:List Pt} (h:Y4 (WZ l)) {j:Nat} (hj:j<l.length):gdI (itP l[j]):=by
  induction l generalizing j with
  | nil=>simp at hj
  | cons x l ih=>
    rw [WZ,Y4] at h
    cases j with
    | zero=>exact h.1
    | succ j=>exact ih h.2 (by simpa using hj)
theorem He {a b:List It} (h:Y4 (a++b)):Y4 a∧Y4 b:=by
  induction a with
  | nil=>exact ⟨by rw [Y4];trivial,h⟩
  | cons x a ih=>rw [cons_append,Y4] at h;rw [Y4];have:=ih h.2;exact ⟨⟨h.1,this.1⟩,this.2⟩
theorem F6 {l:List Tm} (h:Y4 (Wy l)) {j:Nat} (hj:j<l.length):gdI (itT l[j]):=by
  induction l generalizing j with
  | nil=>simp at hj
  | cons x l ih=>
    rw [Wy,Y4] at h
    cases j with
    | zero=>exact h.1
    | succ j=>exact ih h.2 (by simpa using hj)
theorem F8 {l:List (Pt×Tm)} (h:Y4 (Vm l)) {j:Nat} (hj:j<l.length):gdI (itP l[j].1)∧gdI (itT l[j].2):=by
  induction l generalizing j with
  | nil=>simp at hj
  | cons x l ih=>
    obtain ⟨p,t⟩:=x
    rw [Vm,Y4,gdI,Y4,Y4] at h
    cases j with
    | zero=>exact ⟨h.1.2.2.2.1,h.1.2.2.2.2.1⟩
    | succ j=>exact ih h.2 (by simpa using hj)
theorem Dt {a b:It} {v:Value} {c1 c2:List Value} {kr k1 k2:Zf} (ho:Own 82 4 v [c1,c2] kr) (h1:OIt a c1 k1) (h2:OIt b c2 k2):OIt (.mk 20 0 ⟨#[]⟩ [a,b]) (pkI 20 0 ⟨#[]⟩ v) (kr++(k1++k2)):=by
  refine OIt_mk.2 ⟨v,[c1,c2],kr,k1++k2,rfl,by unfold inI;omega,by unfold inI;omega,ho,?_,rfl,by simp⟩
  have:=OIts.snoc h2 (OIts.snoc h1 OIts.nil)
  simpa using this
theorem Ew {l:List It}:∀ {x:It},x∈l→dpI x≤X6 l:=by
  induction l with
  | nil=>intro x hx;cases hx
  | cons y l ih=>
    intro x hx
    rw [X6]
    rcases mem_cons.1 hx with rfl | hx
    · omega
    · have:=ih hx;omega
theorem DJ (b:Bool) (s:ByteArray):cond b s (⟨#[]⟩:ByteArray)=if b=true then s else ⟨#[]⟩:=by cases b <;> rfl
theorem Az (p:Prop) [Decidable p] (s:ByteArray):cond (decide p) s (⟨#[]⟩:ByteArray)=if p then s else ⟨#[]⟩:=by by_cases h:p <;> simp [h]
section
variable {l q:List Int}
end
theorem ZbZ (x:It):gdI x→∀ y∈Yf x,0≤y∧y≤255:=by
  induction x using It.ind with
  | h k n t kids ih=>
    intro h
    rw [gdI] at h
    have hK:∀ l:List It,(∀ x∈l,gdI x→∀ y∈Yf x,0≤y∧y≤255)→Y4 l→∀ y∈YW l,0≤y∧y≤255:=by
      intro l
      induction l with
      | nil=>intro _ _ y hy;rw [YW] at hy;cases hy
      | cons x l ihl=>
        intro hl hg y hy
        rw [Y4] at hg
        rw [YW] at hy
        rcases mem_append.1 hy with hy | hy
        · exact hl x (by simp) hg.1 y hy
        · exact ihl (fun z hz=>hl z (by simp [hz])) hg.2 y hy
    intro y hy
    rw [Yf] at hy
    rcases mem_cons.1 hy with rfl | hy
    · unfold hdE
      split <;> split <;> omega
    · rcases mem_append.1 hy with hy | hy
      · exact L4 _ y hy
      · rcases mem_append.1 hy with hy | hy
        · unfold txE at hy
          split at hy
          · cases hy
          · rcases mem_append.1 hy with hy | hy
            · exact L4 _ y hy
            · unfold sB at hy
              obtain ⟨b,_,rfl⟩:=mem_map.1 hy
              have:=b.toNat_lt
              omega
        · split at hy
          · cases hy
          · rcases mem_append.1 hy with hy | hy
            · exact L4 _ y hy
            · exact hK kids ih h.2.2.2 y hy
section
attribute [local irreducible] JL J CT wlo DT
theorem QQ (has:Bool) (s:Sm) (H:Heap):CT prog 192 ⟨[.bool has,.agg ⟨sC s⟩]⟩ [] H (fun r N=>r=.string (cond has (txS s) ⟨#[]⟩)∧N=[]):=by
 refine Zl func192 rfl rfl<|Zd<|JLr (Zr (l:=sC s) rfl rfl fun b1=>JAn rfl<|Zg<|Zd<|JLM rfl<|JLn (Pu.not rfl)<|Za<|Zt rfl (fun h2=>?_) (fun h2=>?_))
 ·replace h2:=nt h2
  refine Zd<|JAn rfl<|ZE (.string (⟨#[]⟩)) [] Sub.nil (?_)
  exact ⟨by rw [h2];rfl,rfl⟩
 replace h2:=nf h2
 refine Zo<|Zd<|JLq (.slice (some ⟨b1,0,none⟩) 32 32) (Zdo runUnderlying38 sizeOf5 rfl)<|JLr (Lv 0 rfl YV Ru5 runUnderlying9 rfl<|JAn rfl<|ZE (.string (txS s)) [] Sub.nil (?_))
 exact ⟨by rw [h2];rfl,rfl⟩
set_option maxHeartbeats 2000000 in
theorem G9:∀ (p:Pt) (cs:List Value) (H:Heap),RP H cs p→sizeP p≤1000000→gdI (itP p)→CT prog 194 ⟨[.agg ⟨cs⟩]⟩ [] H (fun r N=>∃ cs k,r=.agg ⟨cs⟩∧N=[k]∧OIt (itP p) cs k):=by
 intro p
 induction p using Pt.ind with
 | h kind num ref kids ih=>
 intro cs H hp hz hg
 obtain ⟨ks,rfl,hk,hn,hks⟩:=RP_mk.1 hp
 rw [sizeP] at hz
 rw [itP,gdI] at hg
 have hle:=hks.le
 have hkl:=TJ kids
 refine Zl func194 rfl rfl<|Zd<|JLr (Zr (l:=pkP kind num ref ks) rfl rfl fun b1=>JLr (Zk (l:=[iv 0,iv 0,.string (⟨#[]⟩),nS]) zeroValue82 rfl fun b2=>Za<|Zg<|ZM mixed #[0,1,3,0,8,0,32,96,0,256,992,2047,0,8191] 13 [some 6,some 7,some 8,some 9,some 10,some 11,some 12,some 13,some 14,some 15,some 16,some 17,some 3] [] [(10,fun _ _ vw qw=>vw=.string (cond (decide (kind=3)) (txS ref) ⟨#[]⟩)∧qw=[]),(12,L6 82 ([iv 0,iv 0,.string (⟨#[]⟩),nS]))] rfl (by kernel_rfl) rfl (by kernel_rfl)<|Dq (pp b1 0) (fun _=>Xa rfl rfl)<|Dl1 ty3 (ZcK 1 rfl) (Wu ..) ?_))
 refine Dn (fun _=>ZcV rfl rfl (by first | omega | (constructor <;> omega)))<|Dq (pp b1 1) (fun _=>WE rfl rfl)<|Dl1 ty3 (ZcK 1 rfl) (Sa ..)<|Dq (pp b1 0) (fun _=>Xa rfl rfl)<|Dl1 ty3 (ZcK 1 rfl) (Wu ..)<|Dn (fun _=>Pu.eql rfl rfl)<|Dq (pp b1 2) (fun _=>SH rfl rfl)<|Dl Yv (ZcK 1 rfl) (Mk ..)<|Dc rfl call192 (fun _=>rfl) (fun hin=>QQ _ _ _) ?_
 rintro _ _ ⟨rfl,rfl⟩
 refine Dq (.agg ⟨[iv (30+kind),iv num,.string (cond (decide (kind=3)) (txS ref) ⟨#[]⟩),nS]⟩) (fun _=>Pu.build (pv:=[(0,iv (30+kind)),(1,iv num),(2,.string (cond (decide (kind=3)) (txS ref) ⟨#[]⟩))]) (l:=[iv (30+kind),iv num,.string (cond (decide (kind=3)) (txS ref) ⟨#[]⟩),nS]) rfl (RZ _ _ _))<|Da zeroValue82 rfl fun b4=>ZX (M':=[(BX b4 [iv 0,iv 0,.string (⟨#[]⟩),nS] 82),(BX b2 [iv 0,iv 0,.string (⟨#[]⟩),nS] 82),(BX b1 (pkP kind num ref ks) 115)]) rfl ?_
 show JL _ _ _ [_] _ _ _
 refine JLr (Zb 0 (vs:=[iv (30+kind),iv num,.string (cond (decide (kind=3)) (txS ref) ⟨#[]⟩),nS]) (l:=[iv (30+kind),iv num,.string (cond (decide (kind=3)) (txS ref) ⟨#[]⟩),nS]) XY rfl rfl rfl rfl rfl (Zh rfl (Zh rfl (Zh rfl (Zh rfl Zq)))) rfl<|Za<|Zg<|Zd<|JLq (pp b1 34) (YG rfl rfl)<|JLr (Zc XF rfl (ZcK 2 rfl) (XO ..) ?_))
 obtain ⟨a5,cap5,hv5⟩:=hks.sl
 have hle5:=hks.le
 refine JLn (ZcM YX hv5)<|JLM rfl<|Za<|Zm<|ZD (fun k ρ M=>∃ (j:Nat) (y1y:Value) (es1s:List (List Value)) (q1a q1b:Zf),Z7 ρ [(2,pp b2 0),(3,pp b4 0),(19,ks),(20,iv ((kids.length:Int))),(21,iv ((j:Int)))]=ρ∧Sub [(BX b4 [iv (30+kind),iv num,.string (cond (decide (kind=3)) (txS ref) ⟨#[]⟩),y1y] 82),q1a,q1b,(BX b2 [iv 0,iv 0,.string (⟨#[]⟩),nS] 82),(BX b1 (pkP kind num ref ks) 115)] M∧j≤kids.length∧Own 82 4 y1y es1s q1a∧OIts (WZ (kids.take j)) es1s q1b∧k=kids.length-j) _ ⟨0,nS,[],[],[],Zp rfl,(Sk (ZcL (ZcL (Sk (Sk Sub.nil))))),Nat.zero_le _,Own.nil,(by simpa [WZ,Wy] using OIts.nil),rfl⟩ ?_
 rintro _ ρ6 _ ⟨j,y1y,es1s,q1a,q1b,e7,hm12,hj,how1w,hop1p,rfl⟩
 obtain ⟨ρ13,rfl⟩:=Zi e7
 clear e7
 refine ZF hm12<|Zd<|JLn (Pu.lss rfl rfl)<|Za<|Zg<|ZN rfl (fun h14=>?_) (fun h14=>?_)
 ·have h14n:j<kids.length:=by omega
  have hs1:=Tx _ (getElem_mem h14n)
  have hel:=U1 hop1p
  have hgj:=F7 hg.2.2.2 h14n
  rw [MG,length_take,Nat.min_eq_left (by omega)] at hel
  refine Zo<|Zg<|Zm<|Zg<|Ze ?_
  obtain ⟨b15,o15,cap15,row15,T15,fr15,cs15,hv15,hb15,hs15,hE15⟩:=hks.get j (by omega)
  refine JLn (Pu.idx j YX ZO hv15 rfl rfl (by omega))<|JLr (Zn ZO rfl (ZcN hb15) hs15<|JLr (Zk (l:=pkP 0 0 zS nS) zeroValue115 rfl fun b16=>JLr (Zb 0 (vs:=cs15) (l:=cs15) ZO rfl rfl rfl rfl (ZL hE15) (W3 hE15) (ZY (n:=35) rfl (ZL hE15))<|Za<|ZM mixed #[0,1,0,4,12,31,63,127] 5 (sm 25 5) [] [(3,fun _ _ vw qw=>∃ cs k,vw=.agg ⟨cs⟩∧qw=[k]∧OIt (itP (kids[j])) cs k),(4,fun r _ vw qw=>∃ b k,vw=.slice (some ⟨b,0,none⟩) 1 1∧qw=[k]∧Own 82 4 (.slice (some ⟨b,0,none⟩) 1 1) [(cel (r 3))] k∧k=(BX b (flatten [(cel (r 3))]) 82))] rfl (by kernel_rfl) rfl (by kernel_rfl)<|Dq (pp b4 3) (fun _=>Ws rfl rfl)<|Dl1 S8 (ZcK 1 rfl) rfl<|Dl ZO (ZcK 0 rfl) (Zx (ZL hE15)) ?_)))
  refine Dc rfl call194 (fun _=>rfl) (fun hin=>ih _ (getElem_mem h14n) _ _ (RP.mono (Hle.hu _ _) hE15) (by omega) hgj) ?_
  rintro _ _ ⟨cs19,k19,rfl,rfl,hO19⟩
  refine Dr rfl (fun _=>Zj (vs:=[.agg ⟨cs19⟩]) [cs19] Uk NE rfl rfl (al1 hO19.len) rfl (by decide) fun b k h1 h2=>⟨[k],by rw [Yd rfl];exact Sub.refl,b,k,rfl,rfl,h1,h2⟩) (fun _ _ ⟨b20,k20,e1,e2,ho20,hk20⟩=>?_);subst e1 e2
  refine ZX (M':=[k20,k19,(BX b16 cs15 115),(BX b4 [iv (30+kind),iv num,.string (cond (decide (kind=3)) (txS ref) ⟨#[]⟩),y1y] 82),q1a,q1b,(BX b2 [iv 0,iv 0,.string (⟨#[]⟩),nS] 82),(BX b1 (pkP kind num ref ks) 115)]) rfl ?_
  show JL _ _ _ [_,_,_] _ _ _
  have hlens21:∀ e∈([cs19]:List (List Value)),List.length e=4:=al1 hO19.len
  have hoks21:∀ e∈([cs19]:List (List Value)),okc e:=al1 hO19.ok
  refine JLr (ZA (i:=4) (n:=1) (es':=[cs19]) Uk Uk (Or.inl rfl) NE rfl rfl rfl how1w (fun F w m=>Src.row (((ZcS 0 rfl (by rw [hk20];exact mem_cons_self))).heap m) (Zx (Zw hlens21))) rfl hlens21 hoks21 (by decide) (by omega) fun v21 k21 ho21=>JLq (pp b4 3) (Ws rfl rfl)<|JLr (Zb 3 (vs:=[v21]) (l:=[iv (30+kind),iv num,.string (cond (decide (kind=3)) (txS ref) ⟨#[]⟩),v21]) S8 rfl rfl rfl (ZH ho21.one) rfl (Zh ho21.one Zq) rfl<|Za<|Ze<|JLn (ZcP rfl rfl (by omega))<|JLM rfl<|Za<|⟨_,?_,(j+1),v21,(es1s++[cs19]),k21,(q1b++k19),Zp rfl,(Sd (Sub.cons 2 rfl (Sub.cons 2 rfl (ZcO (Sub.cons 2 rfl (Sk (Sd (Sk (Sk Sub.nil))))))))),?_,?_,?_,rfl⟩))
  ·omega
  ·omega
  ·exact ho21
  rw [Ha h14n];exact OIts.snoc hO19 hop1p
 have h14n:kids.length≤j:=by omega
 refine ZC _ rfl<|Zd<|JLr (Zn XY rfl (ZcK 0 rfl) rfl<|JLr (Zb 3 (vs:=[iv (30+kind),iv num,.string (cond (decide (kind=3)) (txS ref) ⟨#[]⟩),y1y]) (l:=[iv (30+kind),iv num,.string (cond (decide (kind=3)) (txS ref) ⟨#[]⟩),y1y]) XY rfl rfl rfl rfl rfl (Zh rfl (Zh rfl (Zh rfl (Zh how1w.one Zq)))) rfl<|Za<|Zz<|⟨.agg ⟨[iv (30+kind),iv num,.string (cond (decide (kind=3)) (txS ref) ⟨#[]⟩),y1y]⟩,[q1a++q1b],Ret.one rfl (RV.cell XY rfl (ZcK 3 rfl) rfl),(ZcO (Sd (Sk (Sk Sub.nil)))),?_⟩))
 rw [take_of_length_le h14n] at hop1p
 exact ⟨_,_,rfl,rfl,by rw [itP];(first | rw [← Az] | skip);exact OIt_mk.2 ⟨_,_,_,_,rfl,by unfold inI;omega,hn,how1w,hop1p,rfl,by rw [MG];omega⟩⟩
set_option maxHeartbeats 4000000 in
theorem Gl:∀ (t:Tm) (cs:List Value) (H:Heap),RT H cs t→sizeT t≤1000000→gdI (itT t)→CT prog 152 ⟨[.agg ⟨cs⟩]⟩ [] H (fun r N=>∃ cs k,r=.agg ⟨cs⟩∧N=[k]∧OIt (itT t) cs k):=by
 intro t
 induction t using Tm.ind with
 | h kind num ref kids cases ih ih'=>
 intro cs H hp hz hg
 obtain ⟨ks,cv,rfl,hk,hn,hks,hcv⟩:=RT_mk.1 hp
 rw [sizeT] at hz
 rw [itT,gdI] at hg
 obtain ⟨hg1,hg2⟩:=He hg.2.2.2
 have hle:=hks.le
 have hle2:=hcv.le
 have hkl:=XR kids
 have hcl:=WX cases
 refine Zl func152 rfl rfl<|Zd<|JLr (Zr (l:=pkT kind num ref ks cv) rfl rfl fun b1=>JLr (Zk (l:=[iv 0,iv 0,.string (⟨#[]⟩),nS]) zeroValue82 rfl fun b2=>Za<|Zg<|ZM mixed #[0,1,0,4,0,16,48,112,0,256,1008,2047,0,8191] 13 [some 8,some 9,some 10,some 11,some 12,some 13,some 14,some 15,some 16,some 17,some 18,some 19,some 3] [] [(6,fun _ _ vw qw=>vw=.agg ⟨[.bool (fN kind),.bool (fR kind),.bool (fC kind)]⟩∧qw=[]),(10,fun _ _ vw qw=>vw=.string (cond (fR kind) (txS ref) ⟨#[]⟩)∧qw=[]),(12,L6 82 ([iv 0,iv 0,.string (⟨#[]⟩),nS]))] rfl (by kernel_rfl) rfl (by kernel_rfl)<|Dq (pp b1 0) (fun _=>Yh rfl rfl)<|Dl1 ty3 (ZcK 1 rfl) (YE ..)<|Dq (pp b1 1) (fun _=>Y1 rfl rfl)<|Dl1 ty3 (ZcK 1 rfl) (XV ..)<|Dq (pp b1 0) (fun _=>Yh rfl rfl) ?_))
 refine Dl1 ty3 (ZcK 1 rfl) (YE ..)<|Dc rfl call193 (fun _=>rfl) (fun hin=>Ox _ _) ?_
 rintro _ _ ⟨rfl,rfl⟩
 refine Dq (.bool (fR kind)) (fun _=>ZdC 1 XI ty4 rfl rfl rfl (by decide) rfl)<|Dq (pp b1 2) (fun _=>TO rfl rfl)<|Dl Yv (ZcK 1 rfl) (QV ..)<|Dc rfl call192 (fun _=>rfl) (fun hin=>QQ _ _ _) ?_
 rintro _ _ ⟨rfl,rfl⟩
 refine Dq (.agg ⟨[iv kind,iv num,.string (cond (fR kind) (txS ref) ⟨#[]⟩),nS]⟩) (fun _=>Pu.build (pv:=[(0,iv kind),(1,iv num),(2,.string (cond (fR kind) (txS ref) ⟨#[]⟩))]) (l:=[iv kind,iv num,.string (cond (fR kind) (txS ref) ⟨#[]⟩),nS]) rfl (RZ _ _ _))<|Da zeroValue82 rfl fun b4=>ZX (M':=[(BX b4 [iv 0,iv 0,.string (⟨#[]⟩),nS] 82),(BX b2 [iv 0,iv 0,.string (⟨#[]⟩),nS] 82),(BX b1 (pkT kind num ref ks cv) 51)]) rfl ?_
 show JL _ _ _ [_] _ _ _
 refine JLr (Zb 0 (vs:=[iv kind,iv num,.string (cond (fR kind) (txS ref) ⟨#[]⟩),nS]) (l:=[iv kind,iv num,.string (cond (fR kind) (txS ref) ⟨#[]⟩),nS]) XY rfl rfl rfl rfl rfl (Zh rfl (Zh rfl (Zh rfl (Zh rfl Zq)))) rfl<|Za<|Zg<|Zd<|JLq (pp b1 34) (YS rfl rfl)<|JLr (Zc XE rfl (ZcK 2 rfl) (Xq ..) ?_))
 obtain ⟨a5,cap5,hv5⟩:=hks.sl
 have hle5:=hks.le
 refine JLn (ZcM ZI hv5)<|JLM rfl<|Za<|Zm<|ZD (fun k ρ M=>∃ (j:Nat) (y1y:Value) (es1s:List (List Value)) (q1a q1b:Zf),Z7 ρ [(1,pp b1 0),(2,pp b2 0),(3,pp b4 0),(21,ks),(22,iv ((kids.length:Int))),(23,iv ((j:Int)))]=ρ∧Sub [(BX b4 [iv kind,iv num,.string (cond (fR kind) (txS ref) ⟨#[]⟩),y1y] 82),q1a,q1b,(BX b2 [iv 0,iv 0,.string (⟨#[]⟩),nS] 82),(BX b1 (pkT kind num ref ks cv) 51)] M∧j≤kids.length∧Own 82 4 y1y es1s q1a∧OIts (Wy (kids.take j)) es1s q1b∧k=kids.length-j) _ ⟨0,nS,[],[],[],Zp rfl,(Sk (ZcL (ZcL (Sk (Sk Sub.nil))))),Nat.zero_le _,Own.nil,(by simpa [WZ,Wy] using OIts.nil),rfl⟩ ?_
 rintro _ ρ6 _ ⟨j,y1y,es1s,q1a,q1b,e7,hm13,hj,how1w,hop1p,rfl⟩
 obtain ⟨ρ14,rfl⟩:=Zi e7
 clear e7
 refine ZF hm13<|Zd<|JLn (Pu.lss rfl rfl)<|Za<|Zg<|ZN rfl (fun h15=>?_) (fun h15=>?_)
 ·have h15n:j<kids.length:=by omega
  have hs1:=YR _ (getElem_mem h15n)
  have hel:=U1 hop1p
  have hgj:=F6 hg1 h15n
  rw [Pe,length_take,Nat.min_eq_left (by omega)] at hel
  refine Zo<|Zg<|Zm<|Zg<|Ze ?_
  obtain ⟨b16,o16,cap16,row16,T16,fr16,cs16,hv16,hb16,hs16,hE16⟩:=hks.get j (by omega)
  refine JLn (Pu.idx j ZI Zu hv16 rfl rfl (by omega))<|JLr (Zn Zu rfl (ZcN hb16) hs16<|JLr (Zk (l:=pkT 0 0 zS nS nS) zeroValue51 rfl fun b17=>JLr (Zb 0 (vs:=cs16) (l:=cs16) Zu rfl rfl rfl rfl (Zy hE16) (Y5 hE16) (ZY (n:=36) rfl (Zy hE16))<|Za<|ZM mixed #[0,1,0,4,12,31,63,127] 5 (sm 27 5) [] [(3,fun _ _ vw qw=>∃ cs k,vw=.agg ⟨cs⟩∧qw=[k]∧OIt (itT (kids[j])) cs k),(4,fun r _ vw qw=>∃ b k,vw=.slice (some ⟨b,0,none⟩) 1 1∧qw=[k]∧Own 82 4 (.slice (some ⟨b,0,none⟩) 1 1) [(cel (r 3))] k∧k=(BX b (flatten [(cel (r 3))]) 82))] rfl (by kernel_rfl) rfl (by kernel_rfl)<|Dq (pp b4 3) (fun _=>Ws rfl rfl)<|Dl1 S8 (ZcK 1 rfl) rfl<|Dl Zu (ZcK 0 rfl) (Zx (Zy hE16)) ?_)))
  refine Dc rfl call152 (fun _=>rfl) (fun hin=>ih _ (getElem_mem h15n) _ _ (RT.mono (Hle.hu _ _) hE16) (by omega) hgj) ?_
  rintro _ _ ⟨cs20,k20,rfl,rfl,hO20⟩
  refine Dr rfl (fun _=>Zj (vs:=[.agg ⟨cs20⟩]) [cs20] Uk NE rfl rfl (al1 hO20.len) rfl (by decide) fun b k h1 h2=>⟨[k],by rw [Yd rfl];exact Sub.refl,b,k,rfl,rfl,h1,h2⟩) (fun _ _ ⟨b21,k21,e1,e2,ho21,hk21⟩=>?_);subst e1 e2
  refine ZX (M':=[k21,k20,(BX b17 cs16 51),(BX b4 [iv kind,iv num,.string (cond (fR kind) (txS ref) ⟨#[]⟩),y1y] 82),q1a,q1b,(BX b2 [iv 0,iv 0,.string (⟨#[]⟩),nS] 82),(BX b1 (pkT kind num ref ks cv) 51)]) rfl ?_
  show JL _ _ _ [_,_,_] _ _ _
  have hlens22:∀ e∈([cs20]:List (List Value)),List.length e=4:=al1 hO20.len
  have hoks22:∀ e∈([cs20]:List (List Value)),okc e:=al1 hO20.ok
  refine JLr (ZA (i:=4) (n:=1) (es':=[cs20]) Uk Uk (Or.inl rfl) NE rfl rfl rfl how1w (fun F w m=>Src.row (((ZcS 0 rfl (by rw [hk21];exact mem_cons_self))).heap m) (Zx (Zw hlens22))) rfl hlens22 hoks22 (by decide) (by omega) fun v22 k22 ho22=>JLq (pp b4 3) (Ws rfl rfl)<|JLr (Zb 3 (vs:=[v22]) (l:=[iv kind,iv num,.string (cond (fR kind) (txS ref) ⟨#[]⟩),v22]) S8 rfl rfl rfl (ZH ho22.one) rfl (Zh ho22.one Zq) rfl<|Za<|Ze<|JLn (ZcP rfl rfl (by omega))<|JLM rfl<|Za<|⟨_,?_,(j+1),v22,(es1s++[cs20]),k22,(q1b++k20),Zp rfl,(Sd (Sub.cons 2 rfl (Sub.cons 2 rfl (ZcO (Sub.cons 2 rfl (Sk (Sd (Sk (Sk Sub.nil))))))))),?_,?_,?_,rfl⟩))
  ·omega
  ·omega
  ·exact ho22
  rw [I9 h15n];exact OIts.snoc hO20 hop1p
 have h15n:kids.length≤j:=by omega
 refine ZC _ rfl<|Zg<|Zd<|JLq (pp b1 35) (Y0 rfl rfl)<|JLr (Zc WN rfl (ZcK 4 rfl) (XA ..) ?_)
 obtain ⟨a23,cap23,hv23⟩:=hcv.sl
 have hle23:=hcv.le
 refine JLn (ZcM Xp hv23)<|JLM rfl<|Za<|Zm<|ZD (fun k ρ M=>∃ (j:Nat) (y2y:Value) (es2s:List (List Value)) (q2a q2b:Zf),Z7 ρ [(2,pp b2 0),(3,pp b4 0),(36,cv),(37,iv ((cases.length:Int))),(38,iv ((j:Int)))]=ρ∧Sub [(BX b4 [iv kind,iv num,.string (cond (fR kind) (txS ref) ⟨#[]⟩),y2y] 82),q2a,q2b,(BX b2 [iv 0,iv 0,.string (⟨#[]⟩),nS] 82),(BX b1 (pkT kind num ref ks cv) 51)] M∧j≤cases.length∧Own 82 4 y2y es2s q2a∧OIts (Wy kids++Vm (cases.take j)) es2s q2b∧k=cases.length-j) _ ⟨0,y1y,es1s,q1a,q1b,Zp rfl,(Sk (Sk (Sk (Sk (Sk Sub.nil))))),Nat.zero_le _,how1w,(by rw [take_of_length_le h15n] at hop1p;simpa [Vm] using hop1p),rfl⟩ ?_
 rintro _ ρ24 _ ⟨j,y2y,es2s,q2a,q2b,e25,hm30,hj,how2w,hop2p,rfl⟩
 obtain ⟨ρ31,rfl⟩:=Zi e25
 clear e25
 refine ZF hm30<|Zd<|JLn (Pu.lss rfl rfl)<|Za<|Zg<|ZN rfl (fun h32=>?_) (fun h32=>?_)
 ·have h32n:j<cases.length:=by omega
  have hs1:=WQ _ (getElem_mem h32n)
  have hel:=U1 hop2p
  have hgj:=F8 hg2 h32n
  rw [length_append,Pe,MH,length_take,Nat.min_eq_left (by omega)] at hel
  refine Zo<|Zg<|Zm<|Zg<|Ze ?_
  obtain ⟨b33,o33,cap33,row33,T33,fr33,cs33,hv33,hb33,hs33,hE33⟩:=hcv.get j (by omega)
  obtain ⟨ca33,cb33,rfl,hA33,hB33⟩:=hE33
  refine JLn (Pu.idx j Xp YD hv33 rfl rfl (by omega))<|JLr (Zn YD rfl (ZcN hb33) hs33<|JLr (Zk (l:=(pkP 0 0 zS nS)++(pkT 0 0 zS nS nS)) zeroValue117 rfl fun b34=>JLr (Zb 0 (vs:=ca33++cb33) (l:=ca33++cb33) YD rfl rfl rfl rfl (ZJ (ZL hA33) (Zy hB33)) (YB (W3 hA33) (Y5 hB33)) (ZY (n:=71) rfl (ZJ (ZL hA33) (Zy hB33)))<|Za<|ZM mixed #[0,1,0,4,12,0,32,124,252,508,1020,2047,4095,8191] 11 (sm 42 11) [] [(4,fun _ _ vw qw=>∃ cs k,vw=.agg ⟨cs⟩∧qw=[k]∧OIt (itP (cases[j].1)) cs k),(7,fun _ _ vw qw=>∃ cs k,vw=.agg ⟨cs⟩∧qw=[k]∧OIt (itT (cases[j].2)) cs k),(8,fun r _ vw qw=>∃ b k,vw=.slice (some ⟨b,0,none⟩) 2 2∧qw=[k]∧Own 82 4 (.slice (some ⟨b,0,none⟩) 2 2) [(cel (r 4)),(cel (r 7))] k∧k=(BX b (flatten [(cel (r 4)),(cel (r 7))]) 82)),(10,fun r _ vw qw=>∃ b k,vw=.slice (some ⟨b,0,none⟩) 1 1∧qw=[k]∧Own 82 4 (.slice (some ⟨b,0,none⟩) 1 1) [[iv 20,iv 0,.string (⟨#[]⟩),.slice (some ⟨(Y3 (r 8)),0,none⟩) 2 2]] k∧k=(BX b (flatten [[iv 20,iv 0,.string (⟨#[]⟩),.slice (some ⟨(Y3 (r 8)),0,none⟩) 2 2]]) 82))] rfl (by kernel_rfl) rfl (by kernel_rfl)<|Dq (pp b4 3) (fun _=>Ws rfl rfl)<|Dl1 S8 (ZcK 1 rfl) rfl<|Dq (pp b34 0) (fun _=>WD rfl rfl)<|Dl ZO (ZcK 0 rfl) (Va (ZL hA33)) ?_)))
  refine Dc rfl call194 (fun _=>rfl) (fun hin=>G9 _ _ _ (RP.mono (Hle.hu _ _) hA33) (by omega) hgj.1) ?_
  rintro _ _ ⟨cs39,k39,rfl,rfl,hO39⟩
  refine Dq (pp b34 35) (fun _=>WC rfl rfl)<|Dl Zu (ZcK 0 rfl) (Vt (ZL hA33) (Zy hB33)) ?_
  refine Dc rfl call152 (fun _=>rfl) (fun hin=>ih' _ (getElem_mem h32n) _ _ (RT.mono (Hle.hu _ _) hB33) (by omega) hgj.2) ?_
  rintro _ _ ⟨cs40,k40,rfl,rfl,hO40⟩
  refine Dr rfl (fun _=>Zj (vs:=[.agg ⟨cs39⟩,.agg ⟨cs40⟩]) [cs39,cs40] Uk NE rfl rfl (alc hO39.len (al1 hO40.len)) rfl (by decide) fun b k h1 h2=>⟨[k],by rw [Yd rfl];exact Sub.refl,b,k,rfl,rfl,h1,h2⟩) (fun _ _ ⟨b41,k41,e1,e2,ho41,hk41⟩=>?_);subst e1 e2
  refine Dq (.agg ⟨[iv 20,iv 0,.string (⟨#[]⟩),.slice (some ⟨b41,0,none⟩) 2 2]⟩) (fun _=>Pu.build (pv:=[(0,iv 20),(3,.slice (some ⟨b41,0,none⟩) 2 2)]) (l:=[iv 20,iv 0,.string (⟨#[]⟩),.slice (some ⟨b41,0,none⟩) 2 2]) rfl (Hq _ _ _ _))<|Dr rfl (fun _=>Zj (vs:=[.agg ⟨[iv 20,iv 0,.string (⟨#[]⟩),.slice (some ⟨b41,0,none⟩) 2 2]⟩]) [[iv 20,iv 0,.string (⟨#[]⟩),.slice (some ⟨b41,0,none⟩) 2 2]] Uk NE rfl rfl (al1 rfl) rfl (by decide) fun b k h1 h2=>⟨[k],by rw [Yd rfl];exact Sub.refl,b,k,rfl,rfl,h1,h2⟩) (fun _ _ ⟨b42,k42,e1,e2,ho42,hk42⟩=>?_);subst e1 e2
  refine ZX (M':=[k42,k41,k40,k39,(BX b34 (ca33++cb33) 117),(BX b4 [iv kind,iv num,.string (cond (fR kind) (txS ref) ⟨#[]⟩),y2y] 82),q2a,q2b,(BX b2 [iv 0,iv 0,.string (⟨#[]⟩),nS] 82),(BX b1 (pkT kind num ref ks cv) 51)]) rfl ?_
  show JL _ _ _ [_,_,_] _ _ _
  have hlens43:∀ e∈([[iv 20,iv 0,.string (⟨#[]⟩),.slice (some ⟨b41,0,none⟩) 2 2]]:List (List Value)),List.length e=4:=al1 rfl
  have hoks43:∀ e∈([[iv 20,iv 0,.string (⟨#[]⟩),.slice (some ⟨b41,0,none⟩) 2 2]]:List (List Value)),okc e:=al1 (Zh rfl (Zh rfl (Zh rfl (Zh rfl Zq))))
  refine JLr (ZA (i:=6) (n:=1) (es':=[[iv 20,iv 0,.string (⟨#[]⟩),.slice (some ⟨b41,0,none⟩) 2 2]]) Uk Uk (Or.inl rfl) NE rfl rfl rfl how2w (fun F w m=>Src.row (((ZcS 0 rfl (by rw [hk42];exact mem_cons_self))).heap m) (Zx (Zw hlens43))) rfl hlens43 hoks43 (by decide) (by omega) fun v43 k43 ho43=>JLq (pp b4 3) (Ws rfl rfl)<|JLr (Zb 5 (vs:=[v43]) (l:=[iv kind,iv num,.string (cond (fR kind) (txS ref) ⟨#[]⟩),v43]) S8 rfl rfl rfl (ZH ho43.one) rfl (Zh ho43.one Zq) rfl<|Za<|Ze<|JLn (ZcP rfl rfl (by omega))<|JLM rfl<|Za<|⟨_,?_,(j+1),v43,(es2s++[[iv 20,iv 0,.string (⟨#[]⟩),.slice (some ⟨b41,0,none⟩) 2 2]]),k43,(q2b++(k41++(k39++k40))),Zp rfl,(Sd (Sub.cons 4 rfl (Sub.cons 4 rfl (Zc3 (Sub.cons 4 rfl (Sk (Sub.cons 1 rfl (Sk (Sd (Sk (Sk Sub.nil))))))))))),?_,?_,?_,rfl⟩))
  ·omega
  ·omega
  ·exact ho43
  rw [Hb h32n,← append_assoc];exact OIts.snoc (Dt ho41 hO39 hO40) hop2p
 have h32n:cases.length≤j:=by omega
 refine ZC _ rfl<|Zd<|JLr (Zn XY rfl (ZcK 0 rfl) rfl<|JLr (Zb 3 (vs:=[iv kind,iv num,.string (cond (fR kind) (txS ref) ⟨#[]⟩),y2y]) (l:=[iv kind,iv num,.string (cond (fR kind) (txS ref) ⟨#[]⟩),y2y]) XY rfl rfl rfl rfl rfl (Zh rfl (Zh rfl (Zh rfl (Zh how2w.one Zq)))) rfl<|Za<|Zz<|⟨.agg ⟨[iv kind,iv num,.string (cond (fR kind) (txS ref) ⟨#[]⟩),y2y]⟩,[q2a++q2b],Ret.one rfl (RV.cell XY rfl (ZcK 3 rfl) rfl),(ZcO (Sd (Sk (Sk Sub.nil)))),?_⟩))
 rw [take_of_length_le h32n] at hop2p
 exact ⟨_,_,rfl,rfl,by rw [itT,← Zam,← DJ];exact OIt_mk.2 ⟨_,_,_,_,rfl,hk,hn,how2w,hop2p,rfl,by rw [length_append,Pe,MH];omega⟩⟩
theorem F5 (t:Tm) (cs:List Value) (H:Heap) (ht:RT H cs t):CT prog 105 ⟨[.agg ⟨cs⟩]⟩ [] H (fun r N=>∃ cs k,r=.tuple ⟨[.agg ⟨cs⟩,iv (Wq [t])]⟩∧N=[k]∧OIt (if Wq [t]=0 then itT t else zI) cs k):=by
 refine Zl func105 rfl rfl<|Zd<|JLr (Zr (l:=cs) rfl rfl fun b1=>JLr (Zk (l:=[iv 0,iv 0,.string (⟨#[]⟩),nS]) zeroValue82 rfl fun b2=>JAn rfl<|Zg<|Zd<|JLr (Zn Zu rfl (ZcK 1 rfl) (Zx (Zy ht))<|JLr (Zj (vs:=[.agg ⟨cs⟩]) [cs] ZI YM rfl rfl (al1 (Zy ht)) rfl (by decide) fun b3 k3 ho3 hk3=>Jc call151 rfl (fun hin=>GT _ _ _ (ZdD ho3 (hin 0 _ rfl) (RT.mono (Hle.hu _ _) ht))) rfl ?_))))
 rintro _ _ ⟨rfl,rfl⟩
 refine JAn rfl<|Zd<|JLM rfl<|JLn (Pu.neq rfl rfl)<|Za<|Zt rfl (fun h4=>?_) (fun h4=>?_)
 ·replace h4:=nt h4
  replace h4:=df h4
  refine Zd<|JLq (.agg ⟨[iv 0,iv 0,.string (⟨#[]⟩),nS]⟩) (Pu.build (pv:=[]) (l:=[iv 0,iv 0,.string (⟨#[]⟩),nS]) rfl ZaO)<|JLM rfl<|JLr (Zb 1 (vs:=[iv 0,iv 0,.string (⟨#[]⟩),nS]) (l:=[iv 0,iv 0,.string (⟨#[]⟩),nS]) XY rfl rfl rfl rfl rfl (Zh rfl (Zh rfl (Zh rfl (Zh rfl Zq)))) rfl<|JAn rfl<|Zz<|⟨.tuple ⟨[.agg ⟨[iv 0,iv 0,.string (⟨#[]⟩),nS]⟩,iv (Wq [t])]⟩,[[]],ZcU rfl (RV.cell XY rfl (ZcK 1 rfl) rfl) (RV.tmp rfl),(ZcL Sub.nil),?_⟩)
  exact ⟨_,_,rfl,rfl,by rw [if_neg (by omega)];exact Dp⟩
 replace h4:=nf h4
 replace h4:=dt h4
 refine Zo<|Zg ?_
 have hr0:Wq [t]=0:=by omega
 have hck:ZG 60 8 t=0:=by rw [← QO];exact hr0
 have hsz:=(OG hck).1
 refine Ze<|JLr (Zn Zu rfl (ZcK 2 rfl) (Zx (Zy ht))<|Jc call152 rfl (fun hin=>Gl _ _ _ (RT.mono (Hle.hu _ _) ht) (by omega) (Mf hck).1) rfl ?_)
 rintro _ _ ⟨cs5,k5,rfl,rfl,hO5⟩
 refine JLr (Zb 2 (vs:=cs5) (l:=cs5) XY rfl rfl rfl rfl hO5.len hO5.ok (ZY (n:=4) rfl hO5.len)<|JAn rfl<|Zz<|⟨.tuple ⟨[.agg ⟨cs5⟩,iv 0]⟩,[k5],ZcU rfl (RV.cell XY rfl (ZcK 2 rfl) (Zx hO5.len)) (RV.tmp rfl),(Sk Sub.nil),?_⟩)
 exact ⟨_,_,by rw [hr0],rfl,by rw [if_pos hr0];exact hO5⟩
end
end Go.Proofs.YtjdjmjgleadcfaaGreatDoor.Hs
namespace Go.Proofs.YtjdjmjgleadcfaaGreatDoor
section
open Go Go.ChangeShapes Go.WideShapes
theorem By:ownKnob prog.godebug=none:=by kernel_rfl
theorem EV:Kids prog (· <prog.types.size):=kids_rows (by kernel_rfl) (by kernel_rfl)
theorem EW:∀ t e,t<prog.types.size→prog.underlying t=some (.slice e)→0<prog.cellsOf e:=slices_full_of prog (by kernel_rfl)
section
variable {H:Type} {enc:TypeId×Value→H} {P:Program} {w w':World} {base:Nat} {sp:Nat→Bool} {held:Bool}
theorem Uw:∀ {ts:List TypeId} {vs:List Value} {ds:List (DataW H)} {ps:List MemPlace},DataW.TrodAll enc P w base sp held ts vs ds ps→(∀ p∈ps,w.sameAt w' p)→DataW.TrodAll enc P w' base sp held ts vs ds ps
  | [],[],[],_,h,_=>h
  | _::_,_::_,_::_,_,⟨p,q,⟨n,h1⟩,h2,e⟩,hs=>
    ⟨p,q,⟨n,DataW.trod_carry n _ _ _ h1 (fun x hx=>hs x (by rw [e];exact List.mem_append_left _ hx))⟩,Uw h2 (fun x hx=>hs x (by rw [e];exact List.mem_append_right _ hx)),e⟩
theorem FR {f:Func} {s:ChangeSpec} {apart:Bool} {args:Array Value} {ds gs:List (DataW H)} {before:List MemPlace} (K:Kids P (· <P.types.size)) (hz:∀ t e,t<P.types.size→P.underlying t=some (.slice e)→0<P.cellsOf e)
    (hW:DataW.Whole enc P f.params.toList s.vars apart w args.toList ds gs before) (hv:s.vars=[]) (hp:∀ t∈f.params.toList,t<P.types.size) {tb:TypeId} (ht:f.resultTypes=#[tb]) (hb:P.underlying tb=some .bool)
    (hres:∀ l:List (DataW H),l.length=f.params.size→(s.fn H l).results=[.lit (.bool true)]) (hargs:∀ l:List (DataW H),l.length=f.params.size→(s.fn H l).args=l) (hvars:∀ l:List (DataW H),l.length=f.params.size→(s.fn H l).vars=[])
    (hh:∀ b,b<w.heap.size→w'.heap[b]?=w.heap[b]?) (ho:w'.os=w.os) (hout:w'.output=w.output):s.post enc P f apart true false false w args (.bool true) w':=by
  have hlt:=hW.lt
  have hW2:=hW
  obtain ⟨p,q,hA,hV,rfl,hfz,hnd⟩:=hW
  rw [hv] at hV
  obtain ⟨rfl,rfl⟩:gs=[]∧q=[]:=by
    cases gs with
    | nil=>exact ⟨rfl,hV⟩
    | cons g gs=>exact hV.elim
  have hlen:ds.length=f.params.size:=by have:=(trodAll_length hA).2;simpa using this
  have hsame:∀ x∈p,w.sameAt w' x:=fun x hx=>by
    have hb:=hlt x (by simpa using hx)
    cases x with
    | cell b off=>
      show w'.cell? ⟨b,off,none⟩=w.cell? ⟨b,off,none⟩
      have hb:b<w.heap.size:=hb
      unfold World.cell?
      simp only [hh b hb]
    | map b=>exact hh b hb
  refine ⟨ds,[],p++[],[],p,[],hW2,?_,?_,?_,?_,fun h=>by cases h⟩
  · rw [append_nil,hres ds hlen,ht]
    exact trodAll_mk1 ⟨1,by simp [DataW.trod,hb,Value.cells]⟩
  · rw [append_nil,hargs ds hlen]
    refine Uw (DataW.TrodAll.respare K hz hp hA fun x hx=>?_) hsame
    simpa using hlt x (by simpa using hx)
  · rw [append_nil,hvars ds hlen,hv];rfl
  · refine ⟨ho,hout,fun i hi=>?_⟩
    rw [hh i hi]
    cases h:w.heap[i]? with
    | none=>rfl
    | some o=>cases o <;> simp
end
def UJ (W:World):Hs.Heap:=⟨fun b=>W.heap[b]?,W.os,W.output,W.tape,W.drawn⟩
theorem FQ (W:World):Hs.Mem W ([].flatten++[]) (UJ W):=⟨by simp,fun b o h=>by simp at h,fun b o h=>by simp at h,fun _ _ h=>h,rfl,rfl,rfl,Nat.le_refl _⟩
theorem I6 {P:Program} {f:FuncId} {args:Array Value} {W:World} (h:Hs.CT P f args [] (UJ W) (fun v N=>v=.bool true∧N=[])):
    Calls P f args W fun e W'=>e=.returned (.bool true)∧(∀ b,b<W.heap.size→W'.heap[b]?=W.heap[b]?)∧W'.os=W.os∧W'.output=W.output:=by
  refine callsIn_wide.1 ((h [] W (FQ W)).mono ?_)
  rintro e W' ⟨v,M',rfl,hm,rfl,rfl⟩
  refine ⟨rfl,fun b hb=>?_,hm.rest.1,hm.rest.2.1⟩
  rw [Array.getElem?_eq_getElem hb]
  exact hm.imm b _ (Array.getElem?_eq_getElem hb)
end
end Go.Proofs.YtjdjmjgleadcfaaGreatDoor
namespace Go.Proofs.YtjdjmjgleadcfaaGreatDoor.Hs
theorem w8b {n:Int} (h:0≤n∧n<256):IntKind.u8.wrap n=n:=by
  have e:IntKind.u8.wrap n=n % 256:=rfl
  rw [e];omega
theorem Zcg {m:Nat} (h:m≤4611686018427387904):IntKind.i64.wrap ((BitVec.ofInt IntKind.i64.bits (m:Int) &&& BitVec.ofInt IntKind.i64.bits 127).toNat:Int)=((m % 128:Nat):Int):=by
  rw [show (127:Int)=((127:Nat):Int) from rfl,show IntKind.i64.bits=64 from rfl,BitVec.ofInt_natCast,BitVec.ofInt_natCast,BitVec.toNat_and,BitVec.toNat_ofNat,BitVec.toNat_ofNat,Nat.mod_eq_of_lt (by omega),Nat.mod_eq_of_lt (by omega)]
  have h2:=Nat.and_two_pow_sub_one_eq_mod m 7
  rw [show (2:Nat) ^ 7-1=127 from rfl,show (2:Nat) ^ 7=128 from rfl] at h2
  rw [h2]
  exact w64 (by omega)
theorem Zcu {x:Nat} (h:x<128):IntKind.i64.wrap ((BitVec.ofInt IntKind.i64.bits (x:Int) ||| BitVec.ofInt IntKind.i64.bits 128).toNat:Int)=((x+128:Nat):Int):=by
  have:=A0 (n:=(x:Int)) (x:=1) (i:=7) (by omega) (by omega) (by simp;omega) (by simp;omega)
  rw [show (1:Int)*2 ^ 7=128 from rfl] at this
  rw [this];omega
section
variable {P:Program} {e:Operand→Value} {d:Option Nat} {T:TypeId} {T':TypeId} {ot:TypeId} {pos:String} {af:Array Edge} {g:Option (Nat×Bool)} {x y:Operand}
theorem Zdh {k k':IntKind} {a b v:Int} (hx:e x=.int k a) (hy:e y=.int k' b) (h0:0≤b) (hv:a.fdiv (2 ^ (min b.toNat k.bits))=v):Pu P e ⟨d,.binOp .shr T x y T',ot,pos,af,g⟩ (.int k v):=fun w=>by
  simp only [execOp,hx,hy,eqGuard,binOp,Op.shift];simp [hv,show ¬ b<0 from by omega]
theorem Zbj (m:Nat):(m:Int).fdiv (2 ^ (min (7:Int).toNat IntKind.i64.bits))=((m / 128:Nat):Int):=by
  rw [show min (7:Int).toNat IntKind.i64.bits=7 from rfl,show ((2:Int) ^ 7)=((128:Nat):Int) from rfl]
  exact (Int.ofNat_fdiv m 128).symm
theorem Zdi {el:TypeId} (hT:∀ w,(underlying T).run P w=.ok (.slice el) w) (hx:e x=.slice none 0 0):Pu P e ⟨d,.call {callee:=.builtin .cap,args:=#[x],argTypes:=#[T]},ot,pos,af,g⟩ (.int .i64 0):=fun w=>by
  simp [execOp,resolve,invoke,builtin,hx,Builtin.cap_,hT,goInt]
theorem Zde {el:TypeId} {a:Option Addr} {n cap:Nat} {k:IntKind} (hT:∀ w,(underlying T).run P w=.ok (.slice el) w) (hsz:∀ w,(sizeOf el).run P w=.ok 1 w) (hx:e x=.slice a n cap) (hy:e y=.int k 0):
    Pu P e ⟨d,.slice T x none (some y) none,ot,pos,af,g⟩ (.slice a 0 cap):=fun w=>by
  have ea:(if cap=0 then a else a.map (·.add (0*1)))=a:=by
    cases a with
    | none=>simp
    | some a=>simp [Addr.add]
  simp [execOp,Instr.sliceAt,Instr.slice,Instr.sliceBounds,Instr.sliceBound,asIntOf,hx,hy,hT,hsz,Result.andThen]
  cases a with
  | none=>simp
  | some a=>simp [Addr.add]
end
def RBB (h:Heap) (cs:List Value) (l:List Int):Prop:=∃ v,cs=[v]∧Hs.rdS RB 1 h v l
theorem RBBs.mono {h h':Heap} (hh:Hle h h') {v:Value} {ll:List (List Int)} (q:Hs.rdS RBB 1 h v ll):Hs.rdS RBB 1 h' v ll:=rdS.mono q hh fun _ _ _ ⟨v,e,r⟩=>⟨v,e,RBs.mono hh r⟩
theorem Own.rdBB {T:TypeId} {v:Value} {es:List (List Value)} {k:Zf} {h:Heap} {ll:List (List Int)} (o:Own T 1 v es k) (hk:Has k h) (hl:ll.length=es.length) (hn:ll.length≤9223372036854775807) (hr:∀ i (h1:i<es.length) (h2:i<ll.length),RBB h es[i] ll[i]):Hs.rdS RBB 1 h v ll:=
  o.rdS hl hn hk hr
theorem Zdj {T:TypeId} {v a b:Value} {k:Zf} {h:Heap} {l m:List Int} (o:Own T 1 v [[a],[b]] k) (hk:Has k h) (h1:Hs.rdS RB 1 h a l) (h2:Hs.rdS RB 1 h b m):Hs.rdS RBB 1 h v [l,m]:=
  o.rdBB hk rfl (by simp) fun i hi _=>by
    have:i=0∨i=1:=by simp at hi;omega
    rcases this with rfl | rfl
    · exact ⟨a,rfl,h1⟩
    · exact ⟨b,rfl,h2⟩
theorem Zdx {T:TypeId} {v a b c d:Value} {k:Zf} {h:Heap} {l m n p:List Int} (o:Own T 1 v [[a],[b],[c],[d]] k) (hk:Has k h) (h1:Hs.rdS RB 1 h a l) (h2:Hs.rdS RB 1 h b m) (h3:Hs.rdS RB 1 h c n) (h4:Hs.rdS RB 1 h d p):Hs.rdS RBB 1 h v [l,m,n,p]:=
  o.rdBB hk rfl (by simp) fun i hi _=>by
    have:i=0∨i=1∨i=2∨i=3:=by simp at hi;omega
    rcases this with rfl | rfl | rfl | rfl
    · exact ⟨a,rfl,h1⟩
    · exact ⟨b,rfl,h2⟩
    · exact ⟨c,rfl,h3⟩
    · exact ⟨d,rfl,h4⟩
theorem Rt {ll:List (List Int)} {j:Nat} (h:j<ll.length):(ll.take (j+1)).flatten=(ll.take j).flatten++ll[j]:=by
  rw [take_succ_eq_append_getElem h,flatten_append];simp
theorem JS {ll:List (List Int)} {j:Nat} (h:j<ll.length):(ll.take j).flatten.length+ll[j].length≤ll.flatten.length:=by
  rw [← length_append,← Rt h]
  have:ll.flatten=(ll.take (j+1)).flatten++(ll.drop (j+1)).flatten:=by rw [← flatten_append,take_append_drop]
  rw [this,length_append];omega
theorem Fb {P:Program} {H:Heap} {T:TypeId} {v:Value} {l:List Int} {k:Zf} {M:List Zf} {i:Nat} (o:Own T 1 v (YU l) k) (hi:M[i]?=some k):∀ F w,Mem w (M.flatten++F) H→Src P 1 w v l.length (YU l).flatten:=by
  intro F w m
  rcases o.2 with ⟨e,e2,e3⟩ | ⟨b,cap,sp,e,e2,e3,e4⟩
  · have:l=[]:=by have:=Yu l;rw [e2] at this;exact eq_nil_of_length_eq_zero this.symm
    subst this
    rw [e];exact Src.nil
  · subst e
    have hb:w.heap[b]?=some (.cells ⟨(YU l).flatten++sp⟩ T (0,0)):=(ZcS (M:=M) (H:=H) i hi (by rw [e2];simp)).heap m
    have:=Src.row (P:=P) (cap:=cap) (n:=l.length) hb (by have:=N2 (sp:=sp) o.1;rwa [Yu] at this)
    rwa [Yu]
section
variable {c:Cx} {H:Heap} {ρ:Nat→Value} {M:List Zf} {K:Value→List Zf→Prop} {d:Option Nat} {ot:TypeId} {pos:String} {af:Array Edge} {g:Option (Nat×Bool)} {x y:Operand}
theorem NQ {T T' el:TypeId} {s:ByteArray} (hs:c.P.underlying T=some .string) (hd:c.P.underlying T'=some (.slice el)) (he:c.P.underlying el=some (.int .u8)) (hn:s.size≤9223372036854775807) (hx:ev c.n ρ x=.string s)
    (h:∀ v k,v.oneCell'=true→(∀ h,Has k h→Hs.rdS RB 1 h v (sB s))→K v (k::M)):Runs c H ⟨d,.convert T T' x,ot,pos,af,g⟩ ρ M K:=fun F w m=>by
  have hr:=run_bytes_of_string w T T' el s hs hd he
  refine ⟨_,w.drew.alloc (.cells (bytesRow s (grownCap w s.size 0 el)) el ((bytesRow s (grownCap w s.size 0 el)).size,(bytesRow s (grownCap w s.size 0 el)).size+1)),_,.inl ?_,?_,h (.slice (some ⟨w.heap.size,0,none⟩) s.size (grownCap w s.size 0 el)) [(w.heap.size,.cells (bytesRow s (grownCap w s.size 0 el)) el ((bytesRow s (grownCap w s.size 0 el)).size,(bytesRow s (grownCap w s.size 0 el)).size+1))] rfl ?_⟩
  · simp only [execOp,hx]
    simp only [Sem.run_bind,hr,Result.andThen_ok,Sem.run_pure]
  · exact m.push (w':=w.drew.alloc _) rfl
  · intro h hk
    have hb:=hk w.heap.size _ (mem_singleton.2 rfl)
    refine ⟨some ⟨w.heap.size,0,none⟩,grownCap w s.size 0 el,by rw [UA],by rw [UA];exact hn,.inr ⟨w.heap.size,0,(bytesRow s (grownCap w s.size 0 el)).toList,el,_,rfl,hb,rows.mk fun i hi=>⟨[.int .u8 (sB s)[i]],?_,rfl⟩⟩⟩
    have hl:i<s.data.toList.length:=by rw [UA] at hi;exact hi
    have e:(bytesRow s (grownCap w s.size 0 el)).toList=(sB s).map (fun n=>Value.int .u8 n)++replicate (grownCap w s.size 0 el-s.size) (.int .u8 0):=by
      unfold bytesRow sB
      simp [List.map_map]
    rw [e,show 0+i*1=i from by omega,Wp (by rw [length_append,length_map];omega)]
    congr 1
    rw [List.drop_append_of_le_length (by rw [length_map];omega),drop_eq_getElem_cons (by rw [length_map];exact hi),cons_append,take_succ_cons,List.take_zero,getElem_map]
theorem NS {T T₂ el:TypeId} {by_ n:Nat} {z:Value} {kd:IntKind} (hT:∀ w,(underlying T).run c.P w=.ok (.slice el) w) (hT₂:∀ w,(underlying T₂).run c.P w=.ok (.int kd) w) (hel:El c.P el 1 by_ z)
    (hx:ev c.n ρ x=.slice none 0 0) (hy:ev c.n ρ y=.int .i64 (n:Int)) (h0:0<n) (hb1:0<by_) (hb:n*by_≤140737488355328)
    (h:∀ b cap (Z:List Value),Z.length=cap→n≤cap→K (.slice (some ⟨b,0,none⟩) n cap) ([(b,.cells ⟨Z⟩ el (0,0))]::M)):
    Runs c H ⟨d,.call {callee:=.builtin .append,args:=#[x,y],argTypes:=#[T,T₂]},ot,pos,af,g⟩ ρ M K:=fun F w m=>by
  obtain ⟨ti,hti,hti1,hti2,hti3⟩:=hel.info
  have hnb:n≤140737488355328:=by
    have:n*1≤n*by_:=Nat.mul_le_mul_left _ hb1
    omega
  have hfit:=growslice_fits (need:=n) (old:=0) (bytes:=by_) h0 hb
  have h3:¬ (Builtin.nextslicecap n 0*by_>2 ^ 48):=by omega
  have h2:by_≠0:=by omega
  have w1:IntKind.i64.wrap (n:Int)=n:=w64 (by omega)
  have n1:¬ ((n:Int)<0):=by omega
  have n2:¬ ((n:Int)*(by_:Int)>2 ^ 48):=by
    have:((n*by_:Nat):Int)≤140737488355328:=by omega
    rw [Int.natCast_mul] at this
    rw [show (2:Int) ^ 48=281474976710656 from rfl];omega
  have n3:¬ (n≤0):=by omega
  have n4:n≠0:=by omega
  have n5:¬ ((n:Int)>IntKind.i64.max):=by
    have:IntKind.i64.max=9223372036854775807:=by decide
    omega
  let newCap:=grownCap w n 0 el
  have hcap:n≤newCap:=by simp only [newCap,grownCap,Question.cut];omega
  have hzz:∀ m,(Builtin.zeroCells z.cells m).size=m:=fun m=>by rw [Up,hel.zsz];omega
  have hrun:(execOp (ev c.n ρ) ⟨d,.call {callee:=.builtin .append,args:=#[x,y],argTypes:=#[T,T₂]},ot,pos,af,g⟩).run c.P w=
      .ok (.value (.slice (some ⟨w.heap.size,0,none⟩) n newCap)) (w.drew.alloc (.cells (#[]++Builtin.zeroCells z.cells n++Builtin.zeroCells z.cells (newCap-n)) el)):=by
    simp only [execOp,resolve,invoke,builtin,List.map_toArray,map_cons,map_nil,hx,hy,Sem.run_bind,Sem.run_pure,Result.andThen_ok,Builtin.append_]
    simp only [List.getElem?_toArray,getElem?_cons_zero,getElem?_cons_succ,Sem.run_bind,hT,hT₂,hel.size,Result.andThen_ok,Sem.run_pure,if_true,asInt,asIntOf,w1,n1,if_false,hti,hti2,Nat.zero_add,Bool.not_true,Bool.false_eq_true,Nat.mul_one,Builtin.firstCells,Sem.run_ite,n2,Int.toNat_natCast,n3,n5,h2,or_false,and_true,h3,run_choose,Question.forced,run_askRoom,n4,hel.zero,newRow,run_newObj]
    rfl
  refine ⟨_,_,[(w.heap.size,.cells (#[]++Builtin.zeroCells z.cells n++Builtin.zeroCells z.cells (newCap-n)) el (0,0))]::M,.inl hrun,m.push (w':=w.drew.alloc _) rfl,?_⟩
  have:=h w.heap.size newCap ((#[]++Builtin.zeroCells z.cells n++Builtin.zeroCells z.cells (newCap-n)):Array Value).toList (by simp [hzz];omega) hcap
  exact this
end
abbrev W32:=BitVec 32
abbrev uv (x:W32):Value:=.int .u32 (x.toNat:Int)
theorem Za3 {n:Int} (h:0≤n∧n<4294967296):IntKind.u32.wrap n=n:=by
  have e:IntKind.u32.wrap n=n % 4294967296:=rfl
  rw [e];omega
theorem Za2 (n:Nat):IntKind.u32.wrap (n:Int)=((n % 4294967296:Nat):Int):=by
  have e:IntKind.u32.wrap (n:Int)=(n:Int) % 4294967296:=rfl
  rw [e];omega
theorem ZbE (x:W32):BitVec.ofInt 32 (x.toNat:Int)=x:=by
  rw [BitVec.ofInt_natCast];simp
theorem L2 (x:W32):BitVec.ofInt IntKind.u32.bits (x.toNat:Int)=x:=ZbE x
theorem DD (x:W32):IntKind.u32.wrap (x.toNat:Int)=(x.toNat:Int):=Za3 ⟨by omega,by have:=x.isLt;omega⟩
def wd (n:Int):W32:=BitVec.ofInt 32 n
theorem Av {n:Int} (h:0≤n∧n≤255):((wd n).toNat:Int)=n:=by
  obtain ⟨m,rfl⟩:=Int.eq_ofNat_of_zero_le h.1
  rw [wd,BitVec.ofInt_natCast,BitVec.toNat_ofNat];omega
def lo8 (x:W32):Int:=((x.toNat % 256:Nat):Int)
theorem ZbP (x:W32):0≤lo8 x∧lo8 x≤255:=by unfold lo8;omega
section
variable {P:Program} {e:Operand→Value} {d:Option Nat} {T:TypeId} {T':TypeId} {ot:TypeId} {pos:String} {af:Array Edge} {g:Option (Nat×Bool)} {x y:Operand} {a b:W32}
theorem ZdF (hx:e x=uv a) (hy:e y=uv b):Pu P e ⟨d,.binOp .add T x y T',ot,pos,af,g⟩ (uv (a+b)):=
  Zc1 hx hy (by rw [← Int.natCast_add,Za2,BitVec.toNat_add])
theorem Zda (hx:e x=uv a) (hy:e y=uv b):Pu P e ⟨d,.binOp .and T x y T',ot,pos,af,g⟩ (uv (a &&& b)):=
  Pu.bits hx hy (by rw [L2,L2];exact DD _)
theorem Zdw (hx:e x=uv a) (hy:e y=uv b):Pu P e ⟨d,.binOp .or T x y T',ot,pos,af,g⟩ (uv (a ||| b)):=
  Zdv hx hy (by rw [L2,L2];exact DD _)
theorem Zc6 (hx:e x=uv a) (hy:e y=uv b):Pu P e ⟨d,.binOp .xor T x y T',ot,pos,af,g⟩ (uv (a ^^^ b)):=fun w=>by
  have h:IntKind.u32.wrap ((BitVec.ofInt IntKind.u32.bits (a.toNat:Int) ^^^ BitVec.ofInt IntKind.u32.bits (b.toNat:Int)).toNat:Int)=((a ^^^ b).toNat:Int):=by rw [L2,L2];exact DD _
  rw [uv,← h]
  simp only [execOp,hx,hy,eqGuard,binOp,Op.intBits];simp
theorem ZdG (hx:e x=uv a):Pu P e ⟨d,.unOp .xor T x,ot,pos,af,g⟩ (uv (~~~ a)):=fun w=>by
  have h:IntKind.u32.wrap ((BitVec.ofInt IntKind.u32.bits 4294967295 ^^^ BitVec.ofInt IntKind.u32.bits (a.toNat:Int)).toNat:Int)=((~~~ a).toNat:Int):=by
    rw [L2,← BitVec.allOnes_xor];exact DD (BitVec.allOnes 32 ^^^ a)
  rw [uv,← h]
  simp only [execOp,hx,Op.unary,Op.intBits];simp [show IntKind.u32.signed=false from rfl,show IntKind.u32.max=4294967295 from rfl]
theorem Zdq {k:IntKind} {i:Int} (n:Nat) (hx:e x=uv a) (hy:e y=.int k i) (hi:i=(n:Int)) (hn:n≤32):Pu P e ⟨d,.binOp .shl T x y T',ot,pos,af,g⟩ (uv (a <<< n)):=
  ZdE hx hy (by omega) (by
    subst hi
    rw [Int.toNat_natCast,show min n IntKind.u32.bits=n from Nat.min_eq_left hn,BitVec.toNat_shiftLeft,Nat.shiftLeft_eq,← Za2]
    simp)
theorem Zdg {k:IntKind} {i:Int} (n:Nat) (hx:e x=uv a) (hy:e y=.int k i) (hi:i=(n:Int)) (hn:n≤32):Pu P e ⟨d,.binOp .shr T x y T',ot,pos,af,g⟩ (uv (a >>> n)):=
  Zdh hx hy (by omega) (by
    subst hi
    rw [Int.toNat_natCast,show min n IntKind.u32.bits=n from Nat.min_eq_left hn,BitVec.toNat_ushiftRight,Nat.shiftRight_eq_div_pow,show ((2:Int) ^ n)=((2 ^ n:Nat):Int) from by simp]
    exact (Int.ofNat_fdiv _ _).symm)
theorem Zdz {n:Int} {t:TypeDesc} (hs:∀ w,(underlying T).run P w=.ok t w) (hT:∀ w,(underlying T').run P w=.ok (.int .u32) w) (hx:e x=.int .u8 n) (h:0≤n∧n≤255):Pu P e ⟨d,.convert T T' x,ot,pos,af,g⟩ (uv (wd n)):=
  Zc0 hs hT hx (by rw [Av h];exact Za3 (by omega))
theorem ZdA {t:TypeDesc} (hs:∀ w,(underlying T).run P w=.ok t w) (hT:∀ w,(underlying T').run P w=.ok (.int .u8) w) (hx:e x=uv a):Pu P e ⟨d,.convert T T' x,ot,pos,af,g⟩ (.int .u8 (lo8 a)):=
  Zc0 hs hT hx (by
    have e:IntKind.u8.wrap (a.toNat:Int)=(a.toNat:Int) % 256:=rfl
    rw [e,lo8];omega)
theorem Zdb {n:Nat} {elem:TypeId} {l:List Value} {v:Value} {k:IntKind} {i:Int} (j:Nat) (hT:∀ w,(underlying T).run P w=.ok (.array n elem) w) (ty:Ty P elem false 1) (hx:e x=.agg ⟨l⟩) (hy:e y=.int k i) (hi:i=(j:Int)) (hj:j<n)
    (hv:l[j]?=some v):Pu P e ⟨d,.index T x y,ot,pos,af,g⟩ v:=fun w=>by
  subst hi
  simp [execOp,Instr.index,asIntOf,hT,hx,hy,part,ty.ag,ty.sz,hj,hv]
end
def uC (l:List W32):List Value:=l.map uv
theorem Z5 (l:List W32):(uC l).length=l.length:=by simp [uC]
theorem Qy (l:List W32):okc (uC l):=fun v hv=>by
  unfold uC at hv
  obtain ⟨x,_,rfl⟩:=mem_map.1 hv
  rfl
theorem Wt {l:List W32} {i:Nat} (h:i<l.length):(uC l)[i]?=some (uv (l.getD i 0)):=by
  unfold uC;simp [h]
theorem VX {l:List W32} {i:Nat} (h:i<l.length):(uC l)[0+i*1]?=some (uv (l.getD i 0)):=by
  rw [Nat.zero_add,Nat.mul_one];exact Wt h
theorem OO {l:List W32} {i:Nat} {x:W32} (h:i<l.length):spl (uC l) i [uv x]=some (uC (l.set i x)):=by
  rw [Vj (by rw [Z5];simp;omega)]
  congr 1
  unfold uC
  rw [List.map_set,List.set_eq_take_append_cons_drop,if_pos (by simpa using h)]
  simp
theorem LJ {l:List W32} {i:Nat} {x:W32} (h:i<l.length):spl (uC l) (0+i*1) [uv x]=some (uC (l.set i x)):=by
  rw [Nat.zero_add,Nat.mul_one];exact OO h
def RU (_:Heap) (cs:List Value) (x:W32):Prop:=cs=[uv x]
theorem RUs.mono {h h':Heap} (hh:Hle h h') {v:Value} {l:List W32} (q:Hs.rdS RU 1 h v l):Hs.rdS RU 1 h' v l:=rdS.mono q hh fun _ _ _ e=>e
theorem QY {T:TypeId} {v:Value} {l:List W32} {k:Zf} {h:Heap} (o:Own T 1 v (l.map fun x=>[uv x]) k) (hl:l.length≤1000) (hk:Has k h):Hs.rdS RU 1 h v l:=
  o.rdS (by simp) (by omega) hk fun i h1 h2=>by simp [RU]
theorem Sj {T:TypeId} {v:Value} {l:List Int} {k:Zf} {h:Heap} (o:Own T 1 v (YU l) k) (hn:l.length≤9223372036854775807) (hk:Has k h):byR h v l:=by
  have hr:=Wj o hn hk
  rcases o.2 with ⟨e,e2,e3⟩ | ⟨b,cap,sp,e,e2,e3,e4⟩
  · have:l=[]:=eq_nil_of_length_eq_zero (by rw [← Yu l,e2];rfl)
    refine ⟨none,0,by rw [e,this];rfl,by rw [this];simp,hr⟩
  · exact ⟨_,cap,by rw [e,Yu],by rw [Yu] at e4;exact e4,hr⟩
theorem byR.part {h:Heap} {a:Option Addr} {N cap:Nat} {l:List Int} (r:byR h (.slice a N cap) l) (n m:Nat) (hnm:n+m≤l.length):byR h (.slice (if cap=n then a else a.map (·.add (n*1))) m (cap-n)) ((l.drop n).take m):=by
  obtain ⟨a',c',e,h1,_⟩:=id r
  cases e
  have hl:((l.drop n).take m).length=m:=by rw [length_take,length_drop];omega
  exact ⟨_,_,by rw [hl],by rw [hl];omega,r.cut n m hnm⟩
section
variable {c:Cx} {H:Heap} {ρ:Nat→Value} {M:List Zf} {K:Value→List Zf→Prop} {d:Option Nat} {ot:TypeId} {pos:String} {af:Array Edge} {g:Option (Nat×Bool)} {x y z:Operand}
theorem HG {T el:TypeId} {k k':IntKind} {v:Value} {l:List Int} {i j:Int} (n m:Nat) (hT:∀ w,(underlying T).run c.P w=.ok (.slice el) w) (hsz:∀ w,(sizeOf el).run c.P w=.ok 1 w) (hp:byR H v l) (hx:ev c.n ρ x=v) (hy:ev c.n ρ y=.int k i) (hz:ev c.n ρ z=.int k' j)
    (hi:i=(n:Int)) (hj:j=(n:Int)+(m:Int)) (hn:n+m≤l.length) (h:∀ u,(∀ h',byR h' v l→byR h' u ((l.drop n).take m))→K u M):Runs c H ⟨d,.slice T x (some y) (some z) none,ot,pos,af,g⟩ ρ M K:=fun F w mm=>by
  subst hi
  obtain ⟨q,hq⟩:∃ q,q=n+m:=⟨_,rfl⟩
  have hj:j=(q:Int):=by omega
  subst hj
  obtain ⟨a,cap,rfl,h1,h2⟩:=hp
  refine ⟨_,w,M,.inl ?_,mm,h (.slice (if cap=n then a else a.map (·.add (n*1))) m (cap-n)) (fun _ q=>q.part n m hn)⟩
  have h3:q≤cap:=by omega
  have h4:n≤q:=by omega
  have h6:q-n=m:=by omega
  simp [execOp,Instr.sliceAt,Instr.slice,Instr.sliceBounds,Instr.sliceBound,asIntOf,hx,hy,hz,hT,hsz,Result.andThen,h3,h4,h6]
theorem Lx {T el:TypeId} {k':IntKind} {v:Value} {l:List Int} {j:Int} (m:Nat) (hT:∀ w,(underlying T).run c.P w=.ok (.slice el) w) (hsz:∀ w,(sizeOf el).run c.P w=.ok 1 w) (hp:byR H v l) (hx:ev c.n ρ x=v) (hz:ev c.n ρ z=.int k' j)
    (hj:j=(m:Int)) (hn:m≤l.length) (h:∀ u,(∀ h',byR h' v l→byR h' u (l.take m))→K u M):Runs c H ⟨d,.slice T x none (some z) none,ot,pos,af,g⟩ ρ M K:=fun F w mm=>by
  subst hj
  obtain ⟨a,cap,rfl,h1,h2⟩:=hp
  have hq:∀ h',byR h' (.slice a l.length cap) l→byR h' (.slice (if cap=0 then a else a.map (·.add (0*1))) m (cap-0)) (l.take m):=fun h' q=>by
    have:=q.part 0 m (by omega)
    rwa [List.drop_zero] at this
  refine ⟨_,w,M,.inl ?_,mm,h (.slice (if cap=0 then a else a.map (·.add (0*1))) m (cap-0)) hq⟩
  have h3:m≤cap:=by omega
  simp [execOp,Instr.sliceAt,Instr.slice,Instr.sliceBounds,Instr.sliceBound,asIntOf,hx,hz,hT,hsz,Result.andThen,h3]
theorem Lw {T el:TypeId} {k:IntKind} {v:Value} {l:List Int} {i:Int} (n:Nat) (hT:∀ w,(underlying T).run c.P w=.ok (.slice el) w) (hsz:∀ w,(sizeOf el).run c.P w=.ok 1 w) (hp:byR H v l) (hx:ev c.n ρ x=v) (hy:ev c.n ρ y=.int k i)
    (hi:i=(n:Int)) (hn:n≤l.length) (h:∀ u,(∀ h',byR h' v l→byR h' u (l.drop n))→K u M):Runs c H ⟨d,.slice T x (some y) none none,ot,pos,af,g⟩ ρ M K:=fun F w mm=>by
  subst hi
  obtain ⟨a,cap,rfl,h1,h2⟩:=hp
  have hq:∀ h',byR h' (.slice a l.length cap) l→byR h' (.slice (if cap=n then a else a.map (·.add (n*1))) (l.length-n) (cap-n)) (l.drop n):=fun h' q=>by
    have:=q.part n (l.length-n) (by omega)
    rwa [take_of_length_le (by rw [length_drop];omega)] at this
  refine ⟨_,w,M,.inl ?_,mm,h (.slice (if cap=n then a else a.map (·.add (n*1))) (l.length-n) (cap-n)) hq⟩
  simp [execOp,Instr.sliceAt,Instr.slice,Instr.sliceBounds,Instr.sliceBound,asIntOf,hx,hy,hT,hsz,Result.andThen,hn]
end
def YY (l:List W32):W32:=l.foldl (· +·) 0
theorem Ip {l:List W32} {j:Nat} (h:j<l.length):YY (l.take (j+1))=YY (l.take j)+l[j]:=by
  unfold YY
  rw [List.take_add_one,getElem?_eq_getElem h,List.foldl_append];rfl
theorem K6 (a b:W32):YY [a,b]=a+b:=by simp [YY]
theorem B4 (a b c:W32):YY [a,b,c]=a+b+c:=by simp [YY]
theorem Zbf (a b c d:W32):YY [a,b,c,d]=a+b+c+d:=by simp [YY]
theorem GP {n:Nat} (h:1≤n∧n≤31):IntKind.u64.wrap (-(n:Int))=18446744073709551616-(n:Int):=by
  have e:IntKind.u64.wrap (-(n:Int))=(-(n:Int)) % 18446744073709551616:=rfl
  rw [e];omega
theorem D5 {n:Nat} (h:1≤n∧n≤31):IntKind.u64.wrap ((BitVec.ofInt IntKind.u64.bits (18446744073709551616-(n:Int)) &&& BitVec.ofInt IntKind.u64.bits 31).toNat:Int)=((32-n:Nat):Int):=by
  have hd:∀ m:Fin 32,1≤m.1→IntKind.u64.wrap ((BitVec.ofInt IntKind.u64.bits (18446744073709551616-(m.1:Int)) &&& BitVec.ofInt IntKind.u64.bits 31).toNat:Int)=((32-m.1:Nat):Int):=by decide+kernel
  exact hd ⟨n,by omega⟩ h.1
theorem D4 {n:Nat} (h:1≤n∧n≤31):IntKind.u64.wrap (32-((32-n:Nat):Int))=(n:Int):=by
  have e:IntKind.u64.wrap (32-((32-n:Nat):Int))=(32-((32-n:Nat):Int)) % 18446744073709551616:=rfl
  rw [e];omega
def Wi (x:W32) (n:Nat):W32:=x <<< (32-n) ||| x >>> n
def YN (a b c:Nat) (lost:Bool) (w:W32):W32:=Wi w a ^^^ Wi w b ^^^ cond lost (w >>> c) (Wi w c)
def wk (bl:List Int) (i:Nat):Nat→W32
  | 0=>0
  | k+1=>wk bl i k <<< 8 ||| wd (bl.getD (4*i+k) 0)
def sp0 (bl:List Int):Nat→List W32
  | 0=>replicate 64 0
  | i+1=>(sp0 bl i).set i (wk bl i 4)
def spx (u:List W32) (i:Nat):W32:=u.getD (i-16) 0+u.getD (i-7) 0+YN 7 18 3 true (u.getD (i-15) 0)+YN 17 19 10 true (u.getD (i-2) 0)
def sp1 (w:List W32):Nat→List W32
  | 0=>w
  | i+1=>(sp1 w i).set (i+16) (spx (sp1 w i) (i+16))
def spr (bl:List Int):List W32:=sp1 (sp0 bl 16) 48
theorem OV (bl:List Int) (i:Nat):(sp0 bl i).length=64:=by
  induction i with
  | zero=>rfl
  | succ i ih=>rw [sp0,length_set,ih]
theorem DS {w:List W32} (h:w.length=64) (i:Nat):(sp1 w i).length=64:=by
  induction i with
  | zero=>exact h
  | succ i ih=>rw [sp1,length_set,ih]
theorem OU (bl:List Int):(spr bl).length=64:=DS (OV bl 16) 48
theorem MJ {l:List W32} {i j:Nat} {x:W32} (h:i≠j):(l.set i x).getD j 0=l.getD j 0:=by
  simp [List.getD,h]
theorem MK {l:List W32} {i:Nat} {x:W32} (h:i<l.length):(l.set i x).getD i 0=x:=by
  simp [List.getD,h]
theorem Zbh (bl:List Int) {i j:Nat} (h:i≤j):(sp0 bl i).getD j 0=0:=by
  induction i with
  | zero=>rw [sp0];simp only [List.getD,getElem?_replicate];split <;> rfl
  | succ i ih=>rw [sp0,MJ (by omega)];exact ih (by omega)
theorem GF {l:List W32} {i:Nat} (h:i<l.length):l.set i (l.getD i 0)=l:=by
  simp [List.getD,getElem?_eq_getElem h]
theorem IB {l:List W32} {i:Nat} {x y:W32}:(l.set i x).set i y=l.set i y:=by simp
theorem Iw (bl:List Int) {i:Nat} (h:i<64):(sp0 bl i).set i (wk bl i 0)=sp0 bl i:=by
  have:=GF (l:=sp0 bl i) (i:=i) (by rw [OV];exact h)
  rw [Zbh bl (Nat.le_refl i)] at this
  exact this
theorem DQ {bl:List Int} {i k:Nat} {u:List W32} {x:Int} (hu:u=(sp0 bl i).set i (wk bl i k)) (hi:i<64) (hx:x=bl.getD (4*i+k) 0):u.set i (u.getD i 0 <<< 8 ||| wd x)=(sp0 bl i).set i (wk bl i (k+1)):=by
  subst hu hx
  rw [MK (by rw [OV];exact hi),IB];rfl
theorem Qd {bl:List Int} {i k:Nat} (h:k<((bl.drop (4*i)).take 4).length):((bl.drop (4*i)).take 4)[k]=bl.getD (4*i+k) 0:=by
  rw [length_take,length_drop] at h
  rw [List.getElem_take,List.getElem_drop,List.getD,getElem?_eq_getElem (by omega)];rfl
def chW (v:List W32):W32:=(v.getD 4 0 &&& v.getD 5 0) ^^^ (~~~(v.getD 4 0) &&& v.getD 6 0)
def maW (v:List W32):W32:=(v.getD 0 0 &&& v.getD 1 0) ^^^ (v.getD 0 0 &&& v.getD 2 0) ^^^ (v.getD 1 0 &&& v.getD 2 0)
def fiW (v:List W32):W32:=v.getD 7 0+YN 6 11 25 false (v.getD 4 0)+chW v
def seW (v:List W32):W32:=YN 2 13 22 false (v.getD 0 0)+maW v
def rnd (v:List W32) (k w:W32):List W32:=[fiW v+k+w+seW v,v.getD 0 0,v.getD 1 0,v.getD 2 0,v.getD 3 0+(fiW v+k+w),v.getD 4 0,v.getD 5 0,v.getD 6 0]
def kW:List W32:=[0x428a2f98,0x71374491,0xb5c0fbcf,0xe9b5dba5,0x3956c25b,0x59f111f1,0x923f82a4,0xab1c5ed5,
  0xd807aa98,0x12835b01,0x243185be,0x550c7dc3,0x72be5d74,0x80deb1fe,0x9bdc06a7,0xc19bf174,
  0xe49b69c1,0xefbe4786,0x0fc19dc6,0x240ca1cc,0x2de92c6f,0x4a7484aa,0x5cb0a9dc,0x76f988da,
  0x983e5152,0xa831c66d,0xb00327c8,0xbf597fc7,0xc6e00bf3,0xd5a79147,0x06ca6351,0x14292967,
  0x27b70a85,0x2e1b2138,0x4d2c6dfc,0x53380d13,0x650a7354,0x766a0abb,0x81c2c92e,0x92722c85,
  0xa2bfe8a1,0xa81a664b,0xc24b8b70,0xc76c51a3,0xd192e819,0xd6990624,0xf40e3585,0x106aa070,
  0x19a4c116,0x1e376c08,0x2748774c,0x34b0bcb5,0x391c0cb3,0x4ed8aa4a,0x5b9cca4f,0x682e6ff3,
  0x748f82ee,0x78a5636f,0x84c87814,0x8cc70208,0x90befffa,0xa4506ceb,0xbef9a3f7,0xc67178f2]
def beW:List W32:=[0x6a09e667,0xbb67ae85,0x3c6ef372,0xa54ff53a,0x510e527f,0x9b05688c,0x1f83d9ab,0x5be0cd19]
def rds (h w:List W32):Nat→List W32
  | 0=>h
  | i+1=>rnd (rds h w i) (kW.getD i 0) (w.getD i 0)
theorem Jk {h w:List W32} (hl:h.length=8) (i:Nat):(rds h w i).length=8:=by
  cases i with
  | zero=>exact hl
  | succ i=>rfl
def adW (v o:List W32):Nat→List W32
  | 0=>v
  | i+1=>(adW v o i).set i ((adW v o i).getD i 0+o.getD i 0)
theorem BM {v o:List W32} (h:v.length=8) (i:Nat):(adW v o i).length=8:=by
  induction i with
  | zero=>exact h
  | succ i ih=>rw [adW,length_set,ih]
def tkn (h:List W32) (bl:List Int):List W32:=adW (rds h (spr bl) 64) h 8
theorem TX {h:List W32} (hl:h.length=8) (bl:List Int):(tkn h bl).length=8:=BM (Jk hl 64) 8
theorem Kc {l:List W32} (h:l.length=8):∃ a b c d e f g i,l=[a,b,c,d,e,f,g,i]:=by
  match l,h with
  | [a,b,c,d,e,f,g,i],_=>exact ⟨a,b,c,d,e,f,g,i,rfl⟩
theorem BN {v o:List W32} (hv:v.length=8) (ho:o.length=8):adW v o 8=(range 8).map fun i=>v.getD i 0+o.getD i 0:=by
  obtain ⟨a,b,c,d,e,f,g,i,rfl⟩:=Kc hv
  obtain ⟨a',b',c',d',e',f',g',i',rfl⟩:=Kc ho
  simp [adW,range,List.range.loop,List.set]
theorem VY {v:List W32} (h:v.length=8):(v.take 1++v.take 7).length=8:=by
  rw [length_append,length_take,length_take,h];rfl
theorem AH {v:List W32} (hv:v.length=8) (p q k w:W32) (hp:p=fiW v+k+w) (hq:q=seW v):
    ((v.take 1++v.take 7).set 4 ((v.take 1++v.take 7).getD 4 0+p)).set 0 (p+q)=rnd v k w:=by
  subst hp hq
  obtain ⟨a,b,c,d,e,f,g,i,rfl⟩:=Kc hv
  simp [rnd,List.set]
def YA (h:List W32) (b:List Int):List W32×List Int:=
  if 64≤b.length then YA (tkn h (b.take 64)) (b.drop 64) else (h,b)
termination_by b.length
decreasing_by rw [length_drop];omega
theorem Ug {h:List W32} {b:List Int} (hl:64≤b.length):YA h b=YA (tkn h (b.take 64)) (b.drop 64):=by
  rw [YA,if_pos hl]
theorem Tk {h:List W32} {b:List Int} (hl:¬ 64≤b.length):YA h b=(h,b):=by
  rw [YA,if_neg hl]
theorem UX {b:List Int}:∀ {h:List W32},h.length=8→(YA h b).1.length=8∧(YA h b).2.length<64:=by
  induction hn:b.length using Nat.strongRecOn generalizing b with
  | ind n ih=>
    intro h hl
    by_cases h64:64≤b.length
    · rw [Ug h64]
      exact ih _ (by rw [length_drop];omega) rfl (TX hl _)
    · rw [Tk h64];exact ⟨hl,by simp only;omega⟩
theorem E8 {b:List Int}:∀ {h:List W32},(∀ x∈b,0≤x∧x≤255)→(YA h b).2.length≤b.length∧∀ x∈(YA h b).2,0≤x∧x≤255:=by
  induction hn:b.length using Nat.strongRecOn generalizing b with
  | ind n ih=>
    intro h hb
    by_cases h64:64≤b.length
    · rw [Ug h64]
      have:=ih _ (by rw [length_drop];omega) rfl (b:=b.drop 64) (h:=tkn h (b.take 64)) (fun x hx=>hb x (List.mem_of_mem_drop hx))
      rw [length_drop] at this
      exact ⟨by omega,this.2⟩
    · rw [Tk h64];exact ⟨by simp only;omega,hb⟩
def zN (r:Nat):Nat:=(119-r % 64) % 64
def lnB (n:Nat):Nat→List Int
  | 0=>[]
  | i+1=>lnB n i++[((8*n / 2 ^ (56-8*i) % 256:Nat):Int)]
def VC (r n:Nat):List Int:=128::(replicate (zN r) 0++lnB n 8)
theorem IP (z:Nat):(128::replicate z 0:List Int)++[0]=128::replicate (z+1) 0:=by
  rw [cons_append,List.replicate_succ']
theorem CB (n i:Nat):(lnB n i).length=i:=by
  induction i with
  | zero=>rfl
  | succ i ih=>rw [lnB,length_append,ih];rfl
theorem I5 (z n i:Nat):128::(replicate z 0++lnB n i)++[((8*n / 2 ^ (56-8*i) % 256:Nat):Int)]=128::(replicate z 0++lnB n (i+1)):=by
  rw [cons_append,append_assoc];rfl
theorem B0 (r:Nat):zN r<64:=Nat.mod_lt _ (by decide)
theorem ZbQ (n i:Nat):∀ x∈lnB n i,0≤x∧x≤255:=by
  induction i with
  | zero=>intro x hx;cases hx
  | succ i ih=>
    intro x hx
    rw [lnB] at hx
    rcases mem_append.1 hx with hx | hx
    · exact ih x hx
    · rw [mem_singleton] at hx;subst hx;omega
theorem AV (r n:Nat):∀ x∈VC r n,0≤x∧x≤255:=by
  intro x hx
  rw [VC] at hx
  rcases mem_cons.1 hx with hx | hx
  · subst hx;decide
  · rcases mem_append.1 hx with hx | hx
    · have:=(List.mem_replicate.1 hx).2;subst this;decide
    · exact ZbQ _ _ x hx
theorem Ao {l m:List Int} (hl:∀ x∈l,0≤x∧x≤255) (hm:∀ x∈m,0≤x∧x≤255):∀ x∈l++m,0≤x∧x≤255:=fun x hx=>(mem_append.1 hx).elim (hl x) (hm x)
theorem Zci {n:Nat} (h:n≤1000000000):IntKind.u64.wrap ((n:Int)*8)=((8*n:Nat):Int):=by
  have e:IntKind.u64.wrap ((n:Int)*8)=((n:Int)*8) % 18446744073709551616:=rfl
  rw [e];omega
theorem Za1 {n:Nat} (h:n≤1000000000):IntKind.u64.wrap (8*(n:Int))=((8*n:Nat):Int):=by rw [Int.mul_comm];exact Zci h
theorem Zcj {n:Nat} (h:n≤1000000000):IntKind.u64.wrap (n:Int)=(n:Int):=by
  have e:IntKind.u64.wrap (n:Int)=(n:Int) % 18446744073709551616:=rfl
  rw [e];omega
theorem Zcr {m q:Nat} {i:Int} (hi:i=(q:Int)) (h:q≤64):((m:Nat):Int).fdiv (2 ^ (min i.toNat IntKind.u64.bits))=((m / 2 ^ q:Nat):Int):=by
  subst hi
  rw [Int.toNat_natCast,show min q IntKind.u64.bits=q from Nat.min_eq_left h,show ((2:Int) ^ q)=((2 ^ q:Nat):Int) from by simp]
  exact (Int.ofNat_fdiv _ _).symm
theorem w8n (m:Nat):IntKind.u8.wrap ((m:Nat):Int)=((m % 256:Nat):Int):=by
  have e:IntKind.u8.wrap (m:Int)=(m:Int) % 256:=rfl
  rw [e];omega
def L0 (h:List W32):Nat→Sm
  | 0=>zS
  | i+1=>(L0 h i).setIfInBounds i (UInt8.ofNat (lo8 (h.getD (i / 4) 0 >>> (24-i % 4*8))).toNat)
@[irreducible] def endS (h:List W32) (l:List Int) (n:Nat):Sm:=L0 (YA h (l++VC l.length n)).1 32
@[irreducible] def sha (b:List Int):Sm:=endS (YA beW b).1 (YA beW b).2 b.length
theorem MY (h:List W32) (l:List Int) (n:Nat):endS h l n=L0 (YA h (l++VC l.length n)).1 32:=by
  delta endS;exact Eq.refl _
theorem Jd (b:List Int):sha b=endS (YA beW b).1 (YA beW b).2 b.length:=by
  delta sha;exact Eq.refl _
section
variable {P:Program} {e:Operand→Value} {d:Option Nat} {T:TypeId} {ot:TypeId} {pos:String} {af:Array Edge} {g:Option (Nat×Bool)} {x y:Operand}
theorem Zdl {n b q:Nat} {i:Int} {k:IntKind} {elem:TypeId} (hT:∀ w,(underlying T).run P w=.ok (.array n elem) w) (hsz:∀ w,(sizeOf elem).run P w=.ok 1 w) (hx:e x=.pointer (some ⟨b,0,none⟩)) (hy:e y=.int k i) (hi:i=(q:Int)) (hq:q<n):Pu P e ⟨d,.slice T x (some y) none none,ot,pos,af,g⟩ (.slice (some ⟨b,q,none⟩) (n-q) (n-q)):=fun w=>by
  subst hi
  have h1:q≤n:=by omega
  have h2:¬ n=q:=by omega
  simp [execOp,Instr.sliceAt,Instr.sliceBounds,Instr.sliceBound,asIntOf,Instr.sureAddr,hx,hy,hT,hsz,Result.andThen,Addr.add,h1,h2]
  exact fun h=>h.symm
theorem Zdm {n b q:Nat} {i:Int} {k:IntKind} {elem:TypeId} (hT:∀ w,(underlying T).run P w=.ok (.array n elem) w) (hsz:∀ w,(sizeOf elem).run P w=.ok 1 w) (hx:e x=.pointer (some ⟨b,0,none⟩)) (hy:e y=.int k i) (hi:i=(q:Int)) (hq:q≤n):Pu P e ⟨d,.slice T x none (some y) none,ot,pos,af,g⟩ (.slice (some ⟨b,0,none⟩) q n):=fun w=>by
  subst hi
  simp [execOp,Instr.sliceAt,Instr.sliceBounds,Instr.sliceBound,asIntOf,Instr.sureAddr,hx,hy,hT,hsz,Result.andThen,Addr.add,hq]
end
section
variable {c:Cx} {H:Heap} {ρ:Nat→Value} {M:List Zf} {K:Value→List Zf→Prop} {d:Option Nat} {ot:TypeId} {pos:String} {af:Array Edge} {g:Option (Nat×Bool)} {x y:Operand}
theorem Lz {T T₂ el T':TypeId} {b i:Nat} {v:List W32} (hl:v.length=8) (hT:∀ w,(underlying T).run c.P w=.ok (.slice el) w) (hsz:∀ w,(sizeOf el).run c.P w=.ok 1 w)
    (hx:ev c.n ρ x=.slice (some ⟨b,1,none⟩) 7 7) (hy:ev c.n ρ y=.slice (some ⟨b,0,none⟩) 7 8) (hi:M[i]?=some [(b,.cells ⟨uC v⟩ T' (0,0))])
    (h:K (.int .i64 7) (M.set i [(b,.cells ⟨uC (v.take 1++v.take 7)⟩ T' (0,0))])):
    Runs c H ⟨d,.call {callee:=.builtin .copy,args:=#[x,y],argTypes:=#[T,T₂]},ot,pos,af,g⟩ ρ M K:=fun F w mm=>by
  have hb:w.heap[b]?=some (.cells ⟨uC v⟩ T' (0,0)):=(ZcS (M:=M) (H:=H) i hi (by simp)).heap mm
  have hsub:sub (uC v) 0 (7*1)=some (uC (v.take 7)):=by
    rw [Wp (by rw [Z5,hl];decide)]
    congr 1
    rw [List.drop_zero];unfold uC;rw [List.map_take]
  obtain ⟨hlen,hfc,hsl⟩:=Src.row (P:=c.P) (sz:=1) (n:=7) (cap:=8) hb hsub
  have hfc:=hfc 7 (Nat.le_refl _)
  rw [take_of_length_le (by rw [hsl];exact Nat.le_refl _)] at hfc
  have hspl:spl (uC v) 1 (uC (v.take 7))=some (uC (v.take 1++v.take 7)):=by
    obtain ⟨a,b,c,d,e,f,g,i,rfl⟩:=Kc hl
    rfl
  obtain ⟨hle,hre⟩:=WP hspl
  have hst:=run_storeCells_at c.P b 1 T' (uC (v.take 7)) 0 ⟨uC v⟩ w hb (by simpa using hle) (Qy _)
  have hst':(storeCells ⟨b,1,none⟩ (uC (v.take 7))).run c.P w=.ok () (w.setRow b ⟨uC (v.take 1++v.take 7)⟩):=by
    rw [hre];simpa [append_assoc] using hst
  refine ⟨.int .i64 7,_,_,.inl ?_,mm.write (k₁:=[]) (k₂:=[]) hi rfl,h⟩
  have hlen2:(Builtin.lenOf (.slice (some ⟨b,1,none⟩) 7 7)).run c.P w=.ok 7 w:=by simp [Builtin.lenOf]
  simp [execOp,resolve,invoke,builtin,hx,hy,Builtin.copy_,hT,hlen,hsz,hfc,hst',goInt]
end
section
set_option maxRecDepth 1000000
def rN (x n:Nat):Nat:=Nat.lor (Nat.mod (Nat.shiftLeft x (Nat.sub 32 n)) 4294967296) (Nat.shiftRight x n)
def adN (x y:Nat):Nat:=Nat.mod (Nat.add x y) 4294967296
def ZbF (x:Nat):Nat:=Nat.sub 4294967295 x
def mxN (a b c x:Nat):Nat:=Nat.xor (Nat.xor (rN x a) (rN x b)) (rN x c)
def mlN (a b c x:Nat):Nat:=Nat.xor (Nat.xor (rN x a) (rN x b)) (Nat.shiftRight x c)
def chN (e f g:Nat):Nat:=Nat.xor (Nat.land e f) (Nat.land (ZbF e) g)
def maN (a b c:Nat):Nat:=Nat.xor (Nat.xor (Nat.land a b) (Nat.land a c)) (Nat.land b c)
def wkN (bl:List Int) (i:Nat):Nat→Nat
  | 0=>0
  | k+1=>Nat.lor (Nat.mod (Nat.shiftLeft (wkN bl i k) 8) 4294967296) (Int.toNat (Int.emod (bl.getD (4*i+k) 0) 4294967296))
def Gw (bl:List Int):Nat→List Nat
  | 0=>replicate 64 0
  | i+1=>(Gw bl i).set i (wkN bl i 4)
def AB (u:List Nat) (i:Nat):Nat:=adN (adN (adN (u.getD (i-16) 0) (u.getD (i-7) 0)) (mlN 7 18 3 (u.getD (i-15) 0))) (mlN 17 19 10 (u.getD (i-2) 0))
def Gv (w:List Nat):Nat→List Nat
  | 0=>w
  | i+1=>(Gv w i).set (i+16) (AB (Gv w i) (i+16))
def DP (bl:List Int):List Nat:=Gv (Gw bl 16) 48
def rdN:List Nat→List Nat→Nat→Nat→Nat→Nat→Nat→Nat→Nat→Nat→List Nat
  | k::ks,w::ws,a,b,c,d,e,f,g,h=>
    rdN ks ws (adN (adN (adN (adN (adN h (mxN 6 11 25 e)) (chN e f g)) k) w) (adN (mxN 2 13 22 a) (maN a b c))) a b c (adN d (adN (adN (adN (adN h (mxN 6 11 25 e)) (chN e f g)) k) w)) e f g
  | _,_,a,b,c,d,e,f,g,h=>[a,b,c,d,e,f,g,h]
def kN:List Nat:=kW.map BitVec.toNat
def ad8 (v o:List Nat):List Nat:=(range 8).map fun i=>adN (v.getD i 0) (o.getD i 0)
def tkN (h:List Nat) (bl:List Int):List Nat:=ad8 (rdN kN (DP bl) (h.getD 0 0) (h.getD 1 0) (h.getD 2 0) (h.getD 3 0) (h.getD 4 0) (h.getD 5 0) (h.getD 6 0) (h.getD 7 0)) h
def SW:Nat→List Nat→List Int→List Nat
  | 0,h,_=>h
  | n+1,h,b=>SW n (tkN h (b.take 64)) (b.drop 64)
def beN:List Nat:=beW.map BitVec.toNat
end
def XH (l:List W32):List Nat:=l.map BitVec.toNat
theorem WU (l:List W32) (i:Nat):(XH l).getD i 0=(l.getD i 0).toNat:=by
  unfold XH
  rw [getD_eq_getElem?_getD,getD_eq_getElem?_getD,getElem?_map]
  cases l[i]? <;> rfl
theorem Ms (l:List W32) (i:Nat) (x:W32):XH (l.set i x)=(XH l).set i x.toNat:=by unfold XH;rw [List.map_set]
theorem UH (x y:W32):(x+y).toNat=adN x.toNat y.toNat:=by rw [BitVec.toNat_add];rfl
theorem Q4 (x y:W32):(x ^^^ y).toNat=Nat.xor x.toNat y.toNat:=by rw [BitVec.toNat_xor];rfl
theorem Mt (x y:W32):(x &&& y).toNat=Nat.land x.toNat y.toNat:=by rw [BitVec.toNat_and];rfl
theorem ZbL (x y:W32):(x ||| y).toNat=Nat.lor x.toNat y.toNat:=by rw [BitVec.toNat_or];rfl
theorem ZbM (x:W32):(~~~x).toNat=ZbF x.toNat:=by rw [BitVec.toNat_not];rfl
theorem Jx (x:W32) (n:Nat):(x >>> n).toNat=Nat.shiftRight x.toNat n:=by rw [BitVec.toNat_ushiftRight];rfl
theorem Ac (x:W32) (n:Nat):(x <<< n).toNat=Nat.mod (Nat.shiftLeft x.toNat n) 4294967296:=by rw [BitVec.toNat_shiftLeft];rfl
theorem Q5 (x:W32) (n:Nat):(Wi x n).toNat=rN x.toNat n:=by unfold Wi rN;rw [ZbL,Ac,Jx];rfl
theorem ZbN (a b c:Nat) (x:W32):(YN a b c false x).toNat=mxN a b c x.toNat:=by unfold YN mxN;rw [Q4,Q4,Q5,Q5,cond_false,Q5]
theorem ZbO (a b c:Nat) (x:W32):(YN a b c true x).toNat=mlN a b c x.toNat:=by unfold YN mlN;rw [Q4,Q4,Q5,Q5,cond_true,Jx]
theorem Zcv (x:Int):(wd x).toNat=Int.toNat (Int.emod x 4294967296):=by unfold wd;rw [BitVec.toNat_ofInt];rfl
theorem ZbH (bl:List Int) (i:Nat):∀ k,(wk bl i k).toNat=wkN bl i k
  | 0=>rfl
  | k+1=>by rw [wk,wkN,ZbL,Ac,ZbH bl i k,Zcv]
theorem Ab (bl:List Int):∀ i,XH (sp0 bl i)=Gw bl i
  | 0=>by unfold sp0 Gw XH;rw [List.map_replicate];rfl
  | i+1=>by rw [sp0,Gw,Ms,Ab bl i,ZbH]
theorem ZbI (u:List W32) (i:Nat):(spx u i).toNat=AB (XH u) i:=by
  unfold spx AB
  rw [UH,UH,UH,ZbO,ZbO,WU,WU,WU,WU]
theorem Aa (w:List W32):∀ i,XH (sp1 w i)=Gv (XH w) i
  | 0=>rfl
  | i+1=>by rw [sp1,Gv,Ms,ZbI,Aa w i]
theorem ZbJ (bl:List Int):XH (spr bl)=DP bl:=by unfold spr DP;rw [Aa,Ab]
def rdF:List W32→List W32→List W32→List W32
  | k::ks,w::ws,v=>rdF ks ws (rnd v k w)
  | _,_,v=>v
theorem Mi:∀ (ks ws:List W32) (k w:W32) (v:List W32),ks.length=ws.length→rdF (ks++[k]) (ws++[w]) v=rnd (rdF ks ws v) k w
  | [],[],_,_,_,_=>rfl
  | [],_::_,_,_,_,h=>by simp at h
  | _::_,[],_,_,_,h=>by simp at h
  | a::ks,b::ws,k,w,v,h=>by
    show rdF (ks++[k]) (ws++[w]) (rnd v a b)=_
    rw [Mi ks ws k w _ (by simpa using h)];rfl
theorem B6 (h w:List W32) (hw:w.length=64):∀ n,n≤64→rds h w n=rdF (kW.take n) (w.take n) h
  | 0,_=>rfl
  | n+1,hn=>by
    have hk:n<kW.length:=by show n<64;omega
    rw [rds,B6 h w hw n (by omega),take_succ_eq_append_getElem hk,take_succ_eq_append_getElem (show n<w.length by omega),Mi _ _ _ _ _ (by rw [length_take,length_take,hw];show min n 64=_;rfl)]
    congr 1
    · rw [getD_eq_getElem?_getD,getElem?_eq_getElem hk];rfl
    · rw [getD_eq_getElem?_getD,getElem?_eq_getElem (show n<w.length by omega)];rfl
theorem ZbK (a b c d e f g h k w:W32):rnd [a,b,c,d,e,f,g,h] k w=[h+YN 6 11 25 false e+((e &&& f) ^^^ (~~~e &&& g))+k+w+(YN 2 13 22 false a+((a &&& b) ^^^ (a &&& c) ^^^ (b &&& c))),a,b,c,d+(h+YN 6 11 25 false e+((e &&& f) ^^^ (~~~e &&& g))+k+w),e,f,g]:=rfl
theorem Ad:∀ (ks ws:List W32) (a b c d e f g h:W32),XH (rdF ks ws [a,b,c,d,e,f,g,h])=rdN (XH ks) (XH ws) a.toNat b.toNat c.toNat d.toNat e.toNat f.toNat g.toNat h.toNat
  | [],_,_,_,_,_,_,_,_,_=>rfl
  | _::_,[],_,_,_,_,_,_,_,_=>rfl
  | k ::ks,w::ws,a,b,c,d,e,f,g,h=>by
    have e1:(h+YN 6 11 25 false e+((e &&& f) ^^^ (~~~e &&& g))+k+w).toNat=adN (adN (adN (adN h.toNat (mxN 6 11 25 e.toNat)) (chN e.toNat f.toNat g.toNat)) k.toNat) w.toNat:=by
      rw [UH,UH,UH,UH,ZbN,Q4,Mt,Mt,ZbM];rfl
    have e2:(YN 2 13 22 false a+((a &&& b) ^^^ (a &&& c) ^^^ (b &&& c))).toNat=adN (mxN 2 13 22 a.toNat) (maN a.toNat b.toNat c.toNat):=by
      rw [UH,ZbN,Q4,Q4,Mt,Mt,Mt];rfl
    show XH (rdF ks ws (rnd [a,b,c,d,e,f,g,h] k w))=rdN (k.toNat::XH ks) (w.toNat::XH ws) _ _ _ _ _ _ _ _
    rw [ZbK,Ad,rdN,UH _ (YN 2 13 22 false a+_),UH d,e1,e2]
theorem Zcw {h:List W32} (hl:h.length=8) (bl:List Int):XH (tkn h bl)=tkN (XH h) bl:=by
  have hr:=Jk hl (w:=spr bl) 64
  have e1:XH (rds h (spr bl) 64)=rdN kN (DP bl) ((XH h).getD 0 0) ((XH h).getD 1 0) ((XH h).getD 2 0) ((XH h).getD 3 0) ((XH h).getD 4 0) ((XH h).getD 5 0) ((XH h).getD 6 0) ((XH h).getD 7 0):=by
    rw [B6 h (spr bl) (OU bl) 64 (Nat.le_refl _),take_of_length_le (show kW.length≤64 by decide),take_of_length_le (by rw [OU];decide)]
    obtain ⟨a,b,c,d,e,f,g,i,rfl⟩:=Kc hl
    rw [Ad,ZbJ];rfl
  unfold tkn tkN
  rw [BN hr hl,← e1]
  unfold ad8 XH
  rw [List.map_map]
  refine map_congr_left fun i _=>?_
  have a:=WU (rds h (spr bl) 64) i
  have b:=WU h i
  unfold XH at a b
  rw [a,b]
  exact UH _ _
theorem Ae:∀ (n:Nat) {h:List W32} {b:List Int},h.length=8→b.length=64*n→XH (YA h b).1=SW n (XH h) b
  | 0,h,b,hl,hb=>by rw [Tk (by omega)];rfl
  | n+1,h,b,hl,hb=>by
    rw [Ug (by omega),Ae n (TX hl _) (by rw [length_drop];omega),Zcw hl];rfl
theorem E9 {p:List Int}:∀ {b:List Int} {h:List W32},YA (YA h b).1 ((YA h b).2++p)=YA h (b++p):=by
  intro b
  induction hn:b.length using Nat.strongRecOn generalizing b with
  | ind n ih=>
    intro h
    by_cases h64:64≤b.length
    · rw [Ug h64,ih _ (by rw [length_drop];omega) rfl,Ug (h:=h) (b:=b++p) (by rw [length_append];omega),List.take_append_of_le_length h64,List.drop_append_of_le_length h64]
    · rw [Tk h64]
theorem HA:∀ {b:List Int} {h:List W32},(YA h b).2.length=b.length % 64:=by
  intro b
  induction hn:b.length using Nat.strongRecOn generalizing b with
  | ind n ih=>
    intro h
    by_cases h64:64≤b.length
    · rw [Ug h64,ih _ (by rw [length_drop];omega) rfl,length_drop];omega
    · rw [Tk h64];simp only;omega
theorem G3 (r n:Nat):VC (r % 64) n=VC r n:=by unfold VC zN;rw [Nat.mod_mod]
theorem Q0 (h:List W32):∀ (n i:Nat) (hi:i<32),i<n→n≤32→(L0 h n)[i]=UInt8.ofNat (lo8 (h.getD (i / 4) 0 >>> (24-i % 4*8))).toNat
  | 0,i,_,h0,_=>absurd h0 (by omega)
  | n+1,i,hi,h0,hn=>by
    rw [L0]
    simp only [Vector.getElem_setIfInBounds]
    by_cases e:n=i
    · subst e;simp
    · rw [if_neg e];exact Q0 h n i hi (by omega) (by omega)
theorem OZ {b:List Int} (n:Nat) (hn:(b++VC b.length b.length).length=64*n):(sha b)[0]=UInt8.ofNat (Nat.shiftRight ((SW n beN (b++VC b.length b.length)).getD 0 0) 24 % 256)∧(sha b)[1]=UInt8.ofNat (Nat.shiftRight ((SW n beN (b++VC b.length b.length)).getD 0 0) 16 % 256):=by
  have e:((SW n beN (b++VC b.length b.length)).getD 0 0)=((YA beW (b++VC b.length b.length)).1.getD 0 0).toNat:=by
    rw [← WU,Ae n (h:=beW) rfl hn];rfl
  rw [Jd,MY,HA,G3,E9,e]
  constructor
  · rw [Q0 _ 32 0 (by decide) (by decide) (by decide)]
    unfold lo8
    rw [Int.toNat_natCast,Jx]
  · rw [Q0 _ 32 1 (by decide) (by decide) (by decide)]
    unfold lo8
    rw [Int.toNat_natCast,Jx]
section
attribute [local irreducible] JL J CT wlo DT
theorem Ik (cs:List Value) (H:Heap) (hl:cs.length=4):CT prog 195 ⟨[.agg ⟨cs⟩]⟩ [] H (fun v N=>∃ b,v=.func (.func 229) ⟨[]⟩ ⟨[pp b 0]⟩∧N=[(BX b cs 82)]):=by
 refine Zl func195 rfl rfl<|Zd<|JLr (Zr (l:=cs) rfl rfl fun b1=>JLa .nilFunc<|Za<|Zd<|JLq (.func (.func 229) ⟨[]⟩ ⟨[pp b1 0]⟩) (Pu.makeFunc rfl rfl)<|JAn rfl<|ZE (.func (.func 229) ⟨[]⟩ ⟨[pp b1 0]⟩) [(BX b1 cs 82)] (Sk Sub.nil) (?_))
 exact ⟨_,rfl,rfl⟩
set_option maxHeartbeats 2000000 in
theorem HZ:∀ (l:Nat) (yc:Int→Zf) (bY bW:Nat) (x:It) (lv n:Int) (cs:List Value) (H:Heap),RIt H cs x→gdI x→1≤lv→lv+dpI x≤251→0≤n→n+szI x≤5000→H bY=some (.cells ⟨[.func (.yield l) ⟨[]⟩ ⟨[]⟩]⟩ 265 (0,0))→H bW=some (.cells ⟨[.func (.func 230) ⟨[]⟩ ⟨[pp bY 0,pp bW 0]⟩]⟩ 265 (0,0))→(∀ (y:It) (lv n:Int) (a:List Value) (h:Heap),gdI y→1≤lv→lv≤250→0≤n→n+1≤5000→Hle H h→RIt h a y→YT prog l ⟨[iv lv,.agg ⟨a⟩]⟩ [yc n] h (fun v N=>v=.bool true∧N=[yc (n+1)]))→CT prog 230 ⟨[iv lv,.agg ⟨cs⟩,pp bY 0,pp bW 0]⟩ [yc n] H (fun v N=>v=.bool true∧N=[yc (n+szI x)]):=by
 intro l yc bY bW x
 induction x using It.ind with
 | h kd nm tx kids ih=>
 intro lv n cs H ht hgd hl0 hlv hn0 hnz hHY hHW hy
 obtain ⟨kv,rfl,hk,hm,hks⟩:=RIt_mk.1 ht
 have hg:=hgd
 rw [gdI] at hg
 rw [szI] at hnz
 rw [dpI] at hlv
 have hle:=hks.le
 have hdn:=JZ kids
 refine Zl func230 rfl rfl<|Zd<|JLr (Zr (l:=[iv kd,iv nm,.string tx,kv]) rfl rfl fun b1=>JAn rfl<|Zg<|Zd<|JLr (Zc KX rfl (ZcN hHY) rfl<|JLM rfl<|JLr (Zn XY rfl (ZcK 0 rfl) rfl<|Tn 1 rfl rfl rfl (fun hin=>hy _ _ _ _ _ hgd (by omega) (by omega) (by omega) (by omega) (Hle.hu _ _) (RIt.mono (Hle.hu _ _) (RIt_mk.2 ⟨kv,rfl,hk,hm,hks⟩))) rfl ?_)))
 rintro _ _ ⟨rfl,rfl⟩
 refine JLq (.bool false) (show Pu _ _ _ (.bool (!true)) from Pu.not rfl)<|Za<|Zt (b:=false) rfl (fun h=>absurd h (by simp)) (fun _=>Zo<|Zg<|Zd<|JLq (pp b1 3) (Ws rfl rfl)<|JLr (Zc S8 rfl (ZcK 1 rfl) rfl ?_))
 obtain ⟨a2,cap2,hv2⟩:=hks.sl
 have hle2:=hks.le
 refine JLn (ZcM Uk hv2)<|JLM rfl<|Za<|Zm<|ZD (fun k ρ M=>∃ (j:Nat) (nn:Int),Z7 ρ [(0,iv lv),(3,pp bW 0),(6,.bool false),(15,kv),(16,iv ((kids.length:Int))),(17,iv ((j:Int)))]=ρ∧Sub [yc nn] M∧j≤kids.length∧nn+Xh (kids.drop j)=n+1+Xh kids∧0≤nn∧k=kids.length-j) _ ⟨0,n+1,Zp rfl,(Sk Sub.nil),Nat.zero_le _,(by simp),(by omega),rfl⟩ ?_
 rintro _ ρ3 _ ⟨j,nn,e4,hm10,hj,hnn,hn1,rfl⟩
 obtain ⟨ρ11,rfl⟩:=Zi e4
 clear e4
 refine ZF hm10 ?_
 have hlen:=hks.le
 refine Zd<|JLn (Pu.lss rfl rfl)<|Za<|Zg<|ZN rfl (fun h12=>?_) (fun h12=>?_)
 ·have h12n:j<kids.length:=by omega
  have hs1:=Gp (getElem_mem h12n)
  have hs2:=Io h12n
  have hd1:=Ew (getElem_mem h12n)
  have hgj:=MM hg.2.2.2 _ (getElem_mem h12n)
  refine Zo<|Zg<|Zm<|Zg<|Ze ?_
  obtain ⟨b13,o13,cap13,row13,T13,fr13,cs13,hv13,hb13,hs13,hE13⟩:=hks.get j (by omega)
  obtain ⟨ki13,rfl,hik13,hin13,hks13⟩:=LD hE13
  refine JLn (Pu.idx j Uk XY hv13 rfl rfl (by omega))<|JLr (Zn XY rfl (ZcN hb13) hs13<|JLr (Zk (l:=[iv 0,iv 0,.string (⟨#[]⟩),nS]) zeroValue82 rfl fun b14=>JLr (Zb 0 (vs:=[iv ((kids[j]).kind),iv ((kids[j]).num),.string ((kids[j]).text),ki13]) (l:=[iv ((kids[j]).kind),iv ((kids[j]).num),.string ((kids[j]).text),ki13]) XY rfl rfl rfl rfl rfl (Zh rfl (Zh rfl (Zh rfl (Zh hks13.one Zq)))) rfl<|Za<|Zd<|JLr (Zc KX rfl (ZcN hHW) rfl<|JLM rfl<|JLn (ZcV rfl rfl (by first | omega | (constructor <;> omega)))<|JLr (Zn XY rfl (ZcK 0 rfl) rfl<|Zs 1 rfl call230 rfl rfl (fun hin=>ih _ (getElem_mem h12n) _ _ _ _ (RIt.mono (Hle.hu _ _) (LC hik13 hin13 hks13)) hgj (by omega) (by omega) (by omega) (by omega) (Hle.hu _ _ _ _ hHY) (Hle.hu _ _ _ _ hHW) (fun y lv n a h k1 k1b k2 k3 k4 hh=>hy y lv n a h k1 k1b k2 k3 k4 (Hle.trans (Hle.hu _ _) hh))) rfl ?_)))))
  rintro _ _ ⟨rfl,rfl⟩
  refine JLq (.bool false) (show Pu _ _ _ (.bool (!true)) from Pu.not rfl)<|Za<|Zt (b:=false) rfl (fun h=>absurd h (by simp)) (fun _=>Zo<|Ze<|JLn (ZcP rfl rfl (by omega))<|JLM rfl<|Za<|⟨_,?_,(j+1),(nn+(szI (kids[j]):Int)),Zp rfl,(Sk Sub.nil),?_,?_,?_,rfl⟩)
  ·omega
  ·omega
  ·omega
  omega
 have h12n:kids.length≤j:=by omega
 refine ZC _ rfl<|Zd<|JAn rfl<|ZE (.bool true) [yc nn] (Sk Sub.nil) (?_)
 rw [SM h12n,Xh] at hnn
 exact ⟨rfl,by rw [szI,show (n+((1+Xh kids:Nat):Int))=nn from by omega]⟩
theorem LH (l:Nat) (yc:Int→Zf) (x:It) (cs:List Value) (H:Heap) (bT:Nat) (hx:RIt H cs x) (hT:H bT=some (.cells ⟨cs⟩ 82 (0,0))) (hg:gdI x) (hd:dpI x≤250) (hz:szI x≤5000) (hy:∀ (y:It) (lv n:Int) (a:List Value) (h:Heap),gdI y→1≤lv→lv≤250→0≤n→n+1≤5000→Hle H h→RIt h a y→YT prog l ⟨[iv lv,.agg ⟨a⟩]⟩ [yc n] h (fun v N=>v=.bool true∧N=[yc (n+1)])):CT prog 229 ⟨[.func (.yield l) ⟨[]⟩ ⟨[]⟩,pp bT 0]⟩ [yc 0] H (fun _ N=>N=[yc (szI x)]):=by
 refine Zl func229 rfl rfl<|Zd<|JLr (Zr (l:=[.func (.yield l) ⟨[]⟩ ⟨[]⟩]) rfl rfl fun b1=>Za<|Zd<|JLr (Zk (l:=[.nilFunc]) zeroValue265 rfl fun b2=>Za<|Zd<|JLq (.func (.func 230) ⟨[]⟩ ⟨[pp b1 0,pp b2 0]⟩) (Pu.makeFunc rfl rfl)<|JLr (Zb 0 (vs:=[.func (.func 230) ⟨[]⟩ ⟨[pp b1 0,pp b2 0]⟩]) (l:=[.func (.func 230) ⟨[]⟩ ⟨[pp b1 0,pp b2 0]⟩]) KX rfl rfl rfl rfl rfl (Zh rfl Zq) rfl ?_)))
 refine Za<|Ze<|JLr (Zc KX rfl (ZcK 0 rfl) rfl<|JLr (Zn XY rfl (ZcN hT) (Zx (SY hx))<|Zs 2 rfl call230 rfl rfl (fun hin=>HZ l yc _ _ _ _ _ _ _ (RIt.mono (Hle.hu _ _) hx) hg (by decide) (by omega) (by decide) (by omega) (hin 1 _ rfl _ _ mem_cons_self) (hin 0 _ rfl _ _ mem_cons_self) (fun y lv n a h k1 k1b k2 k3 k4 hh=>hy y lv n a h k1 k1b k2 k3 k4 (Hle.trans (Hle.hu _ _) hh))) rfl ?_))
 rintro _ _ ⟨rfl,rfl⟩
 refine Za<|⟨.tuple ⟨[]⟩,[yc (0+(szI x:Int))],Ret.none rfl,(Sk Sub.nil),?_⟩
 show _=_;rw [Int.zero_add]
theorem Nd (n:Nat) (H:Heap) (hn:n≤1099511627776):CT prog 197 ⟨[iv ((n:Int))]⟩ [] H (fun r N=>∃ k,N=[k]∧Own 5 1 r (YU (XQ n)) k):=by
 obtain ⟨l,hl0⟩:∃ l:List Int,l=[]:=⟨_,rfl⟩
 refine Zl func197 rfl rfl<|Zd<|JAn rfl<|Zd<|JAn rfl<|Zg<|Zm<|ZD (fun k ρ M=>∃ (m:Nat) (p:List Int) (y:Value) (q1:Zf),Z7 ρ [(0,iv ((m:Int))),(2,nS),(3,y)]=ρ∧Sub [q1] M∧Own 5 1 y (YU p) q1∧p++XQ m=l++XQ n∧m≤n∧k=2*m+1) _ ⟨n,[],nS,[],Zp rfl,(ZcL Sub.nil),(by simpa [YU] using Own.nil),(by rw [hl0]),(Nat.le_refl _),rfl⟩ ?_
 rintro _ ρ1 _ ⟨m,p,y,q1,e2,hm5,hown,hinv,hmn,rfl⟩
 obtain ⟨ρ6,rfl⟩:=Zi e2
 clear e2
 refine ZF hm5<|Zg<|Zd<|JLM rfl<|JLn (Pu.gtr rfl rfl)<|Za<|ZN rfl (fun h7=>?_) (fun h7=>?_)
 ·refine Zo<|Zg<|Zm ?_
  have hpl:p.length+(XQ m).length=(XQ n).length:=by rw [← length_append,hinv,hl0];rfl
  have hn6:=UG (n:=n) (by omega)
  refine Ze<|JLm y<|JLM rfl<|JLq (iv (((m % 128:Nat):Int))) (Pu.bits rfl rfl (Zcg (by omega)))<|JLq (iv (((m % 128+128:Nat):Int))) (Zdv rfl rfl (Zcu (by omega)))<|JLq (.int .u8 (((m % 128+128:Nat):Int))) (Zc0 Ru3 Ru5 rfl (w8b (by omega)))<|JLr (Zj (vs:=[.int .u8 (((m % 128+128:Nat):Int))]) [[.int .u8 (((m % 128+128:Nat):Int))]] YV el5 rfl rfl (al1 rfl) rfl (by decide) fun b8 k8 ho8 hk8=>?_)
  have hlens9:∀ e∈([[.int .u8 (((m % 128+128:Nat):Int))]]:List (List Value)),List.length e=1:=al1 rfl
  have hoks9:∀ e∈([[.int .u8 (((m % 128+128:Nat):Int))]]:List (List Value)),okc e:=al1 (Zh rfl Zq)
  refine JLr (ZA (i:=1) (n:=1) (es':=[[.int .u8 (((m % 128+128:Nat):Int))]]) YV YV (Or.inl rfl) el5 rfl rfl rfl hown (fun F w m=>Src.row (((ZcS 0 rfl (by rw [hk8];exact mem_cons_self))).heap m) (Zx (Zw hlens9))) rfl hlens9 hoks9 (by decide) (by rw [Yu];simp;omega) fun v9 k9 ho9=>?_)
  rw [ST] at ho9
  refine JLa v9<|Za<|Ze<|JLM rfl<|JLq (iv (((m / 128:Nat):Int))) (Zdh rfl rfl (by decide) (Zbj m))<|JAn rfl<|⟨_,?_,(m / 128),(p++[((m % 128+128:Nat):Int)]),v9,k9,Zp rfl,(Sd (Sk Sub.nil)),?_,?_,?_,rfl⟩
  ·omega
  ·simpa using ho9
  ·rw [Nf (by omega)] at hinv;rw [← hinv];simp
  omega
 refine ZC _ rfl<|Zg ?_
 have hpl:p.length+(XQ m).length=(XQ n).length:=by rw [← length_append,hinv,hl0];rfl
 have hn6:=UG (n:=n) (by omega)
 refine Ze<|JLm y<|JLM rfl<|JLq (.int .u8 ((m:Int))) (Zc0 Ru3 Ru5 rfl (w8b (by omega)))<|JLr (Zj (vs:=[.int .u8 ((m:Int))]) [[.int .u8 ((m:Int))]] YV el5 rfl rfl (al1 rfl) rfl (by decide) fun b10 k10 ho10 hk10=>?_)
 have hlens11:∀ e∈([[.int .u8 ((m:Int))]]:List (List Value)),List.length e=1:=al1 rfl
 have hoks11:∀ e∈([[.int .u8 ((m:Int))]]:List (List Value)),okc e:=al1 (Zh rfl Zq)
 refine JLr (ZA (i:=1) (n:=1) (es':=[[.int .u8 ((m:Int))]]) YV YV (Or.inl rfl) el5 rfl rfl rfl hown (fun F w m=>Src.row (((ZcS 0 rfl (by rw [hk10];exact mem_cons_self))).heap m) (Zx (Zw hlens11))) rfl hlens11 hoks11 (by decide) (by rw [Yu];simp;omega) fun v11 k11 ho11=>?_)
 rw [ST] at ho11
 refine JLa v11<|Za<|ZE v11 [k11] (Sd (Sk Sub.nil)) (?_)
 rw [Qh (by omega)] at hinv
 exact ⟨_,rfl,by rw [show XQ n=l++XQ n by rw [hl0];rfl,← hinv];exact ho11⟩
theorem CQ (n:Nat) (H:Heap) (hn:n≤1000000):CT prog 205 ⟨[nS,iv ((n:Int))]⟩ [] H (fun r N=>∃ k,N=[k]∧Own 5 1 r [] k):=by
 refine Zl func205 rfl rfl<|Zd<|JAn rfl<|Zg<|Zd<|JLM rfl<|JLn (Pu.lss rfl rfl)<|Za<|ZN rfl (fun h1=>?_) (fun h1=>?_)
 ·have h1n:n<0:=by omega
  exfalso;first | omega | (have z:=h1;simp at z;omega)
 have h1n:0≤n:=by omega
 refine Zo<|Zg<|Zd<|JLM rfl<|JLM rfl<|JLq (iv 0) (Zdi YV rfl)<|JLM rfl<|JLn (ZcM YV rfl)<|JLq (iv 0) (Zc7 rfl rfl rfl)<|JLq (iv ((n:Int))) (Zc7 rfl rfl ((congrArg IntKind.i64.wrap (Int.sub_zero _)).trans (w64 (by omega))))<|JLA rfl<|Za ?_
 refine Zd<|JLM rfl<|JLn (Pu.gtr rfl rfl)<|Za<|ZN rfl (fun h2=>?_) (fun h2=>?_)
 ·refine Ze<|JLM rfl<|JLM rfl<|JLq (iv 0) (Zdi YV rfl)<|JLq nS (Zde YV sizeOf5 rfl rfl)<|JLM rfl<|JLr (NS (n:=n) YV Ru3 el5 rfl rfl (by omega) (by decide) (by omega) fun bZ capZ Z hZ hcZ=>JLM rfl<|JLn (ZcM YV rfl)<|JLq (.slice (some ⟨bZ,0,none⟩) 0 capZ) (Zde YV sizeOf5 rfl rfl)<|JAn rfl<|Zg ?_)
  refine Ze<|JLM rfl<|JAn rfl<|ZE (.slice (some ⟨bZ,0,none⟩) 0 capZ) [(BX bZ Z 5)] (Sk Sub.nil) (?_)
  exact ⟨_,rfl,by simp,.inr ⟨_,_,_,rfl,rfl,by simp;exact hZ,Nat.zero_le _⟩⟩
 refine Zo<|Zd<|JLM rfl<|JAn rfl<|ZE nS [[]] (ZcL Sub.nil) (?_)
 exact ⟨_,rfl,Own.nil⟩
set_option maxHeartbeats 2000000 in
theorem OA (ll:List (List Int)) (v:Value) (H:Heap) (hv:Hs.rdS RBB 1 H v ll) (hz:ll.flatten.length≤1000000):CT prog 175 ⟨[v]⟩ [] H (fun r N=>∃ k,N=[k]∧Own 5 1 r (YU ll.flatten) k):=by
 refine Zl func175 rfl rfl<|Zd<|JAn rfl<|Zd<|JAn rfl<|Zg<|Zd<|JLm v ?_
 obtain ⟨a1,cap1,hv1⟩:=hv.sl
 have hle1:=hv.le
 refine JLn (ZcM PO hv1)<|JLM rfl<|Za<|Zm<|ZD (fun k ρ M=>∃ (j:Nat) (s:Int),Z7 ρ [(0,v),(2,nS),(3,iv s),(9,v),(10,iv ((ll.length:Int))),(11,iv ((j:Int)))]=ρ∧Sub [] M∧j≤ll.length∧s=((ll.take j).flatten.length:Int)∧k=ll.length-j) _ ⟨0,0,Zp rfl,Sub.nil,Nat.zero_le _,(by simp),rfl⟩ ?_
 rintro _ ρ2 _ ⟨j,s,e3,hm9,hj,hs,rfl⟩
 obtain ⟨ρ10,rfl⟩:=Zi e3
 clear e3
 refine ZF hm9<|Zd<|JLn (Pu.lss rfl rfl)<|Za<|Zg<|ZN rfl (fun h11=>?_) (fun h11=>?_)
 ·have h11n:j<ll.length:=by omega
  have hfl:=JS h11n
  have hlenl:=hv.le
  refine Zo<|Zg<|Zm<|Zg<|Ze ?_
  obtain ⟨b12,o12,cap12,row12,T12,fr12,cs12,hv12,hb12,hs12,hE12⟩:=hv.get j (by omega)
  obtain ⟨vb12,rfl,hvb12⟩:=hE12
  refine JLn (Pu.idx j PO Ul hv12 rfl rfl (by omega))<|JLr (Zc Ul rfl (ZcN hb12) (ZP hs12)<|JLa vb12<|Za<|Zd<|JLM rfl<|JLm vb12 ?_)
  obtain ⟨a13,cap13,hv13⟩:=hvb12.sl
  have hle13:=hvb12.le
  refine JLn (ZcM YV hv13)<|JLn (ZcV rfl rfl (by first | omega | (constructor <;> omega)))<|JAn rfl<|Zd<|JLM rfl<|JLn (Pu.lss rfl rfl)<|Za<|ZN rfl (fun h14=>?_) (fun h14=>?_)
  ·exfalso;first | omega | (have z:=h14;simp at z;omega)
  refine Zo<|Ze<|JLn (ZcP rfl rfl (by omega))<|JLM rfl<|Za<|⟨_,?_,(j+1),(s+(((ll[j]).length:Int))),Zp rfl,Sub.nil,?_,?_,rfl⟩
  ·omega
  ·omega
  rw [Rt h11n,length_append];omega
 have h11n:ll.length≤j:=by omega
 refine ZC _ rfl<|Zg ?_
 rw [take_of_length_le h11n] at hs
 obtain ⟨sn,rfl⟩:∃ sn:Nat,s=(sn:Int):=⟨_,hs⟩
 refine Ze<|JLM rfl<|Jc call205 rfl (fun hin=>CQ sn _ (by omega)) rfl ?_
 rintro v15 _ ⟨k15,rfl,ho15⟩
 refine JLa v15<|Za<|Zg<|Zd<|JLm v ?_
 obtain ⟨a16,cap16,hv16⟩:=hv.sl
 have hle16:=hv.le
 refine JLn (ZcM PO hv16)<|JLM rfl<|Za<|Zm<|ZD (fun k ρ M=>∃ (j:Nat) (y:Value) (q1:Zf),Z7 ρ [(2,nS),(6,y),(25,v),(26,iv ((ll.length:Int))),(27,iv ((j:Int)))]=ρ∧Sub [q1] M∧j≤ll.length∧Own 5 1 y (YU ((ll.take j).flatten)) q1∧k=ll.length-j) _ ⟨0,v15,k15,Zp rfl,(Sk Sub.nil),Nat.zero_le _,(by simpa using (show Own 5 1 v15 (YU []) k15 from ho15)),rfl⟩ ?_
 rintro _ ρ17 _ ⟨j,y,q1,e18,hm23,hj,hown,rfl⟩
 obtain ⟨ρ24,rfl⟩:=Zi e18
 clear e18
 refine ZF hm23<|Zd<|JLn (Pu.lss rfl rfl)<|Za<|Zg<|ZN rfl (fun h25=>?_) (fun h25=>?_)
 ·have h25n:j<ll.length:=by omega
  have hfl:=JS h25n
  refine Zo<|Zg<|Zm<|Zg<|Ze ?_
  obtain ⟨b26,o26,cap26,row26,T26,fr26,cs26,hv26,hb26,hs26,hE26⟩:=hv.get j (by omega)
  obtain ⟨vb26,rfl,hvb26⟩:=hE26
  refine JLn (Pu.idx j PO Ul hv26 rfl rfl (by omega))<|JLr (Zc Ul rfl (ZcN hb26) (ZP hs26)<|JLa vb26<|Za<|Ze<|JLm y<|JLm vb26<|JLr (ZA (i:=0) (n:=(ll[j]).length) (es':=YU (ll[j])) YV YV (Or.inl rfl) el5 rfl rfl rfl hown (fun F w m=>Lc hvb26 w _ m) (Yu _) (Rw _) (NJ _) (by decide) (by rw [Yu];simp at *;omega) fun v27 k27 ho27=>?_))
  rw [← Ld] at ho27
  refine JLa v27<|Za<|Ze<|JLn (ZcP rfl rfl (by omega))<|JLM rfl<|Za<|⟨_,?_,(j+1),v27,k27,Zp rfl,(Sk Sub.nil),?_,?_,rfl⟩
  ·omega
  ·omega
  rw [Rt h25n];exact ho27
 have h25n:ll.length≤j:=by omega
 refine ZC _ rfl<|Zd<|JLm y<|JLa y<|Za<|ZE y [q1] (Sk Sub.nil) (?_)
 rw [take_of_length_le h25n] at hown
 exact ⟨_,rfl,hown⟩
theorem MF (ll:List (List Int)) (v:Value) (H:Heap) (hv:Hs.rdS RBB 1 H v ll) (hz:ll.flatten.length≤1000000):CT prog 196 ⟨[v]⟩ [] H (fun r N=>∃ k,N=[k]∧Own 5 1 r (YU ll.flatten) k):=by
 refine Zl func196 rfl rfl<|Zd<|JAn rfl<|Zd<|JLm v<|Jc call175 rfl (fun hin=>OA _ _ _ (RBBs.mono (Hle.hu _ _) hv) hz) rfl ?_
 rintro v1 _ ⟨k1,rfl,ho1⟩
 refine JLa v1<|Za<|ZE v1 [k1] (Sk Sub.nil) (?_)
 exact ⟨_,rfl,ho1⟩
set_option maxHeartbeats 4000000 in
theorem Ky:∀ (x:It) (cs:List Value) (H:Heap),RIt H cs x→gdI x→(Yf x).length≤1000000→CT prog 155 ⟨[.agg ⟨cs⟩]⟩ [] H (fun r N=>∃ k,N=[k]∧Own 5 1 r (YU (Yf x)) k):=by
 intro x
 induction x using It.ind with
 | h kd nm tx kids ih=>
 intro cs H ht hg hz
 obtain ⟨kv,rfl,hk,hm,hks⟩:=RIt_mk.1 ht
 rw [gdI] at hg
 obtain ⟨nn,rfl⟩:=Int.eq_ofNat_of_zero_le hg.2.1.1
 have hle:=hks.le
 have hn6:=UG (n:=nn) (by omega)
 have hs6:=UG (n:=tx.size) (by omega)
 have htl:=K3 hg.2.2.1
 have hsl:=UA tx
 have hekl:=KA hg.2.2.2
 have hP:1+(XQ nn).length+(txE tx).length+(if kids.length=0 then [] else XQ kids.length++YW kids).length≤1000000:=by rw [Yf] at hz;simp only [length_cons,length_append,Int.toNat_natCast] at hz;omega
 have hP2:(YW kids).length≤1000000:=by
  by_cases h0:kids.length=0
  ·obtain rfl:=eq_nil_of_length_eq_zero h0;simp [YW]
  ·rw [if_neg h0,length_append] at hP;omega
 have hk6:=UG (n:=kids.length) (by omega)
 refine Zl func155 rfl rfl<|Zd<|JLr (Zr (l:=[iv kd,iv ((nn:Int)),.string tx,kv]) rfl rfl fun b1=>JAn rfl<|Zd<|JLq (pp b1 0) (Kp rfl rfl)<|JLr (Zc ty3 rfl (ZcK 0 rfl) rfl<|JLq (.int .u8 kd) (Zc0 Ru3 Ru5 rfl (w8b (by omega)))<|JLA rfl<|Za ?_))
 refine Zd<|JLA rfl<|JAn rfl<|Zg<|Zd<|JLq (pp b1 2) (Nt rfl rfl)<|JLr (Zc ty9 rfl (ZcK 0 rfl) rfl<|JLn (ZdB rfl rfl)<|Za<|NW (N:=fun ρ M=>∃ (w1:Int) (y4:Value) (q4c:Zf),(w1=kd+(if tx=⟨#[]⟩ then 0 else 64))∧(Own 5 1 y4 (YU (txE tx)) q4c)∧ρ 1=pp b1 0∧ρ 2=nS∧ρ 3=.int .u8 w1∧ρ 4=y4∧ρ 5=nS∧Sub [q4c,(BX b1 [iv kd,iv ((nn:Int)),.string tx,kv] 82)] M) ?_ ?_)
 ·refine Zt rfl (fun h2=>?_) (fun h2=>?_)
  ·replace h2:=nt h2
   replace h2:=df h2
   refine Zd<|JLM rfl<|JLq (.int .u8 (kd+64)) (Zc1 rfl rfl (w8b (by omega)))<|JAn rfl<|ZM mixed #[0,1,3,7,0,16,48,127,255,511] 7 (sm 16 7) [] [(3,fun _ _ vw qw=>∃ k,qw=[k]∧Own 5 1 vw (YU (XQ (tx.size))) k),(6,fun _ _ vw qw=>∃ k,qw=[k]∧vw.oneCell'=true∧∀ h,Has k h→Hs.rdS RB 1 h vw (sB tx))] rfl (by kernel_rfl) rfl (by kernel_rfl)<|Dq (pp b1 2) (fun _=>Nt rfl rfl)<|Dl1 ty9 (ZcK 0 rfl) rfl<|Dn (fun _=>Zdp runUnderlying9 rfl) ?_
   refine Dc rfl call197 (fun _=>rfl) (fun hin=>Nd (tx.size) _ (by omega)) ?_
   rintro v5 _ ⟨k5,rfl,ho5⟩
   refine Dq (pp b1 2) (fun _=>Nt rfl rfl)<|Dl1 ty9 (ZcK 0 rfl) rfl ?_
   refine Dr rfl (fun _=>NQ underlying9 underlying28 underlying5 (by omega) rfl fun v k h1 h2=>⟨[k],by rw [Yd rfl];exact Sub.refl,k,rfl,h1,h2⟩) ?_;rintro v6 _ ⟨k6,rfl,hc6,hr6⟩
   refine ZX (M':=[k6,k5,(BX b1 [iv kd,iv ((nn:Int)),.string tx,kv] 82)]) rfl ?_
   show JL _ _ _ [_,_,_] _ _ _
   refine JLr (Zj (vs:=[v5,v6]) [[v5],[v6]] PO Zas rfl (congr (congrArg List.cons (ZH ho5.one)) (congr (congrArg List.cons (ZH hc6)) rfl)) (alc rfl (al1 rfl)) rfl (by decide) fun b7 k7 ho7 hk7=>Jc call196 rfl (fun hin=>MF [XQ (tx.size),sB tx] _ _ (Zdj ho7 (hin 0 _ rfl) (Wj ho5 (by first | omega | (simp only [length_append];omega)) (hin 2 _ rfl)) (hr6 _ (hin 1 _ rfl))) (by simp only [flatten_cons,flatten_nil,length_append,length_cons,List.length_nil];omega)) rfl ?_)
   rintro v8 _ ⟨k8,rfl,ho8⟩
   refine JLa v8<|Za ?_
   exact ⟨(kd+64),v8,k8,(by rw [if_neg h2]),(by have z:=ho8;unfold txE;rw [if_neg h2];simpa using z),rfl,rfl,rfl,rfl,rfl,(Sk (Sd (Sd (Sd (Sk Sub.nil)))))⟩
  replace h2:=nf h2
  replace h2:=dt h2
  refine Zo ?_
  exact ⟨kd,nS,[],(by rw [if_pos (by have z:=h2;simpa using z)];omega),(by unfold txE;rw [if_pos (by have z:=h2;simpa using z)];exact Own.nil),rfl,rfl,rfl,rfl,rfl,(ZcL (Sk Sub.nil))⟩
 rintro ρ9 _ ⟨w1,y4,q4c,h_w1,how4,e10,e11,e12,e13,e14,hm15⟩
 obtain ⟨ρ16,rfl⟩:=Zi (uc e10 (uc e11 (uc e12 (uc e13 (uc e14 un)))))
 clear e10 e11 e12 e13 e14
 refine ZF hm15<|Zg<|Zd<|JLq (pp b1 3) (Ws rfl rfl)<|JLr (Zc S8 rfl (ZcK 1 rfl) rfl ?_)
 obtain ⟨a17,cap17,hv17⟩:=hks.sl
 have hle17:=hks.le
 refine JLn (ZcM Uk hv17)<|JLn (Pu.gtr rfl rfl)<|Za<|NW (N:=fun ρ M=>∃ (w2:Int) (y5:Value) (q5c:Zf),(w2=hdE kd tx kids.length)∧(Own 5 1 y5 (YU (if kids.length=0 then [] else XQ kids.length++YW kids)) q5c)∧ρ 1=pp b1 0∧ρ 2=nS∧ρ 3=.int .u8 w2∧ρ 4=y4∧ρ 5=y5∧Sub [q5c,q4c,(BX b1 [iv kd,iv ((nn:Int)),.string tx,kv] 82)] M) ?_ ?_
 ·refine ZN rfl (fun h18=>?_) (fun h18=>?_)
  ·refine Zd<|JLM rfl<|JLq (.int .u8 (w1+128)) (Zc1 rfl rfl (w8b (by omega)))<|JAn rfl<|Zd<|JLq (pp b1 3) (Ws rfl rfl)<|JLr (Zc S8 rfl (ZcK 1 rfl) rfl ?_)
   obtain ⟨a19,cap19,hv19⟩:=hks.sl
   have hle19:=hks.le
   refine JLn (ZcM Uk hv19)<|Jc call197 rfl (fun hin=>Nd (kids.length) _ (by omega)) rfl ?_
   rintro v20 _ ⟨k20,rfl,ho20⟩
   refine JLa v20<|Za<|Zd<|JLq (pp b1 3) (Ws rfl rfl)<|JLr (Zc S8 rfl (ZcK 2 rfl) rfl ?_)
   obtain ⟨a21,cap21,hv21⟩:=hks.sl
   have hle21:=hks.le
   refine JLn (ZcM Uk hv21)<|JLM rfl<|Za<|Zm<|ZD (fun k ρ M=>∃ (j:Nat) (y:Value) (q1:Zf),Z7 ρ [(1,pp b1 0),(2,nS),(3,.int .u8 (w1+128)),(4,y4),(5,y),(36,kv),(37,iv ((kids.length:Int))),(38,iv ((j:Int)))]=ρ∧Sub [q1,q4c,(BX b1 [iv kd,iv ((nn:Int)),.string tx,kv] 82)] M∧j≤kids.length∧Own 5 1 y (YU (XQ kids.length++YW (kids.take j))) q1∧k=kids.length-j) _ ⟨0,v20,k20,Zp rfl,(Sk (Sk (Sk Sub.nil))),Nat.zero_le _,(by have z:=ho20;simpa [YW] using z),rfl⟩ ?_
   rintro _ ρ22 _ ⟨j,y,q1,e23,hm31,hj,hown,rfl⟩
   obtain ⟨ρ32,rfl⟩:=Zi e23
   clear e23
   refine ZF hm31<|Zd<|JLn (Pu.lss rfl rfl)<|Za<|Zg<|ZN rfl (fun h33=>?_) (fun h33=>?_)
   ·have h33n:j<kids.length:=by omega
    have hs1:=M0 h33n
    have hgj:=MM hg.2.2.2 _ (getElem_mem h33n)
    refine Zo<|Zg<|Zm<|Zg<|Ze ?_
    obtain ⟨b34,o34,cap34,row34,T34,fr34,cs34,hv34,hb34,hs34,hE34⟩:=hks.get j (by omega)
    obtain ⟨ki34,rfl,hik34,hin34,hks34⟩:=LD hE34
    refine JLn (Pu.idx j Uk XY hv34 rfl rfl (by omega))<|JLr (Zn XY rfl (ZcN hb34) hs34<|JLr (Zk (l:=[iv 0,iv 0,.string (⟨#[]⟩),nS]) zeroValue82 rfl fun b35=>JLr (Zb 0 (vs:=[iv ((kids[j]).kind),iv ((kids[j]).num),.string ((kids[j]).text),ki34]) (l:=[iv ((kids[j]).kind),iv ((kids[j]).num),.string ((kids[j]).text),ki34]) XY rfl rfl rfl rfl rfl (Zh rfl (Zh rfl (Zh rfl (Zh hks34.one Zq)))) rfl<|Za<|Ze<|JLm y<|JLr (Zn XY rfl (ZcK 0 rfl) rfl<|Jc call155 rfl (fun hin=>ih _ (getElem_mem h33n) _ _ (RIt.mono (Hle.hu _ _) (LC hik34 hin34 hks34)) hgj (by omega)) rfl ?_))))
    rintro v36 _ ⟨k36,rfl,ho36⟩
    refine JLr (ZA (i:=2) (n:=(Yf (kids[j])).length) (es':=YU (Yf (kids[j]))) YV YV (Or.inl rfl) el5 rfl rfl rfl hown (Fb (i:=0) ho36 rfl) (Yu _) (Rw _) (NJ _) (by decide) (by rw [Yu];simp only [length_append];omega) fun v37 k37 ho37=>?_)
    rw [← Ld] at ho37
    refine JLa v37<|Za<|Ze<|JLn (ZcP rfl rfl (by omega))<|JLM rfl<|Za<|⟨_,?_,(j+1),v37,k37,Zp rfl,(Sd (Sd (Sk (Sk (Sk Sub.nil))))),?_,?_,rfl⟩
    ·omega
    ·omega
    rw [Pl h33n,← append_assoc];exact ho37
   have h33n:kids.length≤j:=by omega
   refine ZC _ rfl ?_
   exact ⟨(w1+128),y,q1,(by unfold hdE;rw [h_w1,if_neg (show ¬ kids.length=0 by omega)]),(by have z:=hown;rw [if_neg (show ¬ kids.length=0 by omega)];rw [take_of_length_le h33n] at z;exact z),rfl,rfl,rfl,rfl,rfl,(Sk (Sk (Sk Sub.nil)))⟩
  refine Zo ?_
  exact ⟨w1,nS,[],(by unfold hdE;rw [h_w1,if_pos (show kids.length=0 by omega),Int.add_zero]),(by rw [if_pos (show kids.length=0 by omega)];exact Own.nil),rfl,rfl,rfl,rfl,rfl,(ZcL (Sk (Sk Sub.nil)))⟩
 rintro ρ38 _ ⟨w2,y5,q5c,h_w2,how5,e39,e40,e41,e42,e43,hm44⟩
 obtain ⟨ρ45,rfl⟩:=Zi (uc e39 (uc e40 (uc e41 (uc e42 (uc e43 un)))))
 clear e39 e40 e41 e42 e43
 refine ZF hm44<|Zg ?_
 have hw2:0≤w2∧w2<256:=by rw [h_w2];unfold hdE;split <;> split <;> omega
 refine Ze<|JLM rfl<|JLr (Zj (vs:=[.int .u8 w2]) [[.int .u8 w2]] YV el5 rfl rfl (al1 rfl) rfl (by decide) fun b46 k46 ho46 hk46=>JLq (pp b1 1) (Ko rfl rfl)<|JLr (Zc ty3 rfl (ZcK 3 rfl) rfl<|Jc call197 rfl (fun hin=>Nd nn _ (by omega)) rfl ?_))
 rintro v47 _ ⟨k47,rfl,ho47⟩
 refine JLm y4<|JLm y5<|JLr (Zj (vs:=[.slice (some ⟨b46,0,none⟩) 1 1,v47,y4,y5]) [[.slice (some ⟨b46,0,none⟩) 1 1],[v47],[y4],[y5]] PO Zas rfl (congr (congrArg List.cons rfl) (congr (congrArg List.cons (ZH ho47.one)) (congr (congrArg List.cons (ZH how4.one)) (congr (congrArg List.cons (ZH how5.one)) rfl)))) (alc rfl (alc rfl (alc rfl (al1 rfl)))) rfl (by decide) fun b48 k48 ho48 hk48=>Jc call196 rfl (fun hin=>MF [[w2],XQ nn,txE tx,if kids.length=0 then [] else XQ kids.length++YW kids] _ _ (Zdx ho48 (hin 0 _ rfl) (Wj (l:=[w2]) ho46 (by simp) (hin 2 _ rfl)) (Wj ho47 (by first | omega | (simp only [length_append];omega)) (hin 1 _ rfl)) (Wj how4 (by first | omega | (simp only [length_append];omega)) (hin 4 _ rfl)) (Wj how5 (by first | omega | (simp only [length_append];omega)) (hin 3 _ rfl))) (by simp only [flatten_cons,flatten_nil,length_append,length_cons,List.length_nil];omega)) rfl ?_)
 rintro v49 _ ⟨k49,rfl,ho49⟩
 refine JLa v49<|Za<|ZE v49 [k49] (Sk Sub.nil) (?_)
 exact ⟨_,rfl,by have z:=ho49;rw [Yf,← h_w2];simpa using z⟩
set_option maxHeartbeats 2000000 in
theorem Hl (x:It) (cs:List Value) (H:Heap) (ht:RIt H cs x) (hg:gdI x) (hz:szI x≤5000) (hd:dpI x≤250):CT prog 153 ⟨[.agg ⟨cs⟩]⟩ [] H (fun v N=>v=iv 0∧N=[]):=by
 refine Zl func153 rfl rfl<|Zd<|JLr (Zr (l:=cs) rfl rfl fun b1=>JLr (Zk (l:=[iv 0]) zeroValue26 rfl fun b2=>Za<|Zd<|JLr (Zk (l:=[iv 0]) zeroValue3 rfl fun b3=>JLr (Zb 0 (vs:=[iv 0]) (l:=[iv 0]) ty3 rfl rfl rfl rfl rfl (Zh rfl Zq) rfl<|Za<|Zg<|Zg ?_))))
 refine Ze<|JLr (Zn XY rfl (ZcK 2 rfl) (Zx (SY ht))<|Jc call195 rfl (fun hin=>Ik _ _ (SY ht)) rfl ?_)
 rintro _ _ ⟨bT4,rfl,rfl⟩
 refine Za<|Zm<|Qu (L:=[(BX bT4 cs 82),(BX b2 [iv 0] 26),(BX b1 cs 82)]) (fun e:Int=>[(BX b3 [iv e] 3)]) (fun _=>false) 0 (fun e=>e=(szI x:Int)) rfl rfl call229 (Uc (i:=1) rfl) ?_ ?_ ?_
 ·intro l yc hY hin
  refine CT.mono (LH l yc x _ _ bT4 (RIt.mono (Hle.hu _ _) ht) (hin 0 _ rfl _ _ mem_cons_self) hg hd hz ?_) (fun v N hN=>⟨_,hN,rfl⟩)
  intro y lv n a h hgy hl0 hlv hn0 hn1 hh hry
  obtain ⟨kd,nm,tx,kids⟩:=y
  obtain ⟨kv,rfl,hk,hm,hks⟩:=RIt_mk.1 hry
  rw [gdI] at hgy
  refine YT.mono (hY n [_,_] h (fun e'=>e'=n+1) rfl rfl (RoundOk.mk ?_)) ?_
  ·show J _ _ _ _ [(BX b3 [iv n] 3)] _
   refine Zd<|JAn rfl<|Ze<|JLr (Zk (l:=[iv 0,iv 0,.string (⟨#[]⟩),nS]) zeroValue82 rfl fun b5=>JLr (Zb 0 (vs:=[iv kd,iv nm,.string tx,kv]) (l:=[iv kd,iv nm,.string tx,kv]) XY rfl rfl rfl rfl rfl (Zh rfl (Zh rfl (Zh rfl (Zh hks.one Zq)))) rfl<|Za<|Zm<|Zg<|Zm<|Zg<|Ze ?_))
   refine JLM rfl<|JLn (Pu.gtr rfl rfl)<|JAn rfl<|ZN rfl (fun h6=>?_) (fun h6=>?_)
   ·exfalso;first | omega | (have z:=h6;simp at z;omega)
   refine Zd<|JLr (Zc ty3 rfl (ZcK 1 rfl) rfl<|JLn (Pu.eql rfl rfl)<|JAn rfl<|ZN rfl (fun h7=>?_) (fun h7=>?_))
   ·exfalso;first | omega | (have z:=h7;simp at z;omega)
   refine Zd<|JLq (pp b5 0) (Kp rfl rfl)<|JLr (Zc ty3 rfl (ZcK 0 rfl) rfl<|JLn (Pu.lss rfl rfl)<|JLM rfl<|ZK 3 [21,22,23] [(23,cond (decide (kd<1)) undef (.bool (decide (63<kd))))] ?_ fun f9=>?_)
   ·cases h8:(decide (kd<1)) with
    | false=>
     replace h8:=df h8
     refine JLq (pp b5 0) (Kp rfl rfl)<|JLr (Zc ty3 rfl (ZcK 0 rfl) rfl<|JLn (Pu.gtr rfl rfl) ?_)
     exact Za ⟨⟨rfl,trivial⟩,rfl⟩
    | true=>
     exact Z1 rfl ⟨rfl,trivial⟩
   refine JLn (ZcT rfl rfl rfl)<|JLM rfl<|ZK 3 [26,27,28] [(28,cond ((decide (kd<1))||(decide (63<kd))) undef (.bool (decide (nm<0))))] ?_ fun f11=>?_
   ·cases h10:((decide (kd<1))||(decide (63<kd))) with
    | false=>
     obtain ⟨h10a,h10b⟩:=orF h10
     replace h10a:=df h10a
     replace h10b:=df h10b
     refine JLq (pp b5 1) (Ko rfl rfl)<|JLr (Zc ty3 rfl (ZcK 0 rfl) rfl<|JLn (Pu.lss rfl rfl) ?_)
     exact Za ⟨⟨rfl,trivial⟩,rfl⟩
    | true=>
     exact Z1 rfl ⟨rfl,trivial⟩
   refine JLn (ZcT rfl rfl rfl)<|JLM rfl<|ZK 3 [31,32,33] [(33,cond (((decide (kd<1))||(decide (63<kd)))||(decide (nm<0))) undef (.bool (decide (1099511627776<nm))))] ?_ fun f13=>?_
   ·cases h12:(((decide (kd<1))||(decide (63<kd)))||(decide (nm<0))) with
    | false=>
     obtain ⟨h12a,h12b⟩:=orF h12
     obtain ⟨h12aa,h12ab⟩:=orF h12a
     replace h12aa:=df h12aa
     replace h12ab:=df h12ab
     replace h12b:=df h12b
     refine JLq (pp b5 1) (Ko rfl rfl)<|JLr (Zc ty3 rfl (ZcK 0 rfl) rfl<|JLn (Pu.gtr rfl rfl) ?_)
     exact Za ⟨⟨rfl,trivial⟩,rfl⟩
    | true=>
     exact Z1 rfl ⟨rfl,trivial⟩
   refine JLn (ZcT rfl rfl rfl)<|JAn rfl<|Zt rfl (fun h14=>?_) (fun h14=>?_)
   ·exfalso;first | omega | (have z:=h14;simp at z;omega)
   obtain ⟨h14a,h14b⟩:=orF h14
   obtain ⟨h14aa,h14ab⟩:=orF h14a
   obtain ⟨h14aaa,h14aab⟩:=orF h14aa
   replace h14aaa:=df h14aaa
   replace h14aab:=df h14aab
   replace h14ab:=df h14ab
   replace h14b:=df h14b
   refine Zd<|JLq (pp b5 2) (Nt rfl rfl)<|JLr (Zc ty9 rfl (ZcK 0 rfl) rfl<|JLn (Zdp runUnderlying9 rfl)<|JLn (Pu.gtr rfl rfl)<|JAn rfl<|ZN rfl (fun h15=>?_) (fun h15=>?_))
   ·exfalso;first | omega | (have z:=h15;simp at z;omega)
   refine Zo<|Ze<|JLr (Zc ty3 rfl (ZcK 1 rfl) rfl<|JLn (ZcV rfl rfl (by first | omega | (constructor <;> omega)))<|JLr (Zb 1 (vs:=[iv (n+1)]) (l:=[iv (n+1)]) ty3 rfl rfl rfl rfl rfl (Zh rfl Zq) rfl<|Za ?_))
   exact ⟨n+1,rfl,(Sd (Sk Sub.nil)),rfl⟩
  rintro v N ⟨e',rfl,rfl,rfl⟩;exact ⟨rfl,rfl⟩
 ·rintro ef hef hp
  refine Zd<|JLr (Zb 2 (vs:=[iv 0]) (l:=[iv 0]) PS rfl rfl rfl rfl rfl (Zh rfl Zq) rfl<|Za<|Zz<|⟨iv 0,[],Ret.one rfl (Zc8 PS rfl (ZcK 2 rfl) rfl),Sub.nil,?_⟩)
  exact ⟨rfl,rfl⟩
 rintro ef hef hp;cases hp
theorem I8 (t:Tm) (cs:List Value) (H:Heap) (ht:RT H cs t):CT prog 105 ⟨[.agg ⟨cs⟩]⟩ [] H (fun r N=>∃ cs k,r=.tuple ⟨[.agg ⟨cs⟩,iv (ZG 60 8 t)]⟩∧N=[k]∧OIt (if ZG 60 8 t=0 then itT t else zI) cs k):=by have z:=F5 t cs H ht;rw [QO] at z;exact z
end
theorem BG (a b c d e f g h:Int):∀ w,(Instr.build 174 ⟨[(0,.agg ⟨[.int .u32 a,.int .u32 b,.int .u32 c,.int .u32 d,.int .u32 e,.int .u32 f,.int .u32 g,.int .u32 h]⟩)]⟩).run prog w=.ok (.agg ⟨[.int .u32 a,.int .u32 b,.int .u32 c,.int .u32 d,.int .u32 e,.int .u32 f,.int .u32 g,.int .u32 h,.slice none 0 0,.int .i64 0]⟩) w:=
  ZT zeroValue174 runUnderlying174 Zbw (by kernel_rfl)
theorem ZaN {h:List W32} (hl:h.length=8):∀ w,(Instr.build 174 ⟨[(0,.agg ⟨uC h⟩)]⟩).run prog w=.ok (.agg ⟨uC h++[.slice none 0 0,.int .i64 0]⟩) w:=by
  obtain ⟨a,b,c,d,e,f,g,i,rfl⟩:=Kc hl
  exact BG _ _ _ _ _ _ _ _
theorem BF (a b c d e f g h:Int) (v:Option Addr) (n k:Nat) (m:Int):∀ w,(Instr.build 177 ⟨[(0,.agg ⟨[.int .u32 a,.int .u32 b,.int .u32 c,.int .u32 d,.int .u32 e,.int .u32 f,.int .u32 g,.int .u32 h,.slice v n k,.int .i64 m]⟩)]⟩).run prog w=.ok (.agg ⟨[.int .u32 a,.int .u32 b,.int .u32 c,.int .u32 d,.int .u32 e,.int .u32 f,.int .u32 g,.int .u32 h,.slice v n k,.int .i64 m]⟩) w:=
  ZT zeroValue177 runUnderlying177 Zbv (by kernel_rfl)
theorem ZaM {h:List W32} (hl:h.length=8) (v:Option Addr) (n c:Nat) (m:Int):∀ w,(Instr.build 177 ⟨[(0,.agg ⟨uC h++[.slice v n c,.int .i64 m]⟩)]⟩).run prog w=.ok (.agg ⟨uC h++[.slice v n c,.int .i64 m]⟩) w:=by
  obtain ⟨a,b,c,d,e,f,g,i,rfl⟩:=Kc hl
  exact BF _ _ _ _ _ _ _ _ _ _ _ _
theorem Zdr {x:Nat×Obj} {k:Zf} {R M:List Zf} (h:Sub ((x::k)::R) M):Sub ([x]::k::R) M:=h.flat (by simp)
theorem ZdH {x:Nat×Obj} {k:Zf} {R M:List Zf} (h:Sub ([x]::k::R) M):Sub ((x::k)::R) M:=h.flat (by simp)
def GK (h:Heap):Prop:=(∃ T fr,h 1=some (.cells ⟨uC kW⟩ T fr))∧∃ T fr,h 0=some (.cells ⟨uC beW⟩ T fr)
theorem GK.mono {h h':Heap} (hh:Hle h h') (g:GK h):GK h':=by
  obtain ⟨⟨T,fr,h1⟩,T',fr',h2⟩:=g
  exact ⟨⟨T,fr,hh _ _ h1⟩,T',fr',hh _ _ h2⟩
section
attribute [local irreducible] JL J CT wlo DT
theorem D3 (x:W32) (n:Nat) (H:Heap) (hn:1≤n∧n≤31):CT prog 244 ⟨[.int .u32 (x.toNat:Int),iv (-(n:Int))]⟩ [] H (fun r N=>r=uv (Wi x n)∧N=[]):=by
 refine Zl func244 rfl rfl<|Zd<|JAn rfl<|Zd<|JLM rfl<|JLq (.int .u64 (18446744073709551616-(n:Int))) (Zc0 Ru3 runUnderlying159 rfl (GP hn))<|JLq (.int .u64 (((32-n:Nat):Int))) (Pu.bits rfl rfl (D5 hn))<|JAn rfl<|Zg ?_
 refine Ze<|JLM rfl<|JLM rfl<|JLq (.int .u32 ((x <<< (32-n)).toNat:Int)) (Zdq (32-n) rfl rfl rfl (by omega))<|JLM rfl<|JLM rfl<|JLq (.int .u64 ((n:Int))) (Zc7 rfl rfl (D4 hn))<|JLq (.int .u32 ((x >>> n).toNat:Int)) (Zdg n rfl rfl rfl (by omega))<|JLq (.int .u32 (((x <<< (32-n)) ||| (x >>> n)).toNat:Int)) (Zdw rfl rfl)<|JAn rfl<|ZE (.int .u32 (((x <<< (32-n)) ||| (x >>> n)).toNat:Int)) [] Sub.nil (?_)
 exact ⟨rfl,rfl⟩
theorem Uv (n:Nat) (w:W32) (bw:Nat) (H:Heap) (hbw:H bw=some (.cells ⟨[uv w]⟩ 137 (0,0))) (hn:1≤n∧n≤31):CT prog 243 ⟨[iv ((n:Int)),pp bw 0]⟩ [] H (fun r N=>r=uv (Wi w n)∧N=[]):=by
 refine Zl func243 rfl rfl<|Zd<|JAn rfl<|Zd<|JLr (Zc Z3 rfl (ZcN hbw) rfl<|JLM rfl<|JLq (iv (-((n:Int)))) (Pu.neg rfl ((w64 (n:=0-((n:Int))) (by omega)).trans (by omega)))<|Jc call244 rfl (fun hin=>D3 _ n _ (by omega)) rfl ?_)
 rintro _ _ ⟨rfl,rfl⟩
 refine JAn rfl<|ZE (.int .u32 ((Wi w n).toNat:Int)) [] Sub.nil (?_)
 exact ⟨rfl,rfl⟩
theorem Nc (a b c:Nat) (lost:Bool) (w:W32) (H:Heap) (ha:1≤a∧a≤31) (hb:1≤b∧b≤31) (hc:1≤c∧c≤31):CT prog 234 ⟨[.agg ⟨[iv ((a:Int)),iv ((b:Int)),iv ((c:Int)),.bool lost]⟩,.int .u32 (w.toNat:Int)]⟩ [] H (fun r N=>r=uv (YN a b c lost w)∧N=[]):=by
 refine Zl func234 rfl rfl<|Zd<|JLr (Zr (l:=[iv ((a:Int)),iv ((b:Int)),iv ((c:Int)),.bool lost]) rfl rfl fun b1=>JLr (Zr (l:=[.int .u32 (w.toNat:Int)]) rfl rfl fun b2=>JAn rfl<|Zd<|JLq (.func (.func 243) ⟨[]⟩ ⟨[pp b2 0]⟩) (Pu.makeFunc rfl rfl)<|JAn rfl<|Zg ?_))
 refine Ze<|JLM rfl<|JLq (pp b1 2) (JU rfl rfl)<|JLr (Zc ty3 rfl (ZcK 1 rfl) rfl<|Jc call243 rfl (fun hin=>Uv c _ _ _ (hin 0 _ rfl _ _ mem_cons_self) (by omega)) rfl ?_)
 rintro _ _ ⟨rfl,rfl⟩
 refine JAn rfl<|Zg<|Zd<|JLq (pp b1 3) (C0 rfl rfl)<|JLr (Zc ty4 rfl (ZcK 1 rfl) rfl<|Za<|Zt rfl (fun h3=>?_) (fun h3=>?_))
 ·refine Ze<|JLr (Zc Z3 rfl (ZcK 0 rfl) rfl<|JLq (pp b1 2) (JU rfl rfl)<|JLr (Zc ty3 rfl (ZcK 1 rfl) rfl<|JLq (.int .u32 ((w >>> c).toNat:Int)) (Zdg c rfl rfl rfl (by omega))<|JAn rfl<|Zg<|ZM mixed #[0,0,2,7,0,0,32,127,255,0,1023,2047] 10 (sm 18 10) [] [(3,fun _ _ vw qw=>vw=.int .u32 ((Wi w a).toNat:Int)∧qw=[]),(7,fun _ _ vw qw=>vw=.int .u32 ((Wi w b).toNat:Int)∧qw=[])] rfl (by kernel_rfl) rfl (by kernel_rfl)<|DM (fun _=>rfl)<|Dq (pp b1 0) (fun _=>JW rfl rfl)<|Dl1 ty3 (ZcK 1 rfl) rfl ?_))
  refine Dc rfl call243 (fun _=>rfl) (fun hin=>Uv a _ _ _ (hin 0 _ rfl _ _ mem_cons_self) (by omega)) ?_
  rintro _ _ ⟨rfl,rfl⟩
  refine DM (fun _=>rfl)<|Dq (pp b1 1) (fun _=>JV rfl rfl)<|Dl1 ty3 (ZcK 1 rfl) rfl ?_
  refine Dc rfl call243 (fun _=>rfl) (fun hin=>Uv b _ _ _ (hin 0 _ rfl _ _ mem_cons_self) (by omega)) ?_
  rintro _ _ ⟨rfl,rfl⟩
  refine Dq (.int .u32 (((Wi w a) ^^^ (Wi w b)).toNat:Int)) (fun _=>Zc6 rfl rfl)<|DM (fun _=>rfl)<|ZX (M':=[(BX b2 [.int .u32 (w.toNat:Int)] 137),(BX b1 [iv ((a:Int)),iv ((b:Int)),iv ((c:Int)),.bool lost] 267)]) rfl ?_
  show JL _ _ _ [_,_] _ _ _
  refine JLq (.int .u32 ((((Wi w a) ^^^ (Wi w b)) ^^^ (w >>> c)).toNat:Int)) (Zc6 rfl rfl)<|JAn rfl<|ZE (.int .u32 ((((Wi w a) ^^^ (Wi w b)) ^^^ (w >>> c)).toNat:Int)) [] Sub.nil (?_)
  exact ⟨by rw [h3];rfl,rfl⟩
 refine Zo<|Zg<|ZM mixed #[0,0,2,7,0,0,32,127,255,0,1023,2047] 10 (sm 18 10) [] [(3,fun _ _ vw qw=>vw=.int .u32 ((Wi w a).toNat:Int)∧qw=[]),(7,fun _ _ vw qw=>vw=.int .u32 ((Wi w b).toNat:Int)∧qw=[])] rfl (by kernel_rfl) rfl (by kernel_rfl)<|DM (fun _=>rfl)<|Dq (pp b1 0) (fun _=>JW rfl rfl)<|Dl1 ty3 (ZcK 1 rfl) rfl ?_
 refine Dc rfl call243 (fun _=>rfl) (fun hin=>Uv a _ _ _ (hin 0 _ rfl _ _ mem_cons_self) (by omega)) ?_
 rintro _ _ ⟨rfl,rfl⟩
 refine DM (fun _=>rfl)<|Dq (pp b1 1) (fun _=>JV rfl rfl)<|Dl1 ty3 (ZcK 1 rfl) rfl ?_
 refine Dc rfl call243 (fun _=>rfl) (fun hin=>Uv b _ _ _ (hin 0 _ rfl _ _ mem_cons_self) (by omega)) ?_
 rintro _ _ ⟨rfl,rfl⟩
 refine Dq (.int .u32 (((Wi w a) ^^^ (Wi w b)).toNat:Int)) (fun _=>Zc6 rfl rfl)<|DM (fun _=>rfl)<|ZX (M':=[(BX b2 [.int .u32 (w.toNat:Int)] 137),(BX b1 [iv ((a:Int)),iv ((b:Int)),iv ((c:Int)),.bool lost] 267)]) rfl ?_
 show JL _ _ _ [_,_] _ _ _
 refine JLq (.int .u32 ((((Wi w a) ^^^ (Wi w b)) ^^^ (Wi w c)).toNat:Int)) (Zc6 rfl rfl)<|JAn rfl<|ZE (.int .u32 ((((Wi w a) ^^^ (Wi w b)) ^^^ (Wi w c)).toNat:Int)) [] Sub.nil (?_)
 exact ⟨by rw [h3];rfl,rfl⟩
theorem W2 (l:List W32) (v:Value) (H:Heap) (hv:Hs.rdS RU 1 H v l):CT prog 209 ⟨[v]⟩ [] H (fun r N=>r=uv (YY l)∧N=[]):=by
 have hlen:=hv.le
 refine Zl func209 rfl rfl<|Zd<|JAn rfl<|Zd<|JAn rfl<|Zg<|Zd<|JLm v ?_
 obtain ⟨a1,cap1,hv1⟩:=hv.sl
 have hle1:=hv.le
 refine JLn (ZcM Tv hv1)<|JLM rfl<|Za<|Zm<|ZD (fun k ρ M=>∃ (j:Nat) (s:W32),Z7 ρ [(2,.int .u32 0),(3,.int .u32 (s.toNat:Int)),(6,v),(7,iv ((l.length:Int))),(8,iv ((j:Int)))]=ρ∧Sub [] M∧j≤l.length∧s=YY (l.take j)∧k=l.length-j) _ ⟨0,0,Zp rfl,Sub.nil,Nat.zero_le _,rfl,rfl⟩ ?_
 rintro _ ρ2 _ ⟨j,s,e3,hm8,hj,hs,rfl⟩
 obtain ⟨ρ9,rfl⟩:=Zi e3
 clear e3
 refine ZF hm8<|Zd<|JLn (Pu.lss rfl rfl)<|Za<|Zg<|ZN rfl (fun h10=>?_) (fun h10=>?_)
 ·have h10n:j<l.length:=by omega
  refine Zo<|Zg<|Zm<|Zg<|Ze ?_
  obtain ⟨b11,o11,cap11,row11,T11,fr11,cs11,hv11,hb11,hs11,hE11⟩:=hv.get j (by omega)
  refine JLn (Pu.idx j Tv Z3 hv11 rfl rfl (by omega))<|JLr (Zc Z3 rfl (ZcN hb11) (ZP ((show cs11=[Value.int .u32 ((l[j]).toNat:Int)] from hE11)▸hs11))<|JAn rfl<|Ze<|JLM rfl<|JLM rfl<|JLq (.int .u32 ((s+(l[j])).toNat:Int)) (ZdF rfl rfl)<|JAn rfl<|Ze<|JLn (ZcP rfl rfl (by omega))<|JLM rfl ?_)
  refine Za<|⟨_,?_,(j+1),(s+(l[j])),Zp rfl,Sub.nil,?_,?_,rfl⟩
  ·omega
  ·omega
  rw [Ip h10n,hs]
 have h10n:l.length≤j:=by omega
 refine ZC _ rfl<|Zd<|JLM rfl<|JAn rfl<|ZE (.int .u32 (s.toNat:Int)) [] Sub.nil (?_)
 exact ⟨by rw [hs,take_of_length_le h10n],rfl⟩
theorem AK (v:List W32) (H:Heap) (hv:v.length=8):CT prog 233 ⟨[.agg ⟨uC v⟩]⟩ [] H (fun r N=>r=uv (fiW v)∧N=[]):=by
 refine Zl func233 rfl rfl<|Zd<|JLr (Zr (l:=uC v) rfl rfl fun b1=>JAn rfl<|Zg<|ZM mixed #[0,1,0,0,8,28,0,64,0,256,960,0,2048,6144,0,16384,63488,131008,262143,524287,1048575] 18 (sm 3 18) [] [(5,fun _ _ vw qw=>vw=.int .u32 ((YN 6 11 25 false (v.getD 4 0)).toNat:Int)∧qw=[])] rfl (by kernel_rfl) rfl (by kernel_rfl)<|Dq (pp b1 7) (fun _=>ZcQ 7 Xz Z3 rfl rfl (by decide) (by decide)) ?_)
 refine Yn rfl (fun _=>rfl) Z3 (fun _=>rfl) (ZcK 0 rfl) (Wt (by have hbl:List.length v=8:=hv;rw [hbl];omega))<|Dq (.agg ⟨[iv 6,iv 11,iv 25,.bool false]⟩) (fun _=>Pu.build (pv:=[(0,iv 6),(1,iv 11),(2,iv 25),(3,.bool false)]) (l:=[iv 6,iv 11,iv 25,.bool false]) rfl (X3 _ _ _ _))<|Dq (pp b1 4) (fun _=>ZcQ 4 Xz Z3 rfl rfl (by decide) (by decide)) ?_
 refine Yn rfl (fun _=>rfl) Z3 (fun _=>rfl) (ZcK 0 rfl) (Wt (by have hbl:List.length v=8:=hv;rw [hbl];omega))<|Dc rfl call234 (fun _=>rfl) (fun hin=>Nc 6 11 25 false _ _ (by decide) (by decide) (by decide)) ?_
 rintro _ _ ⟨rfl,rfl⟩
 refine Dq (pp b1 4) (fun _=>ZcQ 4 Xz Z3 rfl rfl (by decide) (by decide)) ?_
 refine Yn rfl (fun _=>rfl) Z3 (fun _=>rfl) (ZcK 0 rfl) (Wt (by have hbl:List.length v=8:=hv;rw [hbl];omega))<|Dq (pp b1 5) (fun _=>ZcQ 5 Xz Z3 rfl rfl (by decide) (by decide)) ?_
 refine Yn rfl (fun _=>rfl) Z3 (fun _=>rfl) (ZcK 0 rfl) (Wt (by have hbl:List.length v=8:=hv;rw [hbl];omega))<|Dq (.int .u32 (((v.getD 4 0) &&& (v.getD 5 0)).toNat:Int)) (fun _=>Zda rfl rfl)<|Dq (pp b1 4) (fun _=>ZcQ 4 Xz Z3 rfl rfl (by decide) (by decide)) ?_
 refine Yn rfl (fun _=>rfl) Z3 (fun _=>rfl) (ZcK 0 rfl) (Wt (by have hbl:List.length v=8:=hv;rw [hbl];omega))<|Dq (.int .u32 ((~~~(v.getD 4 0)).toNat:Int)) (fun _=>ZdG rfl)<|Dq (pp b1 6) (fun _=>ZcQ 6 Xz Z3 rfl rfl (by decide) (by decide)) ?_
 refine Yn rfl (fun _=>rfl) Z3 (fun _=>rfl) (ZcK 0 rfl) (Wt (by have hbl:List.length v=8:=hv;rw [hbl];omega))<|Dq (.int .u32 (((~~~(v.getD 4 0)) &&& (v.getD 6 0)).toNat:Int)) (fun _=>Zda rfl rfl)<|Dq (.int .u32 ((((v.getD 4 0) &&& (v.getD 5 0)) ^^^ ((~~~(v.getD 4 0)) &&& (v.getD 6 0))).toNat:Int)) (fun _=>Zc6 rfl rfl)<|ZX (M':=[(BX b1 (uC v) 138)]) rfl ?_
 show JL _ _ _ [_,_,_] _ _ _
 refine JLr (Zj (vs:=[.int .u32 ((v.getD 7 0).toNat:Int),.int .u32 ((YN 6 11 25 false (v.getD 4 0)).toNat:Int),.int .u32 ((((v.getD 4 0) &&& (v.getD 5 0)) ^^^ ((~~~(v.getD 4 0)) &&& (v.getD 6 0))).toNat:Int)]) [[.int .u32 ((v.getD 7 0).toNat:Int)],[.int .u32 ((YN 6 11 25 false (v.getD 4 0)).toNat:Int)],[.int .u32 ((((v.getD 4 0) &&& (v.getD 5 0)) ^^^ ((~~~(v.getD 4 0)) &&& (v.getD 6 0))).toNat:Int)]] Tv Pm rfl rfl (alc rfl (alc rfl (al1 rfl))) rfl (by decide) fun b2 k2 ho2 hk2=>Jc call209 rfl (fun hin=>W2 [v.getD 7 0,YN 6 11 25 false (v.getD 4 0),((v.getD 4 0) &&& (v.getD 5 0)) ^^^ ((~~~(v.getD 4 0)) &&& (v.getD 6 0))] _ _ (QY (l:=[v.getD 7 0,YN 6 11 25 false (v.getD 4 0),((v.getD 4 0) &&& (v.getD 5 0)) ^^^ ((~~~(v.getD 4 0)) &&& (v.getD 6 0))]) ho2 (by simp) (hin 0 _ rfl))) rfl ?_)
 rintro _ _ ⟨rfl,rfl⟩
 refine JAn rfl<|ZE (.int .u32 ((YY [v.getD 7 0,YN 6 11 25 false (v.getD 4 0),((v.getD 4 0) &&& (v.getD 5 0)) ^^^ ((~~~(v.getD 4 0)) &&& (v.getD 6 0))]).toNat:Int)) [] Sub.nil (?_)
 exact ⟨by rw [B4];rfl,rfl⟩
theorem AJ (v:List W32) (H:Heap) (hv:v.length=8):CT prog 235 ⟨[.agg ⟨uC v⟩]⟩ [] H (fun r N=>r=uv (seW v)∧N=[]):=by
 refine Zl func235 rfl rfl<|Zd<|JLr (Zr (l:=uC v) rfl rfl fun b1=>JAn rfl<|Zg<|ZM mixed #[0,0,2,7,0,16,0,64,240,0,512,0,2048,7680,16368,0,32768,0,131072,491520,1048560,2097151,4194303,8388607] 21 (sm 3 21) [] [(3,fun _ _ vw qw=>vw=.int .u32 ((YN 2 13 22 false (v.getD 0 0)).toNat:Int)∧qw=[])] rfl (by kernel_rfl) rfl (by kernel_rfl)<|Dq (.agg ⟨[iv 2,iv 13,iv 22,.bool false]⟩) (fun _=>Pu.build (pv:=[(0,iv 2),(1,iv 13),(2,iv 22),(3,.bool false)]) (l:=[iv 2,iv 13,iv 22,.bool false]) rfl (X3 _ _ _ _))<|Dq (pp b1 0) (fun _=>ZcQ 0 Xz Z3 rfl rfl (by decide) (by decide)) ?_)
 refine Yn rfl (fun _=>rfl) Z3 (fun _=>rfl) (ZcK 0 rfl) (Wt (by have hbl:List.length v=8:=hv;rw [hbl];omega))<|Dc rfl call234 (fun _=>rfl) (fun hin=>Nc 2 13 22 false _ _ (by decide) (by decide) (by decide)) ?_
 rintro _ _ ⟨rfl,rfl⟩
 refine Dq (pp b1 0) (fun _=>ZcQ 0 Xz Z3 rfl rfl (by decide) (by decide)) ?_
 refine Yn rfl (fun _=>rfl) Z3 (fun _=>rfl) (ZcK 0 rfl) (Wt (by have hbl:List.length v=8:=hv;rw [hbl];omega))<|Dq (pp b1 1) (fun _=>ZcQ 1 Xz Z3 rfl rfl (by decide) (by decide)) ?_
 refine Yn rfl (fun _=>rfl) Z3 (fun _=>rfl) (ZcK 0 rfl) (Wt (by have hbl:List.length v=8:=hv;rw [hbl];omega))<|Dq (.int .u32 (((v.getD 0 0) &&& (v.getD 1 0)).toNat:Int)) (fun _=>Zda rfl rfl)<|Dq (pp b1 0) (fun _=>ZcQ 0 Xz Z3 rfl rfl (by decide) (by decide)) ?_
 refine Yn rfl (fun _=>rfl) Z3 (fun _=>rfl) (ZcK 0 rfl) (Wt (by have hbl:List.length v=8:=hv;rw [hbl];omega))<|Dq (pp b1 2) (fun _=>ZcQ 2 Xz Z3 rfl rfl (by decide) (by decide)) ?_
 refine Yn rfl (fun _=>rfl) Z3 (fun _=>rfl) (ZcK 0 rfl) (Wt (by have hbl:List.length v=8:=hv;rw [hbl];omega))<|Dq (.int .u32 (((v.getD 0 0) &&& (v.getD 2 0)).toNat:Int)) (fun _=>Zda rfl rfl)<|Dq (.int .u32 ((((v.getD 0 0) &&& (v.getD 1 0)) ^^^ ((v.getD 0 0) &&& (v.getD 2 0))).toNat:Int)) (fun _=>Zc6 rfl rfl)<|Dq (pp b1 1) (fun _=>ZcQ 1 Xz Z3 rfl rfl (by decide) (by decide)) ?_
 refine Yn rfl (fun _=>rfl) Z3 (fun _=>rfl) (ZcK 0 rfl) (Wt (by have hbl:List.length v=8:=hv;rw [hbl];omega))<|Dq (pp b1 2) (fun _=>ZcQ 2 Xz Z3 rfl rfl (by decide) (by decide)) ?_
 refine Yn rfl (fun _=>rfl) Z3 (fun _=>rfl) (ZcK 0 rfl) (Wt (by have hbl:List.length v=8:=hv;rw [hbl];omega))<|Dq (.int .u32 (((v.getD 1 0) &&& (v.getD 2 0)).toNat:Int)) (fun _=>Zda rfl rfl)<|Dq (.int .u32 (((((v.getD 0 0) &&& (v.getD 1 0)) ^^^ ((v.getD 0 0) &&& (v.getD 2 0))) ^^^ ((v.getD 1 0) &&& (v.getD 2 0))).toNat:Int)) (fun _=>Zc6 rfl rfl)<|ZX (M':=[(BX b1 (uC v) 138)]) rfl ?_
 show JL _ _ _ [_,_,_] _ _ _
 refine JLr (Zj (vs:=[.int .u32 ((YN 2 13 22 false (v.getD 0 0)).toNat:Int),.int .u32 (((((v.getD 0 0) &&& (v.getD 1 0)) ^^^ ((v.getD 0 0) &&& (v.getD 2 0))) ^^^ ((v.getD 1 0) &&& (v.getD 2 0))).toNat:Int)]) [[.int .u32 ((YN 2 13 22 false (v.getD 0 0)).toNat:Int)],[.int .u32 (((((v.getD 0 0) &&& (v.getD 1 0)) ^^^ ((v.getD 0 0) &&& (v.getD 2 0))) ^^^ ((v.getD 1 0) &&& (v.getD 2 0))).toNat:Int)]] Tv Pm rfl rfl (alc rfl (al1 rfl)) rfl (by decide) fun b2 k2 ho2 hk2=>Jc call209 rfl (fun hin=>W2 [YN 2 13 22 false (v.getD 0 0),(((v.getD 0 0) &&& (v.getD 1 0)) ^^^ ((v.getD 0 0) &&& (v.getD 2 0))) ^^^ ((v.getD 1 0) &&& (v.getD 2 0))] _ _ (QY (l:=[YN 2 13 22 false (v.getD 0 0),(((v.getD 0 0) &&& (v.getD 1 0)) ^^^ ((v.getD 0 0) &&& (v.getD 2 0))) ^^^ ((v.getD 1 0) &&& (v.getD 2 0))]) ho2 (by simp) (hin 0 _ rfl))) rfl ?_)
 rintro _ _ ⟨rfl,rfl⟩
 refine JAn rfl<|ZE (.int .u32 ((YY [YN 2 13 22 false (v.getD 0 0),(((v.getD 0 0) &&& (v.getD 1 0)) ^^^ ((v.getD 0 0) &&& (v.getD 2 0))) ^^^ ((v.getD 1 0) &&& (v.getD 2 0))]).toNat:Int)) [] Sub.nil (?_)
 exact ⟨by rw [K6];rfl,rfl⟩
theorem IG (H:Heap):CT prog 207 ⟨[]⟩ [] H (fun r N=>r=.agg ⟨[.func (.func 233) ⟨[]⟩ ⟨[]⟩,.func (.func 235) ⟨[]⟩ ⟨[]⟩]⟩∧N=[]):=by
 refine Zl func207 rfl rfl<|Zd<|JLr (Zk (l:=[.nilFunc,.nilFunc]) zeroValue249 rfl fun b1=>Za<|Zd<|JLq (.agg ⟨[.func (.func 233) ⟨[]⟩ ⟨[]⟩,.func (.func 235) ⟨[]⟩ ⟨[]⟩]⟩) (Pu.build (pv:=[(0,.func (.func 233) ⟨[]⟩ ⟨[]⟩),(1,.func (.func 235) ⟨[]⟩ ⟨[]⟩)]) (l:=[.func (.func 233) ⟨[]⟩ ⟨[]⟩,.func (.func 235) ⟨[]⟩ ⟨[]⟩]) rfl (KM _ _ _ _ _ _))<|JLr (Zb 0 (vs:=[.func (.func 233) ⟨[]⟩ ⟨[]⟩,.func (.func 235) ⟨[]⟩ ⟨[]⟩]) (l:=[.func (.func 233) ⟨[]⟩ ⟨[]⟩,.func (.func 235) ⟨[]⟩ ⟨[]⟩]) Gc rfl rfl rfl rfl rfl (Zh rfl (Zh rfl Zq)) rfl<|Za<|Zz<|⟨.agg ⟨[.func (.func 233) ⟨[]⟩ ⟨[]⟩,.func (.func 235) ⟨[]⟩ ⟨[]⟩]⟩,[],Ret.one rfl (RV.cell Gc rfl (ZcK 0 rfl) rfl),Sub.nil,?_⟩))
 exact ⟨rfl,rfl⟩
set_option maxHeartbeats 2000000 in
theorem Iv (bl:List Int) (v:Value) (H:Heap) (hv:byR H v bl) (hbl:bl.length=64) (hby:∀ x∈bl,0≤x∧x≤255):CT prog 208 ⟨[v]⟩ [] H (fun r N=>r=.agg ⟨uC (spr bl)⟩∧N=[]):=by
 refine Zl func208 rfl rfl<|Zd<|JLr (Zk (l:=uC (replicate 64 0)) zeroValue219 rfl fun b1=>Za<|Zg<|Zd<|JLM rfl<|Za<|Zm<|ZD (fun k ρ M=>∃ (j:Nat) (u:List W32),Z7 ρ [(0,v),(2,pp b1 0),(9,iv ((j:Int)))]=ρ∧Sub [(BX b1 (uC u) 219)] M∧j≤16∧u.length=64∧u=sp0 bl j∧k=16-j) _ ⟨0,replicate 64 0,Zp rfl,(Sk Sub.nil),Nat.zero_le _,(length_replicate ..),rfl,rfl⟩ ?_)
 rintro _ ρ2 _ ⟨j,u,e3,hm6,hj,hul,hu,rfl⟩
 obtain ⟨ρ7,rfl⟩:=Zi e3
 clear e3
 refine ZF hm6<|Zd<|JLn (Pu.lss rfl rfl)<|Za<|Zg<|ZN rfl (fun h8=>?_) (fun h8=>?_)
 ·have h8n:j<16:=by omega
  refine Zo<|Zg<|Zm<|Zd<|JLM rfl<|JAn rfl<|Zd<|JLm v<|JLM rfl<|JLq (iv (((4*j:Nat):Int))) (Zc4 rfl rfl ((w64 (by omega)).trans (by omega))) ?_
  refine JLM rfl<|JLq (iv (((4*j:Nat):Int))) (Zc4 rfl rfl ((w64 (by omega)).trans (by omega)))<|JLn (ZcV rfl rfl (by first | omega | (constructor <;> omega)))<|JLr (HG (4*j) 4 YV sizeOf5 hv rfl rfl rfl rfl (by omega) (by omega) fun u9 hu9=>?_)
  have h9:=hu9 _ hv
  obtain ⟨a10,cap10,hv10⟩:=h9.rd.sl
  have hle10:=h9.rd.le
  refine JLn (ZcM YV hv10)<|JLM rfl<|Za<|Zm<|ZD (fun k ρ M=>∃ (i:Nat) (u2:List W32),Z7 ρ [(0,v),(2,pp b1 0),(3,iv ((j:Int))),(9,iv ((j:Int))),(18,u9),(19,iv ((((bl.drop (4*j)).take 4).length:Int))),(20,iv ((i:Int)))]=ρ∧Sub [(BX b1 (uC u2) 219)] M∧i≤4∧u2.length=64∧u2=(sp0 bl j).set j (wk bl j i)∧k=4-i) _ ⟨0,u,Zp rfl,(Sk Sub.nil),Nat.zero_le _,hul,(by rw [hu];exact (Iw bl (by omega)).symm),rfl⟩ ?_
  rintro _ ρ11 _ ⟨i,u2,e12,hm19,hi,hu2l,hu2,rfl⟩
  obtain ⟨ρ20,rfl⟩:=Zi e12
  clear e12
  refine ZF hm19 ?_
  have hdl:((bl.drop (4*j)).take 4).length=4:=by rw [length_take,length_drop];omega
  refine Zd<|JLn (Pu.lss rfl rfl)<|Za<|Zg<|ZN rfl (fun h21=>?_) (fun h21=>?_)
  ·have h21n:i<((bl.drop (4*j)).take 4).length:=by omega
   refine Zo<|Zg<|Zm<|Zg<|Ze ?_
   obtain ⟨b22,o22,cap22,row22,T22,fr22,cs22,hv22,hb22,hs22,hE22⟩:=h9.rd.get i (by omega)
   refine JLn (Pu.idx i YV ty5 hv22 rfl rfl (by omega))<|JLr (Zc ty5 rfl (ZcN hb22) (ZP ((show cs22=[Value.int .u8 (((bl.drop (4*j)).take 4)[i])] from hE22)▸hs22))<|JAn rfl<|Ze<|JLM rfl<|JLM rfl<|JLq (pp b1 (0+j*1)) (ZcQ j SX Z3 rfl rfl rfl (by omega))<|JLr (Zc Z3 rfl (ZcK 0 rfl) (VX (by have hbl:List.length u2=64:=hu2l;rw [hbl];omega))<|JLq (.int .u32 (((u2.getD j 0) <<< 8).toNat:Int)) (Zdq 8 rfl rfl rfl (by omega))<|JLM rfl<|JLq (.int .u32 ((wd (((bl.drop (4*j)).take 4)[i])).toNat:Int)) (Zdz Ru5 runUnderlying137 rfl (by exact hby _ (List.mem_of_mem_drop (List.mem_of_mem_take (getElem_mem _)))))<|JLq (.int .u32 ((((u2.getD j 0) <<< 8) ||| (wd (((bl.drop (4*j)).take 4)[i]))).toNat:Int)) (Zdw rfl rfl) ?_))
   refine JLq (pp b1 (0+j*1)) (ZcQ j SX Z3 rfl rfl rfl (by omega))<|JLr (Zb 0 (vs:=[.int .u32 ((((u2.getD j 0) <<< 8) ||| (wd (((bl.drop (4*j)).take 4)[i]))).toNat:Int)]) (l:=uC (u2.set j (((u2.getD j 0) <<< 8) ||| (wd (((bl.drop (4*j)).take 4)[i]))))) Z3 rfl rfl rfl rfl rfl (Zh rfl Zq) (LJ (by have hbl:List.length u2=64:=hu2l;rw [hbl];omega))<|Za<|Ze<|JLn (ZcP rfl rfl (by omega))<|JLM rfl<|Za<|⟨_,?_,(i+1),(u2.set j (((u2.getD j 0) <<< 8) ||| (wd (((bl.drop (4*j)).take 4)[i])))),Zp rfl,(Sk Sub.nil),?_,?_,?_,rfl⟩)
   ·omega
   ·omega
   ·exact ((length_set ..).trans hu2l)
   exact DQ hu2 (by omega) (Qd (by omega))
  have h21n:((bl.drop (4*j)).take 4).length≤i:=by omega
  refine ZC _ rfl<|Ze<|JLn (ZcP rfl rfl (by omega))<|JLM rfl<|Za<|⟨_,?_,(j+1),u2,Zp rfl,(Sk Sub.nil),?_,?_,?_,rfl⟩
  ·omega
  ·omega
  ·exact hu2l
  rw [hu2,sp0,show i=4 by omega]
 have h8n:16≤j:=by omega
 refine ZC _ rfl<|Zd<|JLq (.agg ⟨[iv 7,iv 18,iv 3,.bool true]⟩) (Pu.build (pv:=[(0,iv 7),(1,iv 18),(2,iv 3),(3,.bool true)]) (l:=[iv 7,iv 18,iv 3,.bool true]) rfl (X3 _ _ _ _))<|JLq (.agg ⟨[iv 17,iv 19,iv 10,.bool true]⟩) (Pu.build (pv:=[(0,iv 17),(1,iv 19),(2,iv 10),(3,.bool true)]) (l:=[iv 17,iv 19,iv 10,.bool true]) rfl (X3 _ _ _ _))<|JLr (Zk (l:=[iv 0,iv 0,iv 0,.bool false]) zeroValue267 rfl fun b23=>JLr (Zk (l:=[iv 0,iv 0,iv 0,.bool false]) zeroValue267 rfl fun b24=>JLr (Zb 1 (vs:=[iv 7,iv 18,iv 3,.bool true]) (l:=[iv 7,iv 18,iv 3,.bool true]) KW rfl rfl rfl rfl rfl (Zh rfl (Zh rfl (Zh rfl (Zh rfl Zq)))) rfl<|JLr (Zb 0 (vs:=[iv 17,iv 19,iv 10,.bool true]) (l:=[iv 17,iv 19,iv 10,.bool true]) KW rfl rfl rfl rfl rfl (Zh rfl (Zh rfl (Zh rfl (Zh rfl Zq)))) rfl<|Za<|Zg<|Zg<|Ze ?_))))
 refine JAn rfl<|Zm<|ZD (fun k ρ M=>∃ (j3:Nat) (u3:List W32),ρ 2=pp b1 0∧ρ 6=pp b23 0∧ρ 7=pp b24 0∧ρ 8=iv (((j3+16:Nat):Int))∧Sub [(BX b1 (uC u3) 219),(BX b24 [iv 17,iv 19,iv 10,.bool true] 267),(BX b23 [iv 7,iv 18,iv 3,.bool true] 267)] M∧j3≤48∧u3.length=64∧u3=sp1 (sp0 bl 16) j3∧k=48-j3) _ ⟨0,u,rfl,rfl,rfl,rfl,(Sub.cons 2 rfl (Sk (Sk Sub.nil))),Nat.zero_le _,hul,(by rw [hu,show j=16 by omega];rfl),rfl⟩ ?_
 rintro _ ρ25 _ ⟨j3,u3,e26,e27,e28,e29,hm30,hj3,hu3l,hu3,rfl⟩
 obtain ⟨ρ31,rfl⟩:=Zi (uc e26 (uc e27 (uc e28 (uc e29 un))))
 clear e26 e27 e28 e29
 refine ZF hm30<|Zg<|Zd<|JLM rfl<|JLn (Pu.lss rfl rfl)<|Za<|ZN rfl (fun h32=>?_) (fun h32=>?_)
 ·refine Zo<|Zg<|Zm<|ZM mixed #[0,0,2,6,14,0,32,96,224,0,0,1024,3072,7168,15872,0,0,65536,196608,458752,1048064,2097150,4194302,8388607,16777215] 23 (sm 41 23) [] [(14,fun _ _ vw qw=>vw=.int .u32 ((YN 7 18 3 true (u3.getD (j3+16-15) 0)).toNat:Int)∧qw=[]),(20,fun _ _ vw qw=>vw=.int .u32 ((YN 17 19 10 true (u3.getD (j3+16-2) 0)).toNat:Int)∧qw=[]),(21,fun _ _ vw qw=>∃ b k,vw=.slice (some ⟨b,0,none⟩) 4 4∧qw=[k]∧Own 137 1 (.slice (some ⟨b,0,none⟩) 4 4) [[.int .u32 ((u3.getD (j3+16-16) 0).toNat:Int)],[.int .u32 ((u3.getD (j3+16-7) 0).toNat:Int)],[.int .u32 ((YN 7 18 3 true (u3.getD (j3+16-15) 0)).toNat:Int)],[.int .u32 ((YN 17 19 10 true (u3.getD (j3+16-2) 0)).toNat:Int)]] k∧k=(BX b (flatten [[.int .u32 ((u3.getD (j3+16-16) 0).toNat:Int)],[.int .u32 ((u3.getD (j3+16-7) 0).toNat:Int)],[.int .u32 ((YN 7 18 3 true (u3.getD (j3+16-15) 0)).toNat:Int)],[.int .u32 ((YN 17 19 10 true (u3.getD (j3+16-2) 0)).toNat:Int)]]) 137)),(22,fun _ _ vw qw=>vw=.int .u32 ((YY [u3.getD (j3+16-16) 0,u3.getD (j3+16-7) 0,YN 7 18 3 true (u3.getD (j3+16-15) 0),YN 17 19 10 true (u3.getD (j3+16-2) 0)]).toNat:Int)∧qw=[])] rfl (by kernel_rfl) rfl (by kernel_rfl)<|DM (fun _=>rfl)<|DM (fun _=>rfl) ?_
  refine Dn (fun _=>Zc2 rfl rfl (by first | omega | (constructor <;> omega))) ?_
  refine Dq (pp b1 (0+(j3+16-16)*1)) (fun _=>ZcQ (j3+16-16) SX Z3 rfl rfl (by omega) (by omega)) ?_
  refine Yn rfl (fun _=>rfl) Z3 (fun _=>rfl) (ZcK 0 rfl) (VX (by have hbl:List.length u3=64:=hu3l;rw [hbl];omega))<|DM (fun _=>rfl) ?_
  refine Dn (fun _=>Zc2 rfl rfl (by first | omega | (constructor <;> omega))) ?_
  refine Dq (pp b1 (0+(j3+16-7)*1)) (fun _=>ZcQ (j3+16-7) SX Z3 rfl rfl (by omega) (by omega)) ?_
  refine Yn rfl (fun _=>rfl) Z3 (fun _=>rfl) (ZcK 0 rfl) (VX (by have hbl:List.length u3=64:=hu3l;rw [hbl];omega))<|Dl KW (ZcK 2 rfl) rfl<|DM (fun _=>rfl) ?_
  refine Dn (fun _=>Zc2 rfl rfl (by first | omega | (constructor <;> omega))) ?_
  refine Dq (pp b1 (0+(j3+16-15)*1)) (fun _=>ZcQ (j3+16-15) SX Z3 rfl rfl (by omega) (by omega)) ?_
  refine Yn rfl (fun _=>rfl) Z3 (fun _=>rfl) (ZcK 0 rfl) (VX (by have hbl:List.length u3=64:=hu3l;rw [hbl];omega))<|Dc rfl call234 (fun _=>rfl) (fun hin=>Nc 7 18 3 true _ _ (by decide) (by decide) (by decide)) ?_
  rintro _ _ ⟨rfl,rfl⟩
  refine Dl KW (ZcK 1 rfl) rfl<|DM (fun _=>rfl) ?_
  refine Dn (fun _=>Zc2 rfl rfl (by first | omega | (constructor <;> omega))) ?_
  refine Dq (pp b1 (0+(j3+16-2)*1)) (fun _=>ZcQ (j3+16-2) SX Z3 rfl rfl (by omega) (by omega)) ?_
  refine Yn rfl (fun _=>rfl) Z3 (fun _=>rfl) (ZcK 0 rfl) (VX (by have hbl:List.length u3=64:=hu3l;rw [hbl];omega))<|Dc rfl call234 (fun _=>rfl) (fun hin=>Nc 17 19 10 true _ _ (by decide) (by decide) (by decide)) ?_
  rintro _ _ ⟨rfl,rfl⟩
  refine Dr rfl (fun _=>Zj (vs:=[.int .u32 ((u3.getD (j3+16-16) 0).toNat:Int),.int .u32 ((u3.getD (j3+16-7) 0).toNat:Int),.int .u32 ((YN 7 18 3 true (u3.getD (j3+16-15) 0)).toNat:Int),.int .u32 ((YN 17 19 10 true (u3.getD (j3+16-2) 0)).toNat:Int)]) [[.int .u32 ((u3.getD (j3+16-16) 0).toNat:Int)],[.int .u32 ((u3.getD (j3+16-7) 0).toNat:Int)],[.int .u32 ((YN 7 18 3 true (u3.getD (j3+16-15) 0)).toNat:Int)],[.int .u32 ((YN 17 19 10 true (u3.getD (j3+16-2) 0)).toNat:Int)]] Tv Pm rfl rfl (alc rfl (alc rfl (alc rfl (al1 rfl)))) rfl (by decide) fun b k h1 h2=>⟨[k],by rw [Yd rfl];exact Sub.refl,b,k,rfl,rfl,h1,h2⟩) (fun _ _ ⟨b34,k34,e1,e2,ho34,hk34⟩=>?_);subst e1 e2
  refine Dc rfl call209 (fun _=>rfl) (fun hin=>W2 [u3.getD (j3+16-16) 0,u3.getD (j3+16-7) 0,YN 7 18 3 true (u3.getD (j3+16-15) 0),YN 17 19 10 true (u3.getD (j3+16-2) 0)] _ _ (QY (l:=[u3.getD (j3+16-16) 0,u3.getD (j3+16-7) 0,YN 7 18 3 true (u3.getD (j3+16-15) 0),YN 17 19 10 true (u3.getD (j3+16-2) 0)]) ho34 (by simp) (hin 0 _ rfl))) ?_
  rintro _ _ ⟨rfl,rfl⟩
  refine ZX (M':=[k34,(BX b1 (uC u3) 219),(BX b24 [iv 17,iv 19,iv 10,.bool true] 267),(BX b23 [iv 7,iv 18,iv 3,.bool true] 267)]) rfl ?_
  show JL _ _ _ [_,_] _ _ _
  refine JLq (pp b1 (0+(j3+16)*1)) (ZcQ (j3+16) SX Z3 rfl rfl rfl (by omega))<|JLr (Zb 1 (vs:=[.int .u32 ((YY [u3.getD (j3+16-16) 0,u3.getD (j3+16-7) 0,YN 7 18 3 true (u3.getD (j3+16-15) 0),YN 17 19 10 true (u3.getD (j3+16-2) 0)]).toNat:Int)]) (l:=uC (u3.set (j3+16) (YY [u3.getD (j3+16-16) 0,u3.getD (j3+16-7) 0,YN 7 18 3 true (u3.getD (j3+16-15) 0),YN 17 19 10 true (u3.getD (j3+16-2) 0)]))) Z3 rfl rfl rfl rfl rfl (Zh rfl Zq) (LJ (by have hbl:List.length u3=64:=hu3l;rw [hbl];omega))<|Za<|Ze<|JLM rfl<|JLn (ZcV rfl rfl (by first | omega | (constructor <;> omega)))<|JAn rfl<|⟨_,?_,(j3+1),(u3.set (j3+16) (YY [u3.getD (j3+16-16) 0,u3.getD (j3+16-7) 0,YN 7 18 3 true (u3.getD (j3+16-15) 0),YN 17 19 10 true (u3.getD (j3+16-2) 0)])),rfl,rfl,rfl,(congrArg (Value.int .i64) (by omega)),(Sd (Sk (Sk (Sk Sub.nil)))),?_,?_,?_,rfl⟩)
  ·omega
  ·omega
  ·exact ((length_set ..).trans hu3l)
  rw [sp1,spx,Zbf,hu3]
 refine ZC _ rfl<|Zd<|JLr (Zn Gd rfl (ZcK 0 rfl) (Zx ((Z5 _).trans hu3l))<|JLr (Zb 0 (vs:=uC u3) (l:=uC u3) Gd rfl rfl rfl rfl ((Z5 _).trans hu3l) (Qy _) (ZY (n:=64) ((Z5 _).trans hu3l) ((Z5 _).trans hu3l))<|Za<|Zz<|⟨.agg ⟨uC u3⟩,[],Ret.one rfl (RV.cell Gd rfl (ZcK 0 rfl) (Zx ((Z5 _).trans hu3l))),Sub.nil,?_⟩))
 obtain rfl:j3=48:=by omega
 exact ⟨by rw [hu3];rfl,rfl⟩
theorem A4 (H:Heap) (hG:GK H):CT prog 130 ⟨[]⟩ [] H (fun r N=>r=.agg ⟨(uC beW)++([nS,iv 0]:List Value)⟩∧N=[]):=by
 obtain ⟨_,TB,frB,hgB⟩:=hG
 refine Zl func130 rfl rfl<|Zd<|JLr (Zk (l:=(uC (replicate 8 0))++([nS,iv 0]:List Value)) zeroValue174 rfl fun b1=>Za<|Zd<|JLr (Zn Uu rfl (ZcN hgB) (Zx ((Z5 _).trans rfl))<|JLq (.agg ⟨(uC beW)++([nS,iv 0]:List Value)⟩) (Pu.build (pv:=[(0,.agg ⟨uC beW⟩)]) (l:=(uC beW)++([nS,iv 0]:List Value)) rfl (ZaN rfl))<|JLr (Zb 0 (vs:=(uC beW)++([nS,iv 0]:List Value)) (l:=(uC beW)++([nS,iv 0]:List Value)) Ge rfl rfl rfl rfl (ZJ ((Z5 _).trans rfl) rfl) (YB (Qy _) (Zh rfl (Zh rfl Zq))) (ZY (n:=10) (ZJ ((Z5 _).trans (length_replicate ..)) rfl) (ZJ ((Z5 _).trans rfl) rfl))<|Za<|Zz<|⟨.agg ⟨(uC beW)++([nS,iv 0]:List Value)⟩,[],Ret.one rfl (RV.cell Ge rfl (ZcK 0 rfl) (Zx (ZJ ((Z5 _).trans rfl) rfl))),Sub.nil,?_⟩)))
 exact ⟨rfl,rfl⟩
theorem Hp (bw:Nat) (H:Heap):CT prog 176 ⟨[pp bw 0]⟩ [] H (fun r N=>∃ b,r=.func (.func 206) ⟨[]⟩ ⟨[pp b 0]⟩∧N=[(BX b [pp bw 0] 213)]):=by
 refine Zl func176 rfl rfl<|Zd<|JLr (Zr (l:=[pp bw 0]) rfl rfl fun b1=>JLa .nilFunc<|Za<|Zd<|JLq (.func (.func 206) ⟨[]⟩ ⟨[pp b1 0]⟩) (Pu.makeFunc rfl rfl)<|JAn rfl<|ZE (.func (.func 206) ⟨[]⟩ ⟨[pp b1 0]⟩) [(BX b1 [pp bw 0] 213)] (Sk Sub.nil) (?_))
 exact ⟨_,rfl,rfl⟩
set_option maxHeartbeats 2000000 in
theorem KL (h:List W32) (l:List Int) (v:Value) (bw bp:Nat) (m:Int) (lc:Nat) (rc:Nat×Obj) (H:Heap) (hbp:H bp=some (.cells ⟨[pp bw 0]⟩ 213 (0,0))) (hl:h.length=8) (hv:byR H v l) (hby:∀ x∈l,0≤x∧x≤255) (hY:∀ (h1:List W32) (v1 v2:Value) (bl:List Int) (Hx:Heap),Hle H Hx→h1.length=8→byR Hx v2 bl→bl.length=64→(∀ x∈bl,0≤x∧x≤255)→YT prog lc ⟨[v2]⟩ [rc::(BX bw (uC h1++[v1,iv m]) 177)] Hx (fun r N=>r=.bool true∧N=[rc::(BX bw (uC (tkn h1 bl)++[v1,iv m]) 177)])):CT prog 206 ⟨[.func (.yield lc) ⟨[]⟩ ⟨[]⟩,pp bp 0]⟩ [(rc::(BX bw (uC h++[v,iv m]) 177))] H (fun _ N=>∃ u,N=[rc::(BX bw (uC ((YA h l).1)++[u,iv m]) 177)]∧∀ h',byR h' v l→byR h' u (YA h l).2):=by
 refine Zl func206 rfl rfl<|ZF (M':=[[rc],(BX bw ((uC h)++([v,iv m]:List Value)) 177)]) (Zdr Sub.refl)<|Zm<|ZD (fun k ρ M=>∃ (h1:List W32) (v1:Value) (l1:List Int),Z7 ρ [(0,.func (.yield lc) ⟨[]⟩ ⟨[]⟩),(1,pp bp 0)]=ρ∧Sub [[rc],(BX bw ((uC h1)++([v1,iv m]:List Value)) 177)] M∧h1.length=8∧(∀ h',byR h' v l→byR h' v1 l1)∧YA h1 l1=YA h l∧(∀ x∈l1,0≤x∧x≤255)∧l1.length≤l.length∧k=l1.length) _ ⟨h,v,l,Zp rfl,(Sk (Sk Sub.nil)),hl,fun _ q=>q,rfl,hby,Nat.le_refl _,rfl⟩ ?_
 rintro _ ρ1 _ ⟨h1,v1,l1,e2,hm4,hh1,hq1,hw1,hbl1,hn1,rfl⟩
 obtain ⟨ρ5,rfl⟩:=Zi e2
 clear e2
 refine ZF hm4 ?_
 have hv1:=hq1 _ hv
 refine Zg<|Zd<|JLr (Zc Ut rfl (ZcN hbp) rfl<|JLq (pp bw 0) (Pu.nilCheck rfl)<|JLq (pp bw 0) (Xo rfl rfl)<|JLq (pp bw 8) (WB rfl rfl)<|JLr (Zc Ul rfl (ZcK 1 rfl) (RW (n:=8) (i:=0) ((Z5 _).trans hh1) rfl) ?_))
 obtain ⟨a6,cap6,hv6⟩:=hv1.rd.sl
 have hle6:=hv1.rd.le
 refine JLn (ZcM YV hv6)<|JLn (Pu.geq rfl rfl)<|Za<|ZN rfl (fun h7=>?_) (fun h7=>?_)
 ·refine Zo<|Zm<|Zd<|JLr (Zc Ut rfl (ZcN hbp) rfl<|JLq (pp bw 0) (Pu.nilCheck rfl)<|JLq (pp bw 0) (Xo rfl rfl)<|JLq (pp bw 8) (WB rfl rfl)<|JLr (Zc Ul rfl (ZcK 1 rfl) (RW (n:=8) (i:=0) ((Z5 _).trans hh1) rfl)<|JLr (Lx 64 YV sizeOf5 hv1 rfl rfl rfl (by omega) fun u8 hu8=>?_)))
  have h8:=hu8 _ hv1
  refine JLa u8<|Za<|Zg<|ZM mixed #[0,0,2,6,14,30,62,127,255,511,1023] 7 (sm 17 7) [] [(6,fun _ _ vw qw=>qw=[]∧∀ h,byR h v1 l1→byR h vw (l1.drop 64))] rfl (by kernel_rfl) rfl (by kernel_rfl)<|Dl1 Ut (ZcN hbp) rfl<|Dl1 Ut (ZcN hbp) rfl<|Dq (pp bw 0) (fun _=>Pu.nilCheck rfl)<|Dq (pp bw 0) (fun _=>Xo rfl rfl)<|Dq (pp bw 8) (fun _=>WB rfl rfl)<|Dl1 Ul (ZcK 1 rfl) (RW (n:=8) (i:=0) ((Z5 _).trans hh1) rfl) ?_
  refine Dr rfl (fun _=>Lw 64 YV sizeOf5 hv1 rfl rfl rfl (by omega) fun u h1=>⟨[],by rw [Yd rfl];exact Sub.refl,rfl,h1⟩) ?_;rintro u10 _ ⟨rfl,hu10⟩
  have h10:=hu10 _ hv1
  refine ZX (M':=[[rc],(BX bw ((uC h1)++([v1,iv m]:List Value)) 177)]) rfl ?_
  show JL _ _ _ [_,_,_,_] _ _ _
  refine JLq (pp bw 0) (Pu.nilCheck rfl)<|JLq (pp bw 0) (Xo rfl rfl)<|JLq (pp bw 8) (WB rfl rfl)<|JLr (Zb 1 (vs:=[u10]) (l:=(uC h1)++([u10,iv m]:List Value)) Ul rfl rfl rfl (ZH h10.one) rfl (Zh h10.one Zq) (K9 (n:=8) (i:=0) ((Z5 _).trans hh1) rfl)<|Za<|Zd<|JLM rfl<|JLm u8<|HP (rc::(BX bw ((uC h1)++([u10,iv m]:List Value)) 177)) [] rfl rfl (List.Perm.refl _) (fun hin=>hY _ u10 u8 (l1.take 64) _ (Hle.hu _ _) hh1 (byR.mono (Hle.hu _ _) h8) (by rw [length_take];omega) (fun x hx=>hbl1 x (List.mem_of_mem_take hx))) rfl ?_)
  rintro _ _ ⟨rfl,rfl⟩
  refine ZB (M':=[[rc],(BX bw ((uC (tkn h1 (l1.take 64)))++([u10,iv m]:List Value)) 177)]) (Zdr Sub.refl)<|JLq (.bool false) (show Pu _ _ _ (.bool (!true)) from Pu.not rfl)<|Za<|Zt (b:=false) rfl (fun h=>absurd h (by simp)) (fun _=>Zo<|⟨_,?_,(tkn h1 (l1.take 64)),u10,(l1.drop 64),Zp rfl,(Sk (Sk Sub.nil)),?_,?_,?_,?_,?_,rfl⟩)
  ·rw [length_drop];omega
  ·exact (TX hh1 _)
  ·exact fun h' q=>hu10 h' (hq1 h' q)
  ·rw [← Ug (by omega),hw1]
  ·exact fun x hx=>hbl1 x (List.mem_of_mem_drop hx)
  rw [length_drop];omega
 refine ZC _ rfl<|⟨.tuple ⟨[]⟩,[rc::(BX bw ((uC h1)++([v1,iv m]:List Value)) 177)],Ret.none rfl,ZdH ((Sk (Sk Sub.nil))),?_⟩
 have e:=hw1
 rw [Tk (by omega)] at e
 exact ⟨v1,by rw [← e],by rw [← e];exact hq1⟩
set_option maxHeartbeats 4000000 in
theorem Gi (h:List W32) (bl:List Int) (v:Value) (H:Heap) (hl:h.length=8) (hv:byR H v bl) (hbl:bl.length=64) (hby:∀ x∈bl,0≤x∧x≤255) (hG:GK H):CT prog 177 ⟨[.agg ⟨uC h⟩,v]⟩ [] H (fun r N=>r=.agg ⟨uC (tkn h bl)⟩∧N=[]):=by
 obtain ⟨⟨TK,frK,hgK⟩,_⟩:=hG
 refine Zl func177 rfl rfl<|Zd<|JLr (Zr (l:=uC h) rfl rfl fun b1=>JLr (Zk (l:=uC (replicate 8 0)) zeroValue138 rfl fun b2=>Za<|Zg<|ZM mixed #[0,0,0,0,15,31] 4 [some 12,some 13,some 5,some 6] [] [(1,fun _ _ vw qw=>vw=.agg ⟨[.func (.func 233) ⟨[]⟩ ⟨[]⟩,.func (.func 235) ⟨[]⟩ ⟨[]⟩]⟩∧qw=[]),(2,L6 138 (uC (replicate 8 0))),(3,L6 249 ([.nilFunc,.nilFunc]))] rfl (by kernel_rfl) rfl (by kernel_rfl)<|Dl Uu (ZcK 1 rfl) (Zx ((Z5 _).trans hl))<|Dc rfl call207 (fun _=>rfl) (fun hin=>IG _) ?_))
 rintro _ _ ⟨rfl,rfl⟩
 refine Da zeroValue138 rfl fun b5=>Da zeroValue249 rfl fun b6=>ZX (M':=[(BX b6 [.nilFunc,.nilFunc] 249),(BX b5 (uC (replicate 8 0)) 138),(BX b2 (uC (replicate 8 0)) 138),(BX b1 (uC h) 138)]) rfl ?_
 show JL _ _ _ [_,_] _ _ _
 refine JLr (Zb 1 (vs:=uC h) (l:=uC h) Uu rfl rfl rfl rfl ((Z5 _).trans hl) (Qy _) (ZY (n:=8) ((Z5 _).trans (length_replicate ..)) ((Z5 _).trans hl))<|JLr (Zb 0 (vs:=[.func (.func 233) ⟨[]⟩ ⟨[]⟩,.func (.func 235) ⟨[]⟩ ⟨[]⟩]) (l:=[.func (.func 233) ⟨[]⟩ ⟨[]⟩,.func (.func 235) ⟨[]⟩ ⟨[]⟩]) Gc rfl rfl rfl rfl rfl (Zh rfl (Zh rfl Zq)) rfl<|Za<|Zg<|Zd<|JLm v<|Jc call208 rfl (fun hin=>Iv _ _ _ (byR.mono (Hle.hu _ _) hv) hbl hby) rfl ?_))
 rintro _ _ ⟨rfl,rfl⟩
 refine JLM rfl<|Za<|Zm<|ZD (fun k ρ M=>∃ (j:Nat) (u:List W32),Z7 ρ [(2,pp b1 0),(4,pp b2 0),(5,pp b5 0),(6,pp b6 0),(15,.agg ⟨uC (spr bl)⟩),(16,iv ((j:Int)))]=ρ∧Sub [(BX b5 (uC u) 138),(BX b6 [.func (.func 233) ⟨[]⟩ ⟨[]⟩,.func (.func 235) ⟨[]⟩ ⟨[]⟩] 249),(BX b2 (uC (replicate 8 0)) 138),(BX b1 (uC h) 138)] M∧j≤64∧u.length=8∧u=rds h (spr bl) j∧k=64-j) _ ⟨0,h,Zp rfl,(Sub.cons 1 rfl (Sk (Sk (Sk Sub.nil)))),Nat.zero_le _,hl,rfl,rfl⟩ ?_
 rintro _ ρ7 _ ⟨j,u,e8,hm14,hj,hul,hu,rfl⟩
 obtain ⟨ρ15,rfl⟩:=Zi e8
 clear e8
 refine ZF hm14<|Zd<|JLn (Pu.lss rfl rfl)<|Za<|Zg<|ZN rfl (fun h16=>?_) (fun h16=>?_)
 ·have h16n:j<64:=by omega
  refine Zo<|Zg<|Zm<|Zd<|JLM rfl<|JLq (.int .u32 (((spr bl).getD j 0).toNat:Int)) (Zdb j SX Z3 rfl rfl rfl (by omega) (Wt (by have hbl:List.length (spr bl)=64:=(OU _);rw [hbl];omega)))<|JLA rfl<|JAn rfl<|Zg<|ZM mixed #[0,1,0,7,0,16,48,0,255,511,1023] 8 (sm 20 8) [] [(3,fun _ _ vw qw=>vw=.int .u32 ((fiW u).toNat:Int)∧qw=[])] rfl (by kernel_rfl) rfl (by kernel_rfl)<|Dq (pp b6 0) (fun _=>C2 rfl rfl) ?_
  refine Dl1 KY (ZcK 1 rfl) rfl<|Dl Uu (ZcK 0 rfl) (Zx ((Z5 _).trans hul))<|Dc rfl call233 (fun _=>rfl) (fun hin=>AK _ _ hul) ?_
  rintro _ _ ⟨rfl,rfl⟩
  refine DM (fun _=>rfl) ?_
  refine Dq (pp 1 (0+j*1)) (fun _=>ZcQ j SX Z3 rfl rfl rfl (by omega)) ?_
  refine Yn rfl (fun _=>rfl) Z3 (fun _=>rfl) (ZcN hgK) (VX (by have hbl:List.length kW=64:=rfl;rw [hbl];omega))<|DM (fun _=>rfl)<|ZX (M':=[(BX b5 (uC u) 138),(BX b6 [.func (.func 233) ⟨[]⟩ ⟨[]⟩,.func (.func 235) ⟨[]⟩ ⟨[]⟩] 249),(BX b2 (uC (replicate 8 0)) 138),(BX b1 (uC h) 138)]) rfl ?_
  show JL _ _ _ [_,_,_] _ _ _
  refine JLr (Zj (vs:=[.int .u32 ((fiW u).toNat:Int),.int .u32 ((kW.getD j 0).toNat:Int),.int .u32 (((spr bl).getD j 0).toNat:Int)]) [[.int .u32 ((fiW u).toNat:Int)],[.int .u32 ((kW.getD j 0).toNat:Int)],[.int .u32 (((spr bl).getD j 0).toNat:Int)]] Tv Pm rfl rfl (alc rfl (alc rfl (al1 rfl))) rfl (by decide) fun b17 k17 ho17 hk17=>Jc call209 rfl (fun hin=>W2 [fiW u,kW.getD j 0,(spr bl).getD j 0] _ _ (QY (l:=[fiW u,kW.getD j 0,(spr bl).getD j 0]) ho17 (by simp) (hin 0 _ rfl))) rfl ?_)
  rintro _ _ ⟨rfl,rfl⟩
  refine JAn rfl<|Zd<|JLq (pp b6 1) (C1 rfl rfl)<|JLr (Zc KY rfl (ZcK 2 rfl) rfl<|JLr (Zn Uu rfl (ZcK 1 rfl) (Zx ((Z5 _).trans hul))<|Jc call235 rfl (fun hin=>AJ _ _ hul) rfl ?_))
  rintro _ _ ⟨rfl,rfl⟩
  refine JAn rfl<|Zg<|ZM mixed #[0,0,3] 2 [some 34,some 35] [] [] rfl (by kernel_rfl) rfl (by kernel_rfl)<|Dq (.slice (some ⟨b5,1,none⟩) 7 7) (fun _=>Zdl (q:=1) Xz sizeOf137 rfl rfl rfl (by decide))<|Dq (.slice (some ⟨b5,0,none⟩) 7 8) (fun _=>Zdm (q:=7) Xz sizeOf137 rfl rfl rfl (by decide))<|ZX (M':=[k17,(BX b5 (uC u) 138),(BX b6 [.func (.func 233) ⟨[]⟩ ⟨[]⟩,.func (.func 235) ⟨[]⟩ ⟨[]⟩] 249),(BX b2 (uC (replicate 8 0)) 138),(BX b1 (uC h) 138)]) rfl ?_
  show JL _ _ _ [_] _ _ _
  refine JLr (Lz (i:=1) hul Tv sizeOf137 rfl rfl rfl<|Za<|Zd<|JLq (pp b5 4) (ZcQ 4 Xz Z3 rfl rfl (by decide) (by decide))<|JLr (Zc Z3 rfl (ZcK 1 rfl) (Wt (by have hbl:List.length (u.take 1++u.take 7)=8:=(VY hul);rw [hbl];omega))<|JLM rfl<|JLr (Zj (vs:=[.int .u32 (((u.take 1++u.take 7).getD 4 0).toNat:Int),.int .u32 ((YY [fiW u,kW.getD j 0,(spr bl).getD j 0]).toNat:Int)]) [[.int .u32 (((u.take 1++u.take 7).getD 4 0).toNat:Int)],[.int .u32 ((YY [fiW u,kW.getD j 0,(spr bl).getD j 0]).toNat:Int)]] Tv Pm rfl rfl (alc rfl (al1 rfl)) rfl (by decide) fun b18 k18 ho18 hk18=>Jc call209 rfl (fun hin=>W2 [(u.take 1++u.take 7).getD 4 0,YY [fiW u,kW.getD j 0,(spr bl).getD j 0]] _ _ (QY (l:=[(u.take 1++u.take 7).getD 4 0,YY [fiW u,kW.getD j 0,(spr bl).getD j 0]]) ho18 (by simp) (hin 0 _ rfl))) rfl ?_)))
  rintro _ _ ⟨rfl,rfl⟩
  refine JLq (pp b5 4) (ZcQ 4 Xz Z3 rfl rfl (by decide) (by decide))<|JLr (Zb 2 (vs:=[.int .u32 ((YY [(u.take 1++u.take 7).getD 4 0,YY [fiW u,kW.getD j 0,(spr bl).getD j 0]]).toNat:Int)]) (l:=uC ((u.take 1++u.take 7).set 4 (YY [(u.take 1++u.take 7).getD 4 0,YY [fiW u,kW.getD j 0,(spr bl).getD j 0]]))) Z3 rfl rfl rfl rfl rfl (Zh rfl Zq) (OO (by have hbl:List.length (u.take 1++u.take 7)=8:=(VY hul);rw [hbl];omega))<|Za<|Ze<|JLM rfl<|JLM rfl<|JLr (Zj (vs:=[.int .u32 ((YY [fiW u,kW.getD j 0,(spr bl).getD j 0]).toNat:Int),.int .u32 ((seW u).toNat:Int)]) [[.int .u32 ((YY [fiW u,kW.getD j 0,(spr bl).getD j 0]).toNat:Int)],[.int .u32 ((seW u).toNat:Int)]] Tv Pm rfl rfl (alc rfl (al1 rfl)) rfl (by decide) fun b19 k19 ho19 hk19=>Jc call209 rfl (fun hin=>W2 [YY [fiW u,kW.getD j 0,(spr bl).getD j 0],seW u] _ _ (QY (l:=[YY [fiW u,kW.getD j 0,(spr bl).getD j 0],seW u]) ho19 (by simp) (hin 0 _ rfl))) rfl ?_))
  rintro _ _ ⟨rfl,rfl⟩
  refine JLq (pp b5 0) (ZcQ 0 Xz Z3 rfl rfl (by decide) (by decide))<|JLr (Zb 3 (vs:=[.int .u32 ((YY [YY [fiW u,kW.getD j 0,(spr bl).getD j 0],seW u]).toNat:Int)]) (l:=uC (((u.take 1++u.take 7).set 4 (YY [(u.take 1++u.take 7).getD 4 0,YY [fiW u,kW.getD j 0,(spr bl).getD j 0]])).set 0 (YY [YY [fiW u,kW.getD j 0,(spr bl).getD j 0],seW u]))) Z3 rfl rfl rfl rfl rfl (Zh rfl Zq) (OO (by have hbl:List.length ((u.take 1++u.take 7).set 4 (YY [(u.take 1++u.take 7).getD 4 0,YY [fiW u,kW.getD j 0,(spr bl).getD j 0]]))=8:=((length_set ..).trans (VY hul));rw [hbl];omega))<|Za<|Ze<|JLn (ZcP rfl rfl (by omega))<|JLM rfl<|Za<|⟨_,?_,(j+1),(((u.take 1++u.take 7).set 4 (YY [(u.take 1++u.take 7).getD 4 0,YY [fiW u,kW.getD j 0,(spr bl).getD j 0]])).set 0 (YY [YY [fiW u,kW.getD j 0,(spr bl).getD j 0],seW u])),Zp rfl,(Sd (Sd (Sd (Sk (Sk (Sk (Sk Sub.nil))))))),?_,?_,?_,rfl⟩)
  ·omega
  ·omega
  ·exact ((length_set ..).trans ((length_set ..).trans (VY hul)))
  rw [rds,← hu,B4,K6,K6];exact AH hul _ _ _ _ rfl rfl
 have h16n:64≤j:=by omega
 refine ZC _ rfl<|Zg<|Zd<|JLM rfl<|Za<|Zm<|ZD (fun k ρ M=>∃ (j2:Nat) (u2:List W32),Z7 ρ [(2,pp b1 0),(4,pp b2 0),(5,pp b5 0),(49,iv ((j2:Int)))]=ρ∧Sub [(BX b5 (uC u2) 138),(BX b6 [.func (.func 233) ⟨[]⟩ ⟨[]⟩,.func (.func 235) ⟨[]⟩ ⟨[]⟩] 249),(BX b2 (uC (replicate 8 0)) 138),(BX b1 (uC h) 138)] M∧j2≤8∧u2.length=8∧u2=adW (rds h (spr bl) 64) h j2∧k=8-j2) _ ⟨0,u,Zp rfl,(Sk (Sk (Sk (Sk Sub.nil)))),Nat.zero_le _,hul,(by rw [hu,show j=64 by omega];rfl),rfl⟩ ?_
 rintro _ ρ20 _ ⟨j2,u2,e21,hm25,hj2,hu2l,hu2,rfl⟩
 obtain ⟨ρ26,rfl⟩:=Zi e21
 clear e21
 refine ZF hm25<|Zd<|JLn (Pu.lss rfl rfl)<|Za<|Zg<|ZN rfl (fun h27=>?_) (fun h27=>?_)
 ·have h27n:j2<8:=by omega
  refine Zo<|Zg<|Zm<|Zd<|JLM rfl<|JAn rfl<|ZM mixed #[0,0,2,6,0,16,48,126,254,511,1023] 9 (sm 52 9) [] [(7,fun _ _ vw qw=>∃ b k,vw=.slice (some ⟨b,0,none⟩) 2 2∧qw=[k]∧Own 137 1 (.slice (some ⟨b,0,none⟩) 2 2) [[.int .u32 ((u2.getD j2 0).toNat:Int)],[.int .u32 ((h.getD j2 0).toNat:Int)]] k∧k=(BX b (flatten [[.int .u32 ((u2.getD j2 0).toNat:Int)],[.int .u32 ((h.getD j2 0).toNat:Int)]]) 137)),(8,fun _ _ vw qw=>vw=.int .u32 ((YY [u2.getD j2 0,h.getD j2 0]).toNat:Int)∧qw=[])] rfl (by kernel_rfl) rfl (by kernel_rfl)<|DM (fun _=>rfl)<|DM (fun _=>rfl) ?_
  refine Dq (pp b5 (0+j2*1)) (fun _=>ZcQ j2 Xz Z3 rfl rfl rfl (by omega)) ?_
  refine Yn rfl (fun _=>rfl) Z3 (fun _=>rfl) (ZcK 0 rfl) (VX (by have hbl:List.length u2=8:=hu2l;rw [hbl];omega))<|DM (fun _=>rfl) ?_
  refine Dq (pp b1 (0+j2*1)) (fun _=>ZcQ j2 Xz Z3 rfl rfl rfl (by omega)) ?_
  refine Yn rfl (fun _=>rfl) Z3 (fun _=>rfl) (ZcK 3 rfl) (VX (by have hbl:List.length h=8:=hl;rw [hbl];omega))<|Dr rfl (fun _=>Zj (vs:=[.int .u32 ((u2.getD j2 0).toNat:Int),.int .u32 ((h.getD j2 0).toNat:Int)]) [[.int .u32 ((u2.getD j2 0).toNat:Int)],[.int .u32 ((h.getD j2 0).toNat:Int)]] Tv Pm rfl rfl (alc rfl (al1 rfl)) rfl (by decide) fun b k h1 h2=>⟨[k],by rw [Yd rfl];exact Sub.refl,b,k,rfl,rfl,h1,h2⟩) (fun _ _ ⟨b29,k29,e1,e2,ho29,hk29⟩=>?_);subst e1 e2
  refine Dc rfl call209 (fun _=>rfl) (fun hin=>W2 [u2.getD j2 0,h.getD j2 0] _ _ (QY (l:=[u2.getD j2 0,h.getD j2 0]) ho29 (by simp) (hin 0 _ rfl))) ?_
  rintro _ _ ⟨rfl,rfl⟩
  refine ZX (M':=[k29,(BX b5 (uC u2) 138),(BX b6 [.func (.func 233) ⟨[]⟩ ⟨[]⟩,.func (.func 235) ⟨[]⟩ ⟨[]⟩] 249),(BX b2 (uC (replicate 8 0)) 138),(BX b1 (uC h) 138)]) rfl ?_
  show JL _ _ _ [_,_] _ _ _
  refine JLq (pp b5 (0+j2*1)) (ZcQ j2 Xz Z3 rfl rfl rfl (by omega))<|JLr (Zb 1 (vs:=[.int .u32 ((YY [u2.getD j2 0,h.getD j2 0]).toNat:Int)]) (l:=uC (u2.set j2 (YY [u2.getD j2 0,h.getD j2 0]))) Z3 rfl rfl rfl rfl rfl (Zh rfl Zq) (LJ (by have hbl:List.length u2=8:=hu2l;rw [hbl];omega))<|Za<|Ze<|JLn (ZcP rfl rfl (by omega))<|JLM rfl<|Za<|⟨_,?_,(j2+1),(u2.set j2 (YY [u2.getD j2 0,h.getD j2 0])),Zp rfl,(Sd (Sk (Sk (Sk (Sk Sub.nil))))),?_,?_,?_,rfl⟩)
  ·omega
  ·omega
  ·exact ((length_set ..).trans hu2l)
  rw [adW,K6,hu2]
 have h27n:8≤j2:=by omega
 refine ZC _ rfl<|Zd<|JLr (Zn Uu rfl (ZcK 0 rfl) (Zx ((Z5 _).trans hu2l))<|JLr (Zb 2 (vs:=uC u2) (l:=uC u2) Uu rfl rfl rfl rfl ((Z5 _).trans hu2l) (Qy _) (ZY (n:=8) ((Z5 _).trans (length_replicate ..)) ((Z5 _).trans hu2l))<|Za<|Zz<|⟨.agg ⟨uC u2⟩,[],Ret.one rfl (RV.cell Uu rfl (ZcK 2 rfl) (Zx ((Z5 _).trans hu2l))),Sub.nil,?_⟩))
 obtain rfl:j2=8:=by omega
 exact ⟨by rw [hu2];rfl,rfl⟩
set_option maxHeartbeats 4000000 in
theorem Jl (h:List W32) (rs l:List Int) (m:Int) (bw:Nat) (v0 v:Value) (k0:Zf) (H:Heap) (hl:h.length=8) (ho:Own 5 1 v0 (YU rs) k0) (hv:byR H v l) (hbr:∀ x∈rs,0≤x∧x≤255) (hby:∀ x∈l,0≤x∧x≤255) (hz:rs.length+l.length≤1000000) (hG:GK H):CT prog 131 ⟨[pp bw 0,v]⟩ [(BX bw ((uC h)++([v0,iv m]:List Value)) 177),k0] H (fun _ N=>∃ u k1,N=[(BX bw (uC ((YA h (rs++l)).1)++[u,iv m]) 177),k1]∧Own 5 1 u (YU (YA h (rs++l)).2) k1):=by
 refine Zl func131 rfl rfl<|Zd<|JLr (Zr (l:=[pp bw 0]) rfl rfl fun b1=>Za<|Zg<|ZM mixed #[0,0,2,6,14,30,0,126,254,511,1023,2047,4095] 9 (sm 5 9) [] [(7,fun _ _ vw qw=>∃ b k,vw=.slice (some ⟨b,0,none⟩) 2 2∧qw=[k]∧Own 28 1 (.slice (some ⟨b,0,none⟩) 2 2) [[v0],[v]] k∧k=(BX b (flatten [[v0],[v]]) 28)),(8,fun _ _ vw qw=>∃ k,qw=[k]∧Own 5 1 vw (YU ([rs,l].flatten)) k)] rfl (by kernel_rfl) rfl (by kernel_rfl)<|Dl1 Ut (ZcK 0 rfl) rfl<|Dl1 Ut (ZcK 0 rfl) rfl<|Dq (pp bw 0) (fun _=>Pu.nilCheck rfl)<|Dq (pp bw 0) (fun _=>Xo rfl rfl)<|Dq (pp bw 8) (fun _=>WB rfl rfl)<|Dl1 Ul (ZcK 1 rfl) (RW (n:=8) (i:=0) ((Z5 _).trans hl) rfl) ?_)
 refine Dm v<|Dr rfl (fun _=>Zj (vs:=[v0,v]) [[v0],[v]] PO Zas rfl (congr (congrArg List.cons (ZH ho.one)) (congr (congrArg List.cons (ZH hv.one)) rfl)) (alc rfl (al1 rfl)) rfl (by decide) fun b k h1 h2=>⟨[k],by rw [Yd rfl];exact Sub.refl,b,k,rfl,rfl,h1,h2⟩) (fun _ _ ⟨b4,k4,e1,e2,ho4,hk4⟩=>?_);subst e1 e2
 refine Dc rfl call175 (fun _=>rfl) (fun hin=>OA [rs,l] _ _ (Zdj ho4 (hin 0 _ rfl) (Wj ho (by omega) (hin 3 _ rfl)) (RBs.mono (Hle.hu _ _) hv.rd)) (by simp;omega)) ?_
 rintro v5 _ ⟨k5,rfl,ho5⟩
 refine ZX (M':=[k5,k4,(BX b1 [pp bw 0] 213),(BX bw ((uC h)++([v0,iv m]:List Value)) 177),k0]) rfl ?_
 show JL _ _ _ [_,_,_,_] _ _ _
 refine JLq (pp bw 0) (Pu.nilCheck rfl)<|JLq (pp bw 0) (Xo rfl rfl)<|JLq (pp bw 8) (WB rfl rfl)<|JLr (Zb 3 (vs:=[v5]) (l:=(uC h)++([v5,iv m]:List Value)) Ul rfl rfl rfl (ZH ho5.one) rfl (Zh ho5.one Zq) (K9 (n:=8) (i:=0) ((Z5 _).trans hl) rfl) ?_)
 rw [show ([rs,l]:List (List Int)).flatten=rs++l by simp] at ho5
 refine Za<|Zg<|Zd<|JLr (Zc Ut rfl (ZcK 2 rfl) rfl<|Jc call176 rfl (fun hin=>Hp bw _) rfl ?_)
 rintro _ _ ⟨bb6,rfl,rfl⟩
 refine Za<|Zm<|Dx (L:=[(BX bb6 [pp bw 0] 213),k5,k4,(BX b1 [pp bw 0] 213),k0]) (fun s:List W32×Value=>[(BX bw (uC (s.1)++[s.2,iv m]) 177)]) (h,v5) (fun s=>s.1=(YA h (rs++l)).1∧∀ h',byR h' v5 (rs++l)→byR h' s.2 (YA h (rs++l)).2) rfl call206 (Uc (i:=4) rfl) ?_ ?_
 ·intro lc rc hY hin
  have hrow:=Sj ho5 (by simp only [length_append];omega) (hin 1 _ rfl)
  refine (KL h (rs++l) v5 bw bb6 m lc rc _ (hin 0 _ rfl _ _ mem_cons_self) hl hrow (Ao hbr hby) (fun h1 v1 v2 bl Hx hh hh1 hv2 hbl hbb=>?_)).mono (fun v N ⟨u,hN,hq⟩=>⟨((YA h (rs++l)).1,u),hN,rfl,hq⟩)
  refine YT.mono (hY (h1,v1) [v2] Hx (fun s'=>s'=(tkn h1 bl,v1)) rfl (RoundOk.mk ?_)) (fun v N ⟨s',e1,e2,e3⟩=>by subst e3;exact ⟨e1,e2⟩)
  have hGx:GK Hx:=GK.mono hh (GK.mono (Hle.hu _ _) hG)
  show J _ _ _ _ [(BX bw (uC h1++[v1,iv m]) 177)] _
  refine Ze<|JLa v2<|Za<|Zm<|ZM mixed #[0,0,2,6,14,30,0,126,255,511,1023,2047] 8 (sm 20 8) [] [(7,fun _ _ vw qw=>vw=.agg ⟨uC (tkn h1 bl)⟩∧qw=[])] rfl (by kernel_rfl) rfl (by kernel_rfl)<|Dl1 Ut (ZcN (hh _ _ (hin 3 _ rfl _ _ mem_cons_self))) rfl<|Dl1 Ut (ZcN (hh _ _ (hin 3 _ rfl _ _ mem_cons_self))) rfl<|Dq (pp bw 0) (fun _=>Pu.nilCheck rfl)<|Dq (pp bw 0) (fun _=>Xo rfl rfl)<|Dq (pp bw 0) (fun _=>Nv rfl rfl)<|Dl Uu (ZcK 0 rfl) (Va ((Z5 _).trans hh1))<|Dm v2<|Dc rfl call177 (fun _=>rfl) (fun hin=>Gi _ _ _ _ hh1 (byR.mono (Hle.hu _ _) hv2) hbl hbb (GK.mono (Hle.hu _ _) hGx)) ?_
  rintro _ _ ⟨rfl,rfl⟩
  refine ZX (M':=[(BX bw ((uC h1)++([v1,iv m]:List Value)) 177)]) rfl ?_
  show JL _ _ _ [_,_,_,_] _ _ _
  refine JLq (pp bw 0) (Pu.nilCheck rfl)<|JLq (pp bw 0) (Xo rfl rfl)<|JLq (pp bw 0) (Nv rfl rfl)<|JLr (Zb 0 (vs:=uC (tkn h1 bl)) (l:=(uC (tkn h1 bl))++([v1,iv m]:List Value)) Uu rfl rfl rfl rfl ((Z5 _).trans (TX hh1 _)) (Qy _) (Zbg (ZY (n:=8) ((Z5 _).trans hh1) ((Z5 _).trans (TX hh1 _))))<|Za ?_)
  exact ⟨(tkn h1 bl,v1),rfl,(Sk Sub.nil),rfl⟩
 rintro ⟨h2,v2⟩ ⟨hs1,hq2⟩
 obtain rfl:h2=(YA h (rs++l)).1:=hs1
 replace hq2:∀ h',byR h' v5 (rs++l)→byR h' v2 (YA h (rs++l)).2:=hq2
 refine ZM mixed #[0,0,2,6,14,30,62,127,255,511,1023] 7 (sm 31 7) [] [(6,fun _ _ vw qw=>∃ k,qw=[k]∧Own 5 1 vw (YU ((YA h (rs++l)).2)) k)] rfl (by kernel_rfl) rfl (by kernel_rfl)<|Dl1 Ut (ZcK 4 rfl) rfl<|Dl1 Ut (ZcK 4 rfl) rfl<|Dq (pp bw 0) (fun _=>Pu.nilCheck rfl)<|Dq (pp bw 0) (fun _=>Xo rfl rfl)<|Dq (pp bw 8) (fun _=>WB rfl rfl)<|Dl1 Ul (ZcK 0 rfl) (RW (n:=8) (i:=0) ((Z5 _).trans (UX hl).1) rfl) ?_
 refine Dc rfl call62 (fun _=>rfl) (fun hin=>OE _ _ _ (hq2 _ (Sj ho5 (by simp only [length_append];omega) (hin 2 _ rfl))).rd (by have:=(E8 (Ao hbr hby) (h:=h)).1;rw [length_append] at this;omega)) ?_
 rintro u8 _ ⟨k8,rfl,ho8⟩
 refine ZX (M':=[k8,(BX bw ((uC ((YA h (rs++l)).1))++([v2,iv m]:List Value)) 177),(BX bb6 [pp bw 0] 213),k5,k4,(BX b1 [pp bw 0] 213),k0]) rfl ?_
 show JL _ _ _ [_,_,_,_] _ _ _
 refine JLq (pp bw 0) (Pu.nilCheck rfl)<|JLq (pp bw 0) (Xo rfl rfl)<|JLq (pp bw 8) (WB rfl rfl)<|JLr (Zb 1 (vs:=[u8]) (l:=(uC ((YA h (rs++l)).1))++([u8,iv m]:List Value)) Ul rfl rfl rfl (ZH ho8.one) rfl (Zh ho8.one Zq) (K9 (n:=8) (i:=0) ((Z5 _).trans (UX hl).1) rfl)<|Za<|⟨.tuple ⟨[]⟩,[(BX bw ((uC ((YA h (rs++l)).1))++([u8,iv m]:List Value)) 177),k8],Ret.none rfl,(Sub.cons 1 rfl (Sk Sub.nil)),?_⟩)
 exact ⟨_,_,rfl,ho8⟩
set_option maxHeartbeats 4000000 in
theorem Bc (h:List W32) (rs:List Int) (n:Nat) (bw:Nat) (v0:Value) (k0:Zf) (H:Heap) (hl:h.length=8) (ho:Own 5 1 v0 (YU rs) k0) (hbr:∀ x∈rs,0≤x∧x≤255) (hrz:rs.length<64) (hn:n≤1000000000) (hG:GK H):CT prog 132 ⟨[pp bw 0]⟩ [(BX bw ((uC h)++([v0,iv ((n:Int))]:List Value)) 177),k0] H (fun r N=>r=.agg ⟨sC (endS h rs n)⟩∧N=[]):=by
 refine Zl func132 rfl rfl<|Zd<|JLr (Zk (l:=sC zS) zeroValue38 rfl fun b1=>Za<|Zd<|JLr (Zj (vs:=[.int .u8 128]) [[.int .u8 128]] YV el5 rfl rfl (al1 rfl) rfl (by decide) fun b2 k2 ho2 hk2=>JAn rfl<|Zg<|Zm<|ZD (fun k ρ M=>∃ (z:Nat) (yz:Value) (qz:Zf),Z7 ρ [(0,pp bw 0),(2,pp b1 0),(3,yz)]=ρ∧Sub [qz,(BX b1 (sC zS) 38),(BX bw ((uC h)++([v0,iv ((n:Int))]:List Value)) 177),k0] M∧Own 5 1 yz (YU (128::replicate z 0)) qz∧z≤zN rs.length∧k=zN rs.length-z) _ ⟨0,(.slice (some ⟨b2,0,none⟩) 1 1),k2,Zp rfl,(Sk (Sk (Sk (Sk Sub.nil)))),ho2,Nat.zero_le _,rfl⟩ ?_))
 rintro _ ρ3 _ ⟨z,yz,qz,e4,hm7,hownz,hz,rfl⟩
 obtain ⟨ρ8,rfl⟩:=Zi e4
 clear e4
 refine ZF hm7 ?_
 have hpl:(128::replicate z 0:List Int).length=1+z:=by rw [length_cons,length_replicate];omega
 have hzl:=B0 rs.length
 refine Zg<|Zd<|JLM rfl<|JLq (pp bw 0) (Pu.nilCheck rfl)<|JLq (pp bw 0) (Xo rfl rfl)<|JLq (pp bw 8) (WB rfl rfl)<|JLr (Zc Ul rfl (ZcK 2 rfl) (RW (n:=8) (i:=0) ((Z5 _).trans hl) rfl) ?_)
 obtain ⟨a9,cap9,hv9⟩:=ho.sl
 rw [Yu] at hv9
 refine JLn (ZcM YV hv9)<|JLm yz ?_
 obtain ⟨a10,cap10,hv10⟩:=hownz.sl
 rw [Yu] at hv10
 refine JLn (ZcM YV hv10)<|JLn (ZcV rfl rfl (by first | omega | (constructor <;> omega)))<|JLq (iv (((rs.length:Int)+(((128::replicate z 0).length:Int))) % 64)) (Pu.rem rfl rfl (by decide) (Int.tmod_eq_emod_of_nonneg (by omega)))<|JLn (Pu.neq rfl rfl)<|Za<|Zt rfl (fun h11=>?_) (fun h11=>?_)
 ·replace h11:=nt h11
  replace h11:=df h11
  refine Zo<|Zm<|Ze<|JLm yz<|JLr (Zj (vs:=[.int .u8 0]) [[.int .u8 0]] YV el5 rfl rfl (al1 rfl) rfl (by decide) fun b12 k12 ho12 hk12=>?_)
  have hlens13:∀ e∈([[.int .u8 0]]:List (List Value)),List.length e=1:=al1 rfl
  have hoks13:∀ e∈([[.int .u8 0]]:List (List Value)),okc e:=al1 (Zh rfl Zq)
  refine JLr (ZA (i:=1) (n:=1) (es':=[[.int .u8 0]]) YV YV (Or.inl rfl) el5 rfl rfl rfl hownz (fun F w m=>Src.row (((ZcS 0 rfl (by rw [hk12];exact mem_cons_self))).heap m) (Zx (Zw hlens13))) rfl hlens13 hoks13 (by decide) (by rw [Yu];omega) fun v13 k13 ho13=>?_)
  rw [ST] at ho13
  refine JLa v13<|Za<|⟨_,?_,(z+1),v13,k13,Zp rfl,(Sd (Sk (Sk (Sk (Sk Sub.nil))))),?_,?_,rfl⟩
  ·have hz2:z+1≤zN rs.length:=(by unfold zN at hz ⊢;omega);omega
  ·rw [← IP];exact ho13
  have hz2:z+1≤zN rs.length:=(by unfold zN at hz ⊢;omega);exact hz2
 replace h11:=nf h11
 replace h11:=dt h11
 refine ZC _ rfl<|Zd<|JLM rfl<|JLq (pp bw 0) (Pu.nilCheck rfl)<|JLq (pp bw 0) (Xo rfl rfl)<|JLq (pp bw 9) (JX rfl rfl)<|JLr (Zc ty3 rfl (ZcK 2 rfl) (RW (n:=8) (i:=1) ((Z5 _).trans hl) rfl)<|JLq (.int .u64 ((n:Int))) (Zc0 Ru3 LB rfl (Zcj (by omega)))<|JLq (.int .u64 (((8*n:Nat):Int))) (Zc4 rfl rfl (Za1 (by omega)))<|JAn rfl<|Zg ?_)
 refine Zd<|JAn rfl<|Zm<|ZD (fun k ρ M=>∃ (i:Nat) (yi:Value) (qi:Zf),ρ 0=pp bw 0∧ρ 2=pp b1 0∧ρ 3=yi∧ρ 4=.int .u64 (((8*n:Nat):Int))∧ρ 5=iv (56-8*(i:Int))∧Sub [qi,(BX b1 (sC zS) 38),(BX bw ((uC h)++([v0,iv ((n:Int))]:List Value)) 177),k0] M∧Own 5 1 yi (YU (128::(replicate (zN rs.length) 0++lnB n i))) qi∧i≤8∧k=8-i) _ ⟨0,yz,qz,rfl,rfl,rfl,rfl,rfl,(Sk (Sk (Sk (Sk Sub.nil)))),(by have hze:z=zN rs.length:=(by unfold zN at hz ⊢;omega);rw [lnB,append_nil,← hze];exact hownz),Nat.zero_le _,rfl⟩ ?_
 rintro _ ρ14 _ ⟨i,yi,qi,e15,e16,e17,e18,e19,hm20,howni,hi,rfl⟩
 obtain ⟨ρ21,rfl⟩:=Zi (uc e15 (uc e16 (uc e17 (uc e18 (uc e19 un)))))
 clear e15 e16 e17 e18 e19
 refine ZF hm20 ?_
 have hln:=CB n i
 have hzl:=B0 rs.length
 have hrl:(128::(replicate (zN rs.length) 0++lnB n i):List Int).length=1+zN rs.length+i:=by rw [length_cons,length_append,length_replicate,hln];omega
 refine Zg<|Zd<|JLM rfl<|JLn (Pu.geq rfl rfl)<|Za<|ZN rfl (fun h22=>?_) (fun h22=>?_)
 ·refine Zo<|Zg<|Zm<|Ze<|JLm yi<|JLM rfl<|JLM rfl<|JLq (.int .u64 (((8*n / 2 ^ (56-8*i):Nat):Int))) (Zdh rfl rfl (by omega) (Zcr (by omega) (by omega)))<|JLq (.int .u8 (((8*n / 2 ^ (56-8*i) % 256:Nat):Int))) (Zc0 LB Ru5 rfl (w8n _))<|JLr (Zj (vs:=[.int .u8 (((8*n / 2 ^ (56-8*i) % 256:Nat):Int))]) [[.int .u8 (((8*n / 2 ^ (56-8*i) % 256:Nat):Int))]] YV el5 rfl rfl (al1 rfl) rfl (by decide) fun b23 k23 ho23 hk23=>?_)
  have hlens24:∀ e∈([[.int .u8 (((8*n / 2 ^ (56-8*i) % 256:Nat):Int))]]:List (List Value)),List.length e=1:=al1 rfl
  have hoks24:∀ e∈([[.int .u8 (((8*n / 2 ^ (56-8*i) % 256:Nat):Int))]]:List (List Value)),okc e:=al1 (Zh rfl Zq)
  refine JLr (ZA (i:=1) (n:=1) (es':=[[.int .u8 (((8*n / 2 ^ (56-8*i) % 256:Nat):Int))]]) YV YV (Or.inl rfl) el5 rfl rfl rfl howni (fun F w m=>Src.row (((ZcS 0 rfl (by rw [hk23];exact mem_cons_self))).heap m) (Zx (Zw hlens24))) rfl hlens24 hoks24 (by decide) (by rw [Yu];omega) fun v24 k24 ho24=>?_)
  rw [ST] at ho24
  refine JLa v24<|Za<|Ze<|JLM rfl<|JLn (Zc2 rfl rfl (by first | omega | (constructor <;> omega)))<|JAn rfl<|⟨_,?_,(i+1),v24,k24,rfl,rfl,rfl,rfl,(congrArg (Value.int .i64) (by omega)),(Sd (Sk (Sk (Sk (Sk Sub.nil))))),?_,?_,rfl⟩
  ·omega
  ·rw [← I5];exact ho24
  omega
 refine ZC _ rfl<|Zd<|JLM rfl<|JLq (.func (.func 131) ⟨[pp bw 0]⟩ ⟨[]⟩) (Pu.makeFunc rfl rfl)<|JAn rfl<|Zd<|JLM rfl<|JLm yi<|ZB (Sub.cons 2 rfl (Sub.cons 2 rfl (Sk (Sk Sub.nil))))<|PQ rfl call131 rfl (fun hin=>Jl h rs (128::(replicate (zN rs.length) 0++lnB n i)) _ bw _ _ _ _ hl ho (Sj howni (by omega) (hin 0 _ rfl)) hbr (by have:=AV rs.length n;rw [VC,show 8=i by omega] at this;exact this) (by omega) (GK.mono (Hle.hu _ _) hG)) rfl ?_
 rintro w25 _ ⟨u25,k25,rfl,ho25⟩
 refine Za<|Zg<|Zd<|JLM rfl<|Za<|Zm<|ZD (fun k ρ M=>∃ (i3:Nat) (s:Sm),Z7 ρ [(0,pp bw 0),(2,pp b1 0),(46,iv ((i3:Int)))]=ρ∧Sub [(BX b1 (sC s) 38),(BX bw ((uC ((YA h (rs++(128::(replicate (zN rs.length) 0++lnB n i)))).1))++([u25,iv ((n:Int))]:List Value)) 177),k25,qi] M∧i3≤32∧s=L0 ((YA h (rs++(128::(replicate (zN rs.length) 0++lnB n i)))).1) i3∧k=32-i3) _ ⟨0,zS,Zp rfl,(Sub.cons 3 rfl (Sk (Sk (Sk Sub.nil)))),Nat.zero_le _,rfl,rfl⟩ ?_
 rintro _ ρ26 _ ⟨i3,s,e27,hm30,hi3,hs,rfl⟩
 obtain ⟨ρ31,rfl⟩:=Zi e27
 clear e27
 refine ZF hm30<|Zd<|JLn (Pu.lss rfl rfl)<|Za<|Zg<|ZN rfl (fun h32=>?_) (fun h32=>?_)
 ·have h32n:i3<32:=by omega
  refine Zo<|Zg<|Zm<|Zd<|JLM rfl<|JAn rfl<|Ze<|JLM rfl<|JLM rfl<|JLM rfl<|JLq (iv (((i3 / 4:Nat):Int))) (Pu.quo rfl rfl (by decide) ((congrArg IntKind.i64.wrap (show Int.tdiv (i3:Int) 4=((i3 / 4:Nat):Int) from rfl)).trans (w64 (by omega)))) ?_
  refine JLq (pp bw 0) (Pu.nilCheck rfl)<|JLq (pp bw 0) (Xo rfl rfl)<|JLq (pp bw 0) (Nv rfl rfl)<|JLq (pp bw (0+(i3 / 4)*1)) (ZcQ (i3 / 4) Xz Z3 rfl rfl rfl (by omega))<|JLr (Zc Z3 rfl (ZcK 1 rfl) (ZbW (VX (by have hbl:List.length ((YA h (rs++(128::(replicate (zN rs.length) 0++lnB n i)))).1)=8:=(UX hl).1;rw [hbl];omega)))<|JLM rfl<|JLq (iv (((i3 % 4:Nat):Int))) (Pu.rem rfl rfl (by decide) (show Int.tmod (i3:Int) 4=((i3 % 4:Nat):Int) from rfl))<|JLq (iv (((i3 % 4*8:Nat):Int))) (Zc4 rfl rfl ((w64 (by omega)).trans (by omega)))<|JLq (iv (((24-i3 % 4*8:Nat):Int))) (Zc7 rfl rfl ((w64 (by omega)).trans (by omega)))<|JLq (.int .u32 (((((YA h (rs++(128::(replicate (zN rs.length) 0++lnB n i)))).1).getD (i3 / 4) 0) >>> (24-i3 % 4*8)).toNat:Int)) (Zdg (24-i3 % 4*8) rfl rfl rfl (by omega)) ?_)
  have hlo33:=ZbP ((((YA h (rs++(128::(replicate (zN rs.length) 0++lnB n i)))).1).getD (i3 / 4) 0) >>> (24-i3 % 4*8))
  refine JLq (.int .u8 (lo8 ((((YA h (rs++(128::(replicate (zN rs.length) 0++lnB n i)))).1).getD (i3 / 4) 0) >>> (24-i3 % 4*8)))) (ZdA runUnderlying137 Ru5 rfl)<|JLq (pp b1 (0+i3*1)) (ZcQ i3 runUnderlying38 ty5 rfl rfl rfl (by omega))<|JLr (Zb 0 (vs:=[.int .u8 (lo8 ((((YA h (rs++(128::(replicate (zN rs.length) 0++lnB n i)))).1).getD (i3 / 4) 0) >>> (24-i3 % 4*8)))]) (l:=sC (Vector.setIfInBounds s i3 (UInt8.ofNat (lo8 ((((YA h (rs++(128::(replicate (zN rs.length) 0++lnB n i)))).1).getD (i3 / 4) 0) >>> (24-i3 % 4*8))).toNat))) ty5 rfl rfl rfl rfl rfl (Zh rfl Zq) (AG (by omega) (by omega))<|Za<|Ze<|JLn (ZcP rfl rfl (by omega))<|JLM rfl<|Za<|⟨_,?_,(i3+1),(Vector.setIfInBounds s i3 (UInt8.ofNat (lo8 ((((YA h (rs++(128::(replicate (zN rs.length) 0++lnB n i)))).1).getD (i3 / 4) 0) >>> (24-i3 % 4*8))).toNat)),Zp rfl,(Sk (Sk (Sk (Sk Sub.nil)))),?_,?_,rfl⟩)
  ·omega
  ·omega
  rw [L0,hs]
 have h32n:32≤i3:=by omega
 refine ZC _ rfl<|Zd<|JLr (Zn Yv rfl (ZcK 0 rfl) (Zx rfl)<|JLr (Zb 0 (vs:=sC s) (l:=sC s) Yv rfl rfl rfl rfl rfl (T5 _) (ZY rfl rfl)<|Za<|Zz<|⟨.agg ⟨sC s⟩,[],Ret.one rfl (RV.cell Yv rfl (ZcK 0 rfl) (Zx rfl)),Sub.nil,?_⟩))
 obtain rfl:i3=32:=by omega
 obtain rfl:i=8:=by omega
 exact ⟨by rw [hs,MY];rfl,rfl⟩
set_option maxHeartbeats 2000000 in
theorem Je (l:List Int) (v:Value) (H:Heap) (hv:byR H v l) (hby:∀ x∈l,0≤x∧x≤255) (hz:l.length≤1000000) (hG:GK H):CT prog 84 ⟨[v]⟩ [] H (fun r N=>r=.agg ⟨sC (sha l)⟩∧N=[]):=by
 refine Zl func84 rfl rfl<|Zd<|JLr (Zk (l:=sC zS) zeroValue38 rfl fun b1=>Za<|Zd<|Jc call130 rfl (fun hin=>A4 _ (GK.mono (Hle.hu _ _) hG)) rfl ?_)
 rintro _ _ ⟨rfl,rfl⟩
 refine JLq (.agg ⟨(uC beW)++([nS,iv 0]:List Value)⟩) (Pu.build (pv:=[(0,.agg ⟨(uC beW)++([nS,iv 0]:List Value)⟩)]) (l:=(uC beW)++([nS,iv 0]:List Value)) rfl (ZaM rfl _ _ _ _))<|JLr (Zk (l:=(uC (replicate 8 0))++([nS,iv 0]:List Value)) zeroValue177 rfl fun b2=>JLr (Zb 0 (vs:=(uC beW)++([nS,iv 0]:List Value)) (l:=(uC beW)++([nS,iv 0]:List Value)) Za7 rfl rfl rfl rfl (ZJ ((Z5 _).trans rfl) rfl) (YB (Qy _) (Zh rfl (Zh rfl Zq))) (ZY (n:=10) (ZJ ((Z5 _).trans (length_replicate ..)) rfl) (ZJ ((Z5 _).trans rfl) rfl))<|Za<|Zd<|JLm v ?_))
 obtain ⟨a3,cap3,hv3⟩:=hv.rd.sl
 have hle3:=hv.rd.le
 refine JLn (ZcM YV hv3)<|JLq (pp b2 0) (Xo rfl rfl)<|JLq (pp b2 9) (JX rfl rfl)<|JLr (Zb 0 (vs:=[iv ((l.length:Int))]) (l:=(uC beW)++([nS,iv ((l.length:Int))]:List Value)) ty3 rfl rfl rfl rfl rfl (Zh rfl Zq) (K9 (n:=8) (i:=1) ((Z5 _).trans rfl) rfl)<|Za<|Zd<|JLm v<|ZB (Sk (ZcL (Sk Sub.nil)))<|PQ rfl call131 rfl (fun hin=>Jl beW ([]) l _ b2 _ _ _ _ rfl (show Own 5 1 _ (YU []) [] from Own.nil) (byR.mono (Hle.hu _ _) hv) (fun x hx=>by cases hx) hby (by simp;omega) (GK.mono (Hle.hu _ _) hG)) rfl ?_)
 rintro w4 _ ⟨u4,k4,rfl,ho4⟩
 refine Za<|Zd<|ZB (Sk (Sk (Sk Sub.nil)))<|PQ rfl call132 rfl (fun hin=>Bc ((YA beW (([])++l)).1) ((YA beW (([])++l)).2) (l.length) b2 _ _ _ (UX rfl).1 ho4 (E8 (h:=beW) hby).2 (UX (b:=l) (h:=beW) rfl).2 (by omega) (GK.mono (Hle.hu _ _) hG)) rfl ?_
 rintro _ _ ⟨rfl,rfl⟩
 refine JLr (Zb 0 (vs:=sC (endS ((YA beW (([])++l)).1) ((YA beW (([])++l)).2) (l.length))) (l:=sC (endS ((YA beW (([])++l)).1) ((YA beW (([])++l)).2) (l.length))) Yv rfl rfl rfl rfl rfl (T5 _) (ZY rfl rfl)<|Za<|Zz<|⟨.agg ⟨sC (endS ((YA beW (([])++l)).1) ((YA beW (([])++l)).2) (l.length))⟩,[],Ret.one rfl (RV.cell Yv rfl (ZcK 0 rfl) (Zx rfl)),Sub.nil,?_⟩)
 exact ⟨by rw [Jd];rfl,rfl⟩
end
theorem RSms.at {h:Heap} {v:Value} {l:List Sm} (q:Hs.rdS RSm 32 h v l) (i:Nat) (hi:i<l.length):∃ b o cap row T fr,v=.slice (some ⟨b,o,none⟩) l.length cap∧h b=some (.cells ⟨row⟩ T fr)∧sub row (o+i*32) 32=some (sC (l.getD i zS)):=by
  obtain ⟨b,o,cap,row,T,fr,cs,h1,h2,h3,h4⟩:=q.get i hi
  refine ⟨b,o,cap,row,T,fr,h1,h2,?_⟩
  rw [h3,show cs=sC l[i] from h4,getD_eq_getElem?_getD,getElem?_eq_getElem hi];rfl
theorem CS {l:List Sm} {i:Nat} (hi:i<l.length):l.getD i zS=l[i]:=by rw [getD_eq_getElem?_getD,getElem?_eq_getElem hi];rfl
def smR (H:Heap) (v:Value) (l:List Sm):Prop:=∃ a cap,v=.slice a l.length cap∧l.length≤cap∧Hs.rdS RSm 32 H v l
theorem smR.rd {H:Heap} {v:Value} {l:List Sm} (h:smR H v l):Hs.rdS RSm 32 H v l:=by obtain ⟨_,_,_,_,h⟩:=h;exact h
theorem smR.mono {H H':Heap} {v:Value} {l:List Sm} (hh:Hle H H') (h:smR H v l):smR H' v l:=by obtain ⟨a,cap,e,h1,h⟩:=h;exact ⟨a,cap,e,h1,RSms.mono hh h⟩
theorem smR.own {T:TypeId} {v:Value} {l:List Sm} {k:Zf} {h:Heap} (o:Own T 32 v (sms l) k) (hn:l.length≤9223372036854775807) (hk:Has k h):smR h v l:=by
  have hr:=Si o hn hk
  rcases id o.2 with ⟨rfl,h1,_⟩ | ⟨b,cap,sp,rfl,rfl,h3,h4⟩
  · have:l=[]:=by cases l;rfl;simp [sms] at h1
    subst this;exact ⟨none,0,rfl,by simp,hr⟩
  · refine ⟨_,cap,by rw [XJ],?_,hr⟩
    rw [XJ] at h4;exact h4
theorem smR.drop {h:Heap} {a:Option Addr} {N cap:Nat} {l:List Sm} (r:smR h (.slice a N cap) l) (n:Nat) (hn:n≤l.length):Hs.rdS RSm 32 h (.slice (if cap=n then a else a.map (·.add (n*32))) (N-n) (cap-n)) (l.drop n):=by
  obtain ⟨a',c',e,h1,a2,c2,e2,h2,h0⟩:=r
  cases e;cases e2
  refine ⟨_,_,by rw [length_drop],by rw [length_drop];omega,?_⟩
  by_cases hz:(l.drop n).length=0
  · exact .inl hz
  rw [length_drop] at hz
  rcases h0 with h0 | ⟨b,o,row,T,fr,e1,e2,e3⟩
  · omega
  · right
    have hc:¬ cap=n:=by omega
    refine ⟨b,o+n*32,row,T,fr,by rw [if_neg hc,e1];simp [Addr.add],e2,rows.mk fun i hi=>?_⟩
    rw [length_drop] at hi
    obtain ⟨cs,h2,h3⟩:=e3.get (n+i) (by omega)
    exact ⟨cs,by rw [← h2];congr 1;omega,by rw [List.getElem_drop];exact h3⟩
section
variable {c:Cx} {H:Heap} {ρ:Nat→Value} {M:List Zf} {K:Value→List Zf→Prop} {d:Option Nat} {ot:TypeId} {pos:String} {af:Array Edge} {g:Option (Nat×Bool)} {x y:Operand}
end
section
variable {c:Cx} {H:Heap} {ρ:Nat→Value} {M:List Zf} {K:Value→List Zf→Prop} {d:Option Nat} {ot:TypeId} {pos:String} {af:Array Edge} {g:Option (Nat×Bool)} {x y:Operand}
end
end Go.Proofs.YtjdjmjgleadcfaaGreatDoor.Hs
