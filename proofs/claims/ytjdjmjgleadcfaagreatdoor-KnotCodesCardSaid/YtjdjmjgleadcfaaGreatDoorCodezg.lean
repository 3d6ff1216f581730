import Derived.Test.YtjdjmjgleadcfaaGreatDoorCodezf
import Derived.Lib.LaidTab
import Derived.ProofKit
import Derived.LaidMore
set_option linter.unusedVariables false
set_option linter.unusedSimpArgs false
set_option maxRecDepth 100000
open Go.Proofs.Tryz
open List (mem_cons_self mem_cons not_mem_nil take_of_length_le take_succ_eq_append_getElem flatten append_nil nil_append)
namespace Go.Proofs.YtjdjmjgleadcfaaGreatDoor.Hs
section
attribute [local irreducible] JL J CT wlo DT
set_option maxHeartbeats 4000000 in
theorem By (l:List (Sm×Tm)) (v:Value) (H:Heap) (hv:Hs.rdS RKn 68 H v l):CT prog 82 ⟨[v]⟩ [] H (fun v N=>∃ mv kk,v=.tuple ⟨[mv,iv (bkE l)]⟩∧N=[kk]∧(bkE l=0→∃ r,mv=.map (some r)∧kk=gmC smV iV r (kSm l) (idF (kSm l)))):=by
 have hlen:=hv.le
 refine Zl func82 rfl rfl<|Zc<|JLa ((.map none))<|JAn rfl<|Zf<|Zc<|JLm v ?_
 obtain ⟨a1,cap1,hv1⟩:=hv.sl
 have hle1:=hv.le
 refine JLn (Zcv R6 hv1)<|JLn (Pu.gtr rfl rfl)<|Za<|ZF rfl (fun h2=>?_) (fun h2=>?_)
 ·refine Zc<|JLa ((.map none))<|JAn rfl<|ZH<|⟨.tuple ⟨[(.map none),iv 2]⟩,[[]],ZcE rfl (RV.tmp rfl) (RV.tmp rfl),(Zcz Sub.nil),?_⟩
  have hbk:bkE l=2:=by unfold bkE;rw [if_pos (by omega)]
  exact ⟨_,_,by rw [hbk],rfl,fun q=>absurd (hbk.symm.trans q) (by decide)⟩
 refine Zk<|Zf<|Zf ?_
 have h40:¬ 40<l.length:=by have z:=h2;omega
 refine Zd<|JLm v ?_
 obtain ⟨a3,cap3,hv3⟩:=hv.sl
 have hle3:=hv.le
 refine JLn (Zcv R6 hv3)<|JLM rfl<|Za<|Zh<|Zv (fun k ρ M=>∃ (j:Nat),ZR ρ [(0,v),(2,(.map none)),(3,iv 0),(15,v),(16,iv ((l.length:Int))),(17,iv ((j:Int)))]=ρ∧Sub [] M∧j≤l.length∧Wq (Zx 0 0) ((bdL l).drop j)=Wq (Zx 0 0) (bdL l)∧k=l.length-j) _ ⟨0,Zj rfl,Sub.nil,Nat.zero_le _,rfl,rfl⟩ ?_
 rintro _ ρ4 _ ⟨j,e5,hm11,hj,hck,rfl⟩
 obtain ⟨ρ12,rfl⟩:=Zo e5
 clear e5
 refine ZD hm11<|Zc<|JLn (Pu.lss rfl rfl)<|Za<|Zf<|ZF rfl (fun h13=>?_) (fun h13=>?_)
 ·have h13n:j<l.length:=by omega
  have hbj:=ZaI h13n
  have hbl:=Mf l
  refine Zk<|Zf<|Zh<|Zf<|Zd ?_
  obtain ⟨b14,o14,cap14,row14,T14,fr14,cs14,hv14,hb14,hs14,hE14⟩:=hv.get j (by omega)
  obtain ⟨cb14,rfl,hB14⟩:=hE14
  refine JLn (Zcw j R6 Qo hv14 rfl rfl (by omega))<|JLr (Zn Qo rfl (Zcx hb14) hs14<|JLr (Zp (l:=[.int .u8 0,.int .u8 0,.int .u8 0,.int .u8 0,.int .u8 0,.int .u8 0,.int .u8 0,.int .u8 0,.int .u8 0,.int .u8 0,.int .u8 0,.int .u8 0,.int .u8 0,.int .u8 0,.int .u8 0,.int .u8 0,.int .u8 0,.int .u8 0,.int .u8 0,.int .u8 0,.int .u8 0,.int .u8 0,.int .u8 0,.int .u8 0,.int .u8 0,.int .u8 0,.int .u8 0,.int .u8 0,.int .u8 0,.int .u8 0,.int .u8 0,.int .u8 0,iv 0,iv 0,.int .u8 0,.int .u8 0,.int .u8 0,.int .u8 0,.int .u8 0,.int .u8 0,.int .u8 0,.int .u8 0,.int .u8 0,.int .u8 0,.int .u8 0,.int .u8 0,.int .u8 0,.int .u8 0,.int .u8 0,.int .u8 0,.int .u8 0,.int .u8 0,.int .u8 0,.int .u8 0,.int .u8 0,.int .u8 0,.int .u8 0,.int .u8 0,.int .u8 0,.int .u8 0,.int .u8 0,.int .u8 0,.int .u8 0,.int .u8 0,.int .u8 0,.int .u8 0,nS,nS]) zeroValue70 rfl fun b15=>JLr (Ze 0 (vs:=(sC ((l[j]).1))++cb14) (l:=(sC ((l[j]).1))++cb14) Qo rfl rfl rfl rfl (ZW rfl (ZB hB14)) (Y5 (VG _) (XA hB14)) (Yb (n:=68) rfl (ZW rfl (ZB hB14)))<|Za<|Zc<|JLq (pp b15 32) (N1 rfl rfl)<|JLr (Zn Zy rfl (Zcu 0 rfl) (XK rfl (ZB hB14))<|Jc call97 rfl (fun hin=>ZbG (PX _ _ _ _ _ (RT.mono (Hle.hu _ _) hB14)) (S7 _ _ _)) rfl ?_))))
  rintro _ _ ⟨rfl,rfl⟩
  refine JAn rfl<|Zc<|JLM rfl<|JLn (Pu.neq rfl rfl)<|Za<|Zs rfl (fun h16=>?_) (fun h16=>?_)
  ·replace h16:=nt h16
   replace h16:=df h16
   refine Zc<|JLM rfl<|JLa ((.map none))<|JAn rfl<|ZH<|⟨.tuple ⟨[(.map none),iv (Zx 0 0 ((l[j]).2))]⟩,[[]],ZcE rfl (RV.tmp rfl) (RV.tmp rfl),(Zcz Sub.nil),?_⟩
   have hst:=R0 (by omega) hck (by rw [hbj];exact h16)
   rw [hbj] at hst
   have hbk:bkE l=Zx 0 0 ((l[j]).2):=by unfold bkE;rw [if_neg h40,if_neg (by rw [hst];exact h16),hst]
   exact ⟨_,_,by rw [hbk],rfl,fun q=>absurd (hbk.symm.trans q) (by exact h16)⟩
  replace h16:=nf h16
  replace h16:=dt h16
  refine Zk<|Zd<|JLn (Zcy rfl rfl (by omega))<|JLM rfl<|Za<|⟨_,?_,(j+1),Zj rfl,Sub.nil,?_,?_,rfl⟩
  ·omega
  ·omega
  exact N9 (by omega) hck (by rw [hbj];exact h16)
 have h13n:l.length≤j:=by omega
 refine Zu _ rfl<|Zf ?_
 have hck0:Wq (Zx 0 0) (bdL l)=0:=PW (by rw [Mf];exact h13n) hck
 refine Zd<|JLr (Si smV iV (idF (kSm l)) fun r17=>JAn rfl<|Zf<|Zc<|JLm v ?_)
 obtain ⟨a18,cap18,hv18⟩:=hv.sl
 have hle18:=hv.le
 refine JLn (Zcv R6 hv18)<|JLM rfl<|Za<|Zh<|Zv (fun k ρ M=>∃ (q:Nat) (K:List Sm),ZR ρ [(2,(.map none)),(3,iv 0),(7,.map (some r17)),(29,v),(30,iv ((l.length:Int))),(31,iv ((q:Int)))]=ρ∧Sub [gmC smV iV r17 K (idF (kSm l))] M∧q≤l.length∧K=(kSm l).take q∧K.Nodup∧k=l.length-q) _ ⟨0,[],Zj rfl,(Sk Sub.nil),Nat.zero_le _,rfl,List.nodup_nil,rfl⟩ ?_
 rintro _ ρ19 _ ⟨q,K,e20,hm26,hq,hK,hnd,rfl⟩
 obtain ⟨ρ27,rfl⟩:=Zo e20
 clear e20
 refine ZD hm26<|Zc<|JLn (Pu.lss rfl rfl)<|Za<|Zf<|ZF rfl (fun h28=>?_) (fun h28=>?_)
 ·have h28n:q<l.length:=by omega
  refine Zk<|Zf<|Zh<|Zc<|JLM rfl ?_
  obtain ⟨b29,o29,cap29,row29,T29,fr29,cs29,hv29,hb29,hs29,hE29⟩:=hv.get q (by omega)
  obtain ⟨cb29,rfl,hB29⟩:=hE29
  refine JLn (Zcw q R6 Qo hv29 rfl rfl (by omega))<|JLr (Zn Qo rfl (Zcx hb29) hs29<|JLr (Zp (l:=[.int .u8 0,.int .u8 0,.int .u8 0,.int .u8 0,.int .u8 0,.int .u8 0,.int .u8 0,.int .u8 0,.int .u8 0,.int .u8 0,.int .u8 0,.int .u8 0,.int .u8 0,.int .u8 0,.int .u8 0,.int .u8 0,.int .u8 0,.int .u8 0,.int .u8 0,.int .u8 0,.int .u8 0,.int .u8 0,.int .u8 0,.int .u8 0,.int .u8 0,.int .u8 0,.int .u8 0,.int .u8 0,.int .u8 0,.int .u8 0,.int .u8 0,.int .u8 0,iv 0,iv 0,.int .u8 0,.int .u8 0,.int .u8 0,.int .u8 0,.int .u8 0,.int .u8 0,.int .u8 0,.int .u8 0,.int .u8 0,.int .u8 0,.int .u8 0,.int .u8 0,.int .u8 0,.int .u8 0,.int .u8 0,.int .u8 0,.int .u8 0,.int .u8 0,.int .u8 0,.int .u8 0,.int .u8 0,.int .u8 0,.int .u8 0,.int .u8 0,.int .u8 0,.int .u8 0,.int .u8 0,.int .u8 0,.int .u8 0,.int .u8 0,.int .u8 0,.int .u8 0,nS,nS]) zeroValue70 rfl fun b30=>JLA rfl<|JLr (Ze 0 (vs:=(sC ((l[q]).1))++cb29) (l:=(sC ((l[q]).1))++cb29) Qo rfl rfl rfl rfl (ZW rfl (ZB hB29)) (Y5 (VG _) (XA hB29)) (Yb (n:=68) rfl (ZW rfl (ZB hB29)))<|Za<|Zf<|Zc<|JLM rfl<|JLq (pp b30 0) (Ks rfl rfl)<|JLr (Zn Yq rfl (Zcu 0 rfl) (XE rfl)<|JLr (TR (i:=1) (kV:=smV) (vV:=iV) (K:=K) (f:=idF (kSm l)) (k:=((l[q]).1)) 0 CG underlying131 zeroValue3 rfl rfl rfl ?_)))))
  refine JLM rfl<|JLn (Pu.extract rfl rfl)<|JLn (Pu.extract rfl rfl)<|JLA rfl<|JAn rfl<|Zc<|JLM rfl<|Za<|ZF rfl (fun h31=>?_) (fun h31=>?_)
  ·refine Zc<|JLa ((.map none))<|JAn rfl<|ZH<|⟨.tuple ⟨[(.map none),iv 5]⟩,[[]],ZcE rfl (RV.tmp rfl) (RV.tmp rfl),(Zcz Sub.nil),?_⟩
   have hbk:bkE l=5:=by unfold bkE;rw [if_neg h40,if_pos hck0,if_neg (BH h28n (by rw [← hK];simpa using h31))]
   exact ⟨_,_,by rw [hbk],rfl,fun q=>absurd (hbk.symm.trans q) (by decide)⟩
  refine Zk<|Zd<|JLM rfl<|JLq (pp b30 0) (Ks rfl rfl)<|JLr (Zn Yq rfl (Zcu 0 rfl) (XE rfl)<|JLM rfl<|JLr (UP (i:=1) (kV:=smV) (vV:=iV) (K:=K) (f:=idF (kSm l)) (f':=idF (kSm l)) (k:=((l[q]).1)) CG underlying131 rfl rfl (congrArg iV (Zad h28n (by rw [← hK];simpa using h31))).symm rfl (by simpa using h31) (fun _ _=>rfl)<|Za<|Zd<|JLn (Zcy rfl rfl (by omega))<|JLM rfl<|Za<|⟨_,?_,(q+1),(K++[((l[q]).1)]),Zj rfl,(Sd (Sk Sub.nil)),?_,?_,?_,rfl⟩))
  ·omega
  ·omega
  ·rw [F0 h28n,hK]
  exact L8 hnd (by simpa using h31)
 have h28n:l.length≤q:=by omega
 refine Zu _ rfl<|Zc<|JLM rfl<|JLA rfl<|JAn rfl<|ZH<|⟨.tuple ⟨[.map (some r17),iv 0]⟩,[gmC smV iV r17 K (idF (kSm l))],ZcE rfl (RV.tmp rfl) (RV.tmp rfl),(Sk Sub.nil),?_⟩
 rw [take_of_length_le (by rw [SN];exact h28n)] at hK
 subst hK
 have hbk:bkE l=0:=by unfold bkE;rw [if_neg h40,if_pos hck0,if_pos hnd]
 exact ⟨_,_,by rw [hbk],rfl,fun _=>⟨_,rfl,rfl⟩⟩
set_option maxHeartbeats 4000000 in
theorem Ob (l:List (Sm×Tm)) (v:Value) (H:Heap) (hv:Hs.rdS RKn 68 H v l) (hn:l.length≤1000) (hzl:∀ x∈l,sizeT x.2≤400000) (hGK:GK H):CT prog 40 ⟨[v]⟩ [] H (fun v N=>v=iv (vfE l)∧N=[]):=by
 have hlen:=hv.le
 refine Zl func40 rfl rfl<|Zc<|JAn rfl<|Zc<|JLm v<|Jc call82 rfl (fun hin=>By l _ _ (RKns.mono (Hle.hu _ _) hv)) rfl ?_
 rintro _ _ ⟨mv,kk,rfl,rfl,hmap⟩
 refine JLM rfl<|JLn (Pu.extract rfl rfl)<|JLn (Pu.extract rfl rfl)<|JLa mv<|JAn rfl<|Zf<|Zc<|JLM rfl<|JLn (Pu.neq rfl rfl)<|Za<|Zs rfl (fun h1=>?_) (fun h1=>?_)
 ·replace h1:=nt h1
  replace h1:=df h1
  refine Zc<|JLM rfl<|JAn rfl<|ZH<|⟨iv (bkE l),[],Ret.one rfl (RV.tmp rfl),Sub.nil,?_⟩
  exact ⟨by unfold vfE;rw [if_neg h1],rfl⟩
 replace h1:=nf h1
 replace h1:=dt h1
 refine Zk<|Zf<|Zf ?_
 have hE:bkE l=0:=by omega
 obtain ⟨r,rfl,rfl⟩:=hmap hE
 refine Zd<|JLm v ?_
 obtain ⟨a2,cap2,hv2⟩:=hv.sl
 have hle2:=hv.le
 refine JLn (Zcv R6 hv2)<|JLM rfl<|Za<|TT (i:=0) rfl ?_
 intro H hh hkH
 have hRb:=hkH r _ mem_cons_self
 have hGK:=GK.mono hh hGK
 have hv:=RKns.mono hh hv
 refine Zh<|Zv (fun k ρ M=>∃ (j:Nat),ZR ρ [(0,v),(2,iv 0),(3,.map (some r)),(18,v),(19,iv ((l.length:Int))),(20,iv ((j:Int)))]=ρ∧Sub [] M∧j≤l.length∧(∀ i,i<j→vfS l i=0)∧k=l.length-j) _ ⟨0,Zj rfl,Sub.nil,Nat.zero_le _,(fun i hi=>absurd hi (by omega)),rfl⟩ ?_
 rintro _ ρ3 _ ⟨j,e4,hm10,hj,hall,rfl⟩
 obtain ⟨ρ11,rfl⟩:=Zo e4
 clear e4
 refine ZD hm10<|Zc<|JLn (Pu.lss rfl rfl)<|Za<|Zf<|ZF rfl (fun h12=>?_) (fun h12=>?_)
 ·have h12n:j<l.length:=by omega
  refine Zk<|Zf<|Zh<|Zc<|JLM rfl ?_
  obtain ⟨b13,o13,cap13,row13,T13,fr13,cs13,hv13,hb13,hs13,hE13⟩:=hv.get j (by omega)
  obtain ⟨cb13,rfl,hB13⟩:=hE13
  refine JLn (Zcw j R6 Qo hv13 rfl rfl (by omega))<|JLr (Zn Qo rfl (Zcx hb13) hs13<|JLr (Zp (l:=[.int .u8 0,.int .u8 0,.int .u8 0,.int .u8 0,.int .u8 0,.int .u8 0,.int .u8 0,.int .u8 0,.int .u8 0,.int .u8 0,.int .u8 0,.int .u8 0,.int .u8 0,.int .u8 0,.int .u8 0,.int .u8 0,.int .u8 0,.int .u8 0,.int .u8 0,.int .u8 0,.int .u8 0,.int .u8 0,.int .u8 0,.int .u8 0,.int .u8 0,.int .u8 0,.int .u8 0,.int .u8 0,.int .u8 0,.int .u8 0,.int .u8 0,.int .u8 0,iv 0,iv 0,.int .u8 0,.int .u8 0,.int .u8 0,.int .u8 0,.int .u8 0,.int .u8 0,.int .u8 0,.int .u8 0,.int .u8 0,.int .u8 0,.int .u8 0,.int .u8 0,.int .u8 0,.int .u8 0,.int .u8 0,.int .u8 0,.int .u8 0,.int .u8 0,.int .u8 0,.int .u8 0,.int .u8 0,.int .u8 0,.int .u8 0,.int .u8 0,.int .u8 0,.int .u8 0,.int .u8 0,.int .u8 0,.int .u8 0,.int .u8 0,.int .u8 0,.int .u8 0,nS,nS]) zeroValue70 rfl fun b14=>JLA rfl<|JLr (Ze 0 (vs:=(sC ((l[j]).1))++cb13) (l:=(sC ((l[j]).1))++cb13) Qo rfl rfl rfl rfl (ZW rfl (ZB hB13)) (Y5 (VG _) (XA hB13)) (Yb (n:=68) rfl (ZW rfl (ZB hB13)))<|Za<|Zc<|JLm v<|JLM rfl<|JLM rfl<|Jc call83 rfl (fun hin=>KC l ((j:Int)) r _ _ (RKns.mono (Hle.hu _ _) hv) (Hle.hu _ _ _ _ hRb) hn hzl (by omega) (by omega)) rfl ?_)))
  rintro _ _ ⟨u15,k15,rfl,rfl,ho15⟩
  refine JLM rfl<|JLn (Pu.extract rfl rfl)<|JLn (Pu.extract rfl rfl)<|JLa u15<|JAn rfl<|Zf<|Zc<|JLM rfl<|JLn (Pu.neq rfl rfl)<|Za<|Zs rfl (fun h16=>?_) (fun h16=>?_)
  ·replace h16:=nt h16
   replace h16:=df h16
   refine Zc<|JLM rfl<|JAn rfl<|ZH<|⟨iv (grE l ((j:Int))),[],Ret.one rfl (RV.tmp rfl),(Sd Sub.nil),?_⟩
   have hvs:vfS l j=grE l ((j:Int)):=by unfold vfS;rw [if_neg h16]
   exact ⟨by unfold vfE;rw [if_pos hE,ST hall (by rw [hvs];exact h16) h12n,hvs],rfl⟩
  replace h16:=nf h16
  replace h16:=dt h16
  refine Zk<|Zf ?_
  have hg0:grE l (j:Int)=0:=by omega
  refine Zd<|JLm u15<|Jc call12 rfl (fun hin=>LQ (grL l ((j:Int))) _ _ (ho15.rd (hin 0 _ rfl)) (Zag hzl (by omega) (by omega)) 0 (GK.mono (Hle.hu _ _) hGK)) rfl ?_
  rintro _ _ ⟨u17,k17,rfl,rfl,ho17⟩
  refine JLM rfl<|JLn (Pu.extract rfl rfl)<|JLn (Pu.extract rfl rfl)<|JLa u17<|JAn rfl<|Zf<|Zc<|JLM rfl<|JLn (Pu.neq rfl rfl)<|Za<|Zs rfl (fun h18=>?_) (fun h18=>?_)
  ·replace h18:=nt h18
   replace h18:=df h18
   refine Zc<|JLM rfl<|JAn rfl<|ZH<|⟨iv (kCe (grL l ((j:Int))) 0),[],Ret.one rfl (RV.tmp rfl),(Sd Sub.nil),?_⟩
   have hvs:vfS l j=kCe (grL l ((j:Int))) 0:=by unfold vfS;rw [if_pos hg0,if_neg h18]
   exact ⟨by unfold vfE;rw [if_pos hE,ST hall (by rw [hvs];exact h18) h12n,hvs],rfl⟩
  replace h18:=nf h18
  replace h18:=dt h18
  refine Zk<|Zf ?_
  have hc0:kCe (grL l (j:Int)) 0=0:=by omega
  obtain ⟨hlB,hbB⟩:=F1 0 hc0
  refine ZI mixed #[0,1,0,4,15] 4 (sm 43 4) [] [(1,fun _ _ vw qw=>vw=.agg ⟨sC (sha (kCb (grL l ((j:Int))) 0))⟩∧qw=[])] rfl (by kernel_rfl) rfl (by kernel_rfl)<|Dm u17 ?_
  refine Dc rfl call84 (fun _=>rfl) (fun hin=>Jd _ _ _ (VI ho17 (by omega) (hin 0 _ rfl)) hbB (by omega) (GK.mono (Hle.hu _ _) hGK)) ?_
  rintro _ _ ⟨rfl,rfl⟩
  refine Dq (pp b14 0) (fun _=>Ks rfl rfl)<|Dl Yq (Zcu 2 rfl) (XE rfl)<|ZM (M':=[k17,k15,(BX b14 ((sC ((l[j]).1))++cb13) 70)]) rfl ?_
  show JL _ _ _ [_] _ _ _
  refine JLn (neqS rfl rfl)<|Za<|Zs rfl (fun h19=>?_) (fun h19=>?_)
  ·replace h19:=nt h19
   replace h19:=df h19
   refine Zc<|JAn rfl<|ZH<|⟨iv 14,[],Ret.one rfl (RV.tmp rfl),(Sd Sub.nil),?_⟩
   have hvs:vfS l j=14:=by unfold vfS;rw [if_pos hg0,if_pos hc0,if_neg (by rw [JD h12n];simpa using h19)]
   exact ⟨by unfold vfE;rw [if_pos hE,ST hall (by rw [hvs];decide) h12n,hvs],rfl⟩
  replace h19:=nf h19
  replace h19:=dt h19
  refine Zk<|Zd<|JLn (Zcy rfl rfl (by omega))<|JLM rfl<|Za<|⟨_,?_,(j+1),Zj rfl,Sub.nil,?_,?_,rfl⟩
  ·omega
  ·omega
  intro i hi;by_cases q:i<j;exact hall i q;(obtain rfl:i=j:=by omega);unfold vfS;rw [if_pos hg0,if_pos hc0,if_pos (by rw [JD h12n];simpa using h19)]
 have h12n:l.length≤j:=by omega
 refine Zu _ rfl<|Zc<|JAn rfl<|ZH<|⟨iv 0,[],Ret.one rfl (RV.tmp rfl),(Sd Sub.nil),?_⟩
 exact ⟨by unfold vfE;rw [if_pos hE,SU (fun i hi=>hall i (by omega))],rfl⟩
end
theorem Ii {t:List Value} (r:Sm) (ht:t.length=36):
    ∀ w,(Instr.build 70 ⟨[(0,.agg ⟨sC r⟩),(1,.agg ⟨t⟩)]⟩).run prog w=.ok (.agg ⟨sC r++t⟩) w:=by
  have hp:(sC r).length=32:=VP r
  refine Z6 zeroValue70 runUnderlying70 Zcd ?_
  refine Eq.trans (congrArg (fun c=>Instr.fill _ c _) (show _=(⟨[]++(sC zS++pkT 0 0 zS (.slice none 0 0) (.slice none 0 0))⟩:Array Value) by kernel_rfl)) ?_
  refine Vb (off:=0) (sz:=32) (l:=sC r) rfl rfl hp rfl rfl ?_
  refine Eq.trans (congrArg (fun c=>Instr.fill _ c _) (show _=(⟨sC r++(pkT 0 0 zS (.slice none 0 0) (.slice none 0 0)++[])⟩:Array Value) from by rw [nil_append,append_nil])) ?_
  refine Vb (off:=32) (sz:=36) (l:=t) rfl rfl ht hp rfl ?_
  rw [append_nil];rfl
theorem FT {T:TypeId} {v:Value} {k:Zi} {h:Heap} {a b:Sm} {c d:List Value} {t u:Tm} (o:Own T 68 v [sC a++c,sC b++d] k) (hk:Has k h) (h1:RT h c t) (h2:RT h d u):Hs.rdS RKn 68 h v [(a,t),(b,u)]:=by
  refine o.rdS rfl (by simp) hk fun i i1 i2=>?_
  match i,i1 with
  | 0,_=>exact ⟨c,rfl,h1⟩
  | 1,_=>exact ⟨d,rfl,h2⟩
section
attribute [local irreducible] JL J CT wlo DT
theorem B4 (q:Sm) (is:Int):sizeT (opM q is)≤400000:=by
 show (_:Nat)≤_
 exact Nat.le_of_ble_eq_true rfl
theorem DD (v:Value) (H:Heap) (hv:Hs.rdS RKn 68 H v kA) (hGK:GK H):CT prog 40 ⟨[v]⟩ [] H (fun v N=>v=iv 0∧N=[]):=by
 have hzl:∀ x∈kA,sizeT x.2≤400000:=by intro x hx;simp only [kA,mem_cons,not_mem_nil,or_false] at hx;rcases hx with rfl | rfl <;> exact B4 _ _
 have z:=Ob kA v H hv (show (2:Nat)≤1000 by decide) hzl hGK
 rw [ZaW] at z
 exact z
theorem H6 (v:Value) (H:Heap) (hv:Hs.rdS RKn 68 H v kB) (hGK:GK H):CT prog 40 ⟨[v]⟩ [] H (fun v N=>v=iv 14∧N=[]):=by
 have hzl:∀ x∈kB,sizeT x.2≤400000:=by intro x hx;simp only [kB,mem_cons,not_mem_nil,or_false] at hx;rcases hx with rfl | rfl <;> exact B4 _ _
 have z:=Ob kB v H hv (show (2:Nat)≤1000 by decide) hzl hGK
 rw [Av] at z
 exact z
set_option maxHeartbeats 4000000 in
theorem Ni (H:Heap) (hGK:GK H):CT prog 6 ⟨[]⟩ [] H (fun v N=>v=.bool true∧N=[]):=by
 refine Zl func6 rfl rfl<|Zc<|JAn rfl<|Zf<|Zs (b:=false) rfl (fun h=>absurd h (by simp)) (fun _=>Zk<|Zc<|Jc call29 rfl (fun hin=>Jj _) rfl ?_)
 rintro v1 _ ⟨k1,rfl,hO1⟩
 refine Jc call28 rfl (fun hin=>HH _ _ (hO1.rd (hin 0 _ rfl))) rfl ?_
 rintro _ _ ⟨u2,k2,rfl,rfl,ho2⟩
 refine JLM rfl<|JLn (Pu.extract rfl rfl)<|JLn (Pu.extract rfl rfl)<|JLa u2<|JAn rfl<|Zc<|Jc call29 rfl (fun hin=>Jj _) rfl ?_
 rintro v3 _ ⟨k3,rfl,hO3⟩
 refine Jc call13 rfl (fun hin=>Iy _ _ (hO3.rd (hin 0 _ rfl)) (GK.mono (Hle.hu _ _) hGK)) rfl ?_
 rintro _ _ ⟨u4,k4,rfl,rfl,ho4⟩
 refine JLM rfl<|JLn (Pu.extract rfl rfl)<|JLn (Pu.extract rfl rfl)<|JLa u4<|JAn rfl<|Zc<|Jc call32 rfl (fun hin=>Rt 0 (by unfold inI;omega) _) rfl ?_
 rintro _ _ ⟨cs5,k5,rfl,rfl,hO5⟩
 refine Jc call33 rfl (fun hin=>QU 0 (by unfold inI;omega) _) rfl ?_
 rintro _ _ ⟨cs6,k6,rfl,rfl,hO6⟩
 refine XI (ZcF (Sub.cons 1 rfl (Sk (Sk (Sk (Sk (Sk Sub.nil)))))))<|ZG 0 rfl call31 rfl rfl (fun hin=>Mg _ _ _ _ _ _ _ hO5 hO6) rfl ?_
 rintro _ _ ⟨cs7,k7,rfl,rfl,hO7⟩
 refine ZG 0 rfl call30 rfl rfl (fun hin=>NW _ _ _ _ hO7) rfl ?_
 rintro _ _ ⟨cs8,k8,rfl,rfl,hO8⟩
 refine JLr (Zm (vs:=[.agg ⟨cs8⟩]) [cs8] ZQ Wo rfl rfl (al1 hO8.len) rfl (by decide) fun b9 k9 ho9 hk9=>Jc call13 rfl (fun hin=>Gv _ _ ((OL.mk ho9 (QP hO8) (by decide)).rd (ZcX (hin 0 _ rfl) (hin 1 _ rfl))) (GK.mono (Hle.hu _ _) hGK)) rfl ?_)
 rintro _ _ ⟨u10,k10,rfl,rfl,ho10⟩
 refine JLM rfl<|JLn (Pu.extract rfl rfl)<|JLn (Pu.extract rfl rfl)<|JLa u10<|JAn rfl<|Zc<|Jc call35 rfl (fun hin=>RA _) rfl ?_
 rintro v11 _ ⟨k11,rfl,hO11⟩
 refine Jc call34 rfl (fun hin=>Fl _ _ (hO11.rd (hin 0 _ rfl))) rfl ?_
 rintro _ _ ⟨u12,k12,rfl,rfl,ho12⟩
 refine JLM rfl<|JLn (Pu.extract rfl rfl)<|JLn (Pu.extract rfl rfl)<|JLa u12<|JAn rfl<|Zc<|Jc call37 rfl (fun hin=>L7 1 (by unfold inI;omega) _) rfl ?_
 rintro _ _ ⟨cs13,k13,rfl,rfl,hO13⟩
 refine Jc call32 rfl (fun hin=>Rt 0 (by unfold inI;omega) _) rfl ?_
 rintro _ _ ⟨cs14,k14,rfl,rfl,hO14⟩
 refine Jc call32 rfl (fun hin=>Rt 0 (by unfold inI;omega) _) rfl ?_
 rintro _ _ ⟨cs15,k15,rfl,rfl,hO15⟩
 refine XI (ZcF (Sub.cons 1 rfl (Sk (Sk (Sk (Sk (Sk (Sk (Sk (Sk (Sk (Sk (Sk Sub.nil)))))))))))))<|ZG 0 rfl call38 rfl rfl (fun hin=>G5 1 (by unfold inI;omega) _ _ _ _ _ _ _ hO14 hO15) rfl ?_
 rintro _ _ ⟨cs16,k16,rfl,rfl,hO16⟩
 refine JLr (Zm (vs:=[.agg ⟨cs13⟩,.agg ⟨cs16⟩]) [cs13,cs16] ZQ Wo rfl rfl (alc hO13.len (al1 hO16.len)) rfl (by decide) fun b17 k17 ho17 hk17=>Jc call36 rfl (fun hin=>Fc _ _ ((OL.mk ho17 (QO hO13 hO16) (by decide)).rd (ZcX (hin 0 _ rfl) (ZcX (hin 2 _ rfl) (hin 1 _ rfl))))) rfl ?_)
 rintro _ _ ⟨u18,k18,rfl,rfl,ho18⟩
 refine JLM rfl<|JLn (Pu.extract rfl rfl)<|JLn (Pu.extract rfl rfl)<|JLa u18<|JAn rfl<|Zc<|Jc call35 rfl (fun hin=>RA _) rfl ?_
 rintro v19 _ ⟨k19,rfl,hO19⟩
 refine Jc call13 rfl (fun hin=>Gu _ _ (hO19.rd (hin 0 _ rfl)) (GK.mono (Hle.hu _ _) hGK)) rfl ?_
 rintro _ _ ⟨u20,k20,rfl,rfl,ho20⟩
 refine JLM rfl<|JLn (Pu.extract rfl rfl)<|JLn (Pu.extract rfl rfl)<|JLa u20<|JAn rfl<|Zc<|Jc call35 rfl (fun hin=>RA _) rfl ?_
 rintro v21 _ ⟨k21,rfl,hO21⟩
 refine Jc call14 rfl (fun hin=>Fq _ _ (hO21.rd (hin 0 _ rfl)) (GK.mono (Hle.hu _ _) hGK)) rfl ?_
 rintro _ _ ⟨u22,k22,rfl,rfl,ho22⟩
 refine JLM rfl<|JLn (Pu.extract rfl rfl)<|JLn (Pu.extract rfl rfl)<|JLa u22<|JAn rfl<|TT (i:=15) rfl ?_
 intro H hh hkH
 have hGK:=GK.mono hh hGK
 have hA2:=(Yn ho2 (by decide) hkH)
 refine TT (i:=13) rfl ?_
 intro H hh hkH
 have hGK:=GK.mono hh hGK
 have hA2:=RIs.mono hh hA2
 have hA4:=(Wi ho4 (by simp) hkH)
 refine TT (i:=10) rfl ?_
 intro H hh hkH
 have hGK:=GK.mono hh hGK
 have hA2:=RIs.mono hh hA2
 have hA4:=RSms.mono hh hA4
 have hA10:=(Wi ho10 (by simp) hkH)
 refine TT (i:=8) rfl ?_
 intro H hh hkH
 have hGK:=GK.mono hh hGK
 have hA2:=RIs.mono hh hA2
 have hA4:=RSms.mono hh hA4
 have hA10:=RSms.mono hh hA10
 have hA12:=(Yn ho12 (by decide) hkH)
 refine TT (i:=4) rfl ?_
 intro H hh hkH
 have hGK:=GK.mono hh hGK
 have hA2:=RIs.mono hh hA2
 have hA4:=RSms.mono hh hA4
 have hA10:=RSms.mono hh hA10
 have hA12:=RIs.mono hh hA12
 have hA18:=(ho18.rd hkH)
 refine TT (i:=2) rfl ?_
 intro H hh hkH
 have hGK:=GK.mono hh hGK
 have hA2:=RIs.mono hh hA2
 have hA4:=RSms.mono hh hA4
 have hA10:=RSms.mono hh hA10
 have hA12:=RIs.mono hh hA12
 have hA18:=RIIs.mono hh hA18
 have hA20:=(Wi ho20 (by simp) hkH)
 refine TT (i:=0) rfl ?_
 intro H hh hkH
 have hGK:=GK.mono hh hGK
 have hA2:=RIs.mono hh hA2
 have hA4:=RSms.mono hh hA4
 have hA10:=RSms.mono hh hA10
 have hA12:=RIs.mono hh hA12
 have hA18:=RIIs.mono hh hA18
 have hA20:=RSms.mono hh hA20
 have hA22:=(ho22.rd hkH)
 refine Zf<|Zc<|JLM rfl<|JLq (.bool false) (ZcJ (Pu.neq rfl rfl) (by decide))<|JLM rfl<|JLM rfl<|JLq (.bool false) (ZcJ (Pu.neq rfl rfl) (by decide))<|JLq (.bool false) (ZcH rfl rfl)<|JLM rfl<|JLM rfl<|JLq (.bool false) (ZcJ (Pu.neq rfl rfl) (by decide))<|JLq (.bool false) (ZcH rfl rfl) ?_
 refine JLM rfl<|JLM rfl<|JLq (.bool false) (ZcJ (Pu.neq rfl rfl) (by decide))<|JLq (.bool false) (ZcH rfl rfl)<|JLM rfl<|JLM rfl<|JLq (.bool false) (ZcJ (Pu.neq rfl rfl) (by decide))<|JLq (.bool false) (ZcH rfl rfl)<|JLM rfl<|JLM rfl<|JLq (.bool false) (ZcJ (Pu.neq rfl rfl) (by decide))<|JLq (.bool false) (ZcH rfl rfl)<|JLM rfl ?_
 refine JLM rfl<|JLq (.bool false) (ZcJ (Pu.neq rfl rfl) (by decide))<|JLq (.bool false) (ZcH rfl rfl)<|JLM rfl<|JLm u4 ?_
 obtain ⟨a23,cap23,hv23⟩:=hA4.sl
 have hle23:=hA4.le
 refine JLn (Zcv Wt hv23)<|JLq (.bool false) (ZcJ (Pu.neq rfl rfl) (by decide))<|JLq (.bool false) (ZcH rfl rfl)<|JLM rfl<|JLm u10 ?_
 obtain ⟨a24,cap24,hv24⟩:=hA10.sl
 have hle24:=hA10.le
 refine JLn (Zcv Wt hv24)<|JLq (.bool false) (ZcJ (Pu.neq rfl rfl) (by decide))<|JLq (.bool false) (ZcH rfl rfl)<|JLM rfl<|JLm u20 ?_
 obtain ⟨a25,cap25,hv25⟩:=hA20.sl
 have hle25:=hA20.le
 refine JLn (Zcv Wt hv25)<|JLq (.bool false) (ZcJ (Pu.neq rfl rfl) (by decide))<|JLq (.bool false) (ZcH rfl rfl)<|JLM rfl<|JLm u22 ?_
 obtain ⟨a26,cap26,hv26⟩:=hA22.sl
 have hle26:=hA22.le
 refine JLn (Zcv ZQ hv26)<|JLq (.bool false) (ZcJ (Pu.neq rfl rfl) (by decide))<|JLq (.bool false) (ZcH rfl rfl)<|JLM rfl<|JLm u18 ?_
 obtain ⟨a27,cap27,hv27⟩:=hA18.sl
 have hle27:=hA18.le
 refine JLn (Zcv R7 hv27)<|JLq (.bool false) (ZcJ (Pu.neq rfl rfl) (by decide))<|JLq (.bool false) (ZcH rfl rfl)<|Za<|Zs (b:=false) rfl (fun h=>absurd h (by simp)) (fun _=>Zk<|Zf<|ZI mixed #[0,0,3,7,15,31,63,15,143,399,1023,2047,4095,8191,16383,32767,8191,73727,204799,524287,1048575,2097151,4194303,4194303,16777215,33554431,67108863,134217727,268435455,536870911,134217727,2147483647,4294967295,8589934591,17179869183,34359738367,68719476735,17179869183,274877906943,549755813887,1099511627775,2199023255551,4398046511103,8796093022207,2199023255551,19791209299967,54975581388799,140737488355327,281474976710655,562949953421311,1125899906842623,2251799813685247,4503599627370495,1125899906842623,10133099161583615,28147497671065599,72057594037927935,1125899906842623,145241087982698495,433471464134410239,1125899906842623,1154047404513689599,3459890413727383551,9080382748685762559,18446744073709551615,36893488147419103231,73786976294838206463,147573952589676412927,295147905179352825855,590295810358705651711,1180591620717411303423,2361183241434822606847,590295810358705651711,5312662293228350865407,14757395258967641292799,37778931862957161709567,590295810358705651711,76148159536273029070847,227263886988101675909119,590295810358705651711,605053205617673293004799,1813979025232302467710975,4760735710542961081057279,9671406556917033397649407,19342813113834066795298815,38685626227668133590597631,77371252455336267181195263,154742504910672534362390527] 83 (sm 109 83) [] [(1,fun _ _ vw qw=>∃ b k,vw=.slice (some ⟨b,0,none⟩) 2 2∧qw=[k]∧Own 3 1 (.slice (some ⟨b,0,none⟩) 2 2) [[iv 0],[iv 0]] k∧k=(BX b (flatten [[iv 0],[iv 0]]) 3)),(2,fun _ _ vw qw=>vw=.bool true∧qw=[]),(23,fun _ _ vw qw=>∃ b k,vw=.slice (some ⟨b,0,none⟩) 2 2∧qw=[k]∧Own 3 1 (.slice (some ⟨b,0,none⟩) 2 2) [[iv 1],[iv 0]] k∧k=(BX b (flatten [[iv 1],[iv 0]]) 3)),(24,fun _ _ vw qw=>vw=.bool true∧qw=[]),(30,fun _ _ vw qw=>∃ b k,vw=.slice (some ⟨b,0,none⟩) 1 1∧qw=[k]∧Own 3 1 (.slice (some ⟨b,0,none⟩) 1 1) [[iv 0]] k∧k=(BX b (flatten [[iv 0]]) 3)),(31,fun _ _ vw qw=>vw=.bool true∧qw=[]),(37,fun _ _ vw qw=>∃ b k,vw=.slice (some ⟨b,0,none⟩) 1 1∧qw=[k]∧Own 3 1 (.slice (some ⟨b,0,none⟩) 1 1) [[iv 1]] k∧k=(BX b (flatten [[iv 1]]) 3)),(38,fun _ _ vw qw=>vw=.bool true∧qw=[]),(64,fun r _ vw qw=>∃ b k,vw=.slice (some ⟨b,0,none⟩) 2 2∧qw=[k]∧Own 70 68 (.slice (some ⟨b,0,none⟩) 2 2) [(sC q0P)++((cel (r 55))),(sC q1P)++((cel (r 62)))] k∧k=(BX b (flatten [(sC q0P)++((cel (r 55))),(sC q1P)++((cel (r 62)))]) 70)),(65,fun _ _ vw qw=>vw=iv 0∧qw=[])] rfl (by kernel_rfl) rfl (by kernel_rfl)<|Dm u2 ?_)
 refine Dr rfl (fun _=>Zm (vs:=[iv 0,iv 0]) [[iv 0],[iv 0]] ZV el3 rfl rfl (alc rfl (al1 rfl)) rfl (by decide) fun b k h1 h2=>⟨[k],by rw [Z4 rfl];exact Sub.refl,b,k,rfl,rfl,h1,h2⟩) (fun _ _ ⟨b49,k49,e1,e2,ho49,hk49⟩=>?_);subst e1 e2
 refine Dc rfl call39 (fun _=>rfl) (fun hin=>VX (r:=true) (Ui _ _ _ _ _ (RIs.mono (Hle.hu _ _) hA2) (Yn (l:=([0,0]:List Int)) ho49 (by decide) (hin 0 _ rfl))) (WT rfl)) ?_
 rintro _ _ ⟨rfl,rfl⟩
 refine DM (fun _=>rfl)<|Dm u4 ?_
 obtain ⟨b50,o50,cap50,row50,T50,fr50,hv50,hb50,hs50⟩:=RSms.at hA4 0 (by first | assumption | omega | decide | simp)
 refine Dn (fun _=>Zcw 0 Wt Yq hv50 rfl rfl (by first | assumption | omega | decide | simp))<|Dl Yq (Zcx hb50) hs50<|Dm u10 ?_
 obtain ⟨b51,o51,cap51,row51,T51,fr51,hv51,hb51,hs51⟩:=RSms.at hA10 0 (by first | assumption | omega | decide | simp)
 refine Dn (fun _=>Zcw 0 Wt Yq hv51 rfl rfl (by first | assumption | omega | decide | simp))<|Dl Yq (Zcx hb51) hs51<|Dq (.bool true) (fun _=>ZcJ (eqS rfl rfl) (decide_eq_true rfl))<|Dq (.bool true) (fun _=>ZcI rfl rfl)<|DM (fun _=>rfl)<|Dm u4 ?_
 obtain ⟨b52,o52,cap52,row52,T52,fr52,hv52,hb52,hs52⟩:=RSms.at hA4 1 (by first | assumption | omega | decide | simp)
 refine Dn (fun _=>Zcw 1 Wt Yq hv52 rfl rfl (by first | assumption | omega | decide | simp))<|Dl Yq (Zcx hb52) hs52<|Dm u10 ?_
 obtain ⟨b53,o53,cap53,row53,T53,fr53,hv53,hb53,hs53⟩:=RSms.at hA10 0 (by first | assumption | omega | decide | simp)
 refine Dn (fun _=>Zcw 0 Wt Yq hv53 rfl rfl (by first | assumption | omega | decide | simp))<|Dl Yq (Zcx hb53) hs53<|Dq (.bool true) (fun _=>ZcJ (eqS rfl rfl) (decide_eq_true rfl))<|Dq (.bool true) (fun _=>ZcI rfl rfl)<|DM (fun _=>rfl)<|Dm u12<|Dr rfl (fun _=>Zm (vs:=[iv 1,iv 0]) [[iv 1],[iv 0]] ZV el3 rfl rfl (alc rfl (al1 rfl)) rfl (by decide) fun b k h1 h2=>⟨[k],by rw [Z4 rfl];exact Sub.refl,b,k,rfl,rfl,h1,h2⟩) (fun _ _ ⟨b54,k54,e1,e2,ho54,hk54⟩=>?_);subst e1 e2
 refine Dc rfl call39 (fun _=>rfl) (fun hin=>VX (r:=true) (Ui _ _ _ _ _ (RIs.mono (Hle.hu _ _) hA12) (Yn (l:=([1,0]:List Int)) ho54 (by decide) (hin 0 _ rfl))) (WT rfl)) ?_
 rintro _ _ ⟨rfl,rfl⟩
 refine Dq (.bool true) (fun _=>ZcI rfl rfl)<|DM (fun _=>rfl)<|Dm u18 ?_
 obtain ⟨b55,o55,cap55,row55,T55,fr55,cs55,hv55,hb55,hs55,hE55⟩:=hA18.get 0 (by first | assumption | omega | decide | simp)
 obtain ⟨vb55,rfl,hvb55⟩:=hE55
 refine Dn (fun _=>Zcw 0 R7 Xm hv55 rfl rfl (by first | assumption | omega | decide | simp))<|Dl1 Xm (Zcx hb55) (ZT hs55)<|Dr rfl (fun _=>Zm (vs:=[iv 0]) [[iv 0]] ZV el3 rfl rfl (al1 rfl) rfl (by decide) fun b k h1 h2=>⟨[k],by rw [Z4 rfl];exact Sub.refl,b,k,rfl,rfl,h1,h2⟩) (fun _ _ ⟨b56,k56,e1,e2,ho56,hk56⟩=>?_);subst e1 e2
 refine Dc rfl call39 (fun _=>rfl) (fun hin=>VX (r:=true) (Ui _ _ _ _ _ (RIs.mono (Hle.hu _ _) hvb55) (Yn (l:=([0]:List Int)) ho56 (by decide) (hin 0 _ rfl))) (WT rfl)) ?_
 rintro _ _ ⟨rfl,rfl⟩
 refine Dq (.bool true) (fun _=>ZcI rfl rfl)<|DM (fun _=>rfl)<|Dm u18 ?_
 obtain ⟨b57,o57,cap57,row57,T57,fr57,cs57,hv57,hb57,hs57,hE57⟩:=hA18.get 1 (by first | assumption | omega | decide | simp)
 obtain ⟨vb57,rfl,hvb57⟩:=hE57
 refine Dn (fun _=>Zcw 1 R7 Xm hv57 rfl rfl (by first | assumption | omega | decide | simp))<|Dl1 Xm (Zcx hb57) (ZT hs57)<|Dr rfl (fun _=>Zm (vs:=[iv 1]) [[iv 1]] ZV el3 rfl rfl (al1 rfl) rfl (by decide) fun b k h1 h2=>⟨[k],by rw [Z4 rfl];exact Sub.refl,b,k,rfl,rfl,h1,h2⟩) (fun _ _ ⟨b58,k58,e1,e2,ho58,hk58⟩=>?_);subst e1 e2
 refine Dc rfl call39 (fun _=>rfl) (fun hin=>VX (r:=true) (Ui _ _ _ _ _ (RIs.mono (Hle.hu _ _) hvb57) (Yn (l:=([1]:List Int)) ho58 (by decide) (hin 0 _ rfl))) (WT rfl)) ?_
 rintro _ _ ⟨rfl,rfl⟩
 refine Dq (.bool true) (fun _=>ZcI rfl rfl)<|DM (fun _=>rfl)<|Dm u20 ?_
 obtain ⟨b59,o59,cap59,row59,T59,fr59,hv59,hb59,hs59⟩:=RSms.at hA20 0 (by first | assumption | omega | decide | simp)
 refine Dn (fun _=>Zcw 0 Wt Yq hv59 rfl rfl (by first | assumption | omega | decide | simp))<|Dl Yq (Zcx hb59) hs59<|Dm u20 ?_
 obtain ⟨b60,o60,cap60,row60,T60,fr60,hv60,hb60,hs60⟩:=RSms.at hA20 1 (by first | assumption | omega | decide | simp)
 refine Dn (fun _=>Zcw 1 Wt Yq hv60 rfl rfl (by first | assumption | omega | decide | simp))<|Dl Yq (Zcx hb60) hs60<|Dq (.bool true) (fun _=>ZcJ (neqS rfl rfl) (show (!decide (q0P=q1P))=true by rw [decide_eq_false q01];rfl))<|Dq (.bool true) (fun _=>ZcI rfl rfl)<|DM (fun _=>rfl)<|Dm u20 ?_
 obtain ⟨b61,o61,cap61,row61,T61,fr61,hv61,hb61,hs61⟩:=RSms.at hA20 0 (by first | assumption | omega | decide | simp)
 refine Dn (fun _=>Zcw 0 Wt Yq hv61 rfl rfl (by first | assumption | omega | decide | simp))<|Dl Yq (Zcx hb61) hs61<|Dm u22 ?_
 obtain ⟨b62,o62,cap62,row62,T62,fr62,cs62,hv62,hb62,hs62,hE62⟩:=hA22.get 0 (by first | assumption | omega | decide | simp)
 refine Dn (fun _=>Zcw 0 ZQ Zy hv62 rfl rfl (by first | assumption | omega | decide | simp))<|Dl Zy (Zcx hb62) hs62<|Dq (.agg ⟨(sC q0P)++cs62⟩) (fun _=>Pu.build (pv:=[(0,.agg ⟨sC q0P⟩),(1,.agg ⟨cs62⟩)]) (l:=(sC q0P)++cs62) rfl (Ii _ (ZB hE62)))<|Dm u20 ?_
 obtain ⟨b63,o63,cap63,row63,T63,fr63,hv63,hb63,hs63⟩:=RSms.at hA20 1 (by first | assumption | omega | decide | simp)
 refine Dn (fun _=>Zcw 1 Wt Yq hv63 rfl rfl (by first | assumption | omega | decide | simp))<|Dl Yq (Zcx hb63) hs63<|Dm u22 ?_
 obtain ⟨b64,o64,cap64,row64,T64,fr64,cs64,hv64,hb64,hs64,hE64⟩:=hA22.get 1 (by first | assumption | omega | decide | simp)
 refine Dn (fun _=>Zcw 1 ZQ Zy hv64 rfl rfl (by first | assumption | omega | decide | simp))<|Dl Zy (Zcx hb64) hs64<|Dq (.agg ⟨(sC q1P)++cs64⟩) (fun _=>Pu.build (pv:=[(0,.agg ⟨sC q1P⟩),(1,.agg ⟨cs64⟩)]) (l:=(sC q1P)++cs64) rfl (Ii _ (ZB hE64)))<|Dr rfl (fun _=>Zm (vs:=[.agg ⟨(sC q0P)++cs62⟩,.agg ⟨(sC q1P)++cs64⟩]) [(sC q0P)++cs62,(sC q1P)++cs64] R6 ZbQ rfl rfl (alc (ZW rfl (ZB hE62)) (al1 (ZW rfl (ZB hE64)))) rfl (by decide) fun b k h1 h2=>⟨[k],by rw [Z4 rfl];exact Sub.refl,b,k,rfl,rfl,h1,h2⟩) (fun _ _ ⟨b65,k65,e1,e2,ho65,hk65⟩=>?_);subst e1 e2
 refine Dc rfl call40 (fun _=>rfl) (fun hin=>DD _ _ (FT ho65 (hin 0 _ rfl) (RT.mono (Hle.hu _ _) hE62) (RT.mono (Hle.hu _ _) hE64)) (GK.mono (Hle.hu _ _) hGK)) ?_
 rintro _ _ ⟨rfl,rfl⟩
 refine Dq (.bool true) (fun _=>ZcJ (Pu.eql rfl rfl) (by decide))<|Dq (.bool true) (fun _=>ZcI rfl rfl)<|DM (fun _=>rfl)<|Dm u20 ?_
 obtain ⟨b66,o66,cap66,row66,T66,fr66,hv66,hb66,hs66⟩:=RSms.at hA20 1 (by first | assumption | omega | decide | simp)
 refine Dn (fun _=>Zcw 1 Wt Yq hv66 rfl rfl (by first | assumption | omega | decide | simp))<|Dl Yq (Zcx hb66) hs66<|Dm u22 ?_
 obtain ⟨b67,o67,cap67,row67,T67,fr67,cs67,hv67,hb67,hs67,hE67⟩:=hA22.get 0 (by first | assumption | omega | decide | simp)
 refine Dn (fun _=>Zcw 0 ZQ Zy hv67 rfl rfl (by first | assumption | omega | decide | simp))<|Dl Zy (Zcx hb67) hs67<|Dq (.agg ⟨(sC q1P)++cs67⟩) (fun _=>Pu.build (pv:=[(0,.agg ⟨sC q1P⟩),(1,.agg ⟨cs67⟩)]) (l:=(sC q1P)++cs67) rfl (Ii _ (ZB hE67)))<|Dm u20 ?_
 obtain ⟨b68,o68,cap68,row68,T68,fr68,hv68,hb68,hs68⟩:=RSms.at hA20 0 (by first | assumption | omega | decide | simp)
 refine Dn (fun _=>Zcw 0 Wt Yq hv68 rfl rfl (by first | assumption | omega | decide | simp))<|Dl Yq (Zcx hb68) hs68<|Dm u22 ?_
 obtain ⟨b69,o69,cap69,row69,T69,fr69,cs69,hv69,hb69,hs69,hE69⟩:=hA22.get 1 (by first | assumption | omega | decide | simp)
 refine Dn (fun _=>Zcw 1 ZQ Zy hv69 rfl rfl (by first | assumption | omega | decide | simp))<|Dl Zy (Zcx hb69) hs69<|Dq (.agg ⟨(sC q0P)++cs69⟩) (fun _=>Pu.build (pv:=[(0,.agg ⟨sC q0P⟩),(1,.agg ⟨cs69⟩)]) (l:=(sC q0P)++cs69) rfl (Ii _ (ZB hE69)))<|ZM (M':=[k65,k58,k56,k54,k49,k21,k19,k17,k16,k13,k11,k9,k8,k3,k1]) rfl ?_
 show JL _ _ _ [_,_,_,_,_] _ _ _
 refine JLr (Zm (vs:=[.agg ⟨(sC q1P)++cs67⟩,.agg ⟨(sC q0P)++cs69⟩]) [(sC q1P)++cs67,(sC q0P)++cs69] R6 ZbQ rfl rfl (alc (ZW rfl (ZB hE67)) (al1 (ZW rfl (ZB hE69)))) rfl (by decide) fun b70 k70 ho70 hk70=>Jc call40 rfl (fun hin=>H6 _ _ (FT ho70 (hin 0 _ rfl) (RT.mono (Hle.hu _ _) hE67) (RT.mono (Hle.hu _ _) hE69)) (GK.mono (Hle.hu _ _) hGK)) rfl ?_)
 rintro _ _ ⟨rfl,rfl⟩
 refine JLq (.bool true) (ZcJ (Pu.eql rfl rfl) (by decide))<|JLq (.bool true) (ZcI rfl rfl)<|JAn rfl<|ZH<|⟨.bool true,[],Ret.one rfl (RV.tmp rfl),(Sd (Sd (Sd (Sd (Sd (Sd (Sd Sub.nil))))))),?_⟩
 exact ⟨rfl,rfl⟩
theorem PG (l m:List Sm) (v u:Value) (H:Heap) (hl:Hs.rdS RSm 32 H v l) (hm:Hs.rdS RSm 32 H u m):CT prog 15 ⟨[v,u]⟩ [] H (fun v N=>v=.bool (eqL l m)∧N=[]):=by
 refine Zl func15 rfl rfl<|Zc<|JAn rfl<|Zf<|Zc<|JLm v ?_
 obtain ⟨a1,cap1,hv1⟩:=hl.sl
 have hle1:=hl.le
 refine JLn (Zcv Wt hv1)<|JLm u ?_
 obtain ⟨a2,cap2,hv2⟩:=hm.sl
 have hle2:=hm.le
 refine JLn (Zcv Wt hv2)<|JLn (Pu.neq rfl rfl)<|Za<|Zs rfl (fun h3=>?_) (fun h3=>?_)
 ·replace h3:=nt h3
  replace h3:=df h3
  refine Zc<|JAn rfl<|ZC (.bool false) [] Sub.nil (?_)
  exact ⟨by rw [TF (fun e=>by subst e;exact absurd rfl h3)],rfl⟩
 replace h3:=nf h3
 replace h3:=dt h3
 refine Zk<|Zf<|Zc<|JLm v ?_
 obtain ⟨a4,cap4,hv4⟩:=hl.sl
 have hle4:=hl.le
 refine JLn (Zcv Wt hv4)<|JLM rfl<|Za<|Zh<|Zv (fun k ρ M=>∃ (j:Nat),ZR ρ [(0,v),(1,u),(4,.bool false),(12,iv ((l.length:Int))),(13,iv ((j:Int)))]=ρ∧Sub [] M∧j≤l.length∧l.take j=m.take j∧k=l.length-j) _ ⟨0,Zj rfl,Sub.nil,Nat.zero_le _,rfl,rfl⟩ ?_
 rintro _ ρ5 _ ⟨j,e6,hm11,hj,hinv,rfl⟩
 obtain ⟨ρ12,rfl⟩:=Zo e6
 clear e6
 refine ZD hm11<|Zc<|JLn (Pu.lss rfl rfl)<|Za<|Zf<|ZF rfl (fun h13=>?_) (fun h13=>?_)
 ·have h13n:j<l.length:=by omega
  have hlenl:=hl.le
  have hjm:j<m.length:=by omega
  refine Zk<|Zf<|Zh<|Zc<|JLM rfl<|JAn rfl<|Zf<|ZI mixed #[0,0,3,7,0,0,48,112,255] 8 (sm 16 8) [] [] rfl (by kernel_rfl) rfl (by kernel_rfl)<|Dm v<|DM (fun _=>rfl) ?_
  obtain ⟨b16,o16,cap16,row16,T16,fr16,hv16,hb16,hs16⟩:=RSms.at hl j (by omega)
  refine Dn (fun _=>Zcw j Wt Yq hv16 rfl rfl (by omega))<|Dl Yq (Zcx hb16) hs16<|Dm u<|DM (fun _=>rfl) ?_
  obtain ⟨b17,o17,cap17,row17,T17,fr17,hv17,hb17,hs17⟩:=RSms.at hm j (by omega)
  refine Dn (fun _=>Zcw j Wt Yq hv17 rfl rfl (by omega))<|Dl Yq (Zcx hb17) hs17<|ZM (M':=[]) rfl ?_
  show JL _ _ _ [_] _ _ _
  refine JLn (neqS rfl rfl)<|Za<|Zs rfl (fun h18=>?_) (fun h18=>?_)
  ·replace h18:=nt h18
   replace h18:=df h18
   refine Zc<|JAn rfl<|ZC (.bool false) [] Sub.nil (?_)
   exact ⟨by rw [TF (fun e=>by subst e;exact h18 rfl)],rfl⟩
  replace h18:=nf h18
  replace h18:=dt h18
  refine Zk<|Zd<|JLn (Zcy rfl rfl (by omega))<|JLM rfl<|Za<|⟨_,?_,(j+1),Zj rfl,Sub.nil,?_,?_,rfl⟩
  ·omega
  ·omega
  rw [take_succ_eq_append_getElem h13n,take_succ_eq_append_getElem hjm,hinv];have q:=h18;rw [Xf h13n,Xf hjm] at q;rw [q]
 have h13n:l.length≤j:=by omega
 refine Zu _ rfl<|Zc<|JAn rfl<|ZC (.bool true) [] Sub.nil (?_)
 exact ⟨by rw [WT (by rw [← take_of_length_le h13n,hinv,take_of_length_le (by omega)])],rfl⟩
theorem Hm {{l:List Tm}} (h:Z7 (Zx 0) l=0) {{i:Int}} (h1:0≤i) (h2:i<l.length) (v:Value) (H:Heap) (hv:Hs.rdS RT 36 H v l):CT prog 9 ⟨[v,iv i]⟩ [] H (fun r N=>∃ u k,r=.tuple ⟨[u,iv (kCe l i)]⟩∧N=[k]∧Own 5 1 u (Yk (kCb l i)) k):=by
 obtain ⟨n,rfl⟩:∃ n:Nat,i=(n:Int):=⟨i.toNat,by omega⟩
 have hn:n<l.length:=by omega
 have e:=PB h (i:=(n:Int)) (by omega)
 rw [e.1,e.2]
 exact Nb (W2 h) hn v H hv
theorem Rn {{l:List Tm}} (h:Z7 (Zx 0) l=0) (v:Value) (H:Heap) (hv:Hs.rdS RT 36 H v l):CT prog 10 ⟨[v]⟩ [] H (fun r N=>∃ u k,r=.tuple ⟨[u,iv (kSe l)]⟩∧N=[k]∧Own 38 32 u (sms (kSs l)) k):=by
 rw [(SO h).1,(SO h).2]
 exact Mv l (W2 h) v H hv
theorem RF {{l:List Tm}} (h:Z7 (Zx 0) l=0) (v:Value) (H:Heap) (hv:Hs.rdS RT 36 H v l):CT prog 11 ⟨[v]⟩ [] H (fun r N=>∃ u k,r=.tuple ⟨[u,iv (kSe l)]⟩∧N=[k]∧OL (kOl l) u k):=by
 have e:kOl l=opO l:=by unfold kOl opO;rw [(SO h).1];unfold erR;by_cases q:erG l=true <;> simp [q]
 rw [(SO h).1,e]
 exact Fo l (W2 h) v H hv
end
theorem QG (l:List Tm):(kSs l).length≤l.length:=by
  unfold kSs;split
  · unfold smO;split
    · simp
    · rw [VD];exact Nat.le_refl _
  · simp
theorem JE (l:List Tm) (i:Int):(kCb l i).length≤250000:=by
  by_cases h:kCe l i=0
  · exact (F1 i h).1
  · have e:kCb l i=[]:=by
      by_cases hc:Z7 (Zx 0) l=0
      · by_cases hi:i<0∨(l.length:Int)≤i
        · exact (Wa hc hi).2
        · rw [(PB hc hi).1] at h
          rw [(PB hc hi).2]
          unfold cR coR at h
          unfold cO coO
          split at h
          · rename_i q;exact if_pos q
          · exact absurd rfl h
      · exact (Wb hc).2
    rw [e];simp
theorem BL (l:List Tm) (h:(YM (fun x (u:Unit)=>((cnT stG 0 x 0).1,u)) l ()).1=false):∀ t∈l,(cnT stG 0 t 0).1=false:=by
  induction l with
  | nil=>intro t ht;cases ht
  | cons p ps ih=>
    cases hp:(cnT stG 0 p 0).1 with
    | true=>simp [YM,hp] at h
    | false=>
      have h':(YM (fun x (u:Unit)=>((cnT stG 0 x 0).1,u)) ps ()).1=false:=by simpa [YM,hp] using h
      intro t ht
      rcases mem_cons.1 ht with rfl | ht
      · exact hp
      · exact ih h' t ht
theorem ZbJ {l:List Tm} (h:(decide (10<l.length)||(YM (fun x (u:Unit)=>((cnT stG 0 x 0).1,u)) l ()).1)=false):l.length≤1000000∧∀ t∈l,sizeT t≤400000:=by
  rw [Bool.or_eq_false_iff] at h
  have h1:=of_decide_eq_false h.1
  exact ⟨by omega,fun t ht=>by have:=Kl (BL l h.2 t ht);omega⟩
section
attribute [local irreducible] JL J CT wlo DT
set_option maxHeartbeats 4000000 in
theorem codes_law (l:List Tm) (i:Int) (v:Value) (H:Heap) (hv:Hs.rdS RT 36 H v l) (hGK:GK H):CT prog 3 ⟨[v,iv i]⟩ [] H (fun v N=>v=.bool true∧N=[]):=by
 have hlen:=hv.le
 refine Zl func3 rfl rfl<|Zc<|JAn rfl<|Zf<|Zc<|JLm v<|Jc call5 rfl (fun hin=>Hg _ _ _ (RTs.mono (Hle.hu _ _) hv)) rfl ?_
 rintro _ _ ⟨rfl,rfl⟩
 refine Za<|Zs rfl (fun h1=>?_) (fun h1=>?_)
 ·refine Zc<|Jc call6 rfl (fun hin=>Ni _ (GK.mono (Hle.hu _ _) hGK)) rfl ?_
  rintro _ _ ⟨rfl,rfl⟩
  refine JAn rfl<|ZC (.bool true) [] Sub.nil (?_)
  exact ⟨rfl,rfl⟩
 refine Zk<|Zf ?_
 obtain ⟨hn,hz⟩:=ZbJ h1
 refine Zd<|JLm v<|Jc call7 rfl (fun hin=>ML _ _ _ (RTs.mono (Hle.hu _ _) hv) hn hz) rfl ?_
 rintro v2 _ ⟨k2,rfl,hO2⟩
 refine JLa v2<|Za<|Zc<|JLm v<|Jc call8 rfl (fun hin=>EQ _ _ _ (RTs.mono (Hle.hu _ _) hv) hz) rfl ?_
 rintro _ _ ⟨rfl,rfl⟩
 refine JAn rfl<|Zc<|JLM rfl<|JAn rfl<|Zc<|JAn rfl<|Zf<|Zd ?_
 refine JAn rfl<|Zc<|JAn rfl<|Zf<|Zc<|JLM rfl<|JLn (Pu.eql rfl rfl)<|Za<|UR (N:=fun ρ M=>∃ (e6 e7:Int) (v8:Value) (k8:Zi) (v9:Value) (k9:Zi) (v10:Value) (k10:Zi),(e6=kSe l)∧(e7=kCe l i)∧(Own 5 1 v8 (Yk (kCb l i)) k8)∧(Own 38 32 v9 (sms (kSs l)) k9)∧(OL (kOl l) v10 k10)∧ρ 0=v∧ρ 1=iv i∧ρ 4=.bool false∧ρ 5=v2∧ρ 6=iv e6∧ρ 7=iv e7∧ρ 8=v8∧ρ 9=v9∧ρ 10=v10∧Sub [k8,k9,k10,k2] M) ?_ ?_
 ·refine ZF rfl (fun h3=>?_) (fun h3=>?_)
  ·refine Zf<|Zc<|JAn rfl<|Zc<|JLM rfl<|JLn (Pu.geq rfl rfl)<|JLM rfl ?_
   cases h4:(decide (0≤i)) with
   | true=>
    replace h4:=dt h4
    refine JLM rfl<|JLm v ?_
    obtain ⟨a5,cap5,hv5⟩:=hv.sl
    have hle5:=hv.le
    refine JLn (Zcv ZQ hv5)<|JLn (Pu.lss rfl rfl)<|JLq (.bool (decide (i<(l.length:Int)))) (ZcI rfl rfl)<|Za<|ZF rfl (fun h6=>?_) (fun h6=>?_)
    ·refine Zd<|JLm v<|JLM rfl<|Jc call9 rfl (fun hin=>Hm ‹Z7 (Zx 0) l=0› (by omega) (by omega) _ _ (RTs.mono (Hle.hu _ _) hv)) rfl ?_
     rintro _ _ ⟨u7,k7,rfl,rfl,ho7⟩
     refine JLM rfl<|JLn (Pu.extract rfl rfl)<|JLn (Pu.extract rfl rfl)<|JLa u7<|JAn rfl<|Zc<|JLm v<|Jc call10 rfl (fun hin=>Rn ‹Z7 (Zx 0) l=0› _ _ (RTs.mono (Hle.hu _ _) hv)) rfl ?_
     rintro _ _ ⟨u8,k8,rfl,rfl,ho8⟩
     refine JLM rfl<|JLn (Pu.extract rfl rfl)<|JLn (Pu.extract rfl rfl)<|JLa u8<|JAn rfl<|Zc<|JLM rfl<|JLn (Pu.eql rfl rfl)<|Za<|ZF rfl (fun h9=>?_) (fun h9=>?_)
     ·refine Zd<|JLm v<|Jc call11 rfl (fun hin=>RF ‹Z7 (Zx 0) l=0› _ _ (RTs.mono (Hle.hu _ _) hv)) rfl ?_
      rintro _ _ ⟨u10,k10,rfl,rfl,ho10⟩
      refine JLM rfl<|JLn (Pu.extract rfl rfl)<|JLn (Pu.extract rfl rfl)<|JLa u10<|JLA rfl<|Za ?_
      exact ⟨(kSe l),(kCe l i),u7,k7,u8,k8,u10,k10,(by first | rfl | exact (Wj ‹¬ Z7 (Zx 0) l=0›).1.symm),(by first | rfl | exact (Wb ‹¬ Z7 (Zx 0) l=0›).1.symm | exact (Wa ‹Z7 (Zx 0) l=0› (by omega)).1.symm),ho7,ho8,ho10,rfl,rfl,rfl,rfl,rfl,rfl,rfl,rfl,rfl,(Sub.cons 2 rfl (Sub.cons 1 rfl (Sk (Sk Sub.nil))))⟩
     refine Zk ?_
     exact ⟨(kSe l),(kCe l i),u7,k7,u8,k8,nS,[],(by first | rfl | exact (Wj ‹¬ Z7 (Zx 0) l=0›).1.symm),(by first | rfl | exact (Wb ‹¬ Z7 (Zx 0) l=0›).1.symm | exact (Wa ‹Z7 (Zx 0) l=0› (by omega)).1.symm),ho7,ho8,(by have q0:¬ kSe l=0:=(by first | assumption | (rw [(Wj ‹¬ Z7 (Zx 0) l=0›).1];assumption));have q:kOl l=[]:=if_neg q0;rw [q];exact OL.nil),rfl,rfl,rfl,rfl,rfl,rfl,rfl,rfl,rfl,(Sub.cons 1 rfl (Sk (Zcz (Sk Sub.nil))))⟩
    refine Zk<|Zc<|JLm v<|Jc call10 rfl (fun hin=>Rn ‹Z7 (Zx 0) l=0› _ _ (RTs.mono (Hle.hu _ _) hv)) rfl ?_
    rintro _ _ ⟨u11,k11,rfl,rfl,ho11⟩
    refine JLM rfl<|JLn (Pu.extract rfl rfl)<|JLn (Pu.extract rfl rfl)<|JLa u11<|JAn rfl<|Zc<|JLM rfl<|JLn (Pu.eql rfl rfl)<|Za<|ZF rfl (fun h12=>?_) (fun h12=>?_)
    ·refine Zd<|JLm v<|Jc call11 rfl (fun hin=>RF ‹Z7 (Zx 0) l=0› _ _ (RTs.mono (Hle.hu _ _) hv)) rfl ?_
     rintro _ _ ⟨u13,k13,rfl,rfl,ho13⟩
     refine JLM rfl<|JLn (Pu.extract rfl rfl)<|JLn (Pu.extract rfl rfl)<|JLa u13<|JLA rfl<|Za ?_
     exact ⟨(kSe l),1,nS,[],u11,k11,u13,k13,(by first | rfl | exact (Wj ‹¬ Z7 (Zx 0) l=0›).1.symm),(by first | rfl | exact (Wb ‹¬ Z7 (Zx 0) l=0›).1.symm | exact (Wa ‹Z7 (Zx 0) l=0› (by omega)).1.symm),(by first | (rw [(Wb ‹¬ Z7 (Zx 0) l=0›).2];exact Own.nil) | (rw [(Wa ‹Z7 (Zx 0) l=0› (by omega)).2];exact Own.nil)),ho11,ho13,rfl,rfl,rfl,rfl,rfl,rfl,rfl,rfl,rfl,(Zcz (Sub.cons 1 rfl (Sk (Sk Sub.nil))))⟩
    refine Zk ?_
    exact ⟨(kSe l),1,nS,[],u11,k11,nS,[],(by first | rfl | exact (Wj ‹¬ Z7 (Zx 0) l=0›).1.symm),(by first | rfl | exact (Wb ‹¬ Z7 (Zx 0) l=0›).1.symm | exact (Wa ‹Z7 (Zx 0) l=0› (by omega)).1.symm),(by first | (rw [(Wb ‹¬ Z7 (Zx 0) l=0›).2];exact Own.nil) | (rw [(Wa ‹Z7 (Zx 0) l=0› (by omega)).2];exact Own.nil)),ho11,(by have q0:¬ kSe l=0:=(by first | assumption | (rw [(Wj ‹¬ Z7 (Zx 0) l=0›).1];assumption));have q:kOl l=[]:=if_neg q0;rw [q];exact OL.nil),rfl,rfl,rfl,rfl,rfl,rfl,rfl,rfl,rfl,(Zcz (Sk (Zcz (Sk Sub.nil))))⟩
   | false=>
    replace h4:=df h4
    iterate 4 refine Xs rfl ?_
    refine JLq (.bool false) (ZcH rfl rfl)<|Za<|Zs (b:=false) rfl (fun h=>absurd h (by simp)) (fun _=>Zk<|Zc<|JLm v<|Jc call10 rfl (fun hin=>Rn ‹Z7 (Zx 0) l=0› _ _ (RTs.mono (Hle.hu _ _) hv)) rfl ?_)
    rintro _ _ ⟨u14,k14,rfl,rfl,ho14⟩
    refine JLM rfl<|JLn (Pu.extract rfl rfl)<|JLn (Pu.extract rfl rfl)<|JLa u14<|JAn rfl<|Zc<|JLM rfl<|JLn (Pu.eql rfl rfl)<|Za<|ZF rfl (fun h15=>?_) (fun h15=>?_)
    ·refine Zd<|JLm v<|Jc call11 rfl (fun hin=>RF ‹Z7 (Zx 0) l=0› _ _ (RTs.mono (Hle.hu _ _) hv)) rfl ?_
     rintro _ _ ⟨u16,k16,rfl,rfl,ho16⟩
     refine JLM rfl<|JLn (Pu.extract rfl rfl)<|JLn (Pu.extract rfl rfl)<|JLa u16<|JLA rfl<|Za ?_
     exact ⟨(kSe l),1,nS,[],u14,k14,u16,k16,(by first | rfl | exact (Wj ‹¬ Z7 (Zx 0) l=0›).1.symm),(by first | rfl | exact (Wb ‹¬ Z7 (Zx 0) l=0›).1.symm | exact (Wa ‹Z7 (Zx 0) l=0› (by omega)).1.symm),(by first | (rw [(Wb ‹¬ Z7 (Zx 0) l=0›).2];exact Own.nil) | (rw [(Wa ‹Z7 (Zx 0) l=0› (by omega)).2];exact Own.nil)),ho14,ho16,rfl,rfl,rfl,rfl,rfl,rfl,rfl,rfl,rfl,(Zcz (Sub.cons 1 rfl (Sk (Sk Sub.nil))))⟩
    refine Zk ?_
    exact ⟨(kSe l),1,nS,[],u14,k14,nS,[],(by first | rfl | exact (Wj ‹¬ Z7 (Zx 0) l=0›).1.symm),(by first | rfl | exact (Wb ‹¬ Z7 (Zx 0) l=0›).1.symm | exact (Wa ‹Z7 (Zx 0) l=0› (by omega)).1.symm),(by first | (rw [(Wb ‹¬ Z7 (Zx 0) l=0›).2];exact Own.nil) | (rw [(Wa ‹Z7 (Zx 0) l=0› (by omega)).2];exact Own.nil)),ho14,(by have q0:¬ kSe l=0:=(by first | assumption | (rw [(Wj ‹¬ Z7 (Zx 0) l=0›).1];assumption));have q:kOl l=[]:=if_neg q0;rw [q];exact OL.nil),rfl,rfl,rfl,rfl,rfl,rfl,rfl,rfl,rfl,(Zcz (Sk (Zcz (Sk Sub.nil))))⟩
  refine Zk ?_
  exact ⟨(Z7 (Zx 0) l),(Z7 (Zx 0) l),nS,[],nS,[],nS,[],(by first | rfl | exact (Wj ‹¬ Z7 (Zx 0) l=0›).1.symm),(by first | rfl | exact (Wb ‹¬ Z7 (Zx 0) l=0›).1.symm | exact (Wa ‹Z7 (Zx 0) l=0› (by omega)).1.symm),(by first | (rw [(Wb ‹¬ Z7 (Zx 0) l=0›).2];exact Own.nil) | (rw [(Wa ‹Z7 (Zx 0) l=0› (by omega)).2];exact Own.nil)),(by first | (rw [(Wj ‹¬ Z7 (Zx 0) l=0›).2];exact Own.nil)),(by have q0:¬ kSe l=0:=(by first | assumption | (rw [(Wj ‹¬ Z7 (Zx 0) l=0›).1];assumption));have q:kOl l=[]:=if_neg q0;rw [q];exact OL.nil),rfl,rfl,rfl,rfl,rfl,rfl,rfl,rfl,rfl,(Zcz (Zcz (Zcz (Sk Sub.nil))))⟩
 rintro ρ17 _ ⟨e6,e7,v8,k8,v9,k9,v10,k10,he6,he7,ho8,ho9,ho10,e18,e19,e20,e21,e22,e23,e24,e25,e26,hm27⟩
 obtain ⟨ρ28,rfl⟩:=Zo (uc e18 (uc e19 (uc e20 (uc e21 (uc e22 (uc e23 (uc e24 (uc e25 (uc e26 un)))))))))
 clear e18 e19 e20 e21 e22 e23 e24 e25 e26
 refine ZD hm27<|Zc<|JLm v2<|JLM rfl<|Jc call12 rfl (fun hin=>LQ _ _ _ (hO2.rd (hin 3 _ rfl)) hz _ (GK.mono (Hle.hu _ _) hGK)) rfl ?_
 rintro _ _ ⟨u29,k29,rfl,rfl,ho29⟩
 refine JLM rfl<|JLn (Pu.extract rfl rfl)<|JLn (Pu.extract rfl rfl)<|JLa u29<|JAn rfl<|Zc<|JLm v2<|Jc call13 rfl (fun hin=>Up _ _ _ (hO2.rd (hin 4 _ rfl)) hz (GK.mono (Hle.hu _ _) hGK)) rfl ?_
 rintro _ _ ⟨u30,k30,rfl,rfl,ho30⟩
 refine JLM rfl<|JLn (Pu.extract rfl rfl)<|JLn (Pu.extract rfl rfl)<|JLa u30<|JAn rfl<|Zc<|JLm v2<|Jc call14 rfl (fun hin=>LM _ _ _ (hO2.rd (hin 5 _ rfl)) hz (GK.mono (Hle.hu _ _) hGK)) rfl ?_
 rintro _ _ ⟨u31,k31,rfl,rfl,ho31⟩
 refine JLM rfl<|JLn (Pu.extract rfl rfl)<|JLn (Pu.extract rfl rfl)<|JLa u31<|JAn rfl<|Zf<|Zc<|JLM rfl<|JLM rfl<|JLq (.bool false) (ZcJ (Pu.neq rfl rfl) (by rw [he7];simp))<|JLM rfl ?_
 refine JLm u29<|JLr (Tl 2 rfl ho29 (by have:=JE l i;omega) Yl Ru5 Ru9 rfl<|JLm v8<|JLr (Tl 3 rfl ho8 (by have:=JE l i;omega) Yl Ru5 Ru9 rfl<|JLq (.bool false) (ZcJ (Zc3 rfl rfl) (by simp))<|JLq (.bool false) (ZcH rfl rfl)<|JLM rfl<|JLM rfl<|JLM rfl<|JLq (.bool false) (ZcJ (Pu.neq rfl rfl) (by rw [he6];simp))<|JLq (.bool false) (ZcH rfl rfl)<|JLM rfl<|JLm u30 ?_))
 refine JLm v9<|Jc call15 rfl (fun hin=>VX (r:=true) (PG _ _ _ _ _ (Wi ho30 (by have:=QG l;omega) (hin 1 _ rfl)) (Wi ho9 (by have:=QG l;omega) (hin 4 _ rfl))) (WT rfl)) rfl ?_
 rintro _ _ ⟨rfl,rfl⟩
 refine JLq (.bool false) (show Pu _ _ _ (.bool (!true)) from Pu.not rfl)<|JLq (.bool false) (ZcH rfl rfl)<|JLM rfl<|JLm u31<|JLm v10<|JLM rfl<|JLM rfl<|ZG 0 rfl call16 rfl rfl (fun hin=>VX (r:=true) (Gh _ _ _ _ _ _ _ _ ho31 (ho10.rd (hin 4 _ rfl))) (by rw [he6];simp)) rfl ?_
 rintro _ _ ⟨rfl,rfl⟩
 refine JLq (.bool false) (show Pu _ _ _ (.bool (!true)) from Pu.not rfl)<|JLq (.bool false) (ZcH rfl rfl)<|Za<|Zs (b:=false) rfl (fun h=>absurd h (by simp)) (fun _=>Zk<|Zc<|JLm u29<|JLr (Oe (i:=1) Yl el5 rfl rfl ho29 (by first | exact VG _ | exact (fun a ha=>by cases ha with | head=>rfl | tail _ h=>cases h) | (intro a ha;simp [Value.cells] at ha;subst ha;rfl)) fun kc32 hc32=>Za<|Zc<|JLm u30 ?_))
 refine JLr (Oe (i:=0) Wt Hk rfl rfl ho30 (by first | exact VG _ | exact (fun a ha=>by cases ha with | head=>rfl | tail _ h=>cases h) | (intro a ha;simp [Value.cells] at ha;subst ha;rfl)) fun kc33 hc33=>Za<|Zc<|JLm v2<|Jc call13 rfl (fun hin=>Up _ _ _ (hO2.rd (hin 5 _ rfl)) hz (GK.mono (Hle.hu _ _) hGK)) rfl ?_)
 rintro _ _ ⟨u34,k34,rfl,rfl,ho34⟩
 refine JLM rfl<|JLn (Pu.extract rfl rfl)<|JLn (Pu.extract rfl rfl)<|JLa u34<|JAn rfl<|Zc<|JLM rfl<|JLM rfl<|JLq (.bool true) (ZcJ (Pu.eql rfl rfl) (decide_eq_true he6.symm))<|JLM rfl<|JLm u34 ?_
 refine JLm v9<|Jc call15 rfl (fun hin=>VX (r:=true) (PG _ _ _ _ _ (Wi ho34 (by have:=QG l;omega) (hin 0 _ rfl)) (Wi ho9 (by have:=QG l;omega) (hin 4 _ rfl))) (WT rfl)) rfl ?_
 rintro _ _ ⟨rfl,rfl⟩
 refine JLq (.bool true) (ZcI rfl rfl)<|JLM rfl<|JLm v2<|JLm v<|Jc call17 rfl (fun hin=>VX (r:=true) (Uw _ _ _ _ _ (hO2.rd (hin 6 _ rfl)) (RTs.mono (Hle.hu _ _) hv) (fun x hx y a b h _ ra rb=>R9 x y a b h ra rb)) (decide_eq_true rfl)) rfl ?_
 rintro _ _ ⟨rfl,rfl⟩
 refine JLq (.bool true) (ZcI rfl rfl)<|JLM rfl<|Jc call6 rfl (fun hin=>Ni _ (GK.mono (Hle.hu _ _) hGK)) rfl ?_
 rintro _ _ ⟨rfl,rfl⟩
 refine JLq (.bool true) (ZcI rfl rfl)<|JAn rfl<|ZC (.bool true) [] Sub.nil (?_)
 exact ⟨rfl,rfl⟩
end
end Go.Proofs.YtjdjmjgleadcfaaGreatDoor.Hs
namespace Go.Proofs.YtjdjmjgleadcfaaGreatDoor
section
open Go Go.ChangeShapes Go.WideShapes
theorem Gk {Ht:Type} {enc:TypeId×Value→Ht} {W:World} {base b0:Nat} {sp:Nat→Bool} {held:Bool} {v:Value} {d:DataW Ht} {ps:List MemPlace} (hv:Value.okWide prog W .any b0 22 v) (h:DataW.Trod enc prog W base sp held 22 v d ps):
    ∃ l,Hs.rdS Hs.RT 36 (T5 W) v l:=by
  obtain ⟨a,len,cap,rfl⟩:=okWide_slice underlying22 hv
  obtain ⟨fuel,hf⟩:=h
  obtain ⟨ks,l,hks,hl⟩:=Hs.slice_rd (E:=Hs.RT) (sz:=36) (H:=T5 W) (fun _ _ h=>h) underlying22 (by kernel_rfl) (by decide) (fun m _ cs x hx=>Hs.trod_RT (H:=T5 W) (fun _ _ h=>h) m cs x hx) hf
  have e:Value.slice a len cap=ks:=(List.cons.inj (show [Value.slice a len cap]=[ks] from hks)).1
  subst e
  exact ⟨l,hl⟩
theorem Ow {P:Program} {W:World} {n:String} {g:Nat} {cs:Array Value} (hg:P.globalNamed n=some g) (h:W.var? P n=some cs):∃ T fr,W.heap[g]?=some (.cells cs T fr):=by
  unfold World.var? at h
  rw [hg] at h
  simp only [Option.bind_some] at h
  split at h
  · rename_i c T fr e
    cases h
    exact ⟨T,fr,e⟩
  · cases h
theorem gTaken:prog.globalNamed "hoarstone/sum.constants" =some 1:=by kernel_rfl
theorem gNew:prog.globalNamed "hoarstone/sum.begin" =some 0:=by kernel_rfl
theorem tTaken:(prog.globals[1]?).map (·.type)=some 219:=by kernel_rfl
theorem tNew:(prog.globals[0]?).map (·.type)=some 138:=by kernel_rfl
theorem Ct {W:World} (h:laidMetH prog Rows.knotCodesRow.laid W):Hs.GK (T5 W):=by
  rw [MakeChecks.laidMetH_plain _ _ _ (by kernel_rfl)] at h
  obtain ⟨ps,⟨g0,t0,cs0,f0,p0,q0,hg0,ht0,hv0,hd0,⟨g1,t1,cs1,f1,p1,q1,hg1,ht1,hv1,hd1,_,_⟩,_⟩,_,_⟩:=h
  obtain rfl:=Option.some.inj (gTaken.symm.trans hg0)
  obtain rfl:=Option.some.inj (gNew.symm.trans hg1)
  obtain rfl:=Option.some.inj (tTaken.symm.trans ht0)
  obtain rfl:=Option.some.inj (tNew.symm.trans ht1)
  have e0:cs0=⟨Hs.uC Hs.kW⟩:=by
    have:=Lib.cells_of_tab (zs:=Hs.kW.map fun w=>(w.toNat:Int)) (k:=.u32) underlying219 underlying137 (by kernel_rfl) (by kernel_rfl) hd0
    obtain ⟨c⟩:=cs0
    exact congrArg Array.mk (this.trans (by kernel_rfl))
  have e1:cs1=⟨Hs.uC Hs.beW⟩:=by
    have:=Lib.cells_of_tab (zs:=Hs.beW.map fun w=>(w.toNat:Int)) (k:=.u32) underlying138 underlying137 (by kernel_rfl) (by kernel_rfl) hd1
    obtain ⟨c⟩:=cs1
    exact congrArg Array.mk (this.trans (by kernel_rfl))
  subst e0 e1
  exact ⟨Ow gTaken hv0,Ow gNew hv1⟩
theorem Ex (os:Os) (args:Array Value):laidMetH prog Rows.knotCodesRow.laid ((World.doorLaid prog 400 os).forCall (fun _ _=>0) ⟨#[],args,[]⟩).memory:=
  laidMetH_of_parts3 (fuel:=8) (laidMet_of_run' 8 (by kernel_rfl) (by kernel_rfl)) (by kernel_rfl) (by kernel_rfl)
theorem N7 (os:Os) (started:os.Started) (H:Type) (enc:TypeId×Value→H):
    ReturnsInHanded {} checked os 3 .any (fun w args=>(Rows.knotCodesSpec.pre enc prog f3 Rows.knotCodesRow.domain false w args∧laidMetH prog Rows.knotCodesRow.laid w)∧sizedMet enc prog f3 (OpenSpec.ofChange Rows.knotCodesSpec) false w args)
      (Rows.knotCodesSpec.post enc prog f3 false true false false):=by
  refine returnsInHanded_of_change_and (C:=checked) (X:=fun w _=>laidMetH prog Rows.knotCodesRow.laid w) (fun _ _ _ hh h=>h.of_heap hh) Bt started (by kernel_rfl) func3
    (ChangeSpec.witness_shaped (enc:=enc) (C:=checked) (os:=os) (X:=fun w _=>laidMetH prog Rows.knotCodesRow.laid w) false (World.doorLaid prog 400 os) #[.slice none 0 0,.int .i64 0] 8 rfl (World.shaped_of_RefB (by kernel_rfl) (by kernel_rfl)) (by kernel_rfl) (by kernel_rfl) (by kernel_rfl) (Ex os _)) ?_
  intro W base args ds gs before hval0 hW _ _ hL _
  have hval:∀ (j:Nat) t v,f3.params[j]?=some t→args[j]?=some v→Value.okWide prog W .any base t v:=hval0
  have hW':=hW
  obtain ⟨p,q,hA0,_,_,_,_⟩:=hW
  have hA:DataW.TrodAll enc prog W 0 (fun _=>true) true f3.params.toList args.toList ds p:=hA0
  rw [params3] at hA hval
  obtain ⟨v0,l0,d0,e0,p0,q0,hl0,rfl,rfl,h0,hA⟩:=trodAll_cons hA
  obtain ⟨v1,l1,d1,e1,p1,q1,hl1,rfl,rfl,h1,hA⟩:=trodAll_cons hA
  obtain ⟨rfl,rfl,rfl⟩:=trodAll_nil hA
  subst hl1
  obtain ⟨ars⟩:=args
  simp only at hl0
  subst hl0
  obtain ⟨l,hl⟩:=Gk (hval 0 _ v0 rfl rfl) h0
  obtain ⟨i,rfl,_,_,_⟩:=open_int underlying3 (hval 1 _ v1 rfl rfl) h1
  refine (I7 (Hs.codes_law l i v0 (T5 W) hl (Ct hL))).mono fun e W' ⟨he,hb,ho,hout⟩=>⟨_,he,?_⟩
  refine FR (apart:=false) EV EW hW' rfl (by rw [params3];decide+kernel) (tb:=4) rfl underlying4 ?_ ?_ ?_ hb ho hout
  · intro l hl
    match l,hl with
    | [_,_],_=>rfl
  · intro l hl
    match l,hl with
    | [_,_],_=>rfl
  · intro l hl
    match l,hl with
    | [_,_],_=>rfl
theorem Qv:Rows.KnotCodesSaid:=
  OpenClaim.holds_of_wide 3 f3 rfl rfl rfl rfl rfl rfl rfl ⟨rfl,rfl,rfl,rfl,rfl⟩ rfl rfl rfl rfl rfl (by kernel_rfl) func3 (by kernel_rfl)
    (of_decide_eq_true (by kernel_rfl)) (by unfold Func.isWrapper;first | (rw [if_pos (by decide+kernel)];kernel_rfl) | (rw [if_neg (by decide+kernel)];exact ⟨rfl,rfl⟩))
    (fun os started H enc _=>N7 os started H enc)
end
end Go.Proofs.YtjdjmjgleadcfaaGreatDoor
