import Derived.Test.YtjdjmjgleadcfaaGreatDoorCodezc
import Derived.Lib.Bytealg
import Derived.Lib.BytesEntry
import Derived.Laws.Externs
set_option linter.unusedVariables false
set_option linter.unusedSimpArgs false
set_option maxRecDepth 100000
open Go.Proofs.Tryz
open List (getElem_mem replicate mem_cons_self append_assoc take_of_length_le length_append getD_eq_getElem?_getD getElem?_eq_getElem length_cons length_set length_drop flatten length_replicate append_nil eq_nil_of_length_eq_zero)
namespace Go.Proofs.YtjdjmjgleadcfaaGreatDoor.Hs
section
attribute [local irreducible] JL J CT wlo DT
set_option maxHeartbeats 4000000 in
theorem Gl (h:List W32) (bl:List Int) (v:Value) (H:Heap) (hl:h.length=8) (hv:byR H v bl) (hbl:bl.length=64) (hby:∀ x∈bl,0≤x∧x≤255) (hG:GK H):CT prog 177 ⟨[.agg ⟨uC h⟩,v]⟩ [] H (fun r N=>r=.agg ⟨uC (tkn h bl)⟩∧N=[]):=by
 obtain ⟨⟨TK,frK,hgK⟩,_⟩:=hG
 refine Zl func177 rfl rfl<|Zc<|JLr (Zr (l:=uC h) rfl rfl fun b1=>JLr (Zp (l:=uC (replicate 8 0)) zeroValue138 rfl fun b2=>Za<|Zf<|ZI mixed #[0,0,0,0,15,31] 4 [some 12,some 13,some 5,some 6] [] [(1,fun _ _ vw qw=>vw=.agg ⟨[.func (.func 233) ⟨[]⟩ ⟨[]⟩,.func (.func 235) ⟨[]⟩ ⟨[]⟩]⟩∧qw=[]),(2,L9 138 (uC (replicate 8 0))),(3,L9 249 ([.nilFunc,.nilFunc]))] rfl (by kernel_rfl) rfl (by kernel_rfl)<|Dl Xn (Zcu 1 rfl) (ZE ((ZO _).trans hl))<|Dc rfl call207 (fun _=>rfl) (fun hin=>IN _) ?_))
 rintro _ _ ⟨rfl,rfl⟩
 refine Da zeroValue138 rfl fun b5=>Da zeroValue249 rfl fun b6=>ZM (M':=[(BX b6 [.nilFunc,.nilFunc] 249),(BX b5 (uC (replicate 8 0)) 138),(BX b2 (uC (replicate 8 0)) 138),(BX b1 (uC h) 138)]) rfl ?_
 show JL _ _ _ [_,_] _ _ _
 refine JLr (Ze 1 (vs:=uC h) (l:=uC h) Xn rfl rfl rfl rfl ((ZO _).trans hl) (Ve _) (Yb (n:=8) ((ZO _).trans (length_replicate ..)) ((ZO _).trans hl))<|JLr (Ze 0 (vs:=[.func (.func 233) ⟨[]⟩ ⟨[]⟩,.func (.func 235) ⟨[]⟩ ⟨[]⟩]) (l:=[.func (.func 233) ⟨[]⟩ ⟨[]⟩,.func (.func 235) ⟨[]⟩ ⟨[]⟩]) Gc rfl rfl rfl rfl rfl (Zg rfl (Zg rfl Zq)) rfl<|Za<|Zf<|Zc<|JLm v<|Jc call208 rfl (fun hin=>IC _ _ _ (byR.mono (Hle.hu _ _) hv) hbl hby) rfl ?_))
 rintro _ _ ⟨rfl,rfl⟩
 refine JLM rfl<|Za<|Zh<|Zv (fun k ρ M=>∃ (j:Nat) (u:List W32),ZR ρ [(2,pp b1 0),(4,pp b2 0),(5,pp b5 0),(6,pp b6 0),(15,.agg ⟨uC (spr bl)⟩),(16,iv ((j:Int)))]=ρ∧Sub [(BX b5 (uC u) 138),(BX b6 [.func (.func 233) ⟨[]⟩ ⟨[]⟩,.func (.func 235) ⟨[]⟩ ⟨[]⟩] 249),(BX b2 (uC (replicate 8 0)) 138),(BX b1 (uC h) 138)] M∧j≤64∧u.length=8∧u=rds h (spr bl) j∧k=64-j) _ ⟨0,h,Zj rfl,(Sub.cons 1 rfl (Sk (Sk (Sk Sub.nil)))),Nat.zero_le _,hl,rfl,rfl⟩ ?_
 rintro _ ρ7 _ ⟨j,u,e8,hm14,hj,hul,hu,rfl⟩
 obtain ⟨ρ15,rfl⟩:=Zo e8
 clear e8
 refine ZD hm14<|Zc<|JLn (Pu.lss rfl rfl)<|Za<|Zf<|ZF rfl (fun h16=>?_) (fun h16=>?_)
 ·have h16n:j<64:=by omega
  refine Zk<|Zf<|Zh<|Zc<|JLM rfl<|JLq (.int .u32 (((spr bl).getD j 0).toNat:Int)) (ZcW j WB ZK rfl rfl rfl (by omega) (Xe (by have hbl:List.length (spr bl)=64:=(Ns _);rw [hbl];omega)))<|JLA rfl<|JAn rfl<|Zf<|ZI mixed #[0,1,0,7,0,16,48,0,255,511,1023] 8 (sm 20 8) [] [(3,fun _ _ vw qw=>vw=.int .u32 ((fiW u).toNat:Int)∧qw=[])] rfl (by kernel_rfl) rfl (by kernel_rfl)<|Dq (pp b6 0) (fun _=>C0 rfl rfl) ?_
  refine Dl1 KX (Zcu 1 rfl) rfl<|Dl Xn (Zcu 0 rfl) (ZE ((ZO _).trans hul))<|Dc rfl call233 (fun _=>rfl) (fun hin=>AJ _ _ hul) ?_
  rintro _ _ ⟨rfl,rfl⟩
  refine DM (fun _=>rfl) ?_
  refine Dq (pp 1 (0+j*1)) (fun _=>ZcB j WB ZK rfl rfl rfl (by omega)) ?_
  refine ZZ rfl (fun _=>rfl) ZK (fun _=>rfl) (Zcx hgK) (XF (by have hbl:List.length kW=64:=rfl;rw [hbl];omega))<|DM (fun _=>rfl)<|ZM (M':=[(BX b5 (uC u) 138),(BX b6 [.func (.func 233) ⟨[]⟩ ⟨[]⟩,.func (.func 235) ⟨[]⟩ ⟨[]⟩] 249),(BX b2 (uC (replicate 8 0)) 138),(BX b1 (uC h) 138)]) rfl ?_
  show JL _ _ _ [_,_,_] _ _ _
  refine JLr (Zm (vs:=[.int .u32 ((fiW u).toNat:Int),.int .u32 ((kW.getD j 0).toNat:Int),.int .u32 (((spr bl).getD j 0).toNat:Int)]) [[.int .u32 ((fiW u).toNat:Int)],[.int .u32 ((kW.getD j 0).toNat:Int)],[.int .u32 (((spr bl).getD j 0).toNat:Int)]] TS PN rfl rfl (alc rfl (alc rfl (al1 rfl))) rfl (by decide) fun b17 k17 ho17 hk17=>Jc call209 rfl (fun hin=>Vs [fiW u,kW.getD j 0,(spr bl).getD j 0] _ _ (Pm (l:=[fiW u,kW.getD j 0,(spr bl).getD j 0]) ho17 (by simp) (hin 0 _ rfl))) rfl ?_)
  rintro _ _ ⟨rfl,rfl⟩
  refine JAn rfl<|Zc<|JLq (pp b6 1) (CZ rfl rfl)<|JLr (Zb KX rfl (Zcu 2 rfl) rfl<|JLr (Zn Xn rfl (Zcu 1 rfl) (ZE ((ZO _).trans hul))<|Jc call235 rfl (fun hin=>AI _ _ hul) rfl ?_))
  rintro _ _ ⟨rfl,rfl⟩
  refine JAn rfl<|Zf<|ZI mixed #[0,0,3] 2 [some 34,some 35] [] [] rfl (by kernel_rfl) rfl (by kernel_rfl)<|Dq (.slice (some ⟨b5,1,none⟩) 7 7) (fun _=>Zdc (q:=1) YG sizeOf137 rfl rfl rfl (by decide))<|Dq (.slice (some ⟨b5,0,none⟩) 7 8) (fun _=>Zdd (q:=7) YG sizeOf137 rfl rfl rfl (by decide))<|ZM (M':=[k17,(BX b5 (uC u) 138),(BX b6 [.func (.func 233) ⟨[]⟩ ⟨[]⟩,.func (.func 235) ⟨[]⟩ ⟨[]⟩] 249),(BX b2 (uC (replicate 8 0)) 138),(BX b1 (uC h) 138)]) rfl ?_
  show JL _ _ _ [_] _ _ _
  refine JLr (LJ (i:=1) hul TS sizeOf137 rfl rfl rfl<|Za<|Zc<|JLq (pp b5 4) (ZcB 4 YG ZK rfl rfl (by decide) (by decide))<|JLr (Zb ZK rfl (Zcu 1 rfl) (Xe (by have hbl:List.length (u.take 1++u.take 7)=8:=(Uv hul);rw [hbl];omega))<|JLM rfl<|JLr (Zm (vs:=[.int .u32 (((u.take 1++u.take 7).getD 4 0).toNat:Int),.int .u32 ((Xh [fiW u,kW.getD j 0,(spr bl).getD j 0]).toNat:Int)]) [[.int .u32 (((u.take 1++u.take 7).getD 4 0).toNat:Int)],[.int .u32 ((Xh [fiW u,kW.getD j 0,(spr bl).getD j 0]).toNat:Int)]] TS PN rfl rfl (alc rfl (al1 rfl)) rfl (by decide) fun b18 k18 ho18 hk18=>Jc call209 rfl (fun hin=>Vs [(u.take 1++u.take 7).getD 4 0,Xh [fiW u,kW.getD j 0,(spr bl).getD j 0]] _ _ (Pm (l:=[(u.take 1++u.take 7).getD 4 0,Xh [fiW u,kW.getD j 0,(spr bl).getD j 0]]) ho18 (by simp) (hin 0 _ rfl))) rfl ?_)))
  rintro _ _ ⟨rfl,rfl⟩
  refine JLq (pp b5 4) (ZcB 4 YG ZK rfl rfl (by decide) (by decide))<|JLr (Ze 2 (vs:=[.int .u32 ((Xh [(u.take 1++u.take 7).getD 4 0,Xh [fiW u,kW.getD j 0,(spr bl).getD j 0]]).toNat:Int)]) (l:=uC ((u.take 1++u.take 7).set 4 (Xh [(u.take 1++u.take 7).getD 4 0,Xh [fiW u,kW.getD j 0,(spr bl).getD j 0]]))) ZK rfl rfl rfl rfl rfl (Zg rfl Zq) (Np (by have hbl:List.length (u.take 1++u.take 7)=8:=(Uv hul);rw [hbl];omega))<|Za<|Zd<|JLM rfl<|JLM rfl<|JLr (Zm (vs:=[.int .u32 ((Xh [fiW u,kW.getD j 0,(spr bl).getD j 0]).toNat:Int),.int .u32 ((seW u).toNat:Int)]) [[.int .u32 ((Xh [fiW u,kW.getD j 0,(spr bl).getD j 0]).toNat:Int)],[.int .u32 ((seW u).toNat:Int)]] TS PN rfl rfl (alc rfl (al1 rfl)) rfl (by decide) fun b19 k19 ho19 hk19=>Jc call209 rfl (fun hin=>Vs [Xh [fiW u,kW.getD j 0,(spr bl).getD j 0],seW u] _ _ (Pm (l:=[Xh [fiW u,kW.getD j 0,(spr bl).getD j 0],seW u]) ho19 (by simp) (hin 0 _ rfl))) rfl ?_))
  rintro _ _ ⟨rfl,rfl⟩
  refine JLq (pp b5 0) (ZcB 0 YG ZK rfl rfl (by decide) (by decide))<|JLr (Ze 3 (vs:=[.int .u32 ((Xh [Xh [fiW u,kW.getD j 0,(spr bl).getD j 0],seW u]).toNat:Int)]) (l:=uC (((u.take 1++u.take 7).set 4 (Xh [(u.take 1++u.take 7).getD 4 0,Xh [fiW u,kW.getD j 0,(spr bl).getD j 0]])).set 0 (Xh [Xh [fiW u,kW.getD j 0,(spr bl).getD j 0],seW u]))) ZK rfl rfl rfl rfl rfl (Zg rfl Zq) (Np (by have hbl:List.length ((u.take 1++u.take 7).set 4 (Xh [(u.take 1++u.take 7).getD 4 0,Xh [fiW u,kW.getD j 0,(spr bl).getD j 0]]))=8:=((length_set ..).trans (Uv hul));rw [hbl];omega))<|Za<|Zd<|JLn (Zcy rfl rfl (by omega))<|JLM rfl<|Za<|⟨_,?_,(j+1),(((u.take 1++u.take 7).set 4 (Xh [(u.take 1++u.take 7).getD 4 0,Xh [fiW u,kW.getD j 0,(spr bl).getD j 0]])).set 0 (Xh [Xh [fiW u,kW.getD j 0,(spr bl).getD j 0],seW u])),Zj rfl,(Sd (Sd (Sd (Sk (Sk (Sk (Sk Sub.nil))))))),?_,?_,?_,rfl⟩)
  ·omega
  ·omega
  ·exact ((length_set ..).trans ((length_set ..).trans (Uv hul)))
  rw [rds,← hu,B5,K5,K5];exact AH hul _ _ _ _ rfl rfl
 have h16n:64≤j:=by omega
 refine Zu _ rfl<|Zf<|Zc<|JLM rfl<|Za<|Zh<|Zv (fun k ρ M=>∃ (j2:Nat) (u2:List W32),ZR ρ [(2,pp b1 0),(4,pp b2 0),(5,pp b5 0),(49,iv ((j2:Int)))]=ρ∧Sub [(BX b5 (uC u2) 138),(BX b6 [.func (.func 233) ⟨[]⟩ ⟨[]⟩,.func (.func 235) ⟨[]⟩ ⟨[]⟩] 249),(BX b2 (uC (replicate 8 0)) 138),(BX b1 (uC h) 138)] M∧j2≤8∧u2.length=8∧u2=adW (rds h (spr bl) 64) h j2∧k=8-j2) _ ⟨0,u,Zj rfl,(Sk (Sk (Sk (Sk Sub.nil)))),Nat.zero_le _,hul,(by rw [hu,show j=64 by omega];rfl),rfl⟩ ?_
 rintro _ ρ20 _ ⟨j2,u2,e21,hm25,hj2,hu2l,hu2,rfl⟩
 obtain ⟨ρ26,rfl⟩:=Zo e21
 clear e21
 refine ZD hm25<|Zc<|JLn (Pu.lss rfl rfl)<|Za<|Zf<|ZF rfl (fun h27=>?_) (fun h27=>?_)
 ·have h27n:j2<8:=by omega
  refine Zk<|Zf<|Zh<|Zc<|JLM rfl<|JAn rfl<|ZI mixed #[0,0,2,6,0,16,48,126,254,511,1023] 9 (sm 52 9) [] [(7,fun _ _ vw qw=>∃ b k,vw=.slice (some ⟨b,0,none⟩) 2 2∧qw=[k]∧Own 137 1 (.slice (some ⟨b,0,none⟩) 2 2) [[.int .u32 ((u2.getD j2 0).toNat:Int)],[.int .u32 ((h.getD j2 0).toNat:Int)]] k∧k=(BX b (flatten [[.int .u32 ((u2.getD j2 0).toNat:Int)],[.int .u32 ((h.getD j2 0).toNat:Int)]]) 137)),(8,fun _ _ vw qw=>vw=.int .u32 ((Xh [u2.getD j2 0,h.getD j2 0]).toNat:Int)∧qw=[])] rfl (by kernel_rfl) rfl (by kernel_rfl)<|DM (fun _=>rfl)<|DM (fun _=>rfl) ?_
  refine Dq (pp b5 (0+j2*1)) (fun _=>ZcB j2 YG ZK rfl rfl rfl (by omega)) ?_
  refine ZZ rfl (fun _=>rfl) ZK (fun _=>rfl) (Zcu 0 rfl) (XF (by have hbl:List.length u2=8:=hu2l;rw [hbl];omega))<|DM (fun _=>rfl) ?_
  refine Dq (pp b1 (0+j2*1)) (fun _=>ZcB j2 YG ZK rfl rfl rfl (by omega)) ?_
  refine ZZ rfl (fun _=>rfl) ZK (fun _=>rfl) (Zcu 3 rfl) (XF (by have hbl:List.length h=8:=hl;rw [hbl];omega))<|Dr rfl (fun _=>Zm (vs:=[.int .u32 ((u2.getD j2 0).toNat:Int),.int .u32 ((h.getD j2 0).toNat:Int)]) [[.int .u32 ((u2.getD j2 0).toNat:Int)],[.int .u32 ((h.getD j2 0).toNat:Int)]] TS PN rfl rfl (alc rfl (al1 rfl)) rfl (by decide) fun b k h1 h2=>⟨[k],by rw [Z4 rfl];exact Sub.refl,b,k,rfl,rfl,h1,h2⟩) (fun _ _ ⟨b29,k29,e1,e2,ho29,hk29⟩=>?_);subst e1 e2
  refine Dc rfl call209 (fun _=>rfl) (fun hin=>Vs [u2.getD j2 0,h.getD j2 0] _ _ (Pm (l:=[u2.getD j2 0,h.getD j2 0]) ho29 (by simp) (hin 0 _ rfl))) ?_
  rintro _ _ ⟨rfl,rfl⟩
  refine ZM (M':=[k29,(BX b5 (uC u2) 138),(BX b6 [.func (.func 233) ⟨[]⟩ ⟨[]⟩,.func (.func 235) ⟨[]⟩ ⟨[]⟩] 249),(BX b2 (uC (replicate 8 0)) 138),(BX b1 (uC h) 138)]) rfl ?_
  show JL _ _ _ [_,_] _ _ _
  refine JLq (pp b5 (0+j2*1)) (ZcB j2 YG ZK rfl rfl rfl (by omega))<|JLr (Ze 1 (vs:=[.int .u32 ((Xh [u2.getD j2 0,h.getD j2 0]).toNat:Int)]) (l:=uC (u2.set j2 (Xh [u2.getD j2 0,h.getD j2 0]))) ZK rfl rfl rfl rfl rfl (Zg rfl Zq) (Rl (by have hbl:List.length u2=8:=hu2l;rw [hbl];omega))<|Za<|Zd<|JLn (Zcy rfl rfl (by omega))<|JLM rfl<|Za<|⟨_,?_,(j2+1),(u2.set j2 (Xh [u2.getD j2 0,h.getD j2 0])),Zj rfl,(Sd (Sk (Sk (Sk (Sk Sub.nil))))),?_,?_,?_,rfl⟩)
  ·omega
  ·omega
  ·exact ((length_set ..).trans hu2l)
  rw [adW,K5,hu2]
 have h27n:8≤j2:=by omega
 refine Zu _ rfl<|Zc<|JLr (Zn Xn rfl (Zcu 0 rfl) (ZE ((ZO _).trans hu2l))<|JLr (Ze 2 (vs:=uC u2) (l:=uC u2) Xn rfl rfl rfl rfl ((ZO _).trans hu2l) (Ve _) (Yb (n:=8) ((ZO _).trans (length_replicate ..)) ((ZO _).trans hu2l))<|Za<|ZH<|⟨.agg ⟨uC u2⟩,[],Ret.one rfl (RV.cell Xn rfl (Zcu 2 rfl) (ZE ((ZO _).trans hu2l))),Sub.nil,?_⟩))
 obtain rfl:j2=8:=by omega
 exact ⟨by rw [hu2];rfl,rfl⟩
set_option maxHeartbeats 4000000 in
theorem Jk (h:List W32) (rs l:List Int) (m:Int) (bw:Nat) (v0 v:Value) (k0:Zi) (H:Heap) (hl:h.length=8) (ho:Own 5 1 v0 (Yk rs) k0) (hv:byR H v l) (hbr:∀ x∈rs,0≤x∧x≤255) (hby:∀ x∈l,0≤x∧x≤255) (hz:rs.length+l.length≤1000000) (hG:GK H):CT prog 131 ⟨[pp bw 0,v]⟩ [(BX bw ((uC h)++([v0,iv m]:List Value)) 177),k0] H (fun _ N=>∃ u k1,N=[(BX bw (uC ((Yi h (rs++l)).1)++[u,iv m]) 177),k1]∧Own 5 1 u (Yk (Yi h (rs++l)).2) k1):=by
 refine Zl func131 rfl rfl<|Zc<|JLr (Zr (l:=[pp bw 0]) rfl rfl fun b1=>Za<|Zf<|ZI mixed #[0,0,2,6,14,30,0,126,254,511,1023,2047,4095] 9 (sm 5 9) [] [(7,fun _ _ vw qw=>∃ b k,vw=.slice (some ⟨b,0,none⟩) 2 2∧qw=[k]∧Own 28 1 (.slice (some ⟨b,0,none⟩) 2 2) [[v0],[v]] k∧k=(BX b (flatten [[v0],[v]]) 28)),(8,fun _ _ vw qw=>∃ k,qw=[k]∧Own 5 1 vw (Yk ([rs,l].flatten)) k)] rfl (by kernel_rfl) rfl (by kernel_rfl)<|Dl1 UX (Zcu 0 rfl) rfl<|Dl1 UX (Zcu 0 rfl) rfl<|Dq (pp bw 0) (fun _=>Pu.nilCheck rfl)<|Dq (pp bw 0) (fun _=>XL rfl rfl)<|Dq (pp bw 8) (fun _=>W8 rfl rfl)<|Dl1 Sn (Zcu 1 rfl) (Qe (n:=8) (i:=0) ((ZO _).trans hl) rfl) ?_)
 refine Dm v<|Dr rfl (fun _=>Zm (vs:=[v0,v]) [[v0],[v]] Of Zao rfl (congr (congrArg List.cons (ZS ho.one)) (congr (congrArg List.cons (ZS hv.one)) rfl)) (alc rfl (al1 rfl)) rfl (by decide) fun b k h1 h2=>⟨[k],by rw [Z4 rfl];exact Sub.refl,b,k,rfl,rfl,h1,h2⟩) (fun _ _ ⟨b4,k4,e1,e2,ho4,hk4⟩=>?_);subst e1 e2
 refine Dc rfl call175 (fun _=>rfl) (fun hin=>O9 [rs,l] _ _ (Zda ho4 (hin 0 _ rfl) (WR ho (by omega) (hin 3 _ rfl)) (RBs.mono (Hle.hu _ _) hv.rd)) (by simp;omega)) ?_
 rintro v5 _ ⟨k5,rfl,ho5⟩
 refine ZM (M':=[k5,k4,(BX b1 [pp bw 0] 213),(BX bw ((uC h)++([v0,iv m]:List Value)) 177),k0]) rfl ?_
 show JL _ _ _ [_,_,_,_] _ _ _
 refine JLq (pp bw 0) (Pu.nilCheck rfl)<|JLq (pp bw 0) (XL rfl rfl)<|JLq (pp bw 8) (W8 rfl rfl)<|JLr (Ze 3 (vs:=[v5]) (l:=(uC h)++([v5,iv m]:List Value)) Sn rfl rfl rfl (ZS ho5.one) rfl (Zg ho5.one Zq) (OA (n:=8) (i:=0) ((ZO _).trans hl) rfl) ?_)
 rw [show ([rs,l]:List (List Int)).flatten=rs++l by simp] at ho5
 refine Za<|Zf<|Zc<|JLr (Zb UX rfl (Zcu 2 rfl) rfl<|Jc call176 rfl (fun hin=>Hy bw _) rfl ?_)
 rintro _ _ ⟨bb6,rfl,rfl⟩
 refine Za<|Zh<|Dw (L:=[(BX bb6 [pp bw 0] 213),k5,k4,(BX b1 [pp bw 0] 213),k0]) (fun s:List W32×Value=>[(BX bw (uC (s.1)++[s.2,iv m]) 177)]) (h,v5) (fun s=>s.1=(Yi h (rs++l)).1∧∀ h',byR h' v5 (rs++l)→byR h' s.2 (Yi h (rs++l)).2) rfl call206 (UD (i:=4) rfl) ?_ ?_
 ·intro lc rc hY hin
  have hrow:=VI ho5 (by simp only [length_append];omega) (hin 1 _ rfl)
  refine (KJ h (rs++l) v5 bw bb6 m lc rc _ (hin 0 _ rfl _ _ mem_cons_self) hl hrow (E8 hbr hby) (fun h1 v1 v2 bl Hx hh hh1 hv2 hbl hbb=>?_)).mono (fun v N ⟨u,hN,hq⟩=>⟨((Yi h (rs++l)).1,u),hN,rfl,hq⟩)
  refine YT.mono (hY (h1,v1) [v2] Hx (fun s'=>s'=(tkn h1 bl,v1)) rfl (RoundOk.mk ?_)) (fun v N ⟨s',e1,e2,e3⟩=>by subst e3;exact ⟨e1,e2⟩)
  have hGx:GK Hx:=GK.mono hh (GK.mono (Hle.hu _ _) hG)
  show J _ _ _ _ [(BX bw (uC h1++[v1,iv m]) 177)] _
  refine Zd<|JLa v2<|Za<|Zh<|ZI mixed #[0,0,2,6,14,30,0,126,255,511,1023,2047] 8 (sm 20 8) [] [(7,fun _ _ vw qw=>vw=.agg ⟨uC (tkn h1 bl)⟩∧qw=[])] rfl (by kernel_rfl) rfl (by kernel_rfl)<|Dl1 UX (Zcx (hh _ _ (hin 3 _ rfl _ _ mem_cons_self))) rfl<|Dl1 UX (Zcx (hh _ _ (hin 3 _ rfl _ _ mem_cons_self))) rfl<|Dq (pp bw 0) (fun _=>Pu.nilCheck rfl)<|Dq (pp bw 0) (fun _=>XL rfl rfl)<|Dq (pp bw 0) (fun _=>N3 rfl rfl)<|Dl Xn (Zcu 0 rfl) (XE ((ZO _).trans hh1))<|Dm v2<|Dc rfl call177 (fun _=>rfl) (fun hin=>Gl _ _ _ _ hh1 (byR.mono (Hle.hu _ _) hv2) hbl hbb (GK.mono (Hle.hu _ _) hGx)) ?_
  rintro _ _ ⟨rfl,rfl⟩
  refine ZM (M':=[(BX bw ((uC h1)++([v1,iv m]:List Value)) 177)]) rfl ?_
  show JL _ _ _ [_,_,_,_] _ _ _
  refine JLq (pp bw 0) (Pu.nilCheck rfl)<|JLq (pp bw 0) (XL rfl rfl)<|JLq (pp bw 0) (N3 rfl rfl)<|JLr (Ze 0 (vs:=uC (tkn h1 bl)) (l:=(uC (tkn h1 bl))++([v1,iv m]:List Value)) Xn rfl rfl rfl rfl ((ZO _).trans (VC hh1 _)) (Ve _) (B6 (Yb (n:=8) ((ZO _).trans hh1) ((ZO _).trans (VC hh1 _))))<|Za ?_)
  exact ⟨(tkn h1 bl,v1),rfl,(Sk Sub.nil),rfl⟩
 rintro ⟨h2,v2⟩ ⟨hs1,hq2⟩
 obtain rfl:h2=(Yi h (rs++l)).1:=hs1
 replace hq2:∀ h',byR h' v5 (rs++l)→byR h' v2 (Yi h (rs++l)).2:=hq2
 refine ZI mixed #[0,0,2,6,14,30,62,127,255,511,1023] 7 (sm 31 7) [] [(6,fun _ _ vw qw=>∃ k,qw=[k]∧Own 5 1 vw (Yk ((Yi h (rs++l)).2)) k)] rfl (by kernel_rfl) rfl (by kernel_rfl)<|Dl1 UX (Zcu 4 rfl) rfl<|Dl1 UX (Zcu 4 rfl) rfl<|Dq (pp bw 0) (fun _=>Pu.nilCheck rfl)<|Dq (pp bw 0) (fun _=>XL rfl rfl)<|Dq (pp bw 8) (fun _=>W8 rfl rfl)<|Dl1 Sn (Zcu 0 rfl) (Qe (n:=8) (i:=0) ((ZO _).trans (Xz hl).1) rfl) ?_
 refine Dc rfl call62 (fun _=>rfl) (fun hin=>Hn _ _ _ (hq2 _ (VI ho5 (by simp only [length_append];omega) (hin 2 _ rfl))).rd (by have:=(KO (E8 hbr hby) (h:=h)).1;rw [length_append] at this;omega)) ?_
 rintro u8 _ ⟨k8,rfl,ho8⟩
 refine ZM (M':=[k8,(BX bw ((uC ((Yi h (rs++l)).1))++([v2,iv m]:List Value)) 177),(BX bb6 [pp bw 0] 213),k5,k4,(BX b1 [pp bw 0] 213),k0]) rfl ?_
 show JL _ _ _ [_,_,_,_] _ _ _
 refine JLq (pp bw 0) (Pu.nilCheck rfl)<|JLq (pp bw 0) (XL rfl rfl)<|JLq (pp bw 8) (W8 rfl rfl)<|JLr (Ze 1 (vs:=[u8]) (l:=(uC ((Yi h (rs++l)).1))++([u8,iv m]:List Value)) Sn rfl rfl rfl (ZS ho8.one) rfl (Zg ho8.one Zq) (OA (n:=8) (i:=0) ((ZO _).trans (Xz hl).1) rfl)<|Za<|⟨.tuple ⟨[]⟩,[(BX bw ((uC ((Yi h (rs++l)).1))++([u8,iv m]:List Value)) 177),k8],Ret.none rfl,(Sub.cons 1 rfl (Sk Sub.nil)),?_⟩)
 exact ⟨_,_,rfl,ho8⟩
set_option maxHeartbeats 4000000 in
theorem Ba (h:List W32) (rs:List Int) (n:Nat) (bw:Nat) (v0:Value) (k0:Zi) (H:Heap) (hl:h.length=8) (ho:Own 5 1 v0 (Yk rs) k0) (hbr:∀ x∈rs,0≤x∧x≤255) (hrz:rs.length<64) (hn:n≤1000000000) (hG:GK H):CT prog 132 ⟨[pp bw 0]⟩ [(BX bw ((uC h)++([v0,iv ((n:Int))]:List Value)) 177),k0] H (fun r N=>r=.agg ⟨sC (endS h rs n)⟩∧N=[]):=by
 refine Zl func132 rfl rfl<|Zc<|JLr (Zp (l:=sC zS) zeroValue38 rfl fun b1=>Za<|Zc<|JLr (Zm (vs:=[.int .u8 128]) [[.int .u8 128]] Yl el5 rfl rfl (al1 rfl) rfl (by decide) fun b2 k2 ho2 hk2=>JAn rfl<|Zf<|Zh<|Zv (fun k ρ M=>∃ (z:Nat) (yz:Value) (qz:Zi),ZR ρ [(0,pp bw 0),(2,pp b1 0),(3,yz)]=ρ∧Sub [qz,(BX b1 (sC zS) 38),(BX bw ((uC h)++([v0,iv ((n:Int))]:List Value)) 177),k0] M∧Own 5 1 yz (Yk (128::replicate z 0)) qz∧z≤zN rs.length∧k=zN rs.length-z) _ ⟨0,(.slice (some ⟨b2,0,none⟩) 1 1),k2,Zj rfl,(Sk (Sk (Sk (Sk Sub.nil)))),ho2,Nat.zero_le _,rfl⟩ ?_))
 rintro _ ρ3 _ ⟨z,yz,qz,e4,hm7,hownz,hz,rfl⟩
 obtain ⟨ρ8,rfl⟩:=Zo e4
 clear e4
 refine ZD hm7 ?_
 have hpl:(128::replicate z 0:List Int).length=1+z:=by rw [length_cons,length_replicate];omega
 have hzl:=KS rs.length
 refine Zf<|Zc<|JLM rfl<|JLq (pp bw 0) (Pu.nilCheck rfl)<|JLq (pp bw 0) (XL rfl rfl)<|JLq (pp bw 8) (W8 rfl rfl)<|JLr (Zb Sn rfl (Zcu 2 rfl) (Qe (n:=8) (i:=0) ((ZO _).trans hl) rfl) ?_)
 obtain ⟨a9,cap9,hv9⟩:=ho.sl
 rw [Z8] at hv9
 refine JLn (Zcv Yl hv9)<|JLm yz ?_
 obtain ⟨a10,cap10,hv10⟩:=hownz.sl
 rw [Z8] at hv10
 refine JLn (Zcv Yl hv10)<|JLn (ZcG rfl rfl (by first | omega | (constructor <;> omega)))<|JLq (iv (((rs.length:Int)+(((128::replicate z 0).length:Int))) % 64)) (Pu.rem rfl rfl (by decide) (Int.tmod_eq_emod_of_nonneg (by omega)))<|JLn (Pu.neq rfl rfl)<|Za<|Zs rfl (fun h11=>?_) (fun h11=>?_)
 ·replace h11:=nt h11
  replace h11:=df h11
  refine Zk<|Zh<|Zd<|JLm yz<|JLr (Zm (vs:=[.int .u8 0]) [[.int .u8 0]] Yl el5 rfl rfl (al1 rfl) rfl (by decide) fun b12 k12 ho12 hk12=>?_)
  have hlens13:∀ e∈([[.int .u8 0]]:List (List Value)),List.length e=1:=al1 rfl
  have hoks13:∀ e∈([[.int .u8 0]]:List (List Value)),okc e:=al1 (Zg rfl Zq)
  refine JLr (Zz (i:=1) (n:=1) (es':=[[.int .u8 0]]) Yl Yl (Or.inl rfl) el5 rfl rfl rfl hownz (fun F w m=>Src.row (((ZcD 0 rfl (by rw [hk12];exact mem_cons_self))).heap m) (ZE (Zw hlens13))) rfl hlens13 hoks13 (by decide) (by rw [Z8];omega) fun v13 k13 ho13=>?_)
  rw [X3] at ho13
  refine JLa v13<|Za<|⟨_,?_,(z+1),v13,k13,Zj rfl,(Sd (Sk (Sk (Sk (Sk Sub.nil))))),?_,?_,rfl⟩
  ·have hz2:z+1≤zN rs.length:=(by unfold zN at hz ⊢;omega);omega
  ·rw [← IW];exact ho13
  have hz2:z+1≤zN rs.length:=(by unfold zN at hz ⊢;omega);exact hz2
 replace h11:=nf h11
 replace h11:=dt h11
 refine Zu _ rfl<|Zc<|JLM rfl<|JLq (pp bw 0) (Pu.nilCheck rfl)<|JLq (pp bw 0) (XL rfl rfl)<|JLq (pp bw 9) (JX rfl rfl)<|JLr (Zb ty3 rfl (Zcu 2 rfl) (Qe (n:=8) (i:=1) ((ZO _).trans hl) rfl)<|JLq (.int .u64 ((n:Int))) (ZcM Ru3 Il rfl (ZaT (by omega)))<|JLq (.int .u64 (((8*n:Nat):Int))) (ZcP rfl rfl (ZaR (by omega)))<|JAn rfl<|Zf ?_)
 refine Zc<|JAn rfl<|Zh<|Zv (fun k ρ M=>∃ (i:Nat) (yi:Value) (qi:Zi),ρ 0=pp bw 0∧ρ 2=pp b1 0∧ρ 3=yi∧ρ 4=.int .u64 (((8*n:Nat):Int))∧ρ 5=iv (56-8*(i:Int))∧Sub [qi,(BX b1 (sC zS) 38),(BX bw ((uC h)++([v0,iv ((n:Int))]:List Value)) 177),k0] M∧Own 5 1 yi (Yk (128::(replicate (zN rs.length) 0++lnB n i))) qi∧i≤8∧k=8-i) _ ⟨0,yz,qz,rfl,rfl,rfl,rfl,rfl,(Sk (Sk (Sk (Sk Sub.nil)))),(by have hze:z=zN rs.length:=(by unfold zN at hz ⊢;omega);rw [lnB,append_nil,← hze];exact hownz),Nat.zero_le _,rfl⟩ ?_
 rintro _ ρ14 _ ⟨i,yi,qi,e15,e16,e17,e18,e19,hm20,howni,hi,rfl⟩
 obtain ⟨ρ21,rfl⟩:=Zo (uc e15 (uc e16 (uc e17 (uc e18 (uc e19 un)))))
 clear e15 e16 e17 e18 e19
 refine ZD hm20 ?_
 have hln:=JA n i
 have hzl:=KS rs.length
 have hrl:(128::(replicate (zN rs.length) 0++lnB n i):List Int).length=1+zN rs.length+i:=by rw [length_cons,length_append,length_replicate,hln];omega
 refine Zf<|Zc<|JLM rfl<|JLn (Pu.geq rfl rfl)<|Za<|ZF rfl (fun h22=>?_) (fun h22=>?_)
 ·refine Zk<|Zf<|Zh<|Zd<|JLm yi<|JLM rfl<|JLM rfl<|JLq (.int .u64 (((8*n / 2 ^ (56-8*i):Nat):Int))) (Zc6 rfl rfl (by omega) (Za9 (by omega) (by omega)))<|JLq (.int .u8 (((8*n / 2 ^ (56-8*i) % 256:Nat):Int))) (ZcM Il Ru5 rfl (w8n _))<|JLr (Zm (vs:=[.int .u8 (((8*n / 2 ^ (56-8*i) % 256:Nat):Int))]) [[.int .u8 (((8*n / 2 ^ (56-8*i) % 256:Nat):Int))]] Yl el5 rfl rfl (al1 rfl) rfl (by decide) fun b23 k23 ho23 hk23=>?_)
  have hlens24:∀ e∈([[.int .u8 (((8*n / 2 ^ (56-8*i) % 256:Nat):Int))]]:List (List Value)),List.length e=1:=al1 rfl
  have hoks24:∀ e∈([[.int .u8 (((8*n / 2 ^ (56-8*i) % 256:Nat):Int))]]:List (List Value)),okc e:=al1 (Zg rfl Zq)
  refine JLr (Zz (i:=1) (n:=1) (es':=[[.int .u8 (((8*n / 2 ^ (56-8*i) % 256:Nat):Int))]]) Yl Yl (Or.inl rfl) el5 rfl rfl rfl howni (fun F w m=>Src.row (((ZcD 0 rfl (by rw [hk23];exact mem_cons_self))).heap m) (ZE (Zw hlens24))) rfl hlens24 hoks24 (by decide) (by rw [Z8];omega) fun v24 k24 ho24=>?_)
  rw [X3] at ho24
  refine JLa v24<|Za<|Zd<|JLM rfl<|JLn (ZcK rfl rfl (by first | omega | (constructor <;> omega)))<|JAn rfl<|⟨_,?_,(i+1),v24,k24,rfl,rfl,rfl,rfl,(congrArg (Value.int .i64) (by omega)),(Sd (Sk (Sk (Sk (Sk Sub.nil))))),?_,?_,rfl⟩
  ·omega
  ·rw [← I6];exact ho24
  omega
 refine Zu _ rfl<|Zc<|JLM rfl<|JLq (.func (.func 131) ⟨[pp bw 0]⟩ ⟨[]⟩) (Pu.makeFunc rfl rfl)<|JAn rfl<|Zc<|JLM rfl<|JLm yi<|XI (Sub.cons 2 rfl (Sub.cons 2 rfl (Sk (Sk Sub.nil))))<|Oi rfl call131 rfl (fun hin=>Jk h rs (128::(replicate (zN rs.length) 0++lnB n i)) _ bw _ _ _ _ hl ho (VI howni (by omega) (hin 0 _ rfl)) hbr (by have:=Fa rs.length n;rw [VR,show 8=i by omega] at this;exact this) (by omega) (GK.mono (Hle.hu _ _) hG)) rfl ?_
 rintro w25 _ ⟨u25,k25,rfl,ho25⟩
 refine Za<|Zf<|Zc<|JLM rfl<|Za<|Zh<|Zv (fun k ρ M=>∃ (i3:Nat) (s:Sm),ZR ρ [(0,pp bw 0),(2,pp b1 0),(46,iv ((i3:Int)))]=ρ∧Sub [(BX b1 (sC s) 38),(BX bw ((uC ((Yi h (rs++(128::(replicate (zN rs.length) 0++lnB n i)))).1))++([u25,iv ((n:Int))]:List Value)) 177),k25,qi] M∧i3≤32∧s=NK ((Yi h (rs++(128::(replicate (zN rs.length) 0++lnB n i)))).1) i3∧k=32-i3) _ ⟨0,zS,Zj rfl,(Sub.cons 3 rfl (Sk (Sk (Sk Sub.nil)))),Nat.zero_le _,rfl,rfl⟩ ?_
 rintro _ ρ26 _ ⟨i3,s,e27,hm30,hi3,hs,rfl⟩
 obtain ⟨ρ31,rfl⟩:=Zo e27
 clear e27
 refine ZD hm30<|Zc<|JLn (Pu.lss rfl rfl)<|Za<|Zf<|ZF rfl (fun h32=>?_) (fun h32=>?_)
 ·have h32n:i3<32:=by omega
  refine Zk<|Zf<|Zh<|Zc<|JLM rfl<|JAn rfl<|Zd<|JLM rfl<|JLM rfl<|JLM rfl<|JLq (iv (((i3 / 4:Nat):Int))) (Pu.quo rfl rfl (by decide) ((congrArg IntKind.i64.wrap (show Int.tdiv (i3:Int) 4=((i3 / 4:Nat):Int) from rfl)).trans (w64 (by omega)))) ?_
  refine JLq (pp bw 0) (Pu.nilCheck rfl)<|JLq (pp bw 0) (XL rfl rfl)<|JLq (pp bw 0) (N3 rfl rfl)<|JLq (pp bw (0+(i3 / 4)*1)) (ZcB (i3 / 4) YG ZK rfl rfl rfl (by omega))<|JLr (Zb ZK rfl (Zcu 1 rfl) (Ed (XF (by have hbl:List.length ((Yi h (rs++(128::(replicate (zN rs.length) 0++lnB n i)))).1)=8:=(Xz hl).1;rw [hbl];omega)))<|JLM rfl<|JLq (iv (((i3 % 4:Nat):Int))) (Pu.rem rfl rfl (by decide) (show Int.tmod (i3:Int) 4=((i3 % 4:Nat):Int) from rfl))<|JLq (iv (((i3 % 4*8:Nat):Int))) (ZcP rfl rfl ((w64 (by omega)).trans (by omega)))<|JLq (iv (((24-i3 % 4*8:Nat):Int))) (ZcS rfl rfl ((w64 (by omega)).trans (by omega)))<|JLq (.int .u32 (((((Yi h (rs++(128::(replicate (zN rs.length) 0++lnB n i)))).1).getD (i3 / 4) 0) >>> (24-i3 % 4*8)).toNat:Int)) (ZcV (24-i3 % 4*8) rfl rfl rfl (by omega)) ?_)
  have hlo33:=Ai ((((Yi h (rs++(128::(replicate (zN rs.length) 0++lnB n i)))).1).getD (i3 / 4) 0) >>> (24-i3 % 4*8))
  refine JLq (.int .u8 (lo8 ((((Yi h (rs++(128::(replicate (zN rs.length) 0++lnB n i)))).1).getD (i3 / 4) 0) >>> (24-i3 % 4*8)))) (Zdf Ik Ru5 rfl)<|JLq (pp b1 (0+i3*1)) (ZcB i3 BP ty5 rfl rfl rfl (by omega))<|JLr (Ze 0 (vs:=[.int .u8 (lo8 ((((Yi h (rs++(128::(replicate (zN rs.length) 0++lnB n i)))).1).getD (i3 / 4) 0) >>> (24-i3 % 4*8)))]) (l:=sC (Vector.setIfInBounds s i3 (UInt8.ofNat (lo8 ((((Yi h (rs++(128::(replicate (zN rs.length) 0++lnB n i)))).1).getD (i3 / 4) 0) >>> (24-i3 % 4*8))).toNat))) ty5 rfl rfl rfl rfl rfl (Zg rfl Zq) (GQ (by omega) (by omega))<|Za<|Zd<|JLn (Zcy rfl rfl (by omega))<|JLM rfl<|Za<|⟨_,?_,(i3+1),(Vector.setIfInBounds s i3 (UInt8.ofNat (lo8 ((((Yi h (rs++(128::(replicate (zN rs.length) 0++lnB n i)))).1).getD (i3 / 4) 0) >>> (24-i3 % 4*8))).toNat)),Zj rfl,(Sk (Sk (Sk (Sk Sub.nil)))),?_,?_,rfl⟩)
  ·omega
  ·omega
  rw [NK,hs]
 have h32n:32≤i3:=by omega
 refine Zu _ rfl<|Zc<|JLr (Zn Yq rfl (Zcu 0 rfl) (ZE rfl)<|JLr (Ze 0 (vs:=sC s) (l:=sC s) Yq rfl rfl rfl rfl rfl (VG _) (Yb rfl rfl)<|Za<|ZH<|⟨.agg ⟨sC s⟩,[],Ret.one rfl (RV.cell Yq rfl (Zcu 0 rfl) (ZE rfl)),Sub.nil,?_⟩))
 obtain rfl:i3=32:=by omega
 obtain rfl:i=8:=by omega
 exact ⟨by rw [hs,PL];rfl,rfl⟩
set_option maxHeartbeats 2000000 in
theorem Jd (l:List Int) (v:Value) (H:Heap) (hv:byR H v l) (hby:∀ x∈l,0≤x∧x≤255) (hz:l.length≤1000000) (hG:GK H):CT prog 84 ⟨[v]⟩ [] H (fun r N=>r=.agg ⟨sC (sha l)⟩∧N=[]):=by
 refine Zl func84 rfl rfl<|Zc<|JLr (Zp (l:=sC zS) zeroValue38 rfl fun b1=>Za<|Zc<|Jc call130 rfl (fun hin=>A3 _ (GK.mono (Hle.hu _ _) hG)) rfl ?_)
 rintro _ _ ⟨rfl,rfl⟩
 refine JLq (.agg ⟨(uC beW)++([nS,iv 0]:List Value)⟩) (Pu.build (pv:=[(0,.agg ⟨(uC beW)++([nS,iv 0]:List Value)⟩)]) (l:=(uC beW)++([nS,iv 0]:List Value)) rfl (ZaC rfl _ _ _ _))<|JLr (Zp (l:=(uC (replicate 8 0))++([nS,iv 0]:List Value)) zeroValue177 rfl fun b2=>JLr (Ze 0 (vs:=(uC beW)++([nS,iv 0]:List Value)) (l:=(uC beW)++([nS,iv 0]:List Value)) ZaZ rfl rfl rfl rfl (ZW ((ZO _).trans rfl) rfl) (Y5 (Ve _) (Zg rfl (Zg rfl Zq))) (Yb (n:=10) (ZW ((ZO _).trans (length_replicate ..)) rfl) (ZW ((ZO _).trans rfl) rfl))<|Za<|Zc<|JLm v ?_))
 obtain ⟨a3,cap3,hv3⟩:=hv.rd.sl
 have hle3:=hv.rd.le
 refine JLn (Zcv Yl hv3)<|JLq (pp b2 0) (XL rfl rfl)<|JLq (pp b2 9) (JX rfl rfl)<|JLr (Ze 0 (vs:=[iv ((l.length:Int))]) (l:=(uC beW)++([nS,iv ((l.length:Int))]:List Value)) ty3 rfl rfl rfl rfl rfl (Zg rfl Zq) (OA (n:=8) (i:=1) ((ZO _).trans rfl) rfl)<|Za<|Zc<|JLm v<|XI (Sk (Zcz (Sk Sub.nil)))<|Oi rfl call131 rfl (fun hin=>Jk beW ([]) l _ b2 _ _ _ _ rfl (show Own 5 1 _ (Yk []) [] from Own.nil) (byR.mono (Hle.hu _ _) hv) (fun x hx=>by cases hx) hby (by simp;omega) (GK.mono (Hle.hu _ _) hG)) rfl ?_)
 rintro w4 _ ⟨u4,k4,rfl,ho4⟩
 refine Za<|Zc<|XI (Sk (Sk (Sk Sub.nil)))<|Oi rfl call132 rfl (fun hin=>Ba ((Yi beW (([])++l)).1) ((Yi beW (([])++l)).2) (l.length) b2 _ _ _ (Xz rfl).1 ho4 (KO (h:=beW) hby).2 (Xz (b:=l) (h:=beW) rfl).2 (by omega) (GK.mono (Hle.hu _ _) hG)) rfl ?_
 rintro _ _ ⟨rfl,rfl⟩
 refine JLr (Ze 0 (vs:=sC (endS ((Yi beW (([])++l)).1) ((Yi beW (([])++l)).2) (l.length))) (l:=sC (endS ((Yi beW (([])++l)).1) ((Yi beW (([])++l)).2) (l.length))) Yq rfl rfl rfl rfl rfl (VG _) (Yb rfl rfl)<|Za<|ZH<|⟨.agg ⟨sC (endS ((Yi beW (([])++l)).1) ((Yi beW (([])++l)).2) (l.length))⟩,[],Ret.one rfl (RV.cell Yq rfl (Zcu 0 rfl) (ZE rfl)),Sub.nil,?_⟩)
 exact ⟨by rw [Nw];rfl,rfl⟩
theorem NN (l:List Int) (n:Nat) (v:Value) (k:Zi) (H:Heap) (ho:Own 5 1 v (Yk l) k) (hz:l.length≤10000000) (hn:n≤1099511627776):CT prog 183 ⟨[v,iv ((n:Int))]⟩ [k] H (fun r N=>∃ k,N=[k]∧Own 5 1 r (Yk (l++Y2 n)) k):=by
 refine Zl func183 rfl rfl<|Zc<|JAn rfl<|Zf<|Zh<|Zv (fun k ρ M=>∃ (m:Nat) (p:List Int) (y:Value) (q1:Zi),ZR ρ [(0,y),(1,iv ((m:Int))),(4,nS)]=ρ∧Sub [q1] M∧Own 5 1 y (Yk p) q1∧p++Y2 m=l++Y2 n∧m≤n∧k=2*m+1) _ ⟨n,l,v,k,Zj rfl,(Sk Sub.nil),ho,rfl,(Nat.le_refl _),rfl⟩ ?_
 rintro _ ρ1 _ ⟨m,p,y,q1,e2,hm5,hown,hinv,hmn,rfl⟩
 obtain ⟨ρ6,rfl⟩:=Zo e2
 clear e2
 refine ZD hm5<|Zf<|Zc<|JLM rfl<|JLn (Pu.geq rfl rfl)<|Za<|ZF rfl (fun h7=>?_) (fun h7=>?_)
 ·refine Zk<|Zh<|Zf ?_
  have hpl:p.length+(Y2 m).length=l.length+(Y2 n).length:=by rw [← length_append,← length_append,hinv]
  have hn6:=WD (n:=n) (by omega)
  refine Zd<|JLm y<|JLM rfl<|JLq (iv (((m % 128:Nat):Int))) (Pu.rem rfl rfl (by decide) (show Int.tmod (m:Int) 128=((m % 128:Nat):Int) from rfl))<|JLn (ZcG rfl rfl (by first | omega | (constructor <;> omega)))<|JLq (.int .u8 (((m % 128:Nat):Int)+128)) (ZcM Ru3 Ru5 rfl (w8b (by omega)))<|JLr (Zm (vs:=[.int .u8 (((m % 128:Nat):Int)+128)]) [[.int .u8 (((m % 128:Nat):Int)+128)]] Yl el5 rfl rfl (al1 rfl) rfl (by decide) fun b8 k8 ho8 hk8=>?_)
  have hlens9:∀ e∈([[.int .u8 (((m % 128:Nat):Int)+128)]]:List (List Value)),List.length e=1:=al1 rfl
  have hoks9:∀ e∈([[.int .u8 (((m % 128:Nat):Int)+128)]]:List (List Value)),okc e:=al1 (Zg rfl Zq)
  refine JLr (Zz (i:=1) (n:=1) (es':=[[.int .u8 (((m % 128:Nat):Int)+128)]]) Yl Yl (Or.inl rfl) el5 rfl rfl rfl hown (fun F w m=>Src.row (((ZcD 0 rfl (by rw [hk8];exact mem_cons_self))).heap m) (ZE (Zw hlens9))) rfl hlens9 hoks9 (by decide) (by rw [Z8];simp;omega) fun v9 k9 ho9=>?_)
  rw [X3] at ho9
  refine JLa v9<|Za<|Zd<|JLM rfl<|JLq (iv (((m / 128:Nat):Int))) (Pu.quo rfl rfl (by decide) ((congrArg IntKind.i64.wrap (show Int.tdiv (m:Int) 128=((m / 128:Nat):Int) from rfl)).trans (w64 (by omega))))<|JAn rfl<|⟨_,?_,(m / 128),(p++[((m % 128+128:Nat):Int)]),v9,k9,Zj rfl,(Sd (Sk Sub.nil)),?_,?_,?_,rfl⟩
  ·omega
  ·simpa using ho9
  ·rw [QD (by omega)] at hinv;rw [← hinv];simp
  omega
 refine Zu _ rfl<|Zf ?_
 have hpl:p.length+(Y2 m).length=l.length+(Y2 n).length:=by rw [← length_append,← length_append,hinv]
 have hn6:=WD (n:=n) (by omega)
 refine Zd<|JLm y<|JLM rfl<|JLq (.int .u8 ((m:Int))) (ZcM Ru3 Ru5 rfl (w8b (by omega)))<|JLr (Zm (vs:=[.int .u8 ((m:Int))]) [[.int .u8 ((m:Int))]] Yl el5 rfl rfl (al1 rfl) rfl (by decide) fun b10 k10 ho10 hk10=>?_)
 have hlens11:∀ e∈([[.int .u8 ((m:Int))]]:List (List Value)),List.length e=1:=al1 rfl
 have hoks11:∀ e∈([[.int .u8 ((m:Int))]]:List (List Value)),okc e:=al1 (Zg rfl Zq)
 refine JLr (Zz (i:=1) (n:=1) (es':=[[.int .u8 ((m:Int))]]) Yl Yl (Or.inl rfl) el5 rfl rfl rfl hown (fun F w m=>Src.row (((ZcD 0 rfl (by rw [hk10];exact mem_cons_self))).heap m) (ZE (Zw hlens11))) rfl hlens11 hoks11 (by decide) (by rw [Z8];simp;omega) fun v11 k11 ho11=>?_)
 rw [X3] at ho11
 refine JLa v11<|Za<|ZC v11 [k11] (Sd (Sk Sub.nil)) (?_)
 rw [SI (by omega)] at hinv
 exact ⟨_,rfl,by rw [← hinv];exact ho11⟩
set_option maxHeartbeats 4000000 in
theorem LR:∀ (x:It) (l:List Int) (v:Value) (k:Zi) (cs:List Value) (H:Heap),RIt H cs x→Own 5 1 v (Yk l) k→gdI x→l.length+(Ya x).length≤1000000→CT prog 144 ⟨[v,.agg ⟨cs⟩]⟩ [k] H (fun r N=>∃ k,N=[k]∧Own 5 1 r (Yk (l++Ya x)) k):=by
 intro x
 induction x using It.ind with
 | h kd nm tx kids ih=>
 intro l v k cs H ht ho hg hz
 obtain ⟨kv,rfl,hk,hm,hks⟩:=RIt_mk.1 ht
 rw [gdI] at hg
 obtain ⟨nn,rfl⟩:=Int.eq_ofNat_of_zero_le hg.2.1.1
 have hle:=hks.le
 have hn6:=WD (n:=nn) (by omega)
 have hs6:=WD (n:=tx.size) (by omega)
 have htl:=Nq hg.2.2.1
 have hkl:kids.length≤1000000:=by have:=PM hg.2.2.2;rw [Ya] at hz;simp only [length_cons,length_append] at hz;split at hz <;> simp at hz <;> omega
 have hk6:=WD (n:=kids.length) (by omega)
 have hP:(l++[hdE kd tx kids.length]++Y2 nn++txE tx++(if kids.length=0 then [] else Y2 kids.length)).length+(YY kids).length≤1000000:=by
  rw [Ya] at hz;by_cases h0:kids.length=0
  ·rw [if_pos h0] at hz ⊢;obtain rfl:=eq_nil_of_length_eq_zero h0;simp [YY] at hz ⊢;omega
  ·rw [if_neg h0] at hz ⊢;simp at hz ⊢;omega
 have hP2:(l++[hdE kd tx kids.length]++Y2 nn++txE tx).length≤1000000:=by rw [length_append] at hP;omega
 have hP1:(l++[hdE kd tx kids.length]++Y2 nn).length≤1000000:=by rw [length_append] at hP2;omega
 have hP0:l.length≤1000000:=by omega
 refine Zl func144 rfl rfl<|Zc<|JLr (Zr (l:=[iv kd,iv ((nn:Int)),.string tx,kv]) rfl rfl fun b1=>JAn rfl<|Zc<|JLq (pp b1 0) (RX rfl rfl)<|JLr (Zb ty3 rfl (Zcu 0 rfl) rfl<|JAn rfl<|Zf ?_))
 refine Zc<|JLq (pp b1 2) (Vp rfl rfl)<|JLr (Zb ty9 rfl (Zcu 0 rfl) rfl<|JLn (Zc3 rfl rfl)<|Za<|UR (N:=fun ρ M=>∃ (w1:Int),(w1=kd+(if tx=⟨#[]⟩ then 0 else 64))∧ρ 0=v∧ρ 3=pp b1 0∧ρ 4=nS∧ρ 5=iv w1∧M=[(BX b1 [iv kd,iv ((nn:Int)),.string tx,kv] 82),k]) ?_ ?_)
 ·refine Zs rfl (fun h2=>?_) (fun h2=>?_)
  ·replace h2:=nt h2
   replace h2:=df h2
   refine Zd<|JLM rfl<|JLn (ZcG rfl rfl (by omega))<|JLA rfl<|Za ?_
   exact ⟨(kd+64),(by rw [if_neg h2]),rfl,rfl,rfl,rfl,rfl⟩
  replace h2:=nf h2
  replace h2:=dt h2
  refine Zk ?_
  exact ⟨kd,(by rw [if_pos (by have z:=h2;simpa using z)];omega),rfl,rfl,rfl,rfl,rfl⟩
 rintro ρ3 _ ⟨w1,h_w1,e4,e5,e6,e7,rfl⟩
 obtain ⟨ρ8,rfl⟩:=Zo (uc e4 (uc e5 (uc e6 (uc e7 un))))
 clear e4 e5 e6 e7
 refine Zf<|Zc<|JLq (pp b1 3) (YS rfl rfl)<|JLr (Zb Ww rfl (Zcu 0 rfl) rfl ?_)
 obtain ⟨a9,cap9,hv9⟩:=hks.sl
 have hle9:=hks.le
 refine JLn (Zcv Xl hv9)<|JLn (Pu.gtr rfl rfl)<|Za<|UR (N:=fun ρ M=>∃ (w2:Int),(w2=hdE kd tx kids.length)∧ρ 0=v∧ρ 3=pp b1 0∧ρ 4=nS∧ρ 5=iv w2∧M=[(BX b1 [iv kd,iv ((nn:Int)),.string tx,kv] 82),k]) ?_ ?_
 ·refine ZF rfl (fun h10=>?_) (fun h10=>?_)
  ·refine Zd<|JLM rfl<|JLn (ZcG rfl rfl (by omega))<|JLA rfl<|Za ?_
   exact ⟨(w1+128),(by unfold hdE;rw [h_w1,if_neg (show ¬ kids.length=0 by omega)]),rfl,rfl,rfl,rfl,rfl⟩
  refine Zk ?_
  exact ⟨w1,(by unfold hdE;rw [h_w1,if_pos (show kids.length=0 by omega),Int.add_zero]),rfl,rfl,rfl,rfl,rfl⟩
 rintro ρ11 _ ⟨w2,h_w2,e12,e13,e14,e15,rfl⟩
 obtain ⟨ρ16,rfl⟩:=Zo (uc e12 (uc e13 (uc e14 (uc e15 un))))
 clear e12 e13 e14 e15
 refine Zf ?_
 have hw2:0≤w2∧w2<256:=by rw [h_w2];unfold hdE;split <;> split <;> omega
 refine ZI mixed #[0,0,2,6,15,0,32,127,255] 7 (sm 20 7) [(4,8)] [(3,fun _ _ vw qw=>∃ b k,vw=.slice (some ⟨b,0,none⟩) 1 1∧qw=[k]∧Own 5 1 (.slice (some ⟨b,0,none⟩) 1 1) [[.int .u8 w2]] k∧k=(BX b (flatten [[.int .u8 w2]]) 5)),(4,fun _ _ vw qw=>∃ k,qw=[k]∧Own 5 1 vw (Yk l++[[.int .u8 w2]]) k)] rfl (by kernel_rfl) rfl (by kernel_rfl)<|Dm v<|DM (fun _=>rfl) ?_
 refine Dq (.int .u8 w2) (fun _=>ZcM Ru3 Ru5 rfl (w8b (by omega)))<|Dr rfl (fun _=>Zm (vs:=[.int .u8 w2]) [[.int .u8 w2]] Yl el5 rfl rfl (al1 rfl) rfl (by decide) fun b k h1 h2=>⟨[k],by rw [Z4 rfl];exact Sub.refl,b,k,rfl,rfl,h1,h2⟩) (fun _ _ ⟨b19,k19,e1,e2,ho19,hk19⟩=>?_);subst e1 e2
 have hlens20:∀ e∈([[.int .u8 w2]]:List (List Value)),List.length e=1:=al1 rfl
 have hoks20:∀ e∈([[.int .u8 w2]]:List (List Value)),okc e:=al1 (Zg rfl Zq)
 refine Dr rfl (fun _=>Zz (i:=2) (n:=1) (es':=[[.int .u8 w2]]) Yl Yl (Or.inl rfl) el5 rfl rfl rfl ho (fun F w m=>Src.row (((ZcD 0 rfl (by rw [hk19];exact mem_cons_self))).heap m) (ZE (Zw hlens20))) rfl hlens20 hoks20 (by decide) (by rw [Z8];simp at *;omega) fun v k h1=>⟨[k],Aj rfl rfl,k,rfl,h1⟩) ?_;rintro v20 _ ⟨k20,rfl,ho20⟩
 rw [X3] at ho20
 refine Dq (pp b1 1) (fun _=>RW rfl rfl)<|Dl1 ty3 (Zcu 0 rfl) rfl<|ZM (M':=[k20,k19,(BX b1 [iv kd,iv ((nn:Int)),.string tx,kv] 82)]) rfl ?_
 show JL _ _ _ [_,_] _ _ _
 refine ZG 0 rfl call183 rfl rfl (fun hin=>NN (l++[w2]) nn _ _ _ ho20 (by simp at *;omega) (by omega)) rfl ?_
 rintro v21 _ ⟨k21,rfl,ho21⟩
 refine JLa v21<|Za<|Zf<|Zc<|JLq (pp b1 2) (Vp rfl rfl)<|JLr (Zb ty9 rfl (Zcu 2 rfl) rfl<|JLn (Zc3 rfl rfl)<|Za<|UR (N:=fun ρ M=>∃ (y3:Value) (q3c:Zi),(Own 5 1 y3 (Yk (l++[hdE kd tx kids.length]++Y2 nn++txE tx)) q3c)∧ρ 0=y3∧ρ 3=pp b1 0∧ρ 4=nS∧M=[q3c,k19,(BX b1 [iv kd,iv ((nn:Int)),.string tx,kv] 82)]) ?_ ?_)
 ·refine Zs rfl (fun h22=>?_) (fun h22=>?_)
  ·replace h22:=nt h22
   replace h22:=df h22
   refine ZI mixed #[0,0,2,6,15,0,32,127,255] 7 (sm 31 7) [(4,7)] [(4,fun _ _ vw qw=>∃ k,qw=[k]∧Own 5 1 vw (Yk (l++[w2]++Y2 nn++Y2 (tx.size))) k)] rfl (by kernel_rfl) rfl (by kernel_rfl)<|Dm v21<|Dq (pp b1 2) (fun _=>Vp rfl rfl)<|Dl1 ty9 (Zcu 2 rfl) rfl<|Dn (fun _=>Zc4 Ru9 rfl) ?_
   refine Dy 0 rfl rfl (fun _=>rfl) call183 (fun _=>rfl) rfl (fun hin=>NN (l++[w2]++Y2 nn) (tx.size) _ _ _ ho21 (by simp at *;omega) (by omega)) (fun _=>rfl) ?_
   rintro v24 _ ⟨k24,rfl,ho24⟩
   refine Dq (pp b1 2) (fun _=>Vp rfl rfl)<|Dl1 ty9 (Zcu 1 rfl) rfl<|ZM (M':=[k24,k19,(BX b1 [iv kd,iv ((nn:Int)),.string tx,kv] 82)]) rfl ?_
   show JL _ _ _ [_,_] _ _ _
   refine JLr (Zz (i:=0) (n:=tx.size) (es':=Yk (sB tx)) Yl Ru9 (Or.inr rfl) el5 rfl rfl rfl ho24 (fun F w m=>DP _) (by rw [Z8,Vg]) (Um _) (S8 _) (by decide) (by rw [Z8];simp at *;omega) fun v25 k25 ho25=>?_)
   rw [← P2] at ho25
   refine JLa v25<|Za ?_
   exact ⟨v25,k25,(by have z:=ho25;unfold txE;rw [if_neg h22];simpa [h_w2] using z),rfl,rfl,rfl,rfl⟩
  replace h22:=nf h22
  replace h22:=dt h22
  refine Zk ?_
  exact ⟨v21,k21,(by have z:=ho21;unfold txE;rw [if_pos (by have z:=h22;simpa using z)];simpa [h_w2] using z),rfl,rfl,rfl,rfl⟩
 rintro ρ26 _ ⟨y3,q3c,how3,e27,e28,e29,rfl⟩
 obtain ⟨ρ30,rfl⟩:=Zo (uc e27 (uc e28 (uc e29 un)))
 clear e27 e28 e29
 refine Zf<|Zc<|JLq (pp b1 3) (YS rfl rfl)<|JLr (Zb Ww rfl (Zcu 2 rfl) rfl ?_)
 obtain ⟨a31,cap31,hv31⟩:=hks.sl
 have hle31:=hks.le
 refine JLn (Zcv Xl hv31)<|JLn (Pu.gtr rfl rfl)<|Za<|UR (N:=fun ρ M=>∃ (y4:Value) (q4c:Zi),(Own 5 1 y4 (Yk (l++[hdE kd tx kids.length]++Y2 nn++txE tx++(if kids.length=0 then [] else Y2 kids.length))) q4c)∧ρ 0=y4∧ρ 3=pp b1 0∧ρ 4=nS∧M=[q4c,k19,(BX b1 [iv kd,iv ((nn:Int)),.string tx,kv] 82)]) ?_ ?_
 ·refine ZF rfl (fun h32=>?_) (fun h32=>?_)
  ·refine Zd<|JLm y3<|JLq (pp b1 3) (YS rfl rfl)<|JLr (Zb Ww rfl (Zcu 2 rfl) rfl ?_)
   obtain ⟨a33,cap33,hv33⟩:=hks.sl
   have hle33:=hks.le
   refine JLn (Zcv Xl hv33)<|ZG 0 rfl call183 rfl rfl (fun hin=>NN (l++[hdE kd tx kids.length]++Y2 nn++txE tx) (kids.length) _ _ _ how3 (by simp at *;omega) (by omega)) rfl ?_
   rintro v34 _ ⟨k34,rfl,ho34⟩
   refine JLa v34<|Za ?_
   exact ⟨v34,k34,(by have z:=ho34;rw [if_neg (by omega)];simpa using z),rfl,rfl,rfl,rfl⟩
  refine Zk ?_
  exact ⟨y3,q3c,(by have z:=how3;rw [if_pos (by omega)];simpa using z),rfl,rfl,rfl,rfl⟩
 rintro ρ35 _ ⟨y4,q4c,how4,e36,e37,e38,rfl⟩
 obtain ⟨ρ39,rfl⟩:=Zo (uc e36 (uc e37 (uc e38 un)))
 clear e36 e37 e38
 refine Zf<|Zc<|JLq (pp b1 3) (YS rfl rfl)<|JLr (Zb Ww rfl (Zcu 2 rfl) rfl ?_)
 obtain ⟨a40,cap40,hv40⟩:=hks.sl
 have hle40:=hks.le
 refine JLn (Zcv Xl hv40)<|JLM rfl<|Za<|Zh<|Zv (fun k ρ M=>∃ (j:Nat) (y:Value) (q1:Zi),ZR ρ [(0,y),(3,pp b1 0),(4,nS),(50,iv ((kids.length:Int))),(51,iv ((j:Int)))]=ρ∧Sub [q1,(BX b1 [iv kd,iv ((nn:Int)),.string tx,kv] 82)] M∧j≤kids.length∧Own 5 1 y (Yk ((l++[hdE kd tx kids.length]++Y2 nn++txE tx++(if kids.length=0 then [] else Y2 kids.length))++YY (kids.take j))) q1∧k=kids.length-j) _ ⟨0,y4,q4c,Zj rfl,(Sk (Sd (Sk Sub.nil))),Nat.zero_le _,(by have z:=how4;simpa [YY] using z),rfl⟩ ?_
 rintro _ ρ41 _ ⟨j,y,q1,e42,hm47,hj,hown,rfl⟩
 obtain ⟨ρ48,rfl⟩:=Zo e42
 clear e42
 refine ZD hm47<|Zc<|JLn (Pu.lss rfl rfl)<|Za<|Zf<|ZF rfl (fun h49=>?_) (fun h49=>?_)
 ·have h49n:j<kids.length:=by omega
  have hs1:=Qh h49n
  have hgj:=SS hg.2.2.2 _ (getElem_mem h49n)
  refine Zk<|Zf<|Zh<|Zc<|JLM rfl<|JAn rfl<|Zd<|JLm y<|JLq (pp b1 3) (YS rfl rfl)<|JLr (Zb Ww rfl (Zcu 1 rfl) rfl<|JLM rfl ?_)
  obtain ⟨b50,o50,cap50,row50,T50,fr50,cs50,hv50,hb50,hs50,hE50⟩:=hks.get j (by omega)
  obtain ⟨ki50,rfl,hik50,hin50,hks50⟩:=Ut hE50
  refine JLn (Zcw j Xl Y3 hv50 rfl rfl (by omega))<|JLr (Zn Y3 rfl (Zcx hb50) hs50<|ZG 0 rfl call144 rfl rfl (fun hin=>ih _ (getElem_mem h49n) _ _ _ _ _ (RIt.mono (Hle.hu _ _) (Us hik50 hin50 hks50)) hown hgj (by rw [length_append];omega)) rfl ?_)
  rintro v51 _ ⟨k51,rfl,ho51⟩
  refine JLa v51<|Za<|Zd<|JLn (Zcy rfl rfl (by omega))<|JLM rfl<|Za<|⟨_,?_,(j+1),v51,k51,Zj rfl,(Sk (Sk Sub.nil)),?_,?_,rfl⟩
  ·omega
  ·omega
  rw [Se h49n,← append_assoc];exact ho51
 have h49n:kids.length≤j:=by omega
 refine Zu _ rfl<|Zc<|JLm y<|JLa y<|Za<|ZC y [q1] (Sk Sub.nil) (?_)
 refine ⟨_,rfl,?_⟩
 have z:=hown
 rw [take_of_length_le h49n] at z
 rw [Ya]
 by_cases h0:kids.length=0
 ·rw [if_pos h0] at z ⊢;obtain rfl:=eq_nil_of_length_eq_zero h0;simpa [YY] using z
 rw [if_neg h0] at z ⊢;simpa using z
set_option maxHeartbeats 2000000 in
theorem KF:∀ (x:It) (n lv:Int) (cs:List Value) (H:Heap),RIt H cs x→gdI x→0≤n→n+szI x≤5000→0≤lv→lv+dpI x≤251→CT prog 182 ⟨[.agg ⟨cs⟩,iv n,iv lv]⟩ [] H (fun v N=>v=.tuple ⟨[iv (n+szI x),iv 0]⟩∧N=[]):=by
 intro x
 induction x using It.ind with
 | h kd nm tx kids ih=>
 intro n lv cs H ht hg hn0 hnz hl0 hlv
 obtain ⟨kv,rfl,hk,hm,hks⟩:=RIt_mk.1 ht
 rw [gdI] at hg
 rw [szI] at hnz
 rw [dpI] at hlv
 have hle:=hks.le
 have hdn:=N6 kids
 refine Zl func182 rfl rfl<|Zc<|JLr (Zr (l:=[iv kd,iv nm,.string tx,kv]) rfl rfl fun b1=>JLA rfl<|JAn rfl<|Zf<|Zc<|JLM rfl<|JLn (Pu.gtr rfl rfl)<|Za ?_)
 refine ZF rfl (fun h2=>?_) (fun h2=>?_)
 ·exfalso;first | omega | (have z:=h2;simp at z;omega)
 refine Zk<|Zf<|Zc<|JLM rfl<|JLn (Pu.geq rfl rfl)<|Za<|ZF rfl (fun h3=>?_) (fun h3=>?_)
 ·exfalso;first | omega | (have z:=h3;simp at z;omega)
 refine Zk<|Zf<|Zc<|JLq (pp b1 0) (RX rfl rfl)<|JLr (Zb ty3 rfl (Zcu 0 rfl) rfl<|JLn (Pu.lss rfl rfl)<|JLM rfl<|ZA 3 [21,22,23] [(23,cond (decide (kd<1)) undef (.bool (decide (63<kd))))] ?_ fun f5=>?_)
 ·cases h4:(decide (kd<1)) with
  | false=>
   replace h4:=df h4
   refine JLq (pp b1 0) (RX rfl rfl)<|JLr (Zb ty3 rfl (Zcu 0 rfl) rfl<|JLn (Pu.gtr rfl rfl) ?_)
   exact Za ⟨⟨rfl,trivial⟩,rfl⟩
  | true=>
   exact ZJ rfl ⟨rfl,trivial⟩
 refine JLn (ZcC rfl rfl rfl)<|JLM rfl<|ZA 3 [26,27,28] [(28,cond ((decide (kd<1))||(decide (63<kd))) undef (.bool (decide (nm<0))))] ?_ fun f7=>?_
 ·cases h6:((decide (kd<1))||(decide (63<kd))) with
  | false=>
   obtain ⟨h6a,h6b⟩:=orF h6
   replace h6a:=df h6a
   replace h6b:=df h6b
   refine JLq (pp b1 1) (RW rfl rfl)<|JLr (Zb ty3 rfl (Zcu 0 rfl) rfl<|JLn (Pu.lss rfl rfl) ?_)
   exact Za ⟨⟨rfl,trivial⟩,rfl⟩
  | true=>
   exact ZJ rfl ⟨rfl,trivial⟩
 refine JLn (ZcC rfl rfl rfl)<|JLM rfl<|ZA 3 [31,32,33] [(33,cond (((decide (kd<1))||(decide (63<kd)))||(decide (nm<0))) undef (.bool (decide (1099511627776<nm))))] ?_ fun f9=>?_
 ·cases h8:(((decide (kd<1))||(decide (63<kd)))||(decide (nm<0))) with
  | false=>
   obtain ⟨h8a,h8b⟩:=orF h8
   obtain ⟨h8aa,h8ab⟩:=orF h8a
   replace h8aa:=df h8aa
   replace h8ab:=df h8ab
   replace h8b:=df h8b
   refine JLq (pp b1 1) (RW rfl rfl)<|JLr (Zb ty3 rfl (Zcu 0 rfl) rfl<|JLn (Pu.gtr rfl rfl) ?_)
   exact Za ⟨⟨rfl,trivial⟩,rfl⟩
  | true=>
   exact ZJ rfl ⟨rfl,trivial⟩
 refine JLn (ZcC rfl rfl rfl)<|Za<|Zs rfl (fun h10=>?_) (fun h10=>?_)
 ·exfalso;first | omega | (have z:=h10;simp at z;omega)
 obtain ⟨h10a,h10b⟩:=orF h10
 obtain ⟨h10aa,h10ab⟩:=orF h10a
 obtain ⟨h10aaa,h10aab⟩:=orF h10aa
 replace h10aaa:=df h10aaa
 replace h10aab:=df h10aab
 replace h10ab:=df h10ab
 replace h10b:=df h10b
 refine Zk<|Zf<|Zc<|JLq (pp b1 2) (Vp rfl rfl)<|JLr (Zb ty9 rfl (Zcu 0 rfl) rfl<|JLn (Zc4 Ru9 rfl)<|JLn (Pu.gtr rfl rfl)<|Za<|ZF rfl (fun h11=>?_) (fun h11=>?_))
 ·exfalso;first | omega | (have z:=h11;simp at z;omega)
 refine Zk<|Zc<|JLM rfl<|JLn (ZcG rfl rfl (by first | omega | (constructor <;> omega)))<|JAn rfl<|Zf<|Zc<|JLq (pp b1 3) (YS rfl rfl)<|JLr (Zb Ww rfl (Zcu 0 rfl) rfl ?_)
 obtain ⟨a12,cap12,hv12⟩:=hks.sl
 have hle12:=hks.le
 refine JLn (Zcv Xl hv12)<|JLM rfl<|Za<|Zh<|Zv (fun k ρ M=>∃ (j:Nat) (nn:Int),ZR ρ [(1,iv nn),(2,iv lv),(3,pp b1 0),(6,iv 0),(7,iv 0),(45,iv ((kids.length:Int))),(46,iv ((j:Int)))]=ρ∧Sub [(BX b1 [iv kd,iv nm,.string tx,kv] 82)] M∧j≤kids.length∧nn+Xu (kids.drop j)=n+1+Xu kids∧0≤nn∧k=kids.length-j) _ ⟨0,n+1,Zj rfl,(Sk Sub.nil),Nat.zero_le _,(by simp),(by omega),rfl⟩ ?_
 rintro _ ρ13 _ ⟨j,nn,e14,hm21,hj,hnn,hn1,rfl⟩
 obtain ⟨ρ22,rfl⟩:=Zo e14
 clear e14
 refine ZD hm21 ?_
 have hlen:=hks.le
 refine Zc<|JLn (Pu.lss rfl rfl)<|Za<|Zf<|ZF rfl (fun h23=>?_) (fun h23=>?_)
 ·have h23n:j<kids.length:=by omega
  have hs1:=Mu (getElem_mem h23n)
  have hs2:=Oy h23n
  have hd1:=Lm (getElem_mem h23n)
  have hgj:=SS hg.2.2.2 _ (getElem_mem h23n)
  refine Zk<|Zf<|Zh<|Zc<|JLM rfl<|JAn rfl<|Zc<|JLq (pp b1 3) (YS rfl rfl)<|JLr (Zb Ww rfl (Zcu 0 rfl) rfl<|JLM rfl ?_)
  obtain ⟨b24,o24,cap24,row24,T24,fr24,cs24,hv24,hb24,hs24,hE24⟩:=hks.get j (by omega)
  obtain ⟨ki24,rfl,hik24,hin24,hks24⟩:=Ut hE24
  refine JLn (Zcw j Xl Y3 hv24 rfl rfl (by omega))<|JLr (Zn Y3 rfl (Zcx hb24) hs24<|JLM rfl<|JLM rfl<|JLn (ZcG rfl rfl (by first | omega | (constructor <;> omega)))<|Jc call182 rfl (fun hin=>ih _ (getElem_mem h23n) _ _ _ _ (RIt.mono (Hle.hu _ _) (Us hik24 hin24 hks24)) hgj (by omega) (by omega) (by omega) (by omega)) rfl ?_)
  rintro _ _ ⟨rfl,rfl⟩
  refine JLM rfl<|JLn (Pu.extract rfl rfl)<|JLn (Pu.extract rfl rfl)<|JLA rfl<|JAn rfl<|Zf<|Zc<|JLM rfl<|JLq (.bool false) (show Pu _ _ _ (.bool (!decide ((0:Int)=0))) from Pu.neq rfl rfl)<|Za<|Zs (b:=false) rfl (fun h=>absurd h (by simp)) (fun _=>?_)
  refine Zk<|Zd<|JLM rfl<|JAn rfl<|Zd<|JLn (Zcy rfl rfl (by omega))<|JLM rfl<|Za<|⟨_,?_,(j+1),(nn+(szI (kids[j]):Int)),Zj rfl,(Sk Sub.nil),?_,?_,?_,rfl⟩
  ·omega
  ·omega
  ·omega
  omega
 have h23n:kids.length≤j:=by omega
 refine Zu _ rfl<|Zc<|JLM rfl<|JLA rfl<|JAn rfl<|ZH<|⟨.tuple ⟨[iv nn,iv 0]⟩,[],ZcE rfl (RV.tmp rfl) (RV.tmp rfl),Sub.nil,?_⟩
 rw [WU h23n,Xu] at hnn
 exact ⟨by rw [szI,show (n+((1+Xu kids:Nat):Int))=nn from by omega],rfl⟩
end
theorem RSms.at {h:Heap} {v:Value} {l:List Sm} (q:Hs.rdS RSm 32 h v l) (i:Nat) (hi:i<l.length):∃ b o cap row T fr,v=.slice (some ⟨b,o,none⟩) l.length cap∧h b=some (.cells ⟨row⟩ T fr)∧sub row (o+i*32) 32=some (sC (l.getD i zS)):=by
  obtain ⟨b,o,cap,row,T,fr,cs,h1,h2,h3,h4⟩:=q.get i hi
  refine ⟨b,o,cap,row,T,fr,h1,h2,?_⟩
  rw [h3,show cs=sC l[i] from h4,getD_eq_getElem?_getD,getElem?_eq_getElem hi];rfl
theorem CR {l:List Sm} {i:Nat} (hi:i<l.length):l.getD i zS=l[i]:=by rw [getD_eq_getElem?_getD,getElem?_eq_getElem hi];rfl
def smR (H:Heap) (v:Value) (l:List Sm):Prop:=∃ a cap,v=.slice a l.length cap∧l.length≤cap∧Hs.rdS RSm 32 H v l
theorem smR.rd {H:Heap} {v:Value} {l:List Sm} (h:smR H v l):Hs.rdS RSm 32 H v l:=by obtain ⟨_,_,_,_,h⟩:=h;exact h
theorem smR.mono {H H':Heap} {v:Value} {l:List Sm} (hh:Hle H H') (h:smR H v l):smR H' v l:=by obtain ⟨a,cap,e,h1,h⟩:=h;exact ⟨a,cap,e,h1,RSms.mono hh h⟩
theorem smR.own {T:TypeId} {v:Value} {l:List Sm} {k:Zi} {h:Heap} (o:Own T 32 v (sms l) k) (hn:l.length≤9223372036854775807) (hk:Has k h):smR h v l:=by
  have hr:=Wi o hn hk
  rcases id o.2 with ⟨rfl,h1,_⟩ | ⟨b,cap,sp,rfl,rfl,h3,h4⟩
  · have:l=[]:=by cases l;rfl;simp [sms] at h1
    subst this;exact ⟨none,0,rfl,by simp,hr⟩
  · refine ⟨_,cap,by rw [WN],?_,hr⟩
    rw [WN] at h4;exact h4
theorem smR.drop {h:Heap} {a:Option Addr} {N cap:Nat} {l:List Sm} (r:smR h (.slice a N cap) l) (n:Nat) (hn:n≤l.length):Hs.rdS RSm 32 h (.slice (if cap=n then a else a.map (·.add (n*32))) (N-n) (cap-n)) (l.drop n):=by
  obtain ⟨a',c',e,h1,a2,c2,e2,h2,h0⟩:=r
  cases e;cases e2
  refine ⟨_,_,by rw [length_drop],by rw [length_drop];omega,?_⟩
  by_cases hz:(l.drop n).length=0
  · exact .inl hz
  rw [length_drop] at hz
  rcases h0 with h0 | ⟨b,o,row,T,fr,e1,e2,e3⟩
  · omega
  · right
    have hc:¬ cap=n:=by omega
    refine ⟨b,o+n*32,row,T,fr,by rw [if_neg hc,e1];simp [Addr.add],e2,rows.mk fun i hi=>?_⟩
    rw [length_drop] at hi
    obtain ⟨cs,h2,h3⟩:=e3.get (n+i) (by omega)
    exact ⟨cs,by rw [← h2];congr 1;omega,by rw [List.getElem_drop];exact h3⟩
section
variable {c:Cx} {H:Heap} {ρ:Nat→Value} {M:List Zi} {K:Value→List Zi→Prop} {d:Option Nat} {ot:TypeId} {pos:String} {af:Array Edge} {g:Option (Nat×Bool)} {x y:Operand}
end
section
variable {c:Cx} {H:Heap} {ρ:Nat→Value} {M:List Zi} {K:Value→List Zi→Prop} {d:Option Nat} {ot:TypeId} {pos:String} {af:Array Edge} {g:Option (Nat×Bool)} {x y:Operand}
end
end Go.Proofs.YtjdjmjgleadcfaaGreatDoor.Hs
