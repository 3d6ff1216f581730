import Derived.Test.YtjdjmjgleadcfaaGreatDoorCopze
import Derived.Lib.LaidTab
import Derived.ProofKit
import Derived.LaidMore
set_option linter.unusedVariables false
set_option linter.unusedSimpArgs false
set_option maxRecDepth 100000
open Go.Proofs.Tryz
open List (getElem_mem replicate mem_cons_self mem_cons not_mem_nil take_of_length_le getD_eq_getElem?_getD getElem?_eq_getElem mem_append length_cons length_set mem_map flatten map_cons length_replicate)
namespace Go.Proofs.YtjdjmjgleadcfaaGreatDoor.Hs
section
attribute [local irreducible] JL J CT wlo DT
set_option maxHeartbeats 4000000 in
theorem IE:∀ (q:Nat) (bM bS:Nat) (v:Value) (l:List Int) (L a s d m:Int) (H:Heap),L.toNat=q→Hs.rdS RB 1 H v l→0≤a→a+400*L≤1000000→ -200≤L→L≤60→0≤d→d+10*L≤10000→0≤m→m≤8→CT prog 113 ⟨[pp bM 0,iv d,iv m]⟩ [((BX bM [pp bS 0,iv L] 158))++((BX bS [v,iv a,.int .u64 s] 109))] H (fun r N=>∃ t cs k l' a' s',r=.agg ⟨cs⟩∧N=[((BX bM [pp bS 0,iv (l')] 158))++((BX bS [v,iv (a'),.int .u64 (s')] 109)),k]∧OT t cs k∧(ZV d m 0 t=0∧((sizeT t:Int)≤(L-l')+14*(max (L-1) 0-max (l'-1) 0)∧Yj t≤max (L-1) 0+9)∧X1 t)∧(l'≤L-1∧(L≤1→l'=L-1)∧(1≤L→ -3*(L-1)≤l'))∧(a≤a'∧a'≤a+100*(L-l'))):=by
 intro q
 induction q using Nat.strongRecOn with
 | _ q ih=>
 intro bM bS v l L a s d m H hq hv ha0 ha1 hL0 hL1 hd0 hd1 hm0 hm1
 have hdz20:dz 2=20:=rfl
 have hpz7:pz 2=7:=rfl
 refine Zl func113 rfl rfl<|ZF (M':=[(BX bM [pp bS 0,iv L] 158),(BX bS [v,iv a,.int .u64 s] 109)]) (Sub.flat Sub.refl (by simp))<|Zd<|JLr (Zr (l:=[pp bM 0]) rfl rfl fun b1=>JLr (Zr (l:=[iv d]) rfl rfl fun b2=>JLr (Zr (l:=[iv m]) rfl rfl fun b3=>JLr (Zk (l:=pkT 0 0 zS nS nS) zeroValue51 rfl fun b4=>Za<|Zd<|JLr (Zc XZ rfl (ZcK 3 rfl) rfl<|JLq (pp bM 0) (Pu.nilCheck rfl) ?_)))))
 refine JLq (pp bM 1) (Nx rfl rfl)<|JLr (Zc ty3 rfl (ZcK 4 rfl) rfl<|JLn (Zc2 rfl rfl (by first | omega | (constructor <;> omega)))<|JLq (pp bM 0) (Pu.nilCheck rfl)<|JLq (pp bM 1) (Nx rfl rfl)<|JLr (Zb 4 (vs:=[iv (L-1)]) (l:=[pp bS 0,iv (L-1)]) ty3 rfl rfl rfl rfl rfl (Zh rfl Zq) rfl<|Za<|Zd<|JLq (.func (.func 157) ⟨[]⟩ ⟨[pp b1 0,pp b2 0,pp b3 0]⟩) (Pu.makeFunc rfl rfl)<|JAn rfl<|Zg ?_))
 refine Ze<|JLr (Zc XZ rfl (ZcK 3 rfl) rfl<|JLq (pp bM 0) (Pu.nilCheck rfl)<|JLq (pp bM 0) (Y9 rfl rfl)<|JLr (Zc W5 rfl (ZcK 4 rfl) rfl<|Zs 5 rfl call22 rfl rfl (fun hin=>Yw _ _ _ _ _ _ (RBs.mono (Hle.hu _ _) hv) (by omega) (by omega) _) rfl ?_))
 rintro _ _ ⟨n5,a5,s5,rfl,rfl,hn5,ha5⟩
 refine JAn rfl<|Zg<|Zd<|JLr (Zc XZ rfl (ZcK 4 rfl) rfl<|JLq (pp bM 0) (Pu.nilCheck rfl)<|JLq (pp bM 1) (Nx rfl rfl)<|JLr (Zc ty3 rfl (ZcK 5 rfl) rfl<|JLn (Pu.leq rfl rfl)<|Za<|NW (N:=fun ρ M=>∃ (kj aj sj:Int),(0≤kj∧kj<14∧(L-1≤0→kj<4))∧(a≤aj∧aj≤a+2)∧ρ 3=pp b1 0∧ρ 4=pp b2 0∧ρ 5=pp b3 0∧ρ 6=pp b4 0∧ρ 7=.func (.func 157) ⟨[]⟩ ⟨[pp b1 0,pp b2 0,pp b3 0]⟩∧ρ 8=iv kj∧M=[(BX bS [v,iv aj,.int .u64 sj] 109),(BX b4 (pkT 0 0 zS nS nS) 51),(BX b3 [iv m] 3),(BX b2 [iv d] 3),(BX b1 [pp bM 0] 156),(BX bM [pp bS 0,iv (L-1)] 158)]) ?_ ?_))
 ·refine Zt rfl (fun h6=>?_) (fun h6=>?_)
  ·replace h6:=dt h6
   refine Ze<|JLr (Zc XZ rfl (ZcK 4 rfl) rfl<|JLq (pp bM 0) (Pu.nilCheck rfl)<|JLq (pp bM 0) (Y9 rfl rfl)<|JLr (Zc W5 rfl (ZcK 5 rfl) rfl<|Zs 0 rfl call22 rfl rfl (fun hin=>Yw _ _ _ _ _ _ (RBs.mono (Hle.hu _ _) hv) (by omega) (by omega) _) rfl ?_))
   rintro _ _ ⟨n7,a7,s7,rfl,rfl,hn7,ha7⟩
   refine JLA rfl<|Za ?_
   exact ⟨n7,a7,s7,(by omega),(by omega),rfl,rfl,rfl,rfl,rfl,rfl,rfl⟩
  replace h6:=df h6
  refine Zo ?_
  exact ⟨n5,a5,s5,(by omega),(by omega),rfl,rfl,rfl,rfl,rfl,rfl,rfl⟩
 rintro ρ8 _ ⟨kj,aj,sj,hkj,haj,e9,e10,e11,e12,e13,e14,rfl⟩
 obtain ⟨ρ15,rfl⟩:=Zi (uc e9 (uc e10 (uc e11 (uc e12 (uc e13 (uc e14 un))))))
 clear e9 e10 e11 e12 e13 e14
 refine Zg<|Zm<|Zd<|JLM rfl<|JLn (Pu.eql rfl rfl)<|JLM rfl<|ZK 2 [40,41] [(41,cond (decide (kj=0)) (.bool (decide (0<d))) undef)] ?_ fun f17=>?_
 ·cases h16:(decide (kj=0)) with
  | true=>
   replace h16:=dt h16
   refine JLr (Zc ty3 rfl (ZcK 3 rfl) rfl<|JLn (Pu.gtr rfl rfl) ?_)
   exact Za ⟨⟨rfl,trivial⟩,rfl⟩
  | false=>
   exact Z1 rfl ⟨rfl,trivial⟩
 refine JLn (ZcR rfl rfl rfl)<|JAn rfl<|Zt rfl (fun h18=>?_) (fun h18=>?_)
 ·obtain ⟨h18a,h18b⟩:=Xx h18
  replace h18a:=dt h18a
  replace h18b:=dt h18b
  refine Zg<|ZM mixed #[0,1,3,7,0,31,63,127] 5 [some 43,some 44,some 45,some 46,some 47] [] [] rfl (by kernel_rfl) rfl (by kernel_rfl)<|Dl1 XZ (ZcK 4 rfl) rfl<|Dq (pp bM 0) (fun _=>Pu.nilCheck rfl)<|Dq (pp bM 0) (fun _=>Y9 rfl rfl)<|Dl1 W5 (ZcK 5 rfl) rfl<|Dl1 ty3 (ZcK 3 rfl) rfl<|ZX (M':=[(BX bS [v,iv aj,.int .u64 sj] 109),(BX b4 (pkT 0 0 zS nS nS) 51),(BX b3 [iv m] 3),(BX b2 [iv d] 3),(BX b1 [pp bM 0] 156),(BX bM [pp bS 0,iv (L-1)] 158)]) rfl ?_
  show JL _ _ _ [_,_,_] _ _ _
  refine Zs 0 rfl call22 rfl rfl (fun hin=>Yw _ _ _ _ _ _ (RBs.mono (Hle.hu _ _) hv) (by omega) (by omega) _) rfl ?_
  rintro _ _ ⟨n19,a19,s19,rfl,rfl,hn19,ha19⟩
  refine Jc call33 rfl (fun hin=>S6 n19 (by unfold inI;omega) _) rfl ?_
  rintro _ _ ⟨cs20,k20,rfl,rfl,hO20⟩
  refine JLr (Zb 2 (vs:=cs20) (l:=cs20) Zu rfl rfl rfl rfl hO20.len hO20.ok (ZY (n:=36) rfl hO20.len)<|Za<|Zz<|⟨.agg ⟨cs20⟩,[((BX bM [pp bS 0,iv (L-1)] 158))++((BX bS [v,iv a19,.int .u64 s19] 109)),k20],Ret.one rfl (RV.cell Zu rfl (ZcK 2 rfl) (Zx hO20.len)),(ZcO (Sub.cons 6 rfl (Sub.cons 1 rfl (Sk Sub.nil)))),?_⟩)
  exact ⟨vaT n19,_,_,_,_,_,rfl,rfl,hO20,⟨Fx (by omega) (by omega),by simp only [vaT,nuT,sizeT,sizeTs,sizeCs,Yj,Yi,Yo];omega,by simp only [vaT,nuT,X1];exact ⟨WV,trivial,trivial⟩⟩,by omega,by omega⟩
 refine Zd<|JLM rfl<|JLn (Pu.eql rfl rfl)<|JLM rfl<|ZK 2 [54,55] [(55,cond (decide (kj=1)) (.bool (decide (0<m))) undef)] ?_ fun f22=>?_
 ·cases h21:(decide (kj=1)) with
  | true=>
   replace h21:=dt h21
   refine JLr (Zc ty3 rfl (ZcK 2 rfl) rfl<|JLn (Pu.gtr rfl rfl) ?_)
   exact Za ⟨⟨rfl,trivial⟩,rfl⟩
  | false=>
   exact Z1 rfl ⟨rfl,trivial⟩
 refine JLn (ZcR rfl rfl rfl)<|JAn rfl<|Zt rfl (fun h23=>?_) (fun h23=>?_)
 ·obtain ⟨h23a,h23b⟩:=Xx h23
  replace h23a:=dt h23a
  replace h23b:=dt h23b
  refine Zg<|ZM mixed #[0,1,3,7,0,31,63,127] 5 [some 57,some 58,some 59,some 60,some 61] [] [] rfl (by kernel_rfl) rfl (by kernel_rfl)<|Dl1 XZ (ZcK 4 rfl) rfl<|Dq (pp bM 0) (fun _=>Pu.nilCheck rfl)<|Dq (pp bM 0) (fun _=>Y9 rfl rfl)<|Dl1 W5 (ZcK 5 rfl) rfl<|Dl1 ty3 (ZcK 2 rfl) rfl<|ZX (M':=[(BX bS [v,iv aj,.int .u64 sj] 109),(BX b4 (pkT 0 0 zS nS nS) 51),(BX b3 [iv m] 3),(BX b2 [iv d] 3),(BX b1 [pp bM 0] 156),(BX bM [pp bS 0,iv (L-1)] 158)]) rfl ?_
  show JL _ _ _ [_,_,_] _ _ _
  refine Zs 0 rfl call22 rfl rfl (fun hin=>Yw _ _ _ _ _ _ (RBs.mono (Hle.hu _ _) hv) (by omega) (by omega) _) rfl ?_
  rintro _ _ ⟨n24,a24,s24,rfl,rfl,hn24,ha24⟩
  refine Jc call32 rfl (fun hin=>Zbl _ _) rfl ?_
  rintro _ _ ⟨rfl,rfl⟩
  refine JLr (Zb 1 (vs:=pkT 7 n24 zS nS nS) (l:=pkT 7 n24 zS nS nS) Zu rfl rfl rfl rfl rfl (ZR rfl rfl) (Yb ..)<|Za<|Zz<|⟨.agg ⟨pkT 7 n24 zS nS nS⟩,[((BX bM [pp bS 0,iv (L-1)] 158))++((BX bS [v,iv a24,.int .u64 s24] 109)),[]],Ret.one rfl (RV.cell Zu rfl (ZcK 1 rfl) (Z4 ..)),(ZcO (Sub.cons 5 rfl (Sk (ZcL Sub.nil)))),?_⟩)
  exact ⟨.mk 7 n24 zS [] [],_,_,_,_,_,rfl,rfl,SZ (by unfold inI;omega) (by unfold inI;omega),⟨Oh (by omega) (by omega),by simp only [vaT,nuT,sizeT,sizeTs,sizeCs,Yj,Yi,Yo];omega,by rw [X1];exact ⟨WV,trivial,trivial⟩⟩,by omega,by omega⟩
 refine Zd<|JLM rfl<|JLn (Pu.eql rfl rfl)<|JAn rfl<|Zt rfl (fun h25=>?_) (fun h25=>?_)
 ·replace h25:=dt h25
  refine Zd<|JLr (Zc XZ rfl (ZcK 4 rfl) rfl<|JLq (pp bM 0) (Pu.nilCheck rfl)<|JLq (pp bM 0) (Y9 rfl rfl)<|JLr (Zc W5 rfl (ZcK 5 rfl) rfl<|Zs 0 rfl call159 rfl rfl (fun hin=>QB _ _ _ _ _ _ (RBs.mono (Hle.hu _ _) hv) (by omega) (by omega) _ _ (by omega) (by omega) (by omega)) rfl ?_))
  rintro _ _ ⟨n26,a26,s26,rfl,rfl,hw26,ha26⟩
  refine Jc call158 rfl (fun hin=>Zb4 _ _) rfl ?_
  rintro _ _ ⟨rfl,rfl⟩
  refine JLr (Zb 1 (vs:=pkT 6 0 n26 nS nS) (l:=pkT 6 0 n26 nS nS) Zu rfl rfl rfl rfl rfl (ZR rfl rfl) (Yb ..)<|Za<|Zz<|⟨.agg ⟨pkT 6 0 n26 nS nS⟩,[((BX bM [pp bS 0,iv (L-1)] 158))++((BX bS [v,iv a26,.int .u64 s26] 109)),[]],Ret.one rfl (RV.cell Zu rfl (ZcK 1 rfl) (Z4 ..)),(ZcO (Sub.cons 5 rfl (Sk (ZcL Sub.nil)))),?_⟩)
  exact ⟨.mk 6 0 n26 [] [],_,_,_,_,_,rfl,rfl,SZ (by unfold inI;omega) (by unfold inI;omega),⟨FE,by simp only [vaT,nuT,sizeT,sizeTs,sizeCs,Yj,Yi,Yo];omega,by rw [X1];exact ⟨hw26,trivial,trivial⟩⟩,by omega,by omega⟩
 replace h25:=df h25
 refine Zd<|JLM rfl<|JLn (Pu.lss rfl rfl)<|JAn rfl<|Zt rfl (fun h27=>?_) (fun h27=>?_)
 ·replace h27:=dt h27
  refine Zd<|JLr (Zc XZ rfl (ZcK 4 rfl) rfl<|JLq (pp bM 0) (Pu.nilCheck rfl)<|JLq (pp bM 0) (Y9 rfl rfl)<|JLr (Zc W5 rfl (ZcK 5 rfl) rfl<|Zs 0 rfl call22 rfl rfl (fun hin=>Yw _ _ _ _ _ _ (RBs.mono (Hle.hu _ _) hv) (by omega) (by omega) _) rfl ?_))
  rintro _ _ ⟨n28,a28,s28,rfl,rfl,hn28,ha28⟩
  refine Jc call37 rfl (fun hin=>Ng n28 (by unfold inI;omega) _) rfl ?_
  rintro _ _ ⟨cs29,k29,rfl,rfl,hO29⟩
  refine JLr (Zb 2 (vs:=cs29) (l:=cs29) Zu rfl rfl rfl rfl hO29.len hO29.ok (ZY (n:=36) rfl hO29.len)<|Za<|Zz<|⟨.agg ⟨cs29⟩,[((BX bM [pp bS 0,iv (L-1)] 158))++((BX bS [v,iv a28,.int .u64 s28] 109)),k29],Ret.one rfl (RV.cell Zu rfl (ZcK 2 rfl) (Zx hO29.len)),(ZcO (Sub.cons 6 rfl (Sub.cons 1 rfl (Sk Sub.nil)))),?_⟩)
  exact ⟨nuT n28,_,_,_,_,_,rfl,rfl,hO29,⟨Fy (by omega) (by omega),by simp only [vaT,nuT,sizeT,sizeTs,sizeCs,Yj,Yi,Yo];omega,by simp only [vaT,nuT,X1];exact ⟨WV,trivial,trivial⟩⟩,by omega,by omega⟩
 replace h27:=df h27
 refine Zd<|JLM rfl<|JLn (Pu.eql rfl rfl)<|JAn rfl<|Zt rfl (fun h30=>?_) (fun h30=>?_)
 ·replace h30:=dt h30
  refine Zd<|JLM rfl<|ZB (ZcO (Sub.cons 5 rfl (Sk (Sk (Sk (Sk (Sk Sub.nil)))))))<|Zs 0 rfl call157 rfl rfl (fun hin=>XD _ _ _ _ _ _ _ _ _ _ _ _ _ _ (RBs.mono (Hle.hu _ _) hv) (hin 3 _ rfl _ _ mem_cons_self) (hin 2 _ rfl _ _ mem_cons_self) (hin 1 _ rfl _ _ mem_cons_self) (by omega) (by omega) (by omega) (by omega) (fun h hh=>ih _ (by omega) _ _ _ _ _ _ _ _ _ _ rfl (RBs.mono hh (RBs.mono (Hle.hu _ _) hv)) (by omega) (by omega) (by omega) (by omega) (by omega) (by omega) (by omega) (by omega))) rfl ?_
  rintro _ _ ⟨t31,cs31,k31,l31,a31,s31,rfl,rfl,hO31,⟨hn31,hz31,hw31⟩,hl31,ha31⟩
  refine ZB (M':=[(BX bM [pp bS 0,iv l31] 158),(BX bS [v,iv a31,.int .u64 s31] 109),k31,(BX b4 (pkT 0 0 zS nS nS) 51),(BX b3 [iv m] 3),(BX b2 [iv d] 3),(BX b1 [pp bM 0] 156)]) (Sub.flat Sub.refl (by simp))<|Jc call30 rfl (fun hin=>A9 _ hO31.len hO31.ok _) rfl ?_
  rintro _ _ ⟨sv32,k32,rfl,rfl,ho32⟩
  refine JLr (Zb 4 (vs:=pkT 3 0 zS sv32 nS) (l:=pkT 3 0 zS sv32 nS) Zu rfl rfl rfl rfl rfl (ZR ho32.one rfl) (Yb ..)<|Za<|Zz<|⟨.agg ⟨pkT 3 0 zS sv32 nS⟩,[((BX bM [pp bS 0,iv l31] 158))++((BX bS [v,iv a31,.int .u64 s31] 109)),k32++k31],Ret.one rfl (RV.cell Zu rfl (ZcK 4 rfl) (Z4 ..)),(ZcO (Sub.cons 1 rfl (Sub.cons 1 rfl (ZcO (Sk (Sk Sub.nil)))))),?_⟩)
  exact ⟨.mk 3 0 zS [t31] [],_,_,_,_,_,rfl,rfl,U0 (by unfold inI;omega) (by unfold inI;omega) ho32 (BR hO31) (by simp),⟨FC hn31,by simp only [vaT,nuT,sizeT,sizeTs,sizeCs,Yj,Yi,Yo];omega,by simp only [X1,Wl];exact ⟨WV,⟨hw31,trivial⟩,trivial⟩⟩,by omega,by omega⟩
 replace h30:=df h30
 refine Zg<|Zd<|JLM rfl<|JLn (Pu.eql rfl rfl)<|JAn rfl<|Zt rfl (fun h33=>?_) (fun h33=>?_)
 ·replace h33:=dt h33
  refine Zo<|Zt rfl (fun _=>?_) (fun h34=>absurd h33 (df h34))
  refine Zd<|JLM rfl<|ZB (ZcO (Sub.cons 5 rfl (Sk (Sk (Sk (Sk (Sk Sub.nil)))))))<|Zs 0 rfl call157 rfl rfl (fun hin=>XD _ _ _ _ _ _ _ _ _ _ _ _ _ _ (RBs.mono (Hle.hu _ _) hv) (hin 3 _ rfl _ _ mem_cons_self) (hin 2 _ rfl _ _ mem_cons_self) (hin 1 _ rfl _ _ mem_cons_self) (by omega) (by omega) (by omega) (by omega) (fun h hh=>ih _ (by omega) _ _ _ _ _ _ _ _ _ _ rfl (RBs.mono hh (RBs.mono (Hle.hu _ _) hv)) (by omega) (by omega) (by omega) (by omega) (by omega) (by omega) (by omega) (by omega))) rfl ?_
  rintro _ _ ⟨t35,cs35,k35,l35,a35,s35,rfl,rfl,hO35,⟨hn35,hz35,hw35⟩,hl35,ha35⟩
  refine ZB (M':=[(BX bM [pp bS 0,iv l35] 158),(BX bS [v,iv a35,.int .u64 s35] 109),k35,(BX b4 (pkT 0 0 zS nS nS) 51),(BX b3 [iv m] 3),(BX b2 [iv d] 3),(BX b1 [pp bM 0] 156)]) (Sub.flat Sub.refl (by simp))<|JLM rfl<|ZB (ZcO (Sk (Sk (Sk (Sk (Sk (Sk (Sk Sub.nil))))))))<|Zs 0 rfl call157 rfl rfl (fun hin=>XD _ _ _ _ _ _ _ _ _ _ _ _ _ _ (RBs.mono (Hle.hu _ _) hv) (hin 4 _ rfl _ _ mem_cons_self) (hin 3 _ rfl _ _ mem_cons_self) (hin 2 _ rfl _ _ mem_cons_self) (by omega) (by omega) (by omega) (by omega) (fun h hh=>ih _ (by omega) _ _ _ _ _ _ _ _ _ _ rfl (RBs.mono hh (RBs.mono (Hle.hu _ _) hv)) (by omega) (by omega) (by omega) (by omega) (by omega) (by omega) (by omega) (by omega))) rfl ?_
  rintro _ _ ⟨t36,cs36,k36,l36,a36,s36,rfl,rfl,hO36,⟨hn36,hz36,hw36⟩,hl36,ha36⟩
  refine ZB (M':=[(BX bM [pp bS 0,iv l36] 158),(BX bS [v,iv a36,.int .u64 s36] 109),k36,k35,(BX b4 (pkT 0 0 zS nS nS) 51),(BX b3 [iv m] 3),(BX b2 [iv d] 3),(BX b1 [pp bM 0] 156)]) (Sub.flat Sub.refl (by simp))<|Jc call31 rfl (fun hin=>E7 _ hO35.len hO35.ok _ hO36.len hO36.ok _) rfl ?_
  rintro _ _ ⟨sv37,k37,rfl,rfl,ho37⟩
  refine JLr (Zb 5 (vs:=pkT 4 0 zS sv37 nS) (l:=pkT 4 0 zS sv37 nS) Zu rfl rfl rfl rfl rfl (ZR ho37.one rfl) (Yb ..)<|Za<|Zz<|⟨.agg ⟨pkT 4 0 zS sv37 nS⟩,[((BX bM [pp bS 0,iv l36] 158))++((BX bS [v,iv a36,.int .u64 s36] 109)),k37++(k35++k36)],Ret.one rfl (RV.cell Zu rfl (ZcK 5 rfl) (Z4 ..)),(ZcO (Sub.cons 1 rfl (Sub.cons 1 rfl (ZcY (Sk (Sub.cons 1 rfl (Sk Sub.nil))))))),?_⟩)
  exact ⟨.mk 4 0 zS [t35,t36] [],_,_,_,_,_,rfl,rfl,U0 (by unfold inI;omega) (by unfold inI;omega) ho37 (Dj hO35 hO36) (by simp),⟨Mu (by simpa using hn35) (by simpa using hn36),by simp only [vaT,nuT,sizeT,sizeTs,sizeCs,Yj,Yi,Yo];omega,by simp only [X1,Wl];exact ⟨WV,⟨hw35,hw36,trivial⟩,trivial⟩⟩,by omega,by omega⟩
 replace h33:=df h33
 refine Ze<|JLM rfl<|JLn (Pu.eql rfl rfl)<|JAn rfl<|Zt rfl (fun h38=>?_) (fun h38=>?_)
 ·replace h38:=dt h38
  refine Zd<|JLM rfl<|ZB (ZcO (Sub.cons 5 rfl (Sk (Sk (Sk (Sk (Sk Sub.nil)))))))<|Zs 0 rfl call157 rfl rfl (fun hin=>XD _ _ _ _ _ _ _ _ _ _ _ _ _ _ (RBs.mono (Hle.hu _ _) hv) (hin 3 _ rfl _ _ mem_cons_self) (hin 2 _ rfl _ _ mem_cons_self) (hin 1 _ rfl _ _ mem_cons_self) (by omega) (by omega) (by omega) (by omega) (fun h hh=>ih _ (by omega) _ _ _ _ _ _ _ _ _ _ rfl (RBs.mono hh (RBs.mono (Hle.hu _ _) hv)) (by omega) (by omega) (by omega) (by omega) (by omega) (by omega) (by omega) (by omega))) rfl ?_
  rintro _ _ ⟨t39,cs39,k39,l39,a39,s39,rfl,rfl,hO39,⟨hn39,hz39,hw39⟩,hl39,ha39⟩
  refine ZB (M':=[(BX bM [pp bS 0,iv l39] 158),(BX bS [v,iv a39,.int .u64 s39] 109),k39,(BX b4 (pkT 0 0 zS nS nS) 51),(BX b3 [iv m] 3),(BX b2 [iv d] 3),(BX b1 [pp bM 0] 156)]) (Sub.flat Sub.refl (by simp))<|JLM rfl<|ZB (ZcO (Sk (Sk (Sk (Sk (Sk (Sk (Sk Sub.nil))))))))<|Zs 0 rfl call157 rfl rfl (fun hin=>XD _ _ _ _ _ _ _ _ _ _ _ _ _ _ (RBs.mono (Hle.hu _ _) hv) (hin 4 _ rfl _ _ mem_cons_self) (hin 3 _ rfl _ _ mem_cons_self) (hin 2 _ rfl _ _ mem_cons_self) (by omega) (by omega) (by omega) (by omega) (fun h hh=>ih _ (by omega) _ _ _ _ _ _ _ _ _ _ rfl (RBs.mono hh (RBs.mono (Hle.hu _ _) hv)) (by omega) (by omega) (by omega) (by omega) (by omega) (by omega) (by omega) (by omega))) rfl ?_
  rintro _ _ ⟨t40,cs40,k40,l40,a40,s40,rfl,rfl,hO40,⟨hn40,hz40,hw40⟩,hl40,ha40⟩
  refine ZB (M':=[(BX bM [pp bS 0,iv l40] 158),(BX bS [v,iv a40,.int .u64 s40] 109),k40,k39,(BX b4 (pkT 0 0 zS nS nS) 51),(BX b3 [iv m] 3),(BX b2 [iv d] 3),(BX b1 [pp bM 0] 156)]) (Sub.flat Sub.refl (by simp))<|Jc call31 rfl (fun hin=>E7 _ hO39.len hO39.ok _ hO40.len hO40.ok _) rfl ?_
  rintro _ _ ⟨sv41,k41,rfl,rfl,ho41⟩
  refine JLr (Zb 5 (vs:=pkT 4 0 zS sv41 nS) (l:=pkT 4 0 zS sv41 nS) Zu rfl rfl rfl rfl rfl (ZR ho41.one rfl) (Yb ..)<|Za<|Zz<|⟨.agg ⟨pkT 4 0 zS sv41 nS⟩,[((BX bM [pp bS 0,iv l40] 158))++((BX bS [v,iv a40,.int .u64 s40] 109)),k41++(k39++k40)],Ret.one rfl (RV.cell Zu rfl (ZcK 5 rfl) (Z4 ..)),(ZcO (Sub.cons 1 rfl (Sub.cons 1 rfl (ZcY (Sk (Sub.cons 1 rfl (Sk Sub.nil))))))),?_⟩)
  exact ⟨.mk 4 0 zS [t39,t40] [],_,_,_,_,_,rfl,rfl,U0 (by unfold inI;omega) (by unfold inI;omega) ho41 (Dj hO39 hO40) (by simp),⟨Mu (by simpa using hn39) (by simpa using hn40),by simp only [vaT,nuT,sizeT,sizeTs,sizeCs,Yj,Yi,Yo];omega,by simp only [X1,Wl];exact ⟨WV,⟨hw39,hw40,trivial⟩,trivial⟩⟩,by omega,by omega⟩
 replace h38:=df h38
 refine Zd<|JLM rfl<|JLn (Pu.eql rfl rfl)<|JAn rfl<|Zt rfl (fun h42=>?_) (fun h42=>?_)
 ·replace h42:=dt h42
  refine Zd<|JLM rfl<|ZB (ZcO (Sub.cons 5 rfl (Sk (Sk (Sk (Sk (Sk Sub.nil)))))))<|Zs 0 rfl call157 rfl rfl (fun hin=>XD _ _ _ _ _ _ _ _ _ _ _ _ _ _ (RBs.mono (Hle.hu _ _) hv) (hin 3 _ rfl _ _ mem_cons_self) (hin 2 _ rfl _ _ mem_cons_self) (hin 1 _ rfl _ _ mem_cons_self) (by omega) (by omega) (by omega) (by omega) (fun h hh=>ih _ (by omega) _ _ _ _ _ _ _ _ _ _ rfl (RBs.mono hh (RBs.mono (Hle.hu _ _) hv)) (by omega) (by omega) (by omega) (by omega) (by omega) (by omega) (by omega) (by omega))) rfl ?_
  rintro _ _ ⟨t43,cs43,k43,l43,a43,s43,rfl,rfl,hO43,⟨hn43,hz43,hw43⟩,hl43,ha43⟩
  refine ZB (M':=[(BX bM [pp bS 0,iv l43] 158),(BX bS [v,iv a43,.int .u64 s43] 109),k43,(BX b4 (pkT 0 0 zS nS nS) 51),(BX b3 [iv m] 3),(BX b2 [iv d] 3),(BX b1 [pp bM 0] 156)]) (Sub.flat Sub.refl (by simp))<|JLM rfl<|ZB (ZcO (Sk (Sk (Sk (Sk (Sk (Sk (Sk Sub.nil))))))))<|Zs 0 rfl call157 rfl rfl (fun hin=>XD _ _ _ _ _ _ _ _ _ _ _ _ _ _ (RBs.mono (Hle.hu _ _) hv) (hin 4 _ rfl _ _ mem_cons_self) (hin 3 _ rfl _ _ mem_cons_self) (hin 2 _ rfl _ _ mem_cons_self) (by omega) (by omega) (by omega) (by omega) (fun h hh=>ih _ (by omega) _ _ _ _ _ _ _ _ _ _ rfl (RBs.mono hh (RBs.mono (Hle.hu _ _) hv)) (by omega) (by omega) (by omega) (by omega) (by omega) (by omega) (by omega) (by omega))) rfl ?_
  rintro _ _ ⟨t44,cs44,k44,l44,a44,s44,rfl,rfl,hO44,⟨hn44,hz44,hw44⟩,hl44,ha44⟩
  refine ZB (M':=[(BX bM [pp bS 0,iv l44] 158),(BX bS [v,iv a44,.int .u64 s44] 109),k44,k43,(BX b4 (pkT 0 0 zS nS nS) 51),(BX b3 [iv m] 3),(BX b2 [iv d] 3),(BX b1 [pp bM 0] 156)]) (Sub.flat Sub.refl (by simp))<|Jc call160 rfl (fun hin=>A8 _ hO43.len hO43.ok _ hO44.len hO44.ok _) rfl ?_
  rintro _ _ ⟨sv45,k45,rfl,rfl,ho45⟩
  refine JLr (Zb 5 (vs:=pkT 5 0 zS sv45 nS) (l:=pkT 5 0 zS sv45 nS) Zu rfl rfl rfl rfl rfl (ZR ho45.one rfl) (Yb ..)<|Za<|Zz<|⟨.agg ⟨pkT 5 0 zS sv45 nS⟩,[((BX bM [pp bS 0,iv l44] 158))++((BX bS [v,iv a44,.int .u64 s44] 109)),k45++(k43++k44)],Ret.one rfl (RV.cell Zu rfl (ZcK 5 rfl) (Z4 ..)),(ZcO (Sub.cons 1 rfl (Sub.cons 1 rfl (ZcY (Sk (Sub.cons 1 rfl (Sk Sub.nil))))))),?_⟩)
  exact ⟨.mk 5 0 zS [t43,t44] [],_,_,_,_,_,rfl,rfl,U0 (by unfold inI;omega) (by unfold inI;omega) ho45 (Dj hO43 hO44) (by simp),⟨FB (by simpa using hn43) hn44,by simp only [vaT,nuT,sizeT,sizeTs,sizeCs,Yj,Yi,Yo];omega,by simp only [X1,Wl];exact ⟨WV,⟨hw43,hw44,trivial⟩,trivial⟩⟩,by omega,by omega⟩
 replace h42:=df h42
 refine Zd<|JLM rfl<|JLn (Pu.eql rfl rfl)<|JAn rfl<|Zt rfl (fun h46=>?_) (fun h46=>?_)
 ·replace h46:=dt h46
  refine Zd<|JLr (Zc XZ rfl (ZcK 4 rfl) rfl<|JLq (pp bM 0) (Pu.nilCheck rfl)<|JLq (pp bM 0) (Y9 rfl rfl)<|JLr (Zc W5 rfl (ZcK 5 rfl) rfl<|Zs 0 rfl call21 rfl rfl (fun hin=>SD _ _ _ _ _ _ (RBs.mono (Hle.hu _ _) hv) (by omega) (by omega) _ _ (by omega) (by omega) (by omega)) rfl ?_))
  rintro _ _ ⟨n47,a47,s47,rfl,rfl,hn47,ha47⟩
  refine JLM rfl<|ZB (ZcO (Sub.cons 5 rfl (Sk (Sk (Sk (Sk (Sk Sub.nil)))))))<|Zs 0 rfl call157 rfl rfl (fun hin=>XD _ _ _ _ _ _ _ _ _ _ _ _ _ _ (RBs.mono (Hle.hu _ _) hv) (hin 3 _ rfl _ _ mem_cons_self) (hin 2 _ rfl _ _ mem_cons_self) (hin 1 _ rfl _ _ mem_cons_self) (by omega) (by omega) (by omega) (by omega) (fun h hh=>ih _ (by omega) _ _ _ _ _ _ _ _ _ _ rfl (RBs.mono hh (RBs.mono (Hle.hu _ _) hv)) (by omega) (by omega) (by omega) (by omega) (by omega) (by omega) (by omega) (by omega))) rfl ?_
  rintro _ _ ⟨t48,cs48,k48,l48,a48,s48,rfl,rfl,hO48,⟨hn48,hz48,hw48⟩,hl48,ha48⟩
  refine ZB (M':=[(BX bM [pp bS 0,iv l48] 158),(BX bS [v,iv a48,.int .u64 s48] 109),k48,(BX b4 (pkT 0 0 zS nS nS) 51),(BX b3 [iv m] 3),(BX b2 [iv d] 3),(BX b1 [pp bM 0] 156)]) (Sub.flat Sub.refl (by simp))<|JLM rfl<|ZB (ZcO (Sk (Sk (Sk (Sk (Sk (Sk (Sk Sub.nil))))))))<|Zs 0 rfl call157 rfl rfl (fun hin=>XD _ _ _ _ _ _ _ _ _ _ _ _ _ _ (RBs.mono (Hle.hu _ _) hv) (hin 4 _ rfl _ _ mem_cons_self) (hin 3 _ rfl _ _ mem_cons_self) (hin 2 _ rfl _ _ mem_cons_self) (by omega) (by omega) (by omega) (by omega) (fun h hh=>ih _ (by omega) _ _ _ _ _ _ _ _ _ _ rfl (RBs.mono hh (RBs.mono (Hle.hu _ _) hv)) (by omega) (by omega) (by omega) (by omega) (by omega) (by omega) (by omega) (by omega))) rfl ?_
  rintro _ _ ⟨t49,cs49,k49,l49,a49,s49,rfl,rfl,hO49,⟨hn49,hz49,hw49⟩,hl49,ha49⟩
  refine ZB (M':=[(BX bM [pp bS 0,iv l49] 158),(BX bS [v,iv a49,.int .u64 s49] 109),k49,k48,(BX b4 (pkT 0 0 zS nS nS) 51),(BX b3 [iv m] 3),(BX b2 [iv d] 3),(BX b1 [pp bM 0] 156)]) (Sub.flat Sub.refl (by simp))<|Jc call38 rfl (fun hin=>AO _ _ hO48.len hO48.ok _ hO49.len hO49.ok _) rfl ?_
  rintro _ _ ⟨sv50,k50,rfl,rfl,ho50⟩
  refine JLr (Zb 5 (vs:=pkT 10 n47 zS sv50 nS) (l:=pkT 10 n47 zS sv50 nS) Zu rfl rfl rfl rfl rfl (ZR ho50.one rfl) (Yb ..)<|Za<|Zz<|⟨.agg ⟨pkT 10 n47 zS sv50 nS⟩,[((BX bM [pp bS 0,iv l49] 158))++((BX bS [v,iv a49,.int .u64 s49] 109)),k50++(k48++k49)],Ret.one rfl (RV.cell Zu rfl (ZcK 5 rfl) (Z4 ..)),(ZcO (Sub.cons 1 rfl (Sub.cons 1 rfl (ZcY (Sk (Sub.cons 1 rfl (Sk Sub.nil))))))),?_⟩)
  exact ⟨.mk 10 n47 zS [t48,t49] [],_,_,_,_,_,rfl,rfl,U0 (by unfold inI;omega) (by unfold inI;omega) ho50 (Dj hO48 hO49) (by simp),⟨Oi (by omega) (by omega) (by simpa using hn48) (by simpa using hn49),by simp only [vaT,nuT,sizeT,sizeTs,sizeCs,Yj,Yi,Yo];omega,by simp only [X1,Wl];exact ⟨WV,⟨hw48,hw49,trivial⟩,trivial⟩⟩,by omega,by omega⟩
 replace h46:=df h46
 refine Zd<|JLM rfl<|JLn (Pu.eql rfl rfl)<|JAn rfl<|Zt rfl (fun h51=>?_) (fun h51=>?_)
 ·replace h51:=dt h51
  refine Zg<|WF mixed #[0,1,3,7,15,0,32,96,224,511,0,2047,4095,8191] 11 0 [4,9] rfl (by kernel_rfl) (by decide) rfl (by kernel_rfl) (fun i r52 N52=>match i with | 0=>(r52 0)=pp bM 0 | 1=>(r52 1)=pp bM 0 | 2=>(r52 2)=pp bM 0 | 3=>(r52 3)=pp bS 0 | 4=>(r52 4)=.agg ⟨sC ((sml (r52 4)))⟩∧(N52 4)=(BX bS [v,iv ((sth (N52 4) 1)),.int .u64 ((sth (N52 4) 2))] 109)∧Ss (sml (r52 4))∧(aj≤sth (N52 4) 1∧sth (N52 4) 1≤aj+1) | 5=>(r52 5)=pp bM 0 | 6=>(r52 6)=pp bM 0 | 7=>(r52 7)=pp bM 0 | 8=>(r52 8)=pp bS 0 | 9=>(r52 9)=iv ((ivl (r52 9)))∧(N52 9)=(BX bS [v,iv ((sth (N52 9) 1)),.int .u64 ((sth (N52 9) 2))] 109)∧(0≤(ivl (r52 9))∧((0:Int)<2→(ivl (r52 9))<2)∧((2:Int)≤0→(ivl (r52 9))=0))∧((sth (N52 4) 1)≤sth (N52 9) 1∧sth (N52 9) 1≤(sth (N52 4) 1)+1) | 10=>(r52 10)=.func (.func 157) ⟨[]⟩ ⟨[pp b1 0,pp b2 0,pp b3 0]⟩ | _=>True) ⟨?_,?_,?_,?_,?_,?_,?_,?_,?_,?_,?_,trivial⟩ ?_
  ·intro ρ r52 N52 B hB hBa hBb hp hr hr0
   obtain ⟨ρ53,rfl⟩:=Zi (uc (show ρ 3=pp b1 0 from hr0 3 (by kernel_rfl)) un)
   refine JLr (Zc XZ rfl (ZcK 15 (Ym ((hB 4 (by decide)).trans rfl))) rfl<|Za ?_)
   exact ⟨pp bM 0,[],rfl,(ZcL Sub.refl),rfl⟩
  ·intro ρ r52 N52 B hB hBa hBb hp hr hr0
   have p0:(r52 0)=pp bM 0:=hp 0 (by decide) rfl
   obtain ⟨ρ54,rfl⟩:=Zi (uc (show ρ 122=pp bM 0 from (hr 0 _ _ (by decide) rfl rfl rfl).trans p0) un)
   refine JLq (pp bM 0) (Pu.nilCheck rfl)<|Za ?_
   exact ⟨pp bM 0,[],rfl,(ZcL Sub.refl),rfl⟩
  ·intro ρ r52 N52 B hB hBa hBb hp hr hr0
   have p1:(r52 1)=pp bM 0:=hp 1 (by decide) rfl
   obtain ⟨ρ55,rfl⟩:=Zi (uc (show ρ 123=pp bM 0 from (hr 1 _ _ (by decide) rfl rfl rfl).trans p1) un)
   refine JLq (pp bM 0) (Y9 rfl rfl)<|Za ?_
   exact ⟨pp bM 0,[],rfl,(ZcL Sub.refl),rfl⟩
  ·intro ρ r52 N52 B hB hBa hBb hp hr hr0
   have p2:(r52 2)=pp bM 0:=hp 2 (by decide) rfl
   obtain ⟨ρ56,rfl⟩:=Zi (uc (show ρ 124=pp bM 0 from (hr 2 _ _ (by decide) rfl rfl rfl).trans p2) un)
   refine JLr (Zc W5 rfl (ZcK 16 (Ym ((hB 5 (by decide)).trans rfl))) rfl<|Za ?_)
   exact ⟨pp bS 0,[],rfl,(ZcL Sub.refl),rfl⟩
  ·intro ρ r52 N52 B hB hBa hBb hp hr hr0
   have p3:(r52 3)=pp bS 0:=hp 3 (by decide) rfl
   obtain ⟨ρ57,rfl⟩:=Zi (uc (show ρ 125=pp bS 0 from (hr 3 _ _ (by decide) rfl rfl rfl).trans p3) un)
   have hB2:=hBa rfl
   change B=[(BX bS [v,iv aj,.int .u64 sj] 109),(BX b4 (pkT 0 0 zS nS nS) 51),(BX b3 [iv m] 3),(BX b2 [iv d] 3),(BX b1 [pp bM 0] 156),(BX bM [pp bS 0,iv (L-1)] 158)] at hB2
   subst hB2
   refine ZB (M':=[(N52 0),(N52 1),(N52 2),(N52 3),[],(N52 5),(N52 6),(N52 7),(N52 8),[],(N52 10),(BX bS [v,iv aj,.int .u64 sj] 109),(BX b4 (pkT 0 0 zS nS nS) 51),(BX b3 [iv m] 3),(BX b2 [iv d] 3),(BX b1 [pp bM 0] 156),(BX bM [pp bS 0,iv (L-1)] 158)]) Sub.refl<|Zs 11 rfl call159 rfl rfl (fun hin=>QB _ _ _ _ _ _ (RBs.mono (Hle.hu _ _) hv) (by omega) (by omega) _ _ (by omega) (by omega) (by omega)) rfl ?_
   rintro _ _ ⟨n58,a58,s58,rfl,rfl,hw58,ha58⟩
   refine Za ?_
   exact ⟨.agg ⟨sC n58⟩,(BX bS [v,iv a58,.int .u64 s58] 109),rfl,(Sub.flat (M':=[(N52 0),(N52 1),(N52 2),(N52 3),[],(N52 5),(N52 6),(N52 7),(N52 8),[],(N52 10),(BX bS [v,iv a58,.int .u64 s58] 109),(BX b4 (pkT 0 0 zS nS nS) 51),(BX b3 [iv m] 3),(BX b2 [iv d] 3),(BX b1 [pp bM 0] 156),(BX bM [pp bS 0,iv (L-1)] 158)]) (Sub.cons 1 rfl (Sub.cons 1 rfl (Sub.cons 1 rfl (Sub.cons 1 rfl (ZcL (Sub.cons 2 rfl (Sub.cons 2 rfl (Sub.cons 2 rfl (Sub.cons 2 rfl (ZcL (Sub.cons 3 rfl (Sk (Sd (Sd (Sk (Sk (Sk (Sk (Sk Sub.nil))))))))))))))))))) rfl),⟨LM _,rfl,Ja hw58,ha58⟩⟩
  ·intro ρ r52 N52 B hB hBa hBb hp hr hr0
   obtain ⟨ρ59,rfl⟩:=Zi (uc (show ρ 3=pp b1 0 from hr0 3 (by kernel_rfl)) un)
   refine JLr (Zc XZ rfl (ZcK 15 (Ym ((hB 4 (by decide)).trans rfl))) rfl<|Za ?_)
   exact ⟨pp bM 0,[],rfl,(ZcL Sub.refl),rfl⟩
  ·intro ρ r52 N52 B hB hBa hBb hp hr hr0
   have p5:(r52 5)=pp bM 0:=hp 5 (by decide) rfl
   obtain ⟨ρ60,rfl⟩:=Zi (uc (show ρ 127=pp bM 0 from (hr 5 _ _ (by decide) rfl rfl rfl).trans p5) un)
   refine JLq (pp bM 0) (Pu.nilCheck rfl)<|Za ?_
   exact ⟨pp bM 0,[],rfl,(ZcL Sub.refl),rfl⟩
  ·intro ρ r52 N52 B hB hBa hBb hp hr hr0
   have p6:(r52 6)=pp bM 0:=hp 6 (by decide) rfl
   obtain ⟨ρ61,rfl⟩:=Zi (uc (show ρ 128=pp bM 0 from (hr 6 _ _ (by decide) rfl rfl rfl).trans p6) un)
   refine JLq (pp bM 0) (Y9 rfl rfl)<|Za ?_
   exact ⟨pp bM 0,[],rfl,(ZcL Sub.refl),rfl⟩
  ·intro ρ r52 N52 B hB hBa hBb hp hr hr0
   have p7:(r52 7)=pp bM 0:=hp 7 (by decide) rfl
   obtain ⟨ρ62,rfl⟩:=Zi (uc (show ρ 129=pp bM 0 from (hr 7 _ _ (by decide) rfl rfl rfl).trans p7) un)
   refine JLr (Zc W5 rfl (ZcK 16 (Ym ((hB 5 (by decide)).trans rfl))) rfl<|Za ?_)
   exact ⟨pp bS 0,[],rfl,(ZcL Sub.refl),rfl⟩
  ·intro ρ r52 N52 B hB hBa hBb hp hr hr0
   have p4:(r52 4)=.agg ⟨sC ((sml (r52 4)))⟩∧(N52 4)=(BX bS [v,iv ((sth (N52 4) 1)),.int .u64 ((sth (N52 4) 2))] 109)∧Ss (sml (r52 4))∧(aj≤sth (N52 4) 1∧sth (N52 4) 1≤aj+1):=hp 4 (by decide) rfl
   have p8:(r52 8)=pp bS 0:=hp 8 (by decide) rfl
   obtain ⟨ρ63,rfl⟩:=Zi (uc (show ρ 130=pp bS 0 from (hr 8 _ _ (by decide) rfl rfl rfl).trans p8) un)
   have hB2:=hBa rfl
   change B=[(N52 4),(BX b4 (pkT 0 0 zS nS nS) 51),(BX b3 [iv m] 3),(BX b2 [iv d] 3),(BX b1 [pp bM 0] 156),(BX bM [pp bS 0,iv (L-1)] 158)] at hB2
   subst hB2
   refine ZB (M':=[(N52 0),(N52 1),(N52 2),(N52 3),[],(N52 5),(N52 6),(N52 7),(N52 8),[],(N52 10),(N52 4),(BX b4 (pkT 0 0 zS nS nS) 51),(BX b3 [iv m] 3),(BX b2 [iv d] 3),(BX b1 [pp bM 0] 156),(BX bM [pp bS 0,iv (L-1)] 158)]) Sub.refl<|ZB (M':=[(N52 0),(N52 1),(N52 2),(N52 3),[],(N52 5),(N52 6),(N52 7),(N52 8),[],(N52 10),(BX bS [v,iv ((sth (N52 4) 1)),.int .u64 ((sth (N52 4) 2))] 109),(BX b4 (pkT 0 0 zS nS nS) 51),(BX b3 [iv m] 3),(BX b2 [iv d] 3),(BX b1 [pp bM 0] 156),(BX bM [pp bS 0,iv (L-1)] 158)]) (Sk (Sk (Sk (Sk (ZcL (Sd (Sk (Sk (Sk (Sk (ZcL (Sd (Sk (Se p4.2.1 (Sk (Sk (Sk (Sk (Sk Sub.nil)))))))))))))))))))<|Zs 11 rfl call22 rfl rfl (fun hin=>Yw _ _ _ _ _ _ (RBs.mono (Hle.hu _ _) hv) (by omega) (by omega) _) rfl ?_
   rintro _ _ ⟨n64,a64,s64,rfl,rfl,hn64,ha64⟩
   refine Za ?_
   exact ⟨iv n64,(BX bS [v,iv a64,.int .u64 s64] 109),rfl,(Sub.flat (M':=[(N52 0),(N52 1),(N52 2),(N52 3),[],(N52 5),(N52 6),(N52 7),(N52 8),[],(N52 10),(BX bS [v,iv a64,.int .u64 s64] 109),(BX b4 (pkT 0 0 zS nS nS) 51),(BX b3 [iv m] 3),(BX b2 [iv d] 3),(BX b1 [pp bM 0] 156),(BX bM [pp bS 0,iv (L-1)] 158)]) (Sub.cons 1 rfl (Sub.cons 1 rfl (Sub.cons 1 rfl (Sub.cons 1 rfl (ZcL (Sub.cons 2 rfl (Sub.cons 2 rfl (Sub.cons 2 rfl (Sub.cons 2 rfl (ZcL (Sub.cons 3 rfl (Sk (Sd (Sd (Sk (Sk (Sk (Sk (Sk Sub.nil))))))))))))))))))) rfl),⟨rfl,rfl,hn64,ha64⟩⟩
  ·intro ρ r52 N52 B hB hBa hBb hp hr hr0
   obtain ⟨ρ65,rfl⟩:=Zi (uc (show ρ 7=.func (.func 157) ⟨[]⟩ ⟨[pp b1 0,pp b2 0,pp b3 0]⟩ from hr0 7 (by kernel_rfl)) un)
   refine JLM rfl<|Za ?_
   exact ⟨.func (.func 157) ⟨[]⟩ ⟨[pp b1 0,pp b2 0,pp b3 0]⟩,[],rfl,(ZcL Sub.refl),rfl⟩
  intro ρ r52 N52 hp hr hr0
  have p4:(r52 4)=.agg ⟨sC ((sml (r52 4)))⟩∧(N52 4)=(BX bS [v,iv ((sth (N52 4) 1)),.int .u64 ((sth (N52 4) 2))] 109)∧Ss (sml (r52 4))∧(aj≤sth (N52 4) 1∧sth (N52 4) 1≤aj+1):=hp 4 (by decide)
  have p9:(r52 9)=iv ((ivl (r52 9)))∧(N52 9)=(BX bS [v,iv ((sth (N52 9) 1)),.int .u64 ((sth (N52 9) 2))] 109)∧(0≤(ivl (r52 9))∧((0:Int)<2→(ivl (r52 9))<2)∧((2:Int)≤0→(ivl (r52 9))=0))∧((sth (N52 4) 1)≤sth (N52 9) 1∧sth (N52 9) 1≤(sth (N52 4) 1)+1):=hp 9 (by decide)
  obtain ⟨ρ66,rfl⟩:=Zi (uc (show ρ 3=pp b1 0 from hr0 3 (by kernel_rfl)) (uc (show ρ 6=pp b4 0 from hr0 6 (by kernel_rfl)) (uc (show ρ 7=.func (.func 157) ⟨[]⟩ ⟨[pp b1 0,pp b2 0,pp b3 0]⟩ from hr0 7 (by kernel_rfl)) (uc (show ρ 126=.agg ⟨sC ((sml (r52 4)))⟩ from (hr 4 _ _ (by decide) rfl rfl).trans p4.1) (uc (show ρ 131=iv ((ivl (r52 9))) from (hr 9 _ _ (by decide) rfl rfl).trans p9.1) (uc (show ρ 132=.func (.func 157) ⟨[]⟩ ⟨[pp b1 0,pp b2 0,pp b3 0]⟩ from (hr 10 _ _ (by decide) rfl rfl).trans (hp 10 (by decide))) un))))))
  have p52_4:=p4;have p52_9:=p9
  clear hp hr hr0 p4 p9
  refine ZB (M':=[(N52 0),(N52 1),(N52 2),(N52 3),[],(N52 5),(N52 6),(N52 7),(N52 8),[],(N52 10),(N52 9),(BX b4 (pkT 0 0 zS nS nS) 51),(BX b3 [iv m] 3),(BX b2 [iv d] 3),(BX b1 [pp bM 0] 156),(BX bM [pp bS 0,iv (L-1)] 158)]) Sub.refl<|ZB (M':=[(BX bS [v,iv ((sth (N52 9) 1)),.int .u64 ((sth (N52 9) 2))] 109),(BX b4 (pkT 0 0 zS nS nS) 51),(BX b3 [iv m] 3),(BX b2 [iv d] 3),(BX b1 [pp bM 0] 156),(BX bM [pp bS 0,iv (L-1)] 158)]) (Sd (Sd (Sd (Sd (Sd (Sd (Sd (Sd (Sd (Sd (Sd (Se p52_9.2.1 (Sk (Sk (Sk (Sk (Sk Sub.nil)))))))))))))))))<|ZB (M':=[(BX bS [v,iv ((sth (N52 9) 1)),.int .u64 ((sth (N52 9) 2))] 109),(BX b4 (pkT 0 0 zS nS nS) 51),(BX b3 [iv m] 3),(BX b2 [iv d] 3),(BX b1 [pp bM 0] 156),(BX bM [pp bS 0,iv (L-1)] 158)]) (Sub.flat Sub.refl (by simp)) ?_
  show JL _ _ _ [_,_,_] _ _ _
  refine ZB (ZcO (Sub.cons 5 rfl (Sk (Sk (Sk (Sk (Sk Sub.nil)))))))<|Zs 0 rfl call157 rfl rfl (fun hin=>XD _ _ _ _ _ _ _ _ _ _ _ _ _ _ (RBs.mono (Hle.hu _ _) hv) (hin 3 _ rfl _ _ mem_cons_self) (hin 2 _ rfl _ _ mem_cons_self) (hin 1 _ rfl _ _ mem_cons_self) (by omega) (by omega) (by omega) (by omega) (fun h hh=>ih _ (by omega) _ _ _ _ _ _ _ _ _ _ rfl (RBs.mono hh (RBs.mono (Hle.hu _ _) hv)) (by omega) (by omega) (by omega) (by omega) (by omega) (by omega) (by omega) (by omega))) rfl ?_
  rintro _ _ ⟨t67,cs67,k67,l67,a67,s67,rfl,rfl,hO67,⟨hn67,hz67,hw67⟩,hl67,ha67⟩
  refine ZB (M':=[(BX bM [pp bS 0,iv l67] 158),(BX bS [v,iv a67,.int .u64 s67] 109),k67,(BX b4 (pkT 0 0 zS nS nS) 51),(BX b3 [iv m] 3),(BX b2 [iv d] 3),(BX b1 [pp bM 0] 156)]) (Sub.flat Sub.refl (by simp))<|Jc call161 rfl (fun hin=>BK _ _ _ hO67.len hO67.ok _) rfl ?_
  rintro _ _ ⟨sv68,k68,rfl,rfl,ho68⟩
  refine JLr (Zb 4 (vs:=pkT 11 ((ivl (r52 9))) ((sml (r52 4))) sv68 nS) (l:=pkT 11 ((ivl (r52 9))) ((sml (r52 4))) sv68 nS) Zu rfl rfl rfl rfl rfl (ZR ho68.one rfl) (Yb ..)<|Za<|Zz<|⟨.agg ⟨pkT 11 ((ivl (r52 9))) ((sml (r52 4))) sv68 nS⟩,[((BX bM [pp bS 0,iv l67] 158))++((BX bS [v,iv a67,.int .u64 s67] 109)),k68++k67],Ret.one rfl (RV.cell Zu rfl (ZcK 4 rfl) (Z4 ..)),(ZcO (Sub.cons 1 rfl (Sub.cons 1 rfl (ZcO (Sk (Sk Sub.nil)))))),?_⟩)
  exact ⟨.mk 11 ((ivl (r52 9))) ((sml (r52 4))) [t67] [],_,_,_,_,_,rfl,rfl,U0 (by unfold inI;omega) (by unfold inI;omega) ho68 (BR hO67) (by simp),⟨FG (by omega) (by omega) (by simpa using hn67),by simp only [vaT,nuT,sizeT,sizeTs,sizeCs,Yj,Yi,Yo];omega,by simp only [X1,Wl];exact ⟨p52_4.2.2.1,⟨hw67,trivial⟩,trivial⟩⟩,by omega,by omega⟩
 replace h51:=df h51
 refine Zd<|JLM rfl<|JLn (Pu.eql rfl rfl)<|JAn rfl<|Zt rfl (fun h69=>?_) (fun h69=>?_)
 ·replace h69:=dt h69
  refine Zd<|JLr (Zc XZ rfl (ZcK 4 rfl) rfl<|JLq (pp bM 0) (Pu.nilCheck rfl)<|JLq (pp bM 0) (Y9 rfl rfl)<|JLr (Zc W5 rfl (ZcK 5 rfl) rfl<|Zs 0 rfl call159 rfl rfl (fun hin=>QB _ _ _ _ _ _ (RBs.mono (Hle.hu _ _) hv) (by omega) (by omega) _ _ (by omega) (by omega) (by omega)) rfl ?_))
  rintro _ _ ⟨n70,a70,s70,rfl,rfl,hw70,ha70⟩
  refine JLM rfl<|ZB (ZcO (Sub.cons 5 rfl (Sk (Sk (Sk (Sk (Sk Sub.nil)))))))<|Zs 0 rfl call157 rfl rfl (fun hin=>XD _ _ _ _ _ _ _ _ _ _ _ _ _ _ (RBs.mono (Hle.hu _ _) hv) (hin 3 _ rfl _ _ mem_cons_self) (hin 2 _ rfl _ _ mem_cons_self) (hin 1 _ rfl _ _ mem_cons_self) (by omega) (by omega) (by omega) (by omega) (fun h hh=>ih _ (by omega) _ _ _ _ _ _ _ _ _ _ rfl (RBs.mono hh (RBs.mono (Hle.hu _ _) hv)) (by omega) (by omega) (by omega) (by omega) (by omega) (by omega) (by omega) (by omega))) rfl ?_
  rintro _ _ ⟨t71,cs71,k71,l71,a71,s71,rfl,rfl,hO71,⟨hn71,hz71,hw71⟩,hl71,ha71⟩
  refine ZB (M':=[(BX bM [pp bS 0,iv l71] 158),(BX bS [v,iv a71,.int .u64 s71] 109),k71,(BX b4 (pkT 0 0 zS nS nS) 51),(BX b3 [iv m] 3),(BX b2 [iv d] 3),(BX b1 [pp bM 0] 156)]) (Sub.flat Sub.refl (by simp))<|JLM rfl<|ZB (ZcO (Sk (Sk (Sk (Sk (Sk (Sk (Sk Sub.nil))))))))<|Zs 0 rfl call157 rfl rfl (fun hin=>XD _ _ _ _ _ _ _ _ _ _ _ _ _ _ (RBs.mono (Hle.hu _ _) hv) (hin 4 _ rfl _ _ mem_cons_self) (hin 3 _ rfl _ _ mem_cons_self) (hin 2 _ rfl _ _ mem_cons_self) (by omega) (by omega) (by omega) (by omega) (fun h hh=>ih _ (by omega) _ _ _ _ _ _ _ _ _ _ rfl (RBs.mono hh (RBs.mono (Hle.hu _ _) hv)) (by omega) (by omega) (by omega) (by omega) (by omega) (by omega) (by omega) (by omega))) rfl ?_
  rintro _ _ ⟨t72,cs72,k72,l72,a72,s72,rfl,rfl,hO72,⟨hn72,hz72,hw72⟩,hl72,ha72⟩
  refine ZB (M':=[(BX bM [pp bS 0,iv l72] 158),(BX bS [v,iv a72,.int .u64 s72] 109),k72,k71,(BX b4 (pkT 0 0 zS nS nS) 51),(BX b3 [iv m] 3),(BX b2 [iv d] 3),(BX b1 [pp bM 0] 156)]) (Sub.flat Sub.refl (by simp))<|JLr (Zj (vs:=[.agg ⟨cs71⟩,.agg ⟨cs72⟩]) [cs71,cs72] ZI YM rfl rfl (by intro e he;simp only [mem_cons,not_mem_nil,or_false] at he;rcases he with rfl | rfl <;> first | exact hO71.len | exact hO72.len) rfl (by decide) fun b73 k73 ho73 hk73=>Jc call162 rfl (fun hin=>ZbV _ _ _ _ _) rfl ?_)
  rintro _ _ ⟨rfl,rfl⟩
  refine JLr (Zk (l:=pkT 0 0 zS nS nS) zeroValue51 rfl fun b74=>JLr (Zb 0 (vs:=pkT 12 0 n70 (.slice (some ⟨b73,0,none⟩) 2 2) nS) (l:=pkT 12 0 n70 (.slice (some ⟨b73,0,none⟩) 2 2) nS) Zu rfl rfl rfl rfl rfl (ZR rfl rfl) (Yb ..)<|Za<|Zg<|Zd<|JLr (Zc XZ rfl (ZcK 9 rfl) rfl<|JLq (pp bM 0) (Pu.nilCheck rfl)<|JLq (pp bM 0) (Y9 rfl rfl)<|JLr (Zc W5 rfl (ZcK 2 rfl) rfl<|Zs 3 rfl call22 rfl rfl (fun hin=>Yw _ _ _ _ _ _ (RBs.mono (Hle.hu _ _) hv) (by omega) (by omega) _) rfl ?_))))
  rintro _ _ ⟨n75,a75,s75,rfl,rfl,hn75,ha75⟩
  refine JLM rfl<|Za<|Zm<|ZD (fun k ρ M=>∃ (j:Nat) (ts:List Tm) (w:Value) (es:List (List Value)) (k1 k2:Zf) (lw aw sw:Int),ρ 3=pp b1 0∧ρ 6=pp b4 0∧ρ 7=.func (.func 157) ⟨[]⟩ ⟨[pp b1 0,pp b2 0,pp b3 0]⟩∧ρ 9=pp b74 0∧ρ 153=iv n75∧ρ 154=iv ((j:Int))∧Sub [(BX b74 (pkT 12 0 n70 w nS) 51),k1,k2,(BX bM [pp bS 0,iv lw] 158),(BX bS [v,iv aw,.int .u64 sw] 109),(BX b4 (pkT 0 0 zS nS nS) 51),(BX b3 [iv m] 3),(BX b2 [iv d] 3),(BX b1 [pp bM 0] 156)] M∧(j:Int)≤n75∧Own 51 36 w es k1∧OTs ts es k2∧ts.length=j+2∧Z0 d m 0 12 0 ts=0∧((sizeTs ts:Int)≤((L-1)-lw)+14*(max ((L-1)-1) 0-max (lw-1) 0)∧Yi ts≤max (L-2) 0+9)∧Wl ts∧(lw≤L-1∧ -3*(L-2)-((j:Int)+1)≤lw∧lw≤L-2)∧(a≤aw∧aw≤a+100*(L-1-lw)+10)∧k=n75.toNat-j) _ ⟨0,[t71,t72],(.slice (some ⟨b73,0,none⟩) 2 2),([cs71,cs72]),k73,(k71++k72),l72,a75,s75,rfl,rfl,rfl,rfl,rfl,rfl,(Sub.cons 1 rfl (Sub.cons 1 rfl (ZcO (Sub.cons 3 rfl (Sub.cons 2 rfl (Sub.cons 1 rfl (Sk (Sk (Sk (Sk (Sk Sub.nil))))))))))),(by omega),ho73,(Dj hO71 hO72),rfl,(IW (by simpa using hn71) hn72),(by simp only [sizeTs,Yi];omega),⟨hw71,hw72,trivial⟩,(by omega),(by omega),rfl⟩ ?_
  rintro _ ρ76 _ ⟨j,ts,w,es,k1,k2,lw,aw,sw,e77,e78,e79,e80,e81,e82,hm83,hj,how,hopw,hpl,hpe,hps,hpw,hpb,hpa,rfl⟩
  obtain ⟨ρ84,rfl⟩:=Zi (uc e77 (uc e78 (uc e79 (uc e80 (uc e81 (uc e82 un))))))
  clear e77 e78 e79 e80 e81 e82
  refine ZF hm83<|Zd<|JLn (Pu.lss rfl rfl)<|Za<|Zg<|Zt rfl (fun h85=>?_) (fun h85=>?_)
  ·replace h85:=dt h85
   have helw:=YH hopw
   refine Zo<|Zg<|Zm<|ZF (ZcO (Sub.cons 3 rfl (Sub.cons 3 rfl (Sk (Sk (Sk (Sk (Sk (Sk (Sk Sub.nil))))))))))<|WF mixed #[0,1,0,4,12,31,63,127] 5 0 [3] rfl (by kernel_rfl) (by decide) rfl (by kernel_rfl) (fun i r86 N86=>match i with | 0=>(r86 0)=pp b74 34 | 1=>(r86 1)=w | 2=>(r86 2)=.func (.func 157) ⟨[]⟩ ⟨[pp b1 0,pp b2 0,pp b3 0]⟩ | 3=>(r86 3)=.agg ⟨(cll (r86 3))⟩∧(cll (r86 3)).length=36∧okc (cll (r86 3))∧∃ tM kM lM aM sM,(N86 3)=((BX bM [pp bS 0,iv lM] 158))++(((BX bS [v,iv aM,.int .u64 sM] 109))++kM)∧OT tM (cll (r86 3)) kM∧(ZV (d+2) m 0 tM=0∧((sizeT tM:Int)≤(lw-lM)+14*(max (lw-1) 0-max (lM-1) 0)∧Yj tM≤max (lw-1) 0+9)∧X1 tM)∧(lM≤lw-1∧(lw≤1→lM=lw-1)∧(1≤lw→ -3*(lw-1)≤lM))∧(aw≤aM∧aM≤aw+100*(lw-lM)) | 4=>(r86 4)=.slice (some ⟨(Y3 (r86 4)),0,none⟩) 1 1∧(N86 4)=[(Y3 (r86 4),.cells ⟨flatten [(cll (r86 3))]⟩ 51 (0,0))]∧Own 51 36 (.slice (some ⟨(Y3 (r86 4)),0,none⟩) 1 1) [(cll (r86 3))] (N86 4) | _=>True) ⟨?_,?_,?_,?_,?_,trivial⟩ ?_
   ·intro ρ r86 N86 B hB hBa hBb hp hr hr0
    obtain ⟨ρ87,rfl⟩:=Zi (uc (show ρ 9=pp b74 0 from hr0 9 (by kernel_rfl)) un)
    refine JLq (pp b74 34) (YS rfl rfl)<|Za ?_
    exact ⟨pp b74 34,[],rfl,(ZcL Sub.refl),rfl⟩
   ·intro ρ r86 N86 B hB hBa hBb hp hr hr0
    have p0:(r86 0)=pp b74 34:=hp 0 (by decide) rfl
    obtain ⟨ρ88,rfl⟩:=Zi (uc (show ρ 156=pp b74 34 from (hr 0 _ _ (by decide) rfl rfl rfl).trans p0) un)
    refine JLr (Zc XE rfl (ZcK 6 (Ym ((hB 1 (by decide)).trans rfl))) (Xq ..)<|Za ?_)
    exact ⟨w,[],rfl,(ZcL Sub.refl),rfl⟩
   ·intro ρ r86 N86 B hB hBa hBb hp hr hr0
    obtain ⟨ρ89,rfl⟩:=Zi (uc (show ρ 7=.func (.func 157) ⟨[]⟩ ⟨[pp b1 0,pp b2 0,pp b3 0]⟩ from hr0 7 (by kernel_rfl)) un)
    refine JLM rfl<|Za ?_
    exact ⟨.func (.func 157) ⟨[]⟩ ⟨[pp b1 0,pp b2 0,pp b3 0]⟩,[],rfl,(ZcL Sub.refl),rfl⟩
   ·intro ρ r86 N86 B hB hBa hBb hp hr hr0
    have p2:(r86 2)=.func (.func 157) ⟨[]⟩ ⟨[pp b1 0,pp b2 0,pp b3 0]⟩:=hp 2 (by decide) rfl
    obtain ⟨ρ90,rfl⟩:=Zi (uc (show ρ 158=.func (.func 157) ⟨[]⟩ ⟨[pp b1 0,pp b2 0,pp b3 0]⟩ from (hr 2 _ _ (by decide) rfl rfl rfl).trans p2) un)
    have hB2:=hBa rfl
    change B=[((BX bM [pp bS 0,iv lw] 158))++((BX bS [v,iv aw,.int .u64 sw] 109)),(BX b74 (pkT 12 0 n70 w nS) 51),k1,k2,(BX b4 (pkT 0 0 zS nS nS) 51),(BX b3 [iv m] 3),(BX b2 [iv d] 3),(BX b1 [pp bM 0] 156)] at hB2
    subst hB2
    refine ZB (M':=[(N86 0),(N86 1),(N86 2),[],(N86 4),((BX bM [pp bS 0,iv lw] 158))++((BX bS [v,iv aw,.int .u64 sw] 109)),(BX b74 (pkT 12 0 n70 w nS) 51),k1,k2,(BX b4 (pkT 0 0 zS nS nS) 51),(BX b3 [iv m] 3),(BX b2 [iv d] 3),(BX b1 [pp bM 0] 156)]) Sub.refl<|Zs 5 rfl call157 rfl rfl (fun hin=>XD _ _ _ _ _ _ _ _ _ _ _ _ _ _ (RBs.mono (Hle.hu _ _) hv) (hin 11 _ rfl _ _ mem_cons_self) (hin 10 _ rfl _ _ mem_cons_self) (hin 9 _ rfl _ _ mem_cons_self) (by omega) (by omega) (by omega) (by omega) (fun h hh=>ih _ (by omega) _ _ _ _ _ _ _ _ _ _ rfl (RBs.mono hh (RBs.mono (Hle.hu _ _) hv)) (by omega) (by omega) (by omega) (by omega) (by omega) (by omega) (by omega) (by omega))) rfl ?_
    rintro _ _ ⟨t91,cs91,k91,l91,a91,s91,rfl,rfl,hO91,⟨hn91,hz91,hw91⟩,hl91,ha91⟩
    refine ZB (M':=[(BX bM [pp bS 0,iv l91] 158),(BX bS [v,iv a91,.int .u64 s91] 109),k91,(N86 0),(N86 1),(N86 2),[],(N86 4),(BX b74 (pkT 12 0 n70 w nS) 51),k1,k2,(BX b4 (pkT 0 0 zS nS nS) 51),(BX b3 [iv m] 3),(BX b2 [iv d] 3),(BX b1 [pp bM 0] 156)]) (Sub.flat Sub.refl (by simp))<|Za ?_
    exact ⟨.agg ⟨cs91⟩,((BX bM [pp bS 0,iv l91] 158))++(((BX bS [v,iv a91,.int .u64 s91] 109))++k91),rfl,(Sub.flat (M':=[(N86 0),(N86 1),(N86 2),[],(N86 4),((BX bM [pp bS 0,iv l91] 158))++(((BX bS [v,iv a91,.int .u64 s91] 109))++k91),(BX b74 (pkT 12 0 n70 w nS) 51),k1,k2,(BX b4 (pkT 0 0 zS nS nS) 51),(BX b3 [iv m] 3),(BX b2 [iv d] 3),(BX b1 [pp bM 0] 156)]) (Sub.cons 3 rfl (Sub.cons 3 rfl (Sub.cons 3 rfl (ZcL (Sub.cons 4 rfl (ZcY (Sk (Sk (Sk (Sd (Sk (Sk (Sk (Sk (Sk (Sk (Sk Sub.nil))))))))))))))))) rfl),⟨rfl,hO91.len,hO91.ok,t91,k91,l91,a91,s91,rfl,hO91,⟨hn91,hz91,hw91⟩,hl91,ha91⟩⟩
   ·intro ρ r86 N86 B hB hBa hBb hp hr hr0
    have p3:(r86 3)=.agg ⟨(cll (r86 3))⟩∧(cll (r86 3)).length=36∧okc (cll (r86 3))∧∃ tM kM lM aM sM,(N86 3)=((BX bM [pp bS 0,iv lM] 158))++(((BX bS [v,iv aM,.int .u64 sM] 109))++kM)∧OT tM (cll (r86 3)) kM∧(ZV (d+2) m 0 tM=0∧((sizeT tM:Int)≤(lw-lM)+14*(max (lw-1) 0-max (lM-1) 0)∧Yj tM≤max (lw-1) 0+9)∧X1 tM)∧(lM≤lw-1∧(lw≤1→lM=lw-1)∧(1≤lw→ -3*(lw-1)≤lM))∧(aw≤aM∧aM≤aw+100*(lw-lM)):=hp 3 (by decide) rfl
    obtain ⟨ρ92,rfl⟩:=Zi (uc (show ρ 159=.agg ⟨(cll (r86 3))⟩ from (hr 3 _ _ (by decide) rfl rfl rfl).trans p3.1) un)
    refine JLr (Zj (vs:=[.agg ⟨(cll (r86 3))⟩]) [(cll (r86 3))] ZI YM rfl rfl (by intro e he;simp only [mem_cons,not_mem_nil,or_false] at he;subst he;exact p3.2.1) rfl (by decide) fun b93 k93 ho93 hk93=>Za ?_)
    exact ⟨.slice (some ⟨b93,0,none⟩) 1 1,k93,rfl,Sub.refl,⟨rfl,hk93,ho93⟩⟩
   intro ρ r86 N86 hp hr hr0
   have p3:(r86 3)=.agg ⟨(cll (r86 3))⟩∧(cll (r86 3)).length=36∧okc (cll (r86 3))∧∃ tM kM lM aM sM,(N86 3)=((BX bM [pp bS 0,iv lM] 158))++(((BX bS [v,iv aM,.int .u64 sM] 109))++kM)∧OT tM (cll (r86 3)) kM∧(ZV (d+2) m 0 tM=0∧((sizeT tM:Int)≤(lw-lM)+14*(max (lw-1) 0-max (lM-1) 0)∧Yj tM≤max (lw-1) 0+9)∧X1 tM)∧(lM≤lw-1∧(lw≤1→lM=lw-1)∧(1≤lw→ -3*(lw-1)≤lM))∧(aw≤aM∧aM≤aw+100*(lw-lM)):=hp 3 (by decide)
   have p4:(r86 4)=.slice (some ⟨(Y3 (r86 4)),0,none⟩) 1 1∧(N86 4)=[(Y3 (r86 4),.cells ⟨flatten [(cll (r86 3))]⟩ 51 (0,0))]∧Own 51 36 (.slice (some ⟨(Y3 (r86 4)),0,none⟩) 1 1) [(cll (r86 3))] (N86 4):=hp 4 (by decide)
   obtain ⟨ρ94,rfl⟩:=Zi (uc (show ρ 3=pp b1 0 from hr0 3 (by kernel_rfl)) (uc (show ρ 6=pp b4 0 from hr0 6 (by kernel_rfl)) (uc (show ρ 7=.func (.func 157) ⟨[]⟩ ⟨[pp b1 0,pp b2 0,pp b3 0]⟩ from hr0 7 (by kernel_rfl)) (uc (show ρ 9=pp b74 0 from hr0 9 (by kernel_rfl)) (uc (show ρ 153=iv n75 from hr0 153 (by kernel_rfl)) (uc (show ρ 154=iv ((j:Int)) from hr0 154 (by kernel_rfl)) (uc (show ρ 157=w from (hr 1 _ _ (by decide) rfl rfl).trans (hp 1 (by decide))) (uc (show ρ 160=.slice (some ⟨(Y3 (r86 4)),0,none⟩) 1 1 from (hr 4 _ _ (by decide) rfl rfl).trans p4.1) un))))))))
   have p86_3:=p3;have p86_4:=p4
   clear hp hr hr0 p3 p4
   refine ZB (M':=[(N86 0),(N86 1),(N86 2),[],(N86 4),(N86 3),(BX b74 (pkT 12 0 n70 w nS) 51),k1,k2,(BX b4 (pkT 0 0 zS nS nS) 51),(BX b3 [iv m] 3),(BX b2 [iv d] 3),(BX b1 [pp bM 0] 156)]) Sub.refl ?_
   obtain ⟨tM86_3,kM86_3,lM86_3,aM86_3,sM86_3,hNM86_3,hOM86_3,⟨hnM86_3,hzM86_3,hwM86_3⟩,hlM86_3,haM86_3⟩:=p86_3.2.2.2
   refine ZB (M':=[(N86 4),((BX bM [pp bS 0,iv lM86_3] 158))++(((BX bS [v,iv aM86_3,.int .u64 sM86_3] 109))++kM86_3),(BX b74 (pkT 12 0 n70 w nS) 51),k1,k2,(BX b4 (pkT 0 0 zS nS nS) 51),(BX b3 [iv m] 3),(BX b2 [iv d] 3),(BX b1 [pp bM 0] 156)]) (Sd (Sd (Sd (Sd (Sk (Se hNM86_3 (Sk (Sk (Sk (Sk (Sk (Sk (Sk Sub.nil)))))))))))))<|ZB (M':=[(N86 4),(BX bM [pp bS 0,iv lM86_3] 158),(BX bS [v,iv aM86_3,.int .u64 sM86_3] 109),kM86_3,(BX b74 (pkT 12 0 n70 w nS) 51),k1,k2,(BX b4 (pkT 0 0 zS nS nS) 51),(BX b3 [iv m] 3),(BX b2 [iv d] 3),(BX b1 [pp bM 0] 156)]) (Sub.flat Sub.refl (by simp)) ?_
   show JL _ _ _ [_,_,_] _ _ _
   have hlens95:∀ e∈([(cll (r86 3))]:List (List Value)),List.length e=36:=by
    intro e he;simp only [mem_cons,not_mem_nil,or_false] at he
    rcases he with rfl
    ·exact p86_3.2.1
   have hoks95:∀ e∈([(cll (r86 3))]:List (List Value)),okc e:=by
    intro e he;simp only [mem_cons,not_mem_nil,or_false] at he
    rcases he with rfl
    ·exact p86_3.2.2.1
   refine JLr (ZA (i:=5) (n:=1) (es':=[(cll (r86 3))]) ZI ZI (Or.inl rfl) YM rfl rfl rfl how (fun F w m=>Src.row (((ZcS 0 rfl (by rw [p86_4.2.1];exact mem_cons_self))).heap m) (Zx (Zw hlens95))) rfl hlens95 hoks95 (by decide) (by omega) fun v95 k95 ho95=>JLq (pp b74 34) (YS rfl rfl)<|JLr (Zb 4 (vs:=[v95]) (l:=pkT 12 0 n70 v95 nS) XE rfl rfl rfl (ZH ho95.one) rfl (Zh ho95.one Zq) (U8 ..)<|Za<|Ze<|JLn (ZcP rfl rfl (by omega))<|JLM rfl<|Za<|⟨_,?_,(j+1),(ts++[tM86_3]),v95,(es++[(cll (r86 3))]),k95,(k2++kM86_3),lM86_3,aM86_3,sM86_3,rfl,rfl,rfl,rfl,rfl,rfl,(Sd (Sub.cons 3 rfl (Sub.cons 3 rfl (ZcO (Sub.cons 3 rfl (Sub.cons 2 rfl (Sk (Sk (Sk (Sk (Sk (Sk Sub.nil)))))))))))),?_,?_,?_,?_,?_,?_,?_,?_,?_,rfl⟩))
   ·omega
   ·omega
   ·exact ho95
   ·exact OTs.snoc hOM86_3 hopw
   ·simp;omega
   ·exact Q8 (by omega) hpe hnM86_3
   ·rw [RL,Po];omega
   ·rw [Ol];exact ⟨hpw,hwM86_3,trivial⟩
   ·omega
   omega
  replace h85:=df h85
  refine ZC _ rfl<|Zd<|JLr (Zn Zu rfl (ZcK 0 rfl) (Z4 ..)<|JLr (Zb 5 (vs:=pkT 12 0 n70 w nS) (l:=pkT 12 0 n70 w nS) Zu rfl rfl rfl rfl rfl (ZR how.one rfl) (Yb ..)<|Za<|Zz<|⟨.agg ⟨pkT 12 0 n70 w nS⟩,[((BX bM [pp bS 0,iv lw] 158))++((BX bS [v,iv aw,.int .u64 sw] 109)),k1++k2],Ret.one rfl (RV.cell Zu rfl (ZcK 5 rfl) (Z4 ..)),(ZcO (Sd (Sub.cons 2 rfl (Sub.cons 2 rfl (ZcO (Sk (Sk Sub.nil))))))),?_⟩))
  exact ⟨.mk 12 0 n70 ts [],_,_,_,_,_,rfl,rfl,U0 (by unfold inI;omega) (by unfold inI;omega) how hopw (by omega),⟨FD (by omega) (by omega) hpe,by simp only [vaT,nuT,sizeT,sizeTs,sizeCs,Yj,Yi,Yo];omega,by rw [X1];exact ⟨hw70,hpw,trivial⟩⟩,by omega,by omega⟩
 replace h69:=df h69
 refine Zd<|JLM rfl<|JLn (Pu.eql rfl rfl)<|JAn rfl<|Zt rfl (fun h96=>?_) (fun h96=>?_)
 ·replace h96:=dt h96
  refine Zd<|JLM rfl<|ZB (ZcO (Sub.cons 5 rfl (Sk (Sk (Sk (Sk (Sk Sub.nil)))))))<|Zs 0 rfl call157 rfl rfl (fun hin=>XD _ _ _ _ _ _ _ _ _ _ _ _ _ _ (RBs.mono (Hle.hu _ _) hv) (hin 3 _ rfl _ _ mem_cons_self) (hin 2 _ rfl _ _ mem_cons_self) (hin 1 _ rfl _ _ mem_cons_self) (by omega) (by omega) (by omega) (by omega) (fun h hh=>ih _ (by omega) _ _ _ _ _ _ _ _ _ _ rfl (RBs.mono hh (RBs.mono (Hle.hu _ _) hv)) (by omega) (by omega) (by omega) (by omega) (by omega) (by omega) (by omega) (by omega))) rfl ?_
  rintro _ _ ⟨t97,cs97,k97,l97,a97,s97,rfl,rfl,hO97,⟨hn97,hz97,hw97⟩,hl97,ha97⟩
  refine ZB (M':=[(BX bM [pp bS 0,iv l97] 158),(BX bS [v,iv a97,.int .u64 s97] 109),k97,(BX b4 (pkT 0 0 zS nS nS) 51),(BX b3 [iv m] 3),(BX b2 [iv d] 3),(BX b1 [pp bM 0] 156)]) (Sub.flat Sub.refl (by simp))<|Jc call77 rfl (fun hin=>A7 _ hO97.len hO97.ok none 0 0 _) rfl ?_
  rintro _ _ ⟨sv98,k98,rfl,rfl,ho98⟩
  refine JLr (Zk (l:=pkT 0 0 zS nS nS) zeroValue51 rfl fun b99=>JLr (Zb 0 (vs:=pkT 9 0 zS sv98 nS) (l:=pkT 9 0 zS sv98 nS) Zu rfl rfl rfl rfl rfl (ZR ho98.one rfl) (Yb ..)<|Za<|Zg<|Zd<|JLr (Zc XZ rfl (ZcK 8 rfl) rfl<|JLq (pp bM 0) (Pu.nilCheck rfl)<|JLq (pp bM 0) (Y9 rfl rfl)<|JLr (Zc W5 rfl (ZcK 2 rfl) rfl<|Zs 3 rfl call22 rfl rfl (fun hin=>Yw _ _ _ _ _ _ (RBs.mono (Hle.hu _ _) hv) (by omega) (by omega) _) rfl ?_))))
  rintro _ _ ⟨n100,a100,s100,rfl,rfl,hn100,ha100⟩
  refine JLM rfl<|Za<|Zm<|ZD (fun k ρ M=>∃ (j:Nat) (cs5:List (Pt×Tm)) (w:Value) (es:List (List Value)) (k1 k2:Zf) (lw aw sw:Int),ρ 3=pp b1 0∧ρ 6=pp b4 0∧ρ 7=.func (.func 157) ⟨[]⟩ ⟨[pp b1 0,pp b2 0,pp b3 0]⟩∧ρ 10=pp b99 0∧ρ 175=iv n100∧ρ 176=iv ((j:Int))∧Sub [(BX b99 (pkT 9 0 zS sv98 w) 51),k1,k2,(BX bM [pp bS 0,iv lw] 158),(BX bS [v,iv aw,.int .u64 sw] 109),k98,k97,(BX b4 (pkT 0 0 zS nS nS) 51),(BX b3 [iv m] 3),(BX b2 [iv d] 3),(BX b1 [pp bM 0] 156)] M∧(j:Int)≤n100∧Own 117 71 w es k1∧OCs cs5 es k2∧cs5.length=j∧YZ cs5=0∧Yc d m 0 cs5=0∧(sizeCs cs5:Int)+(sizeT t97:Int)≤((L-1)-lw)+14*(max ((L-1)-1) 0-max (lw-1) 0)+7*(j:Int)∧Yo cs5≤max (L-2) 0+9∧Su cs5∧(lw≤L-1∧ -3*(L-2)-((j:Int)+0)≤lw∧lw≤L-2)∧(a≤aw∧aw≤a+100*(L-1-lw)+(10+21*(j:Int)))∧k=n100.toNat-j) _ ⟨0,[],nS,([]),([]),([]),l97,a100,s100,rfl,rfl,rfl,rfl,rfl,rfl,(Sub.cons 1 rfl (ZcL (ZcL (Sub.cons 2 rfl (Sk (Sk (Sk (Sk (Sk (Sk (Sk Sub.nil))))))))))),(by omega),Own.nil,OCs.nil,rfl,(by simp [YZ]),(by simp [Yc]),(by simp only [sizeCs];omega),(by simp only [Yo];omega),trivial,(by omega),(by omega),rfl⟩ ?_
  rintro _ ρ101 _ ⟨j,cs5,w,es,k1,k2,lw,aw,sw,e102,e103,e104,e105,e106,e107,hm108,hj,how,hopw,hpl,hpe,hpc,hps,hpd,hpw,hpb,hpa,rfl⟩
  obtain ⟨ρ109,rfl⟩:=Zi (uc e102 (uc e103 (uc e104 (uc e105 (uc e106 (uc e107 un))))))
  clear e102 e103 e104 e105 e106 e107
  refine ZF hm108<|Zd<|JLn (Pu.lss rfl rfl)<|Za<|Zg<|Zt rfl (fun h110=>?_) (fun h110=>?_)
  ·replace h110:=dt h110
   have helw:=S3 hopw
   refine Zo<|Zg<|Zm<|Zd<|JLr (Zc XZ rfl (ZcK 10 rfl) rfl<|JLq (pp bM 0) (Pu.nilCheck rfl)<|JLq (pp bM 0) (Y9 rfl rfl)<|JLr (Zc W5 rfl (ZcK 3 rfl) rfl<|Zs 4 rfl call163 rfl rfl (fun hin=>LW 2 _ _ _ _ _ _ _ rfl (by decide) (RBs.mono (Hle.hu _ _) hv) (by omega) (by omega)) rfl ?_))
   rintro _ _ ⟨p111_,cs111,k111,a111,s111,rfl,rfl,hO111,hg111,ha111⟩
   have hbl111:=VU p111_
   refine JLr (Zk (l:=pkP 0 0 zS nS) zeroValue115 rfl fun b112=>JLr (Zb 0 (vs:=cs111) (l:=cs111) ZO rfl rfl rfl rfl hO111.len hO111.ok (ZY (n:=35) rfl hO111.len)<|Za<|ZF (ZcO (Sub.cons 6 rfl (Sub.cons 1 rfl (Sk (Sk (Sk (Sk (Sk (Sk (Sk (Sk (Sk (Sk (Sk Sub.nil))))))))))))))<|WF mixed #[0,1,0,0,0,16,56,124,252,511,1023,2047] 9 0 [6] rfl (by kernel_rfl) (by decide) rfl (by kernel_rfl) (fun i r113 N113=>match i with | 0=>(r113 0)=pp b99 35 | 1=>(r113 1)=w | 2=>(r113 2)=.agg ⟨cs111⟩ | 3=>(r113 3)=.func (.func 157) ⟨[]⟩ ⟨[pp b1 0,pp b2 0,pp b3 0]⟩ | 4=>(r113 4)=.agg ⟨cs111⟩ | 5=>(r113 5)=iv ((binds p111_:Int)) | 6=>(r113 6)=.agg ⟨(cll (r113 6))⟩∧(cll (r113 6)).length=36∧okc (cll (r113 6))∧∃ tM kM lM aM sM,(N113 6)=((BX bM [pp bS 0,iv lM] 158))++(((BX bS [v,iv aM,.int .u64 sM] 109))++kM)∧OT tM (cll (r113 6)) kM∧(ZV (d+((binds p111_:Int))) m 0 tM=0∧((sizeT tM:Int)≤(lw-lM)+14*(max (lw-1) 0-max (lM-1) 0)∧Yj tM≤max (lw-1) 0+9)∧X1 tM)∧(lM≤lw-1∧(lw≤1→lM=lw-1)∧(1≤lw→ -3*(lw-1)≤lM))∧(a111≤aM∧aM≤a111+100*(lw-lM)) | 7=>(r113 7)=.agg ⟨cs111++((cll (r113 6)))⟩ | 8=>(r113 8)=.slice (some ⟨(Y3 (r113 8)),0,none⟩) 1 1∧(N113 8)=[(Y3 (r113 8),.cells ⟨flatten [cs111++((cll (r113 6)))]⟩ 117 (0,0))]∧Own 117 71 (.slice (some ⟨(Y3 (r113 8)),0,none⟩) 1 1) [cs111++((cll (r113 6)))] (N113 8) | _=>True) ⟨?_,?_,?_,?_,?_,?_,?_,?_,?_,trivial⟩ ?_))
   ·intro ρ r113 N113 B hB hBa hBb hp hr hr0
    obtain ⟨ρ114,rfl⟩:=Zi (uc (show ρ 10=pp b99 0 from hr0 10 (by kernel_rfl)) un)
    refine JLq (pp b99 35) (Y0 rfl rfl)<|Za ?_
    exact ⟨pp b99 35,[],rfl,(ZcL Sub.refl),rfl⟩
   ·intro ρ r113 N113 B hB hBa hBb hp hr hr0
    have p0:(r113 0)=pp b99 35:=hp 0 (by decide) rfl
    obtain ⟨ρ115,rfl⟩:=Zi (uc (show ρ 183=pp b99 35 from (hr 0 _ _ (by decide) rfl rfl rfl).trans p0) un)
    refine JLr (Zc WN rfl (ZcK 12 (Ym ((hB 3 (by decide)).trans rfl))) (XA ..)<|Za ?_)
    exact ⟨w,[],rfl,(ZcL Sub.refl),rfl⟩
   ·intro ρ r113 N113 B hB hBa hBb hp hr hr0
    obtain ⟨ρ116,rfl⟩:=Zi (uc (show ρ 11=pp b112 0 from hr0 11 (by kernel_rfl)) un)
    refine JLr (Zn ZO rfl (ZcK 10 (Ym ((hB 1 (by decide)).trans rfl))) (Zx hO111.len)<|Za ?_)
    exact ⟨.agg ⟨cs111⟩,[],rfl,(ZcL Sub.refl),rfl⟩
   ·intro ρ r113 N113 B hB hBa hBb hp hr hr0
    obtain ⟨ρ117,rfl⟩:=Zi (uc (show ρ 7=.func (.func 157) ⟨[]⟩ ⟨[pp b1 0,pp b2 0,pp b3 0]⟩ from hr0 7 (by kernel_rfl)) un)
    refine JLM rfl<|Za ?_
    exact ⟨.func (.func 157) ⟨[]⟩ ⟨[pp b1 0,pp b2 0,pp b3 0]⟩,[],rfl,(ZcL Sub.refl),rfl⟩
   ·intro ρ r113 N113 B hB hBa hBb hp hr hr0
    obtain ⟨ρ118,rfl⟩:=Zi (uc (show ρ 11=pp b112 0 from hr0 11 (by kernel_rfl)) un)
    refine JLr (Zn ZO rfl (ZcK 10 (Ym ((hB 1 (by decide)).trans rfl))) (Zx hO111.len)<|Za ?_)
    exact ⟨.agg ⟨cs111⟩,[],rfl,(ZcL Sub.refl),rfl⟩
   ·intro ρ r113 N113 B hB hBa hBb hp hr hr0
    have p4:(r113 4)=.agg ⟨cs111⟩:=hp 4 (by decide) rfl
    obtain ⟨ρ119,rfl⟩:=Zi (uc (show ρ 187=.agg ⟨cs111⟩ from (hr 4 _ _ (by decide) rfl rfl rfl).trans p4) un)
    refine Jc call164 rfl (fun hin=>Hu _ _ _ (hO111.rd (hin 11 _ (Ym ((hB 2 (by decide)).trans rfl)))) hg111.1 (by have e:=VU p111_;have e2:=hg111.2.1;simp [pz] at e2;omega)) rfl ?_
    rintro _ _ ⟨rfl,rfl⟩
    refine Za ?_
    exact ⟨iv ((binds p111_:Int)),[],rfl,(ZcL Sub.refl),rfl⟩
   ·intro ρ r113 N113 B hB hBa hBb hp hr hr0
    have p3:(r113 3)=.func (.func 157) ⟨[]⟩ ⟨[pp b1 0,pp b2 0,pp b3 0]⟩:=hp 3 (by decide) rfl
    have p5:(r113 5)=iv ((binds p111_:Int)):=hp 5 (by decide) rfl
    obtain ⟨ρ120,rfl⟩:=Zi (uc (show ρ 186=.func (.func 157) ⟨[]⟩ ⟨[pp b1 0,pp b2 0,pp b3 0]⟩ from (hr 3 _ _ (by decide) rfl rfl rfl).trans p3) (uc (show ρ 188=iv ((binds p111_:Int)) from (hr 5 _ _ (by decide) rfl rfl rfl).trans p5) un))
    have hB2:=hBa rfl
    change B=[((BX bM [pp bS 0,iv lw] 158))++((BX bS [v,iv a111,.int .u64 s111] 109)),(BX b112 cs111 115),k111,(BX b99 (pkT 9 0 zS sv98 w) 51),k1,k2,k98,k97,(BX b4 (pkT 0 0 zS nS nS) 51),(BX b3 [iv m] 3),(BX b2 [iv d] 3),(BX b1 [pp bM 0] 156)] at hB2
    subst hB2
    refine ZB (M':=[(N113 0),(N113 1),(N113 2),(N113 3),(N113 4),(N113 5),[],(N113 7),(N113 8),((BX bM [pp bS 0,iv lw] 158))++((BX bS [v,iv a111,.int .u64 s111] 109)),(BX b112 cs111 115),k111,(BX b99 (pkT 9 0 zS sv98 w) 51),k1,k2,k98,k97,(BX b4 (pkT 0 0 zS nS nS) 51),(BX b3 [iv m] 3),(BX b2 [iv d] 3),(BX b1 [pp bM 0] 156)]) Sub.refl<|Zs 9 rfl call157 rfl rfl (fun hin=>XD _ _ _ _ _ _ _ _ _ _ _ _ _ _ (RBs.mono (Hle.hu _ _) hv) (hin 19 _ rfl _ _ mem_cons_self) (hin 18 _ rfl _ _ mem_cons_self) (hin 17 _ rfl _ _ mem_cons_self) (by omega) (by omega) (by omega) (by omega) (fun h hh=>ih _ (by omega) _ _ _ _ _ _ _ _ _ _ rfl (RBs.mono hh (RBs.mono (Hle.hu _ _) hv)) (by omega) (by omega) (by omega) (by omega) (by omega) (by omega) (by omega) (by omega))) rfl ?_
    rintro _ _ ⟨t121,cs121,k121,l121,a121,s121,rfl,rfl,hO121,⟨hn121,hz121,hw121⟩,hl121,ha121⟩
    refine ZB (M':=[(BX bM [pp bS 0,iv l121] 158),(BX bS [v,iv a121,.int .u64 s121] 109),k121,(N113 0),(N113 1),(N113 2),(N113 3),(N113 4),(N113 5),[],(N113 7),(N113 8),(BX b112 cs111 115),k111,(BX b99 (pkT 9 0 zS sv98 w) 51),k1,k2,k98,k97,(BX b4 (pkT 0 0 zS nS nS) 51),(BX b3 [iv m] 3),(BX b2 [iv d] 3),(BX b1 [pp bM 0] 156)]) (Sub.flat Sub.refl (by simp))<|Za ?_
    exact ⟨.agg ⟨cs121⟩,((BX bM [pp bS 0,iv l121] 158))++(((BX bS [v,iv a121,.int .u64 s121] 109))++k121),rfl,(Sub.flat (M':=[(N113 0),(N113 1),(N113 2),(N113 3),(N113 4),(N113 5),[],(N113 7),(N113 8),((BX bM [pp bS 0,iv l121] 158))++(((BX bS [v,iv a121,.int .u64 s121] 109))++k121),(BX b112 cs111 115),k111,(BX b99 (pkT 9 0 zS sv98 w) 51),k1,k2,k98,k97,(BX b4 (pkT 0 0 zS nS nS) 51),(BX b3 [iv m] 3),(BX b2 [iv d] 3),(BX b1 [pp bM 0] 156)]) (Sub.cons 3 rfl (Sub.cons 3 rfl (Sub.cons 3 rfl (Sub.cons 3 rfl (Sub.cons 3 rfl (Sub.cons 3 rfl (ZcL (Sub.cons 4 rfl (Sub.cons 4 rfl (ZcY (Sk (Sk (Sk (Sd (Sk (Sk (Sk (Sk (Sk (Sk (Sk (Sk (Sk (Sk (Sk Sub.nil))))))))))))))))))))))))) rfl),⟨rfl,hO121.len,hO121.ok,t121,k121,l121,a121,s121,rfl,hO121,⟨hn121,hz121,hw121⟩,hl121,ha121⟩⟩
   ·intro ρ r113 N113 B hB hBa hBb hp hr hr0
    have p2:(r113 2)=.agg ⟨cs111⟩:=hp 2 (by decide) rfl
    have p6:(r113 6)=.agg ⟨(cll (r113 6))⟩∧(cll (r113 6)).length=36∧okc (cll (r113 6))∧∃ tM kM lM aM sM,(N113 6)=((BX bM [pp bS 0,iv lM] 158))++(((BX bS [v,iv aM,.int .u64 sM] 109))++kM)∧OT tM (cll (r113 6)) kM∧(ZV (d+((binds p111_:Int))) m 0 tM=0∧((sizeT tM:Int)≤(lw-lM)+14*(max (lw-1) 0-max (lM-1) 0)∧Yj tM≤max (lw-1) 0+9)∧X1 tM)∧(lM≤lw-1∧(lw≤1→lM=lw-1)∧(1≤lw→ -3*(lw-1)≤lM))∧(a111≤aM∧aM≤a111+100*(lw-lM)):=hp 6 (by decide) rfl
    obtain ⟨ρ122,rfl⟩:=Zi (uc (show ρ 185=.agg ⟨cs111⟩ from (hr 2 _ _ (by decide) rfl rfl rfl).trans p2) (uc (show ρ 189=.agg ⟨(cll (r113 6))⟩ from (hr 6 _ _ (by decide) rfl rfl rfl).trans p6.1) un))
    refine Jc call78 rfl (fun hin=>ZaK _ _ hO111.len hO111.ok p6.2.1 p6.2.2.1 _) rfl ?_
    rintro _ _ ⟨rfl,rfl⟩
    refine Za ?_
    exact ⟨.agg ⟨cs111++((cll (r113 6)))⟩,[],rfl,(ZcL Sub.refl),rfl⟩
   ·intro ρ r113 N113 B hB hBa hBb hp hr hr0
    have p6:(r113 6)=.agg ⟨(cll (r113 6))⟩∧(cll (r113 6)).length=36∧okc (cll (r113 6))∧∃ tM kM lM aM sM,(N113 6)=((BX bM [pp bS 0,iv lM] 158))++(((BX bS [v,iv aM,.int .u64 sM] 109))++kM)∧OT tM (cll (r113 6)) kM∧(ZV (d+((binds p111_:Int))) m 0 tM=0∧((sizeT tM:Int)≤(lw-lM)+14*(max (lw-1) 0-max (lM-1) 0)∧Yj tM≤max (lw-1) 0+9)∧X1 tM)∧(lM≤lw-1∧(lw≤1→lM=lw-1)∧(1≤lw→ -3*(lw-1)≤lM))∧(a111≤aM∧aM≤a111+100*(lw-lM)):=hp 6 (by decide) rfl
    have p7:(r113 7)=.agg ⟨cs111++((cll (r113 6)))⟩:=hp 7 (by decide) rfl
    obtain ⟨ρ123,rfl⟩:=Zi (uc (show ρ 190=.agg ⟨cs111++((cll (r113 6)))⟩ from (hr 7 _ _ (by decide) rfl rfl rfl).trans p7) un)
    refine JLr (Zj (vs:=[.agg ⟨cs111++((cll (r113 6)))⟩]) [cs111++((cll (r113 6)))] Xp SL rfl rfl (by intro e he;simp only [mem_cons,not_mem_nil,or_false] at he;subst he;exact (ZJ hO111.len p6.2.1)) rfl (by decide) fun b124 k124 ho124 hk124=>Za ?_)
    exact ⟨.slice (some ⟨b124,0,none⟩) 1 1,k124,rfl,Sub.refl,⟨rfl,hk124,ho124⟩⟩
   intro ρ r113 N113 hp hr hr0
   have p6:(r113 6)=.agg ⟨(cll (r113 6))⟩∧(cll (r113 6)).length=36∧okc (cll (r113 6))∧∃ tM kM lM aM sM,(N113 6)=((BX bM [pp bS 0,iv lM] 158))++(((BX bS [v,iv aM,.int .u64 sM] 109))++kM)∧OT tM (cll (r113 6)) kM∧(ZV (d+((binds p111_:Int))) m 0 tM=0∧((sizeT tM:Int)≤(lw-lM)+14*(max (lw-1) 0-max (lM-1) 0)∧Yj tM≤max (lw-1) 0+9)∧X1 tM)∧(lM≤lw-1∧(lw≤1→lM=lw-1)∧(1≤lw→ -3*(lw-1)≤lM))∧(a111≤aM∧aM≤a111+100*(lw-lM)):=hp 6 (by decide)
   have p8:(r113 8)=.slice (some ⟨(Y3 (r113 8)),0,none⟩) 1 1∧(N113 8)=[(Y3 (r113 8),.cells ⟨flatten [cs111++((cll (r113 6)))]⟩ 117 (0,0))]∧Own 117 71 (.slice (some ⟨(Y3 (r113 8)),0,none⟩) 1 1) [cs111++((cll (r113 6)))] (N113 8):=hp 8 (by decide)
   obtain ⟨ρ125,rfl⟩:=Zi (uc (show ρ 3=pp b1 0 from hr0 3 (by kernel_rfl)) (uc (show ρ 6=pp b4 0 from hr0 6 (by kernel_rfl)) (uc (show ρ 7=.func (.func 157) ⟨[]⟩ ⟨[pp b1 0,pp b2 0,pp b3 0]⟩ from hr0 7 (by kernel_rfl)) (uc (show ρ 10=pp b99 0 from hr0 10 (by kernel_rfl)) (uc (show ρ 175=iv n100 from hr0 175 (by kernel_rfl)) (uc (show ρ 176=iv ((j:Int)) from hr0 176 (by kernel_rfl)) (uc (show ρ 184=w from (hr 1 _ _ (by decide) rfl rfl).trans (hp 1 (by decide))) (uc (show ρ 191=.slice (some ⟨(Y3 (r113 8)),0,none⟩) 1 1 from (hr 8 _ _ (by decide) rfl rfl).trans p8.1) un))))))))
   have p113_6:=p6;have p113_8:=p8
   clear hp hr hr0 p6 p8
   refine ZB (M':=[(N113 0),(N113 1),(N113 2),(N113 3),(N113 4),(N113 5),[],(N113 7),(N113 8),(N113 6),(BX b112 cs111 115),k111,(BX b99 (pkT 9 0 zS sv98 w) 51),k1,k2,k98,k97,(BX b4 (pkT 0 0 zS nS nS) 51),(BX b3 [iv m] 3),(BX b2 [iv d] 3),(BX b1 [pp bM 0] 156)]) Sub.refl ?_
   obtain ⟨tM113_6,kM113_6,lM113_6,aM113_6,sM113_6,hNM113_6,hOM113_6,⟨hnM113_6,hzM113_6,hwM113_6⟩,hlM113_6,haM113_6⟩:=p113_6.2.2.2
   refine ZB (M':=[(N113 8),((BX bM [pp bS 0,iv lM113_6] 158))++(((BX bS [v,iv aM113_6,.int .u64 sM113_6] 109))++kM113_6),(BX b112 cs111 115),k111,(BX b99 (pkT 9 0 zS sv98 w) 51),k1,k2,k98,k97,(BX b4 (pkT 0 0 zS nS nS) 51),(BX b3 [iv m] 3),(BX b2 [iv d] 3),(BX b1 [pp bM 0] 156)]) (Sd (Sd (Sd (Sd (Sd (Sd (Sd (Sd (Sk (Se hNM113_6 (Sk (Sk (Sk (Sk (Sk (Sk (Sk (Sk (Sk (Sk (Sk Sub.nil)))))))))))))))))))))<|ZB (M':=[(N113 8),(BX bM [pp bS 0,iv lM113_6] 158),(BX bS [v,iv aM113_6,.int .u64 sM113_6] 109),kM113_6,(BX b112 cs111 115),k111,(BX b99 (pkT 9 0 zS sv98 w) 51),k1,k2,k98,k97,(BX b4 (pkT 0 0 zS nS nS) 51),(BX b3 [iv m] 3),(BX b2 [iv d] 3),(BX b1 [pp bM 0] 156)]) (Sub.flat Sub.refl (by simp)) ?_
   show JL _ _ _ [_,_,_] _ _ _
   have hlens126:∀ e∈([cs111++((cll (r113 6)))]:List (List Value)),List.length e=71:=by
    intro e he;simp only [mem_cons,not_mem_nil,or_false] at he
    rcases he with rfl
    ·exact (ZJ hO111.len p113_6.2.1)
   have hoks126:∀ e∈([cs111++((cll (r113 6)))]:List (List Value)),okc e:=by
    intro e he;simp only [mem_cons,not_mem_nil,or_false] at he
    rcases he with rfl
    ·exact (YB hO111.ok p113_6.2.2.1)
   refine JLr (ZA (i:=7) (n:=1) (es':=[cs111++((cll (r113 6)))]) Xp Xp (Or.inl rfl) SL rfl rfl rfl how (fun F w m=>Src.row (((ZcS 0 rfl (by rw [p113_8.2.1];exact mem_cons_self))).heap m) (Zx (Zw hlens126))) rfl hlens126 hoks126 (by decide) (by omega) fun v126 k126 ho126=>JLq (pp b99 35) (Y0 rfl rfl)<|JLr (Zb 6 (vs:=[v126]) (l:=pkT 9 0 zS sv98 v126) WN rfl rfl rfl (ZH ho126.one) rfl (Zh ho126.one Zq) (U7 ..)<|Za<|Ze<|JLn (ZcP rfl rfl (by omega))<|JLM rfl<|Za<|⟨_,?_,(j+1),(cs5++[(p111_,tM113_6)]),v126,(es++[cs111++((cll (r113 6)))]),k126,(k2++(k111++kM113_6)),lM113_6,aM113_6,sM113_6,rfl,rfl,rfl,rfl,rfl,rfl,(Sd (Sub.cons 5 rfl (Sub.cons 5 rfl (ZcY (Sub.cons 5 rfl (Sub.cons 4 rfl (Sub.cons 2 rfl (Sk (Sk (Sd (Sk (Sk (Sk (Sk (Sk (Sk Sub.nil)))))))))))))))),?_,?_,?_,?_,?_,?_,?_,?_,?_,?_,?_,rfl⟩))
   ·omega
   ·omega
   ·exact ho126
   ·exact OCs.snoc hO111 hOM113_6 hopw
   ·simp;omega
   ·exact Mm hpe hg111.1
   ·exact IY hpc hnM113_6
   ·have:=hg111.2.1;rw [N7];simp [pz] at this;omega
   ·have:=hg111.2.1;have q:=J2 p111_;rw [KD];simp [pz] at this;omega
   ·rw [I3];exact ⟨hpw,hg111.2.2,hwM113_6,trivial⟩
   ·omega
   omega
  replace h110:=df h110
  refine ZC _ rfl<|Zd<|JLr (Zn Zu rfl (ZcK 0 rfl) (Z4 ..)<|JLr (Zb 7 (vs:=pkT 9 0 zS sv98 w) (l:=pkT 9 0 zS sv98 w) Zu rfl rfl rfl rfl rfl (ZR ho98.one how.one) (Yb ..)<|Za<|Zz<|⟨.agg ⟨pkT 9 0 zS sv98 w⟩,[((BX bM [pp bS 0,iv lw] 158))++((BX bS [v,iv aw,.int .u64 sw] 109)),k98++(k97++(k1++k2))],Ret.one rfl (RV.cell Zu rfl (ZcK 7 rfl) (Z4 ..)),(ZcO (Sd (Sub.cons 2 rfl (Sub.cons 2 rfl (Zc3 (Sub.cons 2 rfl (Sub.cons 2 rfl (Sk (Sk Sub.nil))))))))),?_⟩))
  exact ⟨.mk 9 0 zS [t97] cs5,_,_,_,_,_,rfl,rfl,OT_mk.2 ⟨_,w,_,es,_,_,k1,k2,rfl,(by unfold inI;omega),(by unfold inI;omega),ho98,BR hO97,how,hopw,rfl,by simp,by omega⟩,⟨Fz (by omega) (by simpa using hn97) hpe hpc,by simp only [vaT,nuT,sizeT,sizeTs,sizeCs,Yj,Yi,Yo];omega,by simp only [X1,Wl];exact ⟨WV,⟨hw97,trivial⟩,hpw⟩⟩,by omega,by omega⟩
 replace h96:=df h96
 refine Zo<|Zg<|WF mixed #[0,1,3,7,15,0,32,96,224,511,1023,0,4095] 12 0 [4,9] rfl (by kernel_rfl) (by decide) rfl (by kernel_rfl) (fun i r127 N127=>match i with | 0=>(r127 0)=pp bM 0 | 1=>(r127 1)=pp bM 0 | 2=>(r127 2)=pp bM 0 | 3=>(r127 3)=pp bS 0 | 4=>(r127 4)=.agg ⟨sC ((sml (r127 4)))⟩∧(N127 4)=(BX bS [v,iv ((sth (N127 4) 1)),.int .u64 ((sth (N127 4) 2))] 109)∧Ss (sml (r127 4))∧(aj≤sth (N127 4) 1∧sth (N127 4) 1≤aj+1) | 5=>(r127 5)=pp bM 0 | 6=>(r127 6)=pp bM 0 | 7=>(r127 7)=pp bM 0 | 8=>(r127 8)=pp bS 0 | 9=>(r127 9)=iv ((ivl (r127 9)))∧(N127 9)=(BX bS [v,iv ((sth (N127 9) 1)),.int .u64 ((sth (N127 9) 2))] 109)∧(0≤(ivl (r127 9))∧((0:Int)<3→(ivl (r127 9))<3)∧((3:Int)≤0→(ivl (r127 9))=0))∧((sth (N127 4) 1)≤sth (N127 9) 1∧sth (N127 9) 1≤(sth (N127 4) 1)+1) | 10=>(r127 10)=.agg ⟨pkT 8 ((ivl (r127 9))) ((sml (r127 4))) nS nS⟩ | 11=>(r127 11)=pp (Wx (r127 11)) 0∧(N127 11)=(BX (Wx (r127 11)) (pkT 0 0 zS nS nS) 51) | _=>True) ⟨?_,?_,?_,?_,?_,?_,?_,?_,?_,?_,?_,?_,trivial⟩ ?_
 ·intro ρ r127 N127 B hB hBa hBb hp hr hr0
  obtain ⟨ρ128,rfl⟩:=Zi (uc (show ρ 3=pp b1 0 from hr0 3 (by kernel_rfl)) un)
  refine JLr (Zc XZ rfl (ZcK 16 (Ym ((hB 4 (by decide)).trans rfl))) rfl<|Za ?_)
  exact ⟨pp bM 0,[],rfl,(ZcL Sub.refl),rfl⟩
 ·intro ρ r127 N127 B hB hBa hBb hp hr hr0
  have p0:(r127 0)=pp bM 0:=hp 0 (by decide) rfl
  obtain ⟨ρ129,rfl⟩:=Zi (uc (show ρ 196=pp bM 0 from (hr 0 _ _ (by decide) rfl rfl rfl).trans p0) un)
  refine JLq (pp bM 0) (Pu.nilCheck rfl)<|Za ?_
  exact ⟨pp bM 0,[],rfl,(ZcL Sub.refl),rfl⟩
 ·intro ρ r127 N127 B hB hBa hBb hp hr hr0
  have p1:(r127 1)=pp bM 0:=hp 1 (by decide) rfl
  obtain ⟨ρ130,rfl⟩:=Zi (uc (show ρ 197=pp bM 0 from (hr 1 _ _ (by decide) rfl rfl rfl).trans p1) un)
  refine JLq (pp bM 0) (Y9 rfl rfl)<|Za ?_
  exact ⟨pp bM 0,[],rfl,(ZcL Sub.refl),rfl⟩
 ·intro ρ r127 N127 B hB hBa hBb hp hr hr0
  have p2:(r127 2)=pp bM 0:=hp 2 (by decide) rfl
  obtain ⟨ρ131,rfl⟩:=Zi (uc (show ρ 198=pp bM 0 from (hr 2 _ _ (by decide) rfl rfl rfl).trans p2) un)
  refine JLr (Zc W5 rfl (ZcK 17 (Ym ((hB 5 (by decide)).trans rfl))) rfl<|Za ?_)
  exact ⟨pp bS 0,[],rfl,(ZcL Sub.refl),rfl⟩
 ·intro ρ r127 N127 B hB hBa hBb hp hr hr0
  have p3:(r127 3)=pp bS 0:=hp 3 (by decide) rfl
  obtain ⟨ρ132,rfl⟩:=Zi (uc (show ρ 199=pp bS 0 from (hr 3 _ _ (by decide) rfl rfl rfl).trans p3) un)
  have hB2:=hBa rfl
  change B=[(BX bS [v,iv aj,.int .u64 sj] 109),(BX b4 (pkT 0 0 zS nS nS) 51),(BX b3 [iv m] 3),(BX b2 [iv d] 3),(BX b1 [pp bM 0] 156),(BX bM [pp bS 0,iv (L-1)] 158)] at hB2
  subst hB2
  refine ZB (M':=[(N127 0),(N127 1),(N127 2),(N127 3),[],(N127 5),(N127 6),(N127 7),(N127 8),[],(N127 10),(N127 11),(BX bS [v,iv aj,.int .u64 sj] 109),(BX b4 (pkT 0 0 zS nS nS) 51),(BX b3 [iv m] 3),(BX b2 [iv d] 3),(BX b1 [pp bM 0] 156),(BX bM [pp bS 0,iv (L-1)] 158)]) Sub.refl<|Zs 12 rfl call159 rfl rfl (fun hin=>QB _ _ _ _ _ _ (RBs.mono (Hle.hu _ _) hv) (by omega) (by omega) _ _ (by omega) (by omega) (by omega)) rfl ?_
  rintro _ _ ⟨n133,a133,s133,rfl,rfl,hw133,ha133⟩
  refine Za ?_
  exact ⟨.agg ⟨sC n133⟩,(BX bS [v,iv a133,.int .u64 s133] 109),rfl,(Sub.flat (M':=[(N127 0),(N127 1),(N127 2),(N127 3),[],(N127 5),(N127 6),(N127 7),(N127 8),[],(N127 10),(N127 11),(BX bS [v,iv a133,.int .u64 s133] 109),(BX b4 (pkT 0 0 zS nS nS) 51),(BX b3 [iv m] 3),(BX b2 [iv d] 3),(BX b1 [pp bM 0] 156),(BX bM [pp bS 0,iv (L-1)] 158)]) (Sub.cons 1 rfl (Sub.cons 1 rfl (Sub.cons 1 rfl (Sub.cons 1 rfl (ZcL (Sub.cons 2 rfl (Sub.cons 2 rfl (Sub.cons 2 rfl (Sub.cons 2 rfl (ZcL (Sub.cons 3 rfl (Sub.cons 3 rfl (Sk (Sd (Sd (Sk (Sk (Sk (Sk (Sk Sub.nil)))))))))))))))))))) rfl),⟨LM _,rfl,Ja hw133,ha133⟩⟩
 ·intro ρ r127 N127 B hB hBa hBb hp hr hr0
  obtain ⟨ρ134,rfl⟩:=Zi (uc (show ρ 3=pp b1 0 from hr0 3 (by kernel_rfl)) un)
  refine JLr (Zc XZ rfl (ZcK 16 (Ym ((hB 4 (by decide)).trans rfl))) rfl<|Za ?_)
  exact ⟨pp bM 0,[],rfl,(ZcL Sub.refl),rfl⟩
 ·intro ρ r127 N127 B hB hBa hBb hp hr hr0
  have p5:(r127 5)=pp bM 0:=hp 5 (by decide) rfl
  obtain ⟨ρ135,rfl⟩:=Zi (uc (show ρ 201=pp bM 0 from (hr 5 _ _ (by decide) rfl rfl rfl).trans p5) un)
  refine JLq (pp bM 0) (Pu.nilCheck rfl)<|Za ?_
  exact ⟨pp bM 0,[],rfl,(ZcL Sub.refl),rfl⟩
 ·intro ρ r127 N127 B hB hBa hBb hp hr hr0
  have p6:(r127 6)=pp bM 0:=hp 6 (by decide) rfl
  obtain ⟨ρ136,rfl⟩:=Zi (uc (show ρ 202=pp bM 0 from (hr 6 _ _ (by decide) rfl rfl rfl).trans p6) un)
  refine JLq (pp bM 0) (Y9 rfl rfl)<|Za ?_
  exact ⟨pp bM 0,[],rfl,(ZcL Sub.refl),rfl⟩
 ·intro ρ r127 N127 B hB hBa hBb hp hr hr0
  have p7:(r127 7)=pp bM 0:=hp 7 (by decide) rfl
  obtain ⟨ρ137,rfl⟩:=Zi (uc (show ρ 203=pp bM 0 from (hr 7 _ _ (by decide) rfl rfl rfl).trans p7) un)
  refine JLr (Zc W5 rfl (ZcK 17 (Ym ((hB 5 (by decide)).trans rfl))) rfl<|Za ?_)
  exact ⟨pp bS 0,[],rfl,(ZcL Sub.refl),rfl⟩
 ·intro ρ r127 N127 B hB hBa hBb hp hr hr0
  have p4:(r127 4)=.agg ⟨sC ((sml (r127 4)))⟩∧(N127 4)=(BX bS [v,iv ((sth (N127 4) 1)),.int .u64 ((sth (N127 4) 2))] 109)∧Ss (sml (r127 4))∧(aj≤sth (N127 4) 1∧sth (N127 4) 1≤aj+1):=hp 4 (by decide) rfl
  have p8:(r127 8)=pp bS 0:=hp 8 (by decide) rfl
  obtain ⟨ρ138,rfl⟩:=Zi (uc (show ρ 204=pp bS 0 from (hr 8 _ _ (by decide) rfl rfl rfl).trans p8) un)
  have hB2:=hBa rfl
  change B=[(N127 4),(BX b4 (pkT 0 0 zS nS nS) 51),(BX b3 [iv m] 3),(BX b2 [iv d] 3),(BX b1 [pp bM 0] 156),(BX bM [pp bS 0,iv (L-1)] 158)] at hB2
  subst hB2
  refine ZB (M':=[(N127 0),(N127 1),(N127 2),(N127 3),[],(N127 5),(N127 6),(N127 7),(N127 8),[],(N127 10),(N127 11),(N127 4),(BX b4 (pkT 0 0 zS nS nS) 51),(BX b3 [iv m] 3),(BX b2 [iv d] 3),(BX b1 [pp bM 0] 156),(BX bM [pp bS 0,iv (L-1)] 158)]) Sub.refl<|ZB (M':=[(N127 0),(N127 1),(N127 2),(N127 3),[],(N127 5),(N127 6),(N127 7),(N127 8),[],(N127 10),(N127 11),(BX bS [v,iv ((sth (N127 4) 1)),.int .u64 ((sth (N127 4) 2))] 109),(BX b4 (pkT 0 0 zS nS nS) 51),(BX b3 [iv m] 3),(BX b2 [iv d] 3),(BX b1 [pp bM 0] 156),(BX bM [pp bS 0,iv (L-1)] 158)]) (Sk (Sk (Sk (Sk (ZcL (Sd (Sk (Sk (Sk (Sk (ZcL (Sd (Sk (Sk (Se p4.2.1 (Sk (Sk (Sk (Sk (Sk Sub.nil))))))))))))))))))))<|Zs 12 rfl call22 rfl rfl (fun hin=>Yw _ _ _ _ _ _ (RBs.mono (Hle.hu _ _) hv) (by omega) (by omega) _) rfl ?_
  rintro _ _ ⟨n139,a139,s139,rfl,rfl,hn139,ha139⟩
  refine Za ?_
  exact ⟨iv n139,(BX bS [v,iv a139,.int .u64 s139] 109),rfl,(Sub.flat (M':=[(N127 0),(N127 1),(N127 2),(N127 3),[],(N127 5),(N127 6),(N127 7),(N127 8),[],(N127 10),(N127 11),(BX bS [v,iv a139,.int .u64 s139] 109),(BX b4 (pkT 0 0 zS nS nS) 51),(BX b3 [iv m] 3),(BX b2 [iv d] 3),(BX b1 [pp bM 0] 156),(BX bM [pp bS 0,iv (L-1)] 158)]) (Sub.cons 1 rfl (Sub.cons 1 rfl (Sub.cons 1 rfl (Sub.cons 1 rfl (ZcL (Sub.cons 2 rfl (Sub.cons 2 rfl (Sub.cons 2 rfl (Sub.cons 2 rfl (ZcL (Sub.cons 3 rfl (Sub.cons 3 rfl (Sk (Sd (Sd (Sk (Sk (Sk (Sk (Sk Sub.nil)))))))))))))))))))) rfl),⟨rfl,rfl,hn139,ha139⟩⟩
 ·intro ρ r127 N127 B hB hBa hBb hp hr hr0
  have p4:(r127 4)=.agg ⟨sC ((sml (r127 4)))⟩∧(N127 4)=(BX bS [v,iv ((sth (N127 4) 1)),.int .u64 ((sth (N127 4) 2))] 109)∧Ss (sml (r127 4))∧(aj≤sth (N127 4) 1∧sth (N127 4) 1≤aj+1):=hp 4 (by decide) rfl
  have p9:(r127 9)=iv ((ivl (r127 9)))∧(N127 9)=(BX bS [v,iv ((sth (N127 9) 1)),.int .u64 ((sth (N127 9) 2))] 109)∧(0≤(ivl (r127 9))∧((0:Int)<3→(ivl (r127 9))<3)∧((3:Int)≤0→(ivl (r127 9))=0))∧((sth (N127 4) 1)≤sth (N127 9) 1∧sth (N127 9) 1≤(sth (N127 4) 1)+1):=hp 9 (by decide) rfl
  obtain ⟨ρ140,rfl⟩:=Zi (uc (show ρ 200=.agg ⟨sC ((sml (r127 4)))⟩ from (hr 4 _ _ (by decide) rfl rfl rfl).trans p4.1) (uc (show ρ 205=iv ((ivl (r127 9))) from (hr 9 _ _ (by decide) rfl rfl rfl).trans p9.1) un))
  refine Jc call165 rfl (fun hin=>Zb5 _ _ none 0 0 _) rfl ?_
  rintro _ _ ⟨rfl,rfl⟩
  refine Za ?_
  exact ⟨.agg ⟨pkT 8 ((ivl (r127 9))) ((sml (r127 4))) nS nS⟩,[],rfl,(ZcL Sub.refl),rfl⟩
 ·intro ρ r127 N127 B hB hBa hBb hp hr hr0
  refine JLr (Zk (l:=pkT 0 0 zS nS nS) zeroValue51 rfl fun b141=>Za ?_)
  exact ⟨pp b141 0,(BX b141 (pkT 0 0 zS nS nS) 51),rfl,Sub.refl,⟨rfl,rfl⟩⟩
 intro ρ r127 N127 hp hr hr0
 have p4:(r127 4)=.agg ⟨sC ((sml (r127 4)))⟩∧(N127 4)=(BX bS [v,iv ((sth (N127 4) 1)),.int .u64 ((sth (N127 4) 2))] 109)∧Ss (sml (r127 4))∧(aj≤sth (N127 4) 1∧sth (N127 4) 1≤aj+1):=hp 4 (by decide)
 have p9:(r127 9)=iv ((ivl (r127 9)))∧(N127 9)=(BX bS [v,iv ((sth (N127 9) 1)),.int .u64 ((sth (N127 9) 2))] 109)∧(0≤(ivl (r127 9))∧((0:Int)<3→(ivl (r127 9))<3)∧((3:Int)≤0→(ivl (r127 9))=0))∧((sth (N127 4) 1)≤sth (N127 9) 1∧sth (N127 9) 1≤(sth (N127 4) 1)+1):=hp 9 (by decide)
 have p11:(r127 11)=pp (Wx (r127 11)) 0∧(N127 11)=(BX (Wx (r127 11)) (pkT 0 0 zS nS nS) 51):=hp 11 (by decide)
 obtain ⟨ρ142,rfl⟩:=Zi (uc (show ρ 3=pp b1 0 from hr0 3 (by kernel_rfl)) (uc (show ρ 6=pp b4 0 from hr0 6 (by kernel_rfl)) (uc (show ρ 7=.func (.func 157) ⟨[]⟩ ⟨[pp b1 0,pp b2 0,pp b3 0]⟩ from hr0 7 (by kernel_rfl)) (uc (show ρ 12=pp (Wx (r127 11)) 0 from (hr 11 _ _ (by decide) rfl rfl).trans p11.1) (uc (show ρ 206=.agg ⟨pkT 8 ((ivl (r127 9))) ((sml (r127 4))) nS nS⟩ from (hr 10 _ _ (by decide) rfl rfl).trans (hp 10 (by decide))) un)))))
 have p127_4:=p4;have p127_9:=p9;have p127_11:=p11
 clear hp hr hr0 p4 p9 p11
 refine ZB (M':=[(N127 0),(N127 1),(N127 2),(N127 3),[],(N127 5),(N127 6),(N127 7),(N127 8),[],(N127 10),(N127 11),(N127 9),(BX b4 (pkT 0 0 zS nS nS) 51),(BX b3 [iv m] 3),(BX b2 [iv d] 3),(BX b1 [pp bM 0] 156),(BX bM [pp bS 0,iv (L-1)] 158)]) Sub.refl<|ZB (M':=[(BX (Wx (r127 11)) (pkT 0 0 zS nS nS) 51),(BX bS [v,iv ((sth (N127 9) 1)),.int .u64 ((sth (N127 9) 2))] 109),(BX b4 (pkT 0 0 zS nS nS) 51),(BX b3 [iv m] 3),(BX b2 [iv d] 3),(BX b1 [pp bM 0] 156),(BX bM [pp bS 0,iv (L-1)] 158)]) (Sd (Sd (Sd (Sd (Sd (Sd (Sd (Sd (Sd (Sd (Sd (Se p127_11.2 (Se p127_9.2.1 (Sk (Sk (Sk (Sk (Sk Sub.nil))))))))))))))))))<|ZB (M':=[(BX (Wx (r127 11)) (pkT 0 0 zS nS nS) 51),(BX bS [v,iv ((sth (N127 9) 1)),.int .u64 ((sth (N127 9) 2))] 109),(BX b4 (pkT 0 0 zS nS nS) 51),(BX b3 [iv m] 3),(BX b2 [iv d] 3),(BX b1 [pp bM 0] 156),(BX bM [pp bS 0,iv (L-1)] 158)]) (Sub.flat Sub.refl (by simp)) ?_
 show JL _ _ _ [_] _ _ _
 refine JLr (Zb 0 (vs:=pkT 8 ((ivl (r127 9))) ((sml (r127 4))) nS nS) (l:=pkT 8 ((ivl (r127 9))) ((sml (r127 4))) nS nS) Zu rfl rfl rfl rfl rfl (ZR rfl rfl) (Yb ..)<|Za<|Zg<|Zd<|JLr (Zc XZ rfl (ZcK 5 rfl) rfl<|JLq (pp bM 0) (Pu.nilCheck rfl)<|JLq (pp bM 0) (Y9 rfl rfl)<|JLr (Zc W5 rfl (ZcK 6 rfl) rfl<|Zs 1 rfl call22 rfl rfl (fun hin=>Yw _ _ _ _ _ _ (RBs.mono (Hle.hu _ _) hv) (by omega) (by omega) _) rfl ?_)))
 rintro _ _ ⟨n143,a143,s143,rfl,rfl,hn143,ha143⟩
 refine JLM rfl<|Za<|Zm<|ZD (fun k ρ M=>∃ (j:Nat) (ts:List Tm) (w:Value) (es:List (List Value)) (k1 k2:Zf) (lw aw sw:Int),ρ 6=pp b4 0∧ρ 7=.func (.func 157) ⟨[]⟩ ⟨[pp b1 0,pp b2 0,pp b3 0]⟩∧ρ 12=pp (Wx (r127 11)) 0∧ρ 211=iv n143∧ρ 212=iv ((j:Int))∧Sub [(BX (Wx (r127 11)) (pkT 8 ((ivl (r127 9))) ((sml (r127 4))) w nS) 51),k1,k2,(BX bM [pp bS 0,iv lw] 158),(BX bS [v,iv aw,.int .u64 sw] 109),(BX b4 (pkT 0 0 zS nS nS) 51),(BX b3 [iv m] 3),(BX b2 [iv d] 3),(BX b1 [pp bM 0] 156)] M∧(j:Int)≤n143∧Own 51 36 w es k1∧OTs ts es k2∧ts.length=j∧Z0 d m 0 8 0 ts=0∧((sizeTs ts:Int)≤((L-1)-lw)+14*(max ((L-1)-1) 0-max (lw-1) 0)∧Yi ts≤max (L-2) 0+9)∧Wl ts∧(lw≤L-1∧ -3*(L-2)-((j:Int)+ -1)≤lw)∧(a≤aw∧aw≤a+100*(L-1-lw)+10)∧k=n143.toNat-j) _ ⟨0,[],nS,([]),([]),([]),(L-1),a143,s143,rfl,rfl,rfl,rfl,rfl,(Sub.cons 1 rfl (ZcL (ZcL (Sub.cons 5 rfl (Sk (Sk (Sk (Sk (Sk Sub.nil))))))))),(by omega),Own.nil,OTs.nil,rfl,(by simp [Z0]),(by simp only [sizeTs,Yi];omega),trivial,(by omega),(by omega),rfl⟩ ?_
 rintro _ ρ144 _ ⟨j,ts,w,es,k1,k2,lw,aw,sw,e145,e146,e147,e148,e149,hm150,hj,how,hopw,hpl,hpe,hps,hpw,hpb,hpa,rfl⟩
 obtain ⟨ρ151,rfl⟩:=Zi (uc e145 (uc e146 (uc e147 (uc e148 (uc e149 un)))))
 clear e145 e146 e147 e148 e149
 refine ZF hm150<|Zd<|JLn (Pu.lss rfl rfl)<|Za<|Zg<|Zt rfl (fun h152=>?_) (fun h152=>?_)
 ·replace h152:=dt h152
  have helw:=YH hopw
  refine Zo<|Zg<|Zm<|ZF (ZcO (Sub.cons 3 rfl (Sub.cons 3 rfl (Sk (Sk (Sk (Sk (Sk (Sk (Sk Sub.nil))))))))))<|WF mixed #[0,1,0,4,12,31,63,127] 5 0 [3] rfl (by kernel_rfl) (by decide) rfl (by kernel_rfl) (fun i r153 N153=>match i with | 0=>(r153 0)=pp (Wx (r127 11)) 34 | 1=>(r153 1)=w | 2=>(r153 2)=.func (.func 157) ⟨[]⟩ ⟨[pp b1 0,pp b2 0,pp b3 0]⟩ | 3=>(r153 3)=.agg ⟨(cll (r153 3))⟩∧(cll (r153 3)).length=36∧okc (cll (r153 3))∧∃ tM kM lM aM sM,(N153 3)=((BX bM [pp bS 0,iv lM] 158))++(((BX bS [v,iv aM,.int .u64 sM] 109))++kM)∧OT tM (cll (r153 3)) kM∧(ZV (d+0) m 0 tM=0∧((sizeT tM:Int)≤(lw-lM)+14*(max (lw-1) 0-max (lM-1) 0)∧Yj tM≤max (lw-1) 0+9)∧X1 tM)∧(lM≤lw-1∧(lw≤1→lM=lw-1)∧(1≤lw→ -3*(lw-1)≤lM))∧(aw≤aM∧aM≤aw+100*(lw-lM)) | 4=>(r153 4)=.slice (some ⟨(Y3 (r153 4)),0,none⟩) 1 1∧(N153 4)=[(Y3 (r153 4),.cells ⟨flatten [(cll (r153 3))]⟩ 51 (0,0))]∧Own 51 36 (.slice (some ⟨(Y3 (r153 4)),0,none⟩) 1 1) [(cll (r153 3))] (N153 4) | _=>True) ⟨?_,?_,?_,?_,?_,trivial⟩ ?_
  ·intro ρ r153 N153 B hB hBa hBb hp hr hr0
   obtain ⟨ρ154,rfl⟩:=Zi (uc (show ρ 12=pp (Wx (r127 11)) 0 from hr0 12 (by kernel_rfl)) un)
   refine JLq (pp (Wx (r127 11)) 34) (YS rfl rfl)<|Za ?_
   exact ⟨pp (Wx (r127 11)) 34,[],rfl,(ZcL Sub.refl),rfl⟩
  ·intro ρ r153 N153 B hB hBa hBb hp hr hr0
   have p0:(r153 0)=pp (Wx (r127 11)) 34:=hp 0 (by decide) rfl
   obtain ⟨ρ155,rfl⟩:=Zi (uc (show ρ 214=pp (Wx (r127 11)) 34 from (hr 0 _ _ (by decide) rfl rfl rfl).trans p0) un)
   refine JLr (Zc XE rfl (ZcK 6 (Ym ((hB 1 (by decide)).trans rfl))) (Xq ..)<|Za ?_)
   exact ⟨w,[],rfl,(ZcL Sub.refl),rfl⟩
  ·intro ρ r153 N153 B hB hBa hBb hp hr hr0
   obtain ⟨ρ156,rfl⟩:=Zi (uc (show ρ 7=.func (.func 157) ⟨[]⟩ ⟨[pp b1 0,pp b2 0,pp b3 0]⟩ from hr0 7 (by kernel_rfl)) un)
   refine JLM rfl<|Za ?_
   exact ⟨.func (.func 157) ⟨[]⟩ ⟨[pp b1 0,pp b2 0,pp b3 0]⟩,[],rfl,(ZcL Sub.refl),rfl⟩
  ·intro ρ r153 N153 B hB hBa hBb hp hr hr0
   have p2:(r153 2)=.func (.func 157) ⟨[]⟩ ⟨[pp b1 0,pp b2 0,pp b3 0]⟩:=hp 2 (by decide) rfl
   obtain ⟨ρ157,rfl⟩:=Zi (uc (show ρ 216=.func (.func 157) ⟨[]⟩ ⟨[pp b1 0,pp b2 0,pp b3 0]⟩ from (hr 2 _ _ (by decide) rfl rfl rfl).trans p2) un)
   have hB2:=hBa rfl
   change B=[((BX bM [pp bS 0,iv lw] 158))++((BX bS [v,iv aw,.int .u64 sw] 109)),(BX (Wx (r127 11)) (pkT 8 ((ivl (r127 9))) ((sml (r127 4))) w nS) 51),k1,k2,(BX b4 (pkT 0 0 zS nS nS) 51),(BX b3 [iv m] 3),(BX b2 [iv d] 3),(BX b1 [pp bM 0] 156)] at hB2
   subst hB2
   refine ZB (M':=[(N153 0),(N153 1),(N153 2),[],(N153 4),((BX bM [pp bS 0,iv lw] 158))++((BX bS [v,iv aw,.int .u64 sw] 109)),(BX (Wx (r127 11)) (pkT 8 ((ivl (r127 9))) ((sml (r127 4))) w nS) 51),k1,k2,(BX b4 (pkT 0 0 zS nS nS) 51),(BX b3 [iv m] 3),(BX b2 [iv d] 3),(BX b1 [pp bM 0] 156)]) Sub.refl<|Zs 5 rfl call157 rfl rfl (fun hin=>XD _ _ _ _ _ _ _ _ _ _ _ _ _ _ (RBs.mono (Hle.hu _ _) hv) (hin 11 _ rfl _ _ mem_cons_self) (hin 10 _ rfl _ _ mem_cons_self) (hin 9 _ rfl _ _ mem_cons_self) (by omega) (by omega) (by omega) (by omega) (fun h hh=>ih _ (by omega) _ _ _ _ _ _ _ _ _ _ rfl (RBs.mono hh (RBs.mono (Hle.hu _ _) hv)) (by omega) (by omega) (by omega) (by omega) (by omega) (by omega) (by omega) (by omega))) rfl ?_
   rintro _ _ ⟨t158,cs158,k158,l158,a158,s158,rfl,rfl,hO158,⟨hn158,hz158,hw158⟩,hl158,ha158⟩
   refine ZB (M':=[(BX bM [pp bS 0,iv l158] 158),(BX bS [v,iv a158,.int .u64 s158] 109),k158,(N153 0),(N153 1),(N153 2),[],(N153 4),(BX (Wx (r127 11)) (pkT 8 ((ivl (r127 9))) ((sml (r127 4))) w nS) 51),k1,k2,(BX b4 (pkT 0 0 zS nS nS) 51),(BX b3 [iv m] 3),(BX b2 [iv d] 3),(BX b1 [pp bM 0] 156)]) (Sub.flat Sub.refl (by simp))<|Za ?_
   exact ⟨.agg ⟨cs158⟩,((BX bM [pp bS 0,iv l158] 158))++(((BX bS [v,iv a158,.int .u64 s158] 109))++k158),rfl,(Sub.flat (M':=[(N153 0),(N153 1),(N153 2),[],(N153 4),((BX bM [pp bS 0,iv l158] 158))++(((BX bS [v,iv a158,.int .u64 s158] 109))++k158),(BX (Wx (r127 11)) (pkT 8 ((ivl (r127 9))) ((sml (r127 4))) w nS) 51),k1,k2,(BX b4 (pkT 0 0 zS nS nS) 51),(BX b3 [iv m] 3),(BX b2 [iv d] 3),(BX b1 [pp bM 0] 156)]) (Sub.cons 3 rfl (Sub.cons 3 rfl (Sub.cons 3 rfl (ZcL (Sub.cons 4 rfl (ZcY (Sk (Sk (Sk (Sd (Sk (Sk (Sk (Sk (Sk (Sk (Sk Sub.nil))))))))))))))))) rfl),⟨rfl,hO158.len,hO158.ok,t158,k158,l158,a158,s158,rfl,hO158,⟨hn158,hz158,hw158⟩,hl158,ha158⟩⟩
  ·intro ρ r153 N153 B hB hBa hBb hp hr hr0
   have p3:(r153 3)=.agg ⟨(cll (r153 3))⟩∧(cll (r153 3)).length=36∧okc (cll (r153 3))∧∃ tM kM lM aM sM,(N153 3)=((BX bM [pp bS 0,iv lM] 158))++(((BX bS [v,iv aM,.int .u64 sM] 109))++kM)∧OT tM (cll (r153 3)) kM∧(ZV (d+0) m 0 tM=0∧((sizeT tM:Int)≤(lw-lM)+14*(max (lw-1) 0-max (lM-1) 0)∧Yj tM≤max (lw-1) 0+9)∧X1 tM)∧(lM≤lw-1∧(lw≤1→lM=lw-1)∧(1≤lw→ -3*(lw-1)≤lM))∧(aw≤aM∧aM≤aw+100*(lw-lM)):=hp 3 (by decide) rfl
   obtain ⟨ρ159,rfl⟩:=Zi (uc (show ρ 217=.agg ⟨(cll (r153 3))⟩ from (hr 3 _ _ (by decide) rfl rfl rfl).trans p3.1) un)
   refine JLr (Zj (vs:=[.agg ⟨(cll (r153 3))⟩]) [(cll (r153 3))] ZI YM rfl rfl (by intro e he;simp only [mem_cons,not_mem_nil,or_false] at he;subst he;exact p3.2.1) rfl (by decide) fun b160 k160 ho160 hk160=>Za ?_)
   exact ⟨.slice (some ⟨b160,0,none⟩) 1 1,k160,rfl,Sub.refl,⟨rfl,hk160,ho160⟩⟩
  intro ρ r153 N153 hp hr hr0
  have p3:(r153 3)=.agg ⟨(cll (r153 3))⟩∧(cll (r153 3)).length=36∧okc (cll (r153 3))∧∃ tM kM lM aM sM,(N153 3)=((BX bM [pp bS 0,iv lM] 158))++(((BX bS [v,iv aM,.int .u64 sM] 109))++kM)∧OT tM (cll (r153 3)) kM∧(ZV (d+0) m 0 tM=0∧((sizeT tM:Int)≤(lw-lM)+14*(max (lw-1) 0-max (lM-1) 0)∧Yj tM≤max (lw-1) 0+9)∧X1 tM)∧(lM≤lw-1∧(lw≤1→lM=lw-1)∧(1≤lw→ -3*(lw-1)≤lM))∧(aw≤aM∧aM≤aw+100*(lw-lM)):=hp 3 (by decide)
  have p4:(r153 4)=.slice (some ⟨(Y3 (r153 4)),0,none⟩) 1 1∧(N153 4)=[(Y3 (r153 4),.cells ⟨flatten [(cll (r153 3))]⟩ 51 (0,0))]∧Own 51 36 (.slice (some ⟨(Y3 (r153 4)),0,none⟩) 1 1) [(cll (r153 3))] (N153 4):=hp 4 (by decide)
  obtain ⟨ρ161,rfl⟩:=Zi (uc (show ρ 6=pp b4 0 from hr0 6 (by kernel_rfl)) (uc (show ρ 7=.func (.func 157) ⟨[]⟩ ⟨[pp b1 0,pp b2 0,pp b3 0]⟩ from hr0 7 (by kernel_rfl)) (uc (show ρ 12=pp (Wx (r127 11)) 0 from hr0 12 (by kernel_rfl)) (uc (show ρ 211=iv n143 from hr0 211 (by kernel_rfl)) (uc (show ρ 212=iv ((j:Int)) from hr0 212 (by kernel_rfl)) (uc (show ρ 215=w from (hr 1 _ _ (by decide) rfl rfl).trans (hp 1 (by decide))) (uc (show ρ 218=.slice (some ⟨(Y3 (r153 4)),0,none⟩) 1 1 from (hr 4 _ _ (by decide) rfl rfl).trans p4.1) un)))))))
  have p153_3:=p3;have p153_4:=p4
  clear hp hr hr0 p3 p4
  refine ZB (M':=[(N153 0),(N153 1),(N153 2),[],(N153 4),(N153 3),(BX (Wx (r127 11)) (pkT 8 ((ivl (r127 9))) ((sml (r127 4))) w nS) 51),k1,k2,(BX b4 (pkT 0 0 zS nS nS) 51),(BX b3 [iv m] 3),(BX b2 [iv d] 3),(BX b1 [pp bM 0] 156)]) Sub.refl ?_
  obtain ⟨tM153_3,kM153_3,lM153_3,aM153_3,sM153_3,hNM153_3,hOM153_3,⟨hnM153_3,hzM153_3,hwM153_3⟩,hlM153_3,haM153_3⟩:=p153_3.2.2.2
  refine ZB (M':=[(N153 4),((BX bM [pp bS 0,iv lM153_3] 158))++(((BX bS [v,iv aM153_3,.int .u64 sM153_3] 109))++kM153_3),(BX (Wx (r127 11)) (pkT 8 ((ivl (r127 9))) ((sml (r127 4))) w nS) 51),k1,k2,(BX b4 (pkT 0 0 zS nS nS) 51),(BX b3 [iv m] 3),(BX b2 [iv d] 3),(BX b1 [pp bM 0] 156)]) (Sd (Sd (Sd (Sd (Sk (Se hNM153_3 (Sk (Sk (Sk (Sk (Sk (Sk (Sk Sub.nil)))))))))))))<|ZB (M':=[(N153 4),(BX bM [pp bS 0,iv lM153_3] 158),(BX bS [v,iv aM153_3,.int .u64 sM153_3] 109),kM153_3,(BX (Wx (r127 11)) (pkT 8 ((ivl (r127 9))) ((sml (r127 4))) w nS) 51),k1,k2,(BX b4 (pkT 0 0 zS nS nS) 51),(BX b3 [iv m] 3),(BX b2 [iv d] 3),(BX b1 [pp bM 0] 156)]) (Sub.flat Sub.refl (by simp)) ?_
  show JL _ _ _ [_,_,_] _ _ _
  have hlens162:∀ e∈([(cll (r153 3))]:List (List Value)),List.length e=36:=by
   intro e he;simp only [mem_cons,not_mem_nil,or_false] at he
   rcases he with rfl
   ·exact p153_3.2.1
  have hoks162:∀ e∈([(cll (r153 3))]:List (List Value)),okc e:=by
   intro e he;simp only [mem_cons,not_mem_nil,or_false] at he
   rcases he with rfl
   ·exact p153_3.2.2.1
  refine JLr (ZA (i:=5) (n:=1) (es':=[(cll (r153 3))]) ZI ZI (Or.inl rfl) YM rfl rfl rfl how (fun F w m=>Src.row (((ZcS 0 rfl (by rw [p153_4.2.1];exact mem_cons_self))).heap m) (Zx (Zw hlens162))) rfl hlens162 hoks162 (by decide) (by omega) fun v162 k162 ho162=>JLq (pp (Wx (r127 11)) 34) (YS rfl rfl)<|JLr (Zb 4 (vs:=[v162]) (l:=pkT 8 ((ivl (r127 9))) ((sml (r127 4))) v162 nS) XE rfl rfl rfl (ZH ho162.one) rfl (Zh ho162.one Zq) (U8 ..)<|Za<|Ze<|JLn (ZcP rfl rfl (by omega))<|JLM rfl<|Za<|⟨_,?_,(j+1),(ts++[tM153_3]),v162,(es++[(cll (r153 3))]),k162,(k2++kM153_3),lM153_3,aM153_3,sM153_3,rfl,rfl,rfl,rfl,rfl,(Sd (Sub.cons 3 rfl (Sub.cons 3 rfl (ZcO (Sub.cons 3 rfl (Sub.cons 2 rfl (Sk (Sk (Sk (Sk (Sk (Sk Sub.nil)))))))))))),?_,?_,?_,?_,?_,?_,?_,?_,?_,rfl⟩))
  ·omega
  ·omega
  ·exact ho162
  ·exact OTs.snoc hOM153_3 hopw
  ·simp;omega
  ·exact IX hpe (by simpa using hnM153_3)
  ·rw [RL,Po];omega
  ·rw [Ol];exact ⟨hpw,hwM153_3,trivial⟩
  ·omega
  omega
 replace h152:=df h152
 refine ZC _ rfl<|Zd<|JLr (Zn Zu rfl (ZcK 0 rfl) (Z4 ..)<|JLr (Zb 5 (vs:=pkT 8 ((ivl (r127 9))) ((sml (r127 4))) w nS) (l:=pkT 8 ((ivl (r127 9))) ((sml (r127 4))) w nS) Zu rfl rfl rfl rfl rfl (ZR how.one rfl) (Yb ..)<|Za<|Zz<|⟨.agg ⟨pkT 8 ((ivl (r127 9))) ((sml (r127 4))) w nS⟩,[((BX bM [pp bS 0,iv lw] 158))++((BX bS [v,iv aw,.int .u64 sw] 109)),k1++k2],Ret.one rfl (RV.cell Zu rfl (ZcK 5 rfl) (Z4 ..)),(ZcO (Sd (Sub.cons 2 rfl (Sub.cons 2 rfl (ZcO (Sk (Sk Sub.nil))))))),?_⟩))
 exact ⟨.mk 8 ((ivl (r127 9))) ((sml (r127 4))) ts [],_,_,_,_,_,rfl,rfl,U0 (by unfold inI;omega) (by unfold inI;omega) how hopw (by omega),⟨FF (by omega) (by omega) (by omega) hpe,by simp only [vaT,nuT,sizeT,sizeTs,sizeCs,Yj,Yi,Yo];omega,by rw [X1];exact ⟨p127_4.2.2.1,hpw,trivial⟩⟩,by omega,by omega⟩
theorem LP (bS:Nat) (v:Value) (l:List Int) (a s:Int) (H:Heap) (hv:Hs.rdS RB 1 H v l) (ha0:0≤a) (ha1:a≤2000000000) (d m z:Int) (hz0:1≤z) (hz1:z≤60) (ha2:a+400*z≤1000000) (hd0:0≤d) (hd1:d+10*z≤10000) (hm0:0≤m) (hm1:m≤8):CT prog 63 ⟨[pp bS 0,iv d,iv m,iv z]⟩ [(BX bS [v,iv a,.int .u64 s] 109)] H (fun r N=>∃ t cs k a' s',r=.agg ⟨cs⟩∧N=[(BX bS [v,iv (a'),.int .u64 (s')] 109),k]∧OT t cs k∧(ZV d m 0 t=0∧((sizeT t:Int)≤18*z-17∧Yj t≤z+8)∧X1 t)∧(a≤a'∧a'≤a+400*z)):=by
 refine Zl func63 rfl rfl<|Zd<|JLr (Zk (l:=pkT 0 0 zS nS nS) zeroValue51 rfl fun b1=>Za<|Zd<|JLM rfl<|JLM rfl<|JLq (.agg ⟨[pp bS 0,iv z]⟩) (Pu.build (pv:=[(0,pp bS 0),(1,iv z)]) (l:=[pp bS 0,iv z]) rfl (Zcb _ _))<|JLr (Zr (l:=[pp bS 0,iv z]) rfl rfl fun b2=>JLA rfl<|Za ?_))
 refine Zd<|JLM rfl<|JLM rfl<|JLM rfl<|ZB (ZcO (Sk (Sub.cons 1 rfl (Sk Sub.nil))))<|Zs 0 rfl call113 rfl rfl (fun hin=>IE _ _ _ _ _ _ _ _ _ _ _ rfl (RBs.mono (Hle.hu _ _) hv) (by omega) (by omega) (by omega) (by omega) (by omega) (by omega) (by omega) (by omega)) rfl ?_
 rintro _ _ ⟨t3,cs3,k3,l3,a3,s3,rfl,rfl,hO3,⟨hn3,hz3,hw3⟩,hl3,ha3⟩
 refine ZB (M':=[(BX b2 [pp bS 0,iv l3] 158),(BX bS [v,iv a3,.int .u64 s3] 109),k3,(BX b1 (pkT 0 0 zS nS nS) 51)]) (Sub.flat Sub.refl (by simp))<|JLr (Zb 3 (vs:=cs3) (l:=cs3) Zu rfl rfl rfl rfl hO3.len hO3.ok (ZY (n:=36) rfl hO3.len)<|Za<|Zz<|⟨.agg ⟨cs3⟩,[(BX bS [v,iv a3,.int .u64 s3] 109),k3],Ret.one rfl (RV.cell Zu rfl (ZcK 3 rfl) (Zx hO3.len)),(Sd (Sk (Sk Sub.nil))),?_⟩)
 exact ⟨_,_,_,_,_,rfl,rfl,hO3,⟨hn3,by omega,hw3⟩,by omega⟩
set_option maxHeartbeats 4000000 in
theorem Cz (bS:Nat) (v:Value) (l:List Int) (a s:Int) (H:Heap) (hv:Hs.rdS RB 1 H v l) (ha0:0≤a) (ha1:a≤900000) (most size:Int) (hm0:1≤most) (hm1:most≤6) (hs0:1≤size) (hs1:size≤10):CT prog 19 ⟨[pp bS 0,iv most,iv size]⟩ [(BX bS [v,iv a,.int .u64 s] 109)] H (fun r N=>∃ lt k a' s',N=[k,(BX bS [v,iv (a'),.int .u64 (s')] 109)]∧OL lt r k∧(1≤lt.length∧(lt.length:Int)≤most)∧(∀ t∈lt,ZV 0 lt.length 0 t=0∧((sizeT t:Int)≤18*size-15∧Yj t≤size+10))∧(a≤a'∧a'≤a+30000)):=by
 refine Zl func19 rfl rfl<|Zd<|JAn rfl<|Zd<|JLM rfl<|JLM rfl<|Zs 0 rfl call21 rfl rfl (fun hin=>SD _ _ _ _ _ _ (RBs.mono (Hle.hu _ _) hv) (by omega) (by omega) _ _ (by omega) (by omega) (by omega)) rfl ?_
 rintro _ _ ⟨n1,a1,s1,rfl,rfl,hn1,ha1⟩
 refine JAn rfl<|Zd<|JAn rfl<|Zg<|Zd<|JLM rfl<|JLM rfl<|Za<|Zm ?_
 refine ZD (fun k ρ M=>∃ (j:Nat) (lt:List Tm) (y1:Value) (es:List (List Value)) (q1 q2:Zf) (a1 s1:Int),ρ 0=pp bS 0∧ρ 2=iv size∧ρ 6=nS∧ρ 7=iv n1∧ρ 8=y1∧ρ 13=iv n1∧ρ 14=iv ((j:Int))∧Sub [q1,q2,(BX bS [v,iv a1,.int .u64 s1] 109)] M∧(j:Int)≤n1∧Own 51 36 y1 es q1∧OTs lt es q2∧lt.length=j∧(∀ t∈lt,ZV 0 n1 0 t=0∧((sizeT t:Int)≤18*size-15∧Yj t≤size+10))∧(a≤a1∧a1≤a+1+4010*j)∧k=n1.toNat-j) _ ⟨0,[],nS,[],[],[],a1,s1,rfl,rfl,rfl,rfl,rfl,rfl,rfl,(ZcL (ZcL (Sk Sub.nil))),(by omega),Own.nil,⟨rfl,rfl⟩,rfl,(fun t ht=>by cases ht),(by omega),rfl⟩ ?_
 rintro _ ρ2 _ ⟨j,lt,y1,es,q1,q2,a1,s1,e3,e4,e5,e6,e7,e8,e9,hm10,hj,how1,hos,hol,hg,ha,rfl⟩
 obtain ⟨ρ11,rfl⟩:=Zi (uc e3 (uc e4 (uc e5 (uc e6 (uc e7 (uc e8 (uc e9 un)))))))
 clear e3 e4 e5 e6 e7 e8 e9
 refine ZF hm10 ?_
 have hel:=YH hos
 refine Zd<|JLn (Pu.lss rfl rfl)<|Za<|Zg<|Zt rfl (fun h12=>?_) (fun h12=>?_)
 ·replace h12:=dt h12
  refine Zo<|Zg<|Zm<|Zd<|JLM rfl<|JLM rfl<|JLM rfl<|JLM rfl<|Zs 2 rfl call21 rfl rfl (fun hin=>SD _ _ _ _ _ _ (RBs.mono (Hle.hu _ _) hv) (by omega) (by omega) _ _ (by omega) (by omega) (by omega)) rfl ?_
  rintro _ _ ⟨n13,a13,s13,rfl,rfl,hn13,ha13⟩
  refine Zs 0 rfl call63 rfl rfl (fun hin=>LP _ _ _ _ _ _ (RBs.mono (Hle.hu _ _) hv) (by omega) (by omega) _ _ _ (by omega) (by omega) (by omega) (by omega) (by omega) (by omega) (by omega)) rfl ?_
  rintro _ _ ⟨t14,cs14,k14,a14,s14,rfl,rfl,hO14,hg14,ha14⟩
  refine JLr (Zk (l:=pkT 0 0 zS nS nS) zeroValue51 rfl fun b15=>JLr (Zb 0 (vs:=cs14) (l:=cs14) Zu rfl rfl rfl rfl hO14.len hO14.ok (ZY (n:=36) rfl hO14.len)<|Za<|Zg<|Zd<|JLM rfl<|Zs 1 rfl call64 rfl rfl (fun hin=>Re _ _ _ _ _ _ (RBs.mono (Hle.hu _ _) hv) (by omega) (by omega) _) rfl ?_))
  rintro _ _ ⟨q16,a16,s16,rfl,rfl,ha16⟩
  refine JLn (Pu.not rfl)<|Za<|Zt rfl (fun h17=>?_) (fun h17=>?_)
  ·replace h17:=nt h17
   refine WF mixed #[0,0,0,6,14,31,63] 5 0 [3] rfl (by kernel_rfl) (by decide) rfl (by kernel_rfl) (fun i r18 N18=>match i with | 0=>(r18 0)=.agg ⟨cs14⟩ | 1=>(r18 1)=pp bS 0 | 2=>(r18 2)=iv n1 | 3=>(r18 3)=iv ((ivl (r18 3)))∧(N18 3)=(BX bS [v,iv ((sth (N18 3) 1)),.int .u64 ((sth (N18 3) 2))] 109)∧(0≤(ivl (r18 3))∧((0:Int)<n1→(ivl (r18 3))<n1)∧((n1:Int)≤0→(ivl (r18 3))=0))∧(a16≤sth (N18 3) 1∧sth (N18 3) 1≤a16+1) | 4=>(r18 4)=.agg ⟨(cel (r18 4))⟩∧OT (seT ((ivl (r18 3)))) (cel (r18 4)) (N18 4) | _=>True) ⟨?_,?_,?_,?_,?_,trivial⟩ ?_
   ·intro ρ r18 N18 B hB hBa hBb hp hr hr0
    obtain ⟨ρ19,rfl⟩:=Zi (uc (show ρ 9=pp b15 0 from hr0 9 (by kernel_rfl)) un)
    refine JLr (Zn Zu rfl (ZcK 6 (Ym ((hB 1 (by decide)).trans rfl))) (Zx hO14.len)<|Za ?_)
    exact ⟨.agg ⟨cs14⟩,[],rfl,(ZcL Sub.refl),rfl⟩
   ·intro ρ r18 N18 B hB hBa hBb hp hr hr0
    obtain ⟨ρ20,rfl⟩:=Zi (uc (show ρ 0=pp bS 0 from hr0 0 (by kernel_rfl)) un)
    refine JLM rfl<|Za ?_
    exact ⟨pp bS 0,[],rfl,(ZcL Sub.refl),rfl⟩
   ·intro ρ r18 N18 B hB hBa hBb hp hr hr0
    obtain ⟨ρ21,rfl⟩:=Zi (uc (show ρ 7=iv n1 from hr0 7 (by kernel_rfl)) un)
    refine JLM rfl<|Za ?_
    exact ⟨iv n1,[],rfl,(ZcL Sub.refl),rfl⟩
   ·intro ρ r18 N18 B hB hBa hBb hp hr hr0
    have p1:(r18 1)=pp bS 0:=hp 1 (by decide) rfl
    have p2:(r18 2)=iv n1:=hp 2 (by decide) rfl
    obtain ⟨ρ22,rfl⟩:=Zi (uc (show ρ 26=pp bS 0 from (hr 1 _ _ (by decide) rfl rfl rfl).trans p1) (uc (show ρ 27=iv n1 from (hr 2 _ _ (by decide) rfl rfl rfl).trans p2) un))
    have hB2:=hBa rfl
    change B=[(BX bS [v,iv a16,.int .u64 s16] 109),(BX b15 cs14 51),k14,q1,q2] at hB2
    subst hB2
    refine ZB (M':=[(N18 0),(N18 1),(N18 2),[],(N18 4),(BX bS [v,iv a16,.int .u64 s16] 109),(BX b15 cs14 51),k14,q1,q2]) Sub.refl<|Zs 5 rfl call22 rfl rfl (fun hin=>Yw _ _ _ _ _ _ (RBs.mono (Hle.hu _ _) hv) (by omega) (by omega) _) rfl ?_
    rintro _ _ ⟨n23,a23,s23,rfl,rfl,hn23,ha23⟩
    refine Za ?_
    exact ⟨iv n23,(BX bS [v,iv a23,.int .u64 s23] 109),rfl,(Sub.flat (M':=[(N18 0),(N18 1),(N18 2),[],(N18 4),(BX bS [v,iv a23,.int .u64 s23] 109),(BX b15 cs14 51),k14,q1,q2]) (Sub.cons 1 rfl (Sub.cons 1 rfl (Sub.cons 1 rfl (ZcL (Sub.cons 2 rfl (Sk (Sd (Sk (Sk (Sk (Sk Sub.nil))))))))))) rfl),⟨rfl,rfl,hn23,ha23⟩⟩
   ·intro ρ r18 N18 B hB hBa hBb hp hr hr0
    have p3:(r18 3)=iv ((ivl (r18 3)))∧(N18 3)=(BX bS [v,iv ((sth (N18 3) 1)),.int .u64 ((sth (N18 3) 2))] 109)∧(0≤(ivl (r18 3))∧((0:Int)<n1→(ivl (r18 3))<n1)∧((n1:Int)≤0→(ivl (r18 3))=0))∧(a16≤sth (N18 3) 1∧sth (N18 3) 1≤a16+1):=hp 3 (by decide) rfl
    obtain ⟨ρ24,rfl⟩:=Zi (uc (show ρ 28=iv ((ivl (r18 3))) from (hr 3 _ _ (by decide) rfl rfl rfl).trans p3.1) un)
    refine Jc call32 rfl (fun hin=>TA ((ivl (r18 3))) (by unfold inI;omega) _) rfl ?_
    rintro _ _ ⟨cs25,k25,rfl,rfl,hO25⟩
    refine Za ?_
    exact ⟨.agg ⟨cs25⟩,k25,rfl,Sub.refl,⟨rfl,hO25⟩⟩
   intro ρ r18 N18 hp hr hr0
   have p3:(r18 3)=iv ((ivl (r18 3)))∧(N18 3)=(BX bS [v,iv ((sth (N18 3) 1)),.int .u64 ((sth (N18 3) 2))] 109)∧(0≤(ivl (r18 3))∧((0:Int)<n1→(ivl (r18 3))<n1)∧((n1:Int)≤0→(ivl (r18 3))=0))∧(a16≤sth (N18 3) 1∧sth (N18 3) 1≤a16+1):=hp 3 (by decide)
   have p4:(r18 4)=.agg ⟨(cel (r18 4))⟩∧OT (seT ((ivl (r18 3)))) (cel (r18 4)) (N18 4):=hp 4 (by decide)
   obtain ⟨ρ26,rfl⟩:=Zi (uc (show ρ 0=pp bS 0 from hr0 0 (by kernel_rfl)) (uc (show ρ 2=iv size from hr0 2 (by kernel_rfl)) (uc (show ρ 6=nS from hr0 6 (by kernel_rfl)) (uc (show ρ 7=iv n1 from hr0 7 (by kernel_rfl)) (uc (show ρ 8=y1 from hr0 8 (by kernel_rfl)) (uc (show ρ 9=pp b15 0 from hr0 9 (by kernel_rfl)) (uc (show ρ 13=iv n1 from hr0 13 (by kernel_rfl)) (uc (show ρ 14=iv ((j:Int)) from hr0 14 (by kernel_rfl)) (uc (show ρ 25=.agg ⟨cs14⟩ from (hr 0 _ _ (by decide) rfl rfl).trans (hp 0 (by decide))) (uc (show ρ 29=.agg ⟨(cel (r18 4))⟩ from (hr 4 _ _ (by decide) rfl rfl).trans p4.1) un))))))))))
   have p18_3:=p3;have p18_4:=p4
   clear hp hr hr0 p3 p4
   refine ZB (M':=[(N18 0),(N18 1),(N18 2),[],(N18 4),(N18 3),(BX b15 cs14 51),k14,q1,q2]) Sub.refl<|ZB (M':=[(N18 4),(BX bS [v,iv ((sth (N18 3) 1)),.int .u64 ((sth (N18 3) 2))] 109),(BX b15 cs14 51),k14,q1,q2]) (Sd (Sd (Sd (Sd (Sk (Se p18_3.2.1 (Sk (Sk (Sk (Sk Sub.nil))))))))))<|ZB (M':=[(N18 4),(BX bS [v,iv ((sth (N18 3) 1)),.int .u64 ((sth (N18 3) 2))] 109),(BX b15 cs14 51),k14,q1,q2]) (Sub.flat Sub.refl (by simp)) ?_
   show JL _ _ _ [_,_] _ _ _
   refine ZB (ZcO (Sub.cons 3 rfl (Sk (Sk (Sk (Sk (Sk Sub.nil)))))))<|Zs 0 rfl call38 rfl rfl (fun hin=>LV 1 (by unfold inI;omega) _ _ _ _ _ _ _ hO14 p18_4.2) rfl ?_
   rintro _ _ ⟨cs27,k27,rfl,rfl,hO27⟩
   refine JLr (Zb 2 (vs:=cs27) (l:=cs27) Zu rfl rfl rfl rfl hO27.len hO27.ok (ZY (n:=36) hO14.len hO27.len)<|Za<|Zg<|Zd<|JLm y1 ?_)
   obtain ⟨a28,cap28,hv28⟩:=how1.sl
   rw [(YH hos)] at hv28
   refine JLn (ZcM ZI hv28)<|JLn (Pu.gtr rfl rfl)<|JLM rfl ?_
   cases h29:(decide (0<(lt.length:Int))) with
   | true=>
    replace h29:=dt h29
    refine JLM rfl<|Zs 1 rfl call64 rfl rfl (fun hin=>Re _ _ _ _ _ _ (RBs.mono (Hle.hu _ _) hv) (by omega) (by omega) _) rfl ?_
    rintro _ _ ⟨q30,a30,s30,rfl,rfl,ha30⟩
    refine JLq (.bool q30) (ZcZ rfl rfl)<|Za<|Zt rfl (fun h31=>?_) (fun h31=>?_)
    ·refine Ze<|JLm y1<|JLM rfl<|JLm y1 ?_
     obtain ⟨a32,cap32,hv32⟩:=how1.sl
     rw [(YH hos)] at hv32
     refine JLn (ZcM ZI hv32)<|Zs 0 rfl call22 rfl rfl (fun hin=>Yw _ _ _ _ _ _ (RBs.mono (Hle.hu _ _) hv) (by omega) (by omega) _) rfl ?_
     rintro _ _ ⟨n33,a33,s33,rfl,rfl,hn33,ha33⟩
     obtain ⟨e34,hE34,hL34,hK34,hR34⟩:=If hos (j:=n33.toNat) (by omega);obtain ⟨b34,cap34,row34,hv34,hm34,hs34⟩:=how1.at' hE34
     refine JLq (pp b34 (0+n33.toNat*36)) (Pu.idx n33.toNat ZI Zu hv34 rfl (by first | rfl | omega) (by have:=YH hos;omega))<|JLr (Zn Zu rfl (ZcS 3 rfl hm34) hs34<|Jc call23 rfl (fun hin=>V5 _ _ _ (hR34 _ (hin 4 _ rfl)) (by have:=(hg _ (XM (l:=lt) (i:=n33.toNat) (by omega))).2;omega)) rfl ?_)
     rintro _ _ ⟨cs35,k35,rfl,rfl,hO35⟩
     refine JLr (Zb 3 (vs:=cs35) (l:=cs35) Zu rfl rfl rfl rfl hO35.len hO35.ok (ZY (n:=36) hO27.len hO35.len)<|Za<|Ze<|JLm y1<|JLr (Zn Zu rfl (ZcK 3 rfl) (Zx hO35.len)<|JLr (Zj (vs:=[.agg ⟨cs35⟩]) [cs35] ZI YM rfl rfl (by intro e he;simp only [mem_cons,not_mem_nil,or_false] at he;subst he;exact hO35.len) rfl (by decide) fun b36 k36 ho36 hk36=>?_)))
     have hlens37:∀ e∈([cs35]:List (List Value)),List.length e=36:=by
      intro e he;simp only [mem_cons,not_mem_nil,or_false] at he
      rcases he with rfl
      ·exact hO35.len
     have hoks37:∀ e∈([cs35]:List (List Value)),okc e:=by
      intro e he;simp only [mem_cons,not_mem_nil,or_false] at he
      rcases he with rfl
      ·exact hO35.ok
     refine JLr (ZA (i:=5) (n:=1) (es':=[cs35]) ZI ZI (Or.inl rfl) YM rfl rfl rfl how1 (fun F w m=>Src.row (((ZcS 0 rfl (by rw [hk36];exact mem_cons_self))).heap m) (Zx (Zw hlens37))) rfl hlens37 hoks37 (by decide) (by omega) fun v37 k37 ho37=>JLa v37<|Za<|Ze<|JLn (ZcP rfl rfl (by omega))<|JLM rfl<|Za<|⟨_,?_,(j+1),(lt++[atL lt n33.toNat]),v37,(es++[cs35]),k37,(q2++k35),a33,s33,rfl,rfl,rfl,rfl,rfl,rfl,rfl,(Sd (Sub.cons 4 rfl (ZcO (Sub.cons 4 rfl (Sk (Sk Sub.nil)))))),?_,?_,?_,?_,?_,?_,rfl⟩)
     ·omega
     ·omega
     ·exact ho37
     ·exact OTs.snoc hO35 hos
     ·simp;omega
     ·exact Tc hg (hg _ (XM (l:=lt) (i:=n33.toNat) (by omega)))
     omega
    refine Zo<|Ze<|JLm y1<|JLr (Zn Zu rfl (ZcK 2 rfl) (Zx hO27.len)<|JLr (Zj (vs:=[.agg ⟨cs27⟩]) [cs27] ZI YM rfl rfl (by intro e he;simp only [mem_cons,not_mem_nil,or_false] at he;subst he;exact hO27.len) rfl (by decide) fun b38 k38 ho38 hk38=>?_))
    have hlens39:∀ e∈([cs27]:List (List Value)),List.length e=36:=by
     intro e he;simp only [mem_cons,not_mem_nil,or_false] at he
     rcases he with rfl
     ·exact hO27.len
    have hoks39:∀ e∈([cs27]:List (List Value)),okc e:=by
     intro e he;simp only [mem_cons,not_mem_nil,or_false] at he
     rcases he with rfl
     ·exact hO27.ok
    refine JLr (ZA (i:=4) (n:=1) (es':=[cs27]) ZI ZI (Or.inl rfl) YM rfl rfl rfl how1 (fun F w m=>Src.row (((ZcS 0 rfl (by rw [hk38];exact mem_cons_self))).heap m) (Zx (Zw hlens39))) rfl hlens39 hoks39 (by decide) (by omega) fun v39 k39 ho39=>JLa v39<|Za<|Ze<|JLn (ZcP rfl rfl (by omega))<|JLM rfl<|Za<|⟨_,?_,(j+1),(lt++[prT 1 t14 (seT ((ivl (r18 3))))]),v39,(es++[cs27]),k39,(q2++k27),a30,s30,rfl,rfl,rfl,rfl,rfl,rfl,rfl,(Sd (Sub.cons 3 rfl (ZcO (Sub.cons 3 rfl (Sub.cons 1 rfl (Sk Sub.nil)))))),?_,?_,?_,?_,?_,?_,rfl⟩)
    ·omega
    ·omega
    ·exact ho39
    ·exact OTs.snoc hO27 hos
    ·simp;omega
    ·exact Tc hg (Ag hg14.1 (by omega) (by omega) (by have:=hg14.2.1;omega) (by have:=hg14.2.1;omega))
    omega
   | false=>
    replace h29:=df h29
    iterate 2 refine WG rfl ?_
    refine JLq (.bool false) (ZcX rfl rfl)<|Za<|Zt (b:=false) rfl (fun h=>absurd h (by simp)) (fun _=>Zo<|Ze<|JLm y1<|JLr (Zn Zu rfl (ZcK 2 rfl) (Zx hO27.len)<|JLr (Zj (vs:=[.agg ⟨cs27⟩]) [cs27] ZI YM rfl rfl (by intro e he;simp only [mem_cons,not_mem_nil,or_false] at he;subst he;exact hO27.len) rfl (by decide) fun b40 k40 ho40 hk40=>?_)))
    have hlens41:∀ e∈([cs27]:List (List Value)),List.length e=36:=by
     intro e he;simp only [mem_cons,not_mem_nil,or_false] at he
     rcases he with rfl
     ·exact hO27.len
    have hoks41:∀ e∈([cs27]:List (List Value)),okc e:=by
     intro e he;simp only [mem_cons,not_mem_nil,or_false] at he
     rcases he with rfl
     ·exact hO27.ok
    refine JLr (ZA (i:=4) (n:=1) (es':=[cs27]) ZI ZI (Or.inl rfl) YM rfl rfl rfl how1 (fun F w m=>Src.row (((ZcS 0 rfl (by rw [hk40];exact mem_cons_self))).heap m) (Zx (Zw hlens41))) rfl hlens41 hoks41 (by decide) (by omega) fun v41 k41 ho41=>JLa v41<|Za<|Ze<|JLn (ZcP rfl rfl (by omega))<|JLM rfl<|Za<|⟨_,?_,(j+1),(lt++[prT 1 t14 (seT ((ivl (r18 3))))]),v41,(es++[cs27]),k41,(q2++k27),((sth (N18 3) 1)),((sth (N18 3) 2)),rfl,rfl,rfl,rfl,rfl,rfl,rfl,(Sd (Sub.cons 3 rfl (ZcO (Sub.cons 3 rfl (Sk (Sk Sub.nil)))))),?_,?_,?_,?_,?_,?_,rfl⟩)
    ·omega
    ·omega
    ·exact ho41
    ·exact OTs.snoc hO27 hos
    ·simp;omega
    ·exact Tc hg (Ag hg14.1 (by omega) (by omega) (by have:=hg14.2.1;omega) (by have:=hg14.2.1;omega))
    omega
  replace h17:=nf h17
  refine Zo<|Zg<|Zd<|JLm y1 ?_
  obtain ⟨a42,cap42,hv42⟩:=how1.sl
  rw [(YH hos)] at hv42
  refine JLn (ZcM ZI hv42)<|JLn (Pu.gtr rfl rfl)<|JLM rfl ?_
  cases h43:(decide (0<(lt.length:Int))) with
  | true=>
   replace h43:=dt h43
   refine JLM rfl<|Zs 0 rfl call64 rfl rfl (fun hin=>Re _ _ _ _ _ _ (RBs.mono (Hle.hu _ _) hv) (by omega) (by omega) _) rfl ?_
   rintro _ _ ⟨q44,a44,s44,rfl,rfl,ha44⟩
   refine JLq (.bool q44) (ZcZ rfl rfl)<|Za<|Zt rfl (fun h45=>?_) (fun h45=>?_)
   ·refine Ze<|JLm y1<|JLM rfl<|JLm y1 ?_
    obtain ⟨a46,cap46,hv46⟩:=how1.sl
    rw [(YH hos)] at hv46
    refine JLn (ZcM ZI hv46)<|Zs 0 rfl call22 rfl rfl (fun hin=>Yw _ _ _ _ _ _ (RBs.mono (Hle.hu _ _) hv) (by omega) (by omega) _) rfl ?_
    rintro _ _ ⟨n47,a47,s47,rfl,rfl,hn47,ha47⟩
    obtain ⟨e48,hE48,hL48,hK48,hR48⟩:=If hos (j:=n47.toNat) (by omega);obtain ⟨b48,cap48,row48,hv48,hm48,hs48⟩:=how1.at' hE48
    refine JLq (pp b48 (0+n47.toNat*36)) (Pu.idx n47.toNat ZI Zu hv48 rfl (by first | rfl | omega) (by have:=YH hos;omega))<|JLr (Zn Zu rfl (ZcS 3 rfl hm48) hs48<|Jc call23 rfl (fun hin=>V5 _ _ _ (hR48 _ (hin 4 _ rfl)) (by have:=(hg _ (XM (l:=lt) (i:=n47.toNat) (by omega))).2;omega)) rfl ?_)
    rintro _ _ ⟨cs49,k49,rfl,rfl,hO49⟩
    refine JLr (Zb 2 (vs:=cs49) (l:=cs49) Zu rfl rfl rfl rfl hO49.len hO49.ok (ZY (n:=36) hO14.len hO49.len)<|Za<|Ze<|JLm y1<|JLr (Zn Zu rfl (ZcK 2 rfl) (Zx hO49.len)<|JLr (Zj (vs:=[.agg ⟨cs49⟩]) [cs49] ZI YM rfl rfl (by intro e he;simp only [mem_cons,not_mem_nil,or_false] at he;subst he;exact hO49.len) rfl (by decide) fun b50 k50 ho50 hk50=>?_)))
    have hlens51:∀ e∈([cs49]:List (List Value)),List.length e=36:=by
     intro e he;simp only [mem_cons,not_mem_nil,or_false] at he
     rcases he with rfl
     ·exact hO49.len
    have hoks51:∀ e∈([cs49]:List (List Value)),okc e:=by
     intro e he;simp only [mem_cons,not_mem_nil,or_false] at he
     rcases he with rfl
     ·exact hO49.ok
    refine JLr (ZA (i:=5) (n:=1) (es':=[cs49]) ZI ZI (Or.inl rfl) YM rfl rfl rfl how1 (fun F w m=>Src.row (((ZcS 0 rfl (by rw [hk50];exact mem_cons_self))).heap m) (Zx (Zw hlens51))) rfl hlens51 hoks51 (by decide) (by omega) fun v51 k51 ho51=>JLa v51<|Za<|Ze<|JLn (ZcP rfl rfl (by omega))<|JLM rfl<|Za<|⟨_,?_,(j+1),(lt++[atL lt n47.toNat]),v51,(es++[cs49]),k51,(q2++k49),a47,s47,rfl,rfl,rfl,rfl,rfl,rfl,rfl,(Sd (Sub.cons 4 rfl (ZcO (Sub.cons 4 rfl (Sk (Sk Sub.nil)))))),?_,?_,?_,?_,?_,?_,rfl⟩)
    ·omega
    ·omega
    ·exact ho51
    ·exact OTs.snoc hO49 hos
    ·simp;omega
    ·exact Tc hg (hg _ (XM (l:=lt) (i:=n47.toNat) (by omega)))
    omega
   refine Zo<|Ze<|JLm y1<|JLr (Zn Zu rfl (ZcK 1 rfl) (Zx hO14.len)<|JLr (Zj (vs:=[.agg ⟨cs14⟩]) [cs14] ZI YM rfl rfl (by intro e he;simp only [mem_cons,not_mem_nil,or_false] at he;subst he;exact hO14.len) rfl (by decide) fun b52 k52 ho52 hk52=>?_))
   have hlens53:∀ e∈([cs14]:List (List Value)),List.length e=36:=by
    intro e he;simp only [mem_cons,not_mem_nil,or_false] at he
    rcases he with rfl
    ·exact hO14.len
   have hoks53:∀ e∈([cs14]:List (List Value)),okc e:=by
    intro e he;simp only [mem_cons,not_mem_nil,or_false] at he
    rcases he with rfl
    ·exact hO14.ok
   refine JLr (ZA (i:=4) (n:=1) (es':=[cs14]) ZI ZI (Or.inl rfl) YM rfl rfl rfl how1 (fun F w m=>Src.row (((ZcS 0 rfl (by rw [hk52];exact mem_cons_self))).heap m) (Zx (Zw hlens53))) rfl hlens53 hoks53 (by decide) (by omega) fun v53 k53 ho53=>JLa v53<|Za<|Ze<|JLn (ZcP rfl rfl (by omega))<|JLM rfl<|Za<|⟨_,?_,(j+1),(lt++[t14]),v53,(es++[cs14]),k53,(q2++k14),a44,s44,rfl,rfl,rfl,rfl,rfl,rfl,rfl,(Sd (Sub.cons 3 rfl (ZcO (Sub.cons 3 rfl (Sub.cons 2 rfl (Sk Sub.nil)))))),?_,?_,?_,?_,?_,?_,rfl⟩)
   ·omega
   ·omega
   ·exact ho53
   ·exact OTs.snoc hO14 hos
   ·simp;omega
   ·exact Tc hg ⟨hg14.1,by have:=hg14.2.1;omega⟩
   omega
  | false=>
   replace h43:=df h43
   iterate 2 refine WG rfl ?_
   refine JLq (.bool false) (ZcX rfl rfl)<|Za<|Zt (b:=false) rfl (fun h=>absurd h (by simp)) (fun _=>Zo<|Ze<|JLm y1<|JLr (Zn Zu rfl (ZcK 1 rfl) (Zx hO14.len)<|JLr (Zj (vs:=[.agg ⟨cs14⟩]) [cs14] ZI YM rfl rfl (by intro e he;simp only [mem_cons,not_mem_nil,or_false] at he;subst he;exact hO14.len) rfl (by decide) fun b54 k54 ho54 hk54=>?_)))
   have hlens55:∀ e∈([cs14]:List (List Value)),List.length e=36:=by
    intro e he;simp only [mem_cons,not_mem_nil,or_false] at he
    rcases he with rfl
    ·exact hO14.len
   have hoks55:∀ e∈([cs14]:List (List Value)),okc e:=by
    intro e he;simp only [mem_cons,not_mem_nil,or_false] at he
    rcases he with rfl
    ·exact hO14.ok
   refine JLr (ZA (i:=4) (n:=1) (es':=[cs14]) ZI ZI (Or.inl rfl) YM rfl rfl rfl how1 (fun F w m=>Src.row (((ZcS 0 rfl (by rw [hk54];exact mem_cons_self))).heap m) (Zx (Zw hlens55))) rfl hlens55 hoks55 (by decide) (by omega) fun v55 k55 ho55=>JLa v55<|Za<|Ze<|JLn (ZcP rfl rfl (by omega))<|JLM rfl<|Za<|⟨_,?_,(j+1),(lt++[t14]),v55,(es++[cs14]),k55,(q2++k14),a16,s16,rfl,rfl,rfl,rfl,rfl,rfl,rfl,(Sd (Sub.cons 3 rfl (ZcO (Sub.cons 3 rfl (Sub.cons 2 rfl (Sk Sub.nil)))))),?_,?_,?_,?_,?_,?_,rfl⟩)
   ·omega
   ·omega
   ·exact ho55
   ·exact OTs.snoc hO14 hos
   ·simp;omega
   ·exact Tc hg ⟨hg14.1,by have:=hg14.2.1;omega⟩
   omega
 replace h12:=df h12
 refine ZC _ rfl<|Zd<|JLm y1<|JLa y1<|Za<|Zz<|⟨y1,[q1++q2,(BX bS [v,iv a1,.int .u64 s1] 109)],Ret.one rfl (RV.tmp rfl),(ZcO (Sk (Sk (Sk Sub.nil)))),?_⟩
 have e:(lt.length:Int)=n1:=by omega
 rw [← e] at hg
 exact ⟨_,_,_,_,rfl,OL.mk how1 hos (by omega),by omega,hg,by omega⟩
set_option maxHeartbeats 2000000 in
theorem Zbc (k old:Int) (bC bO bS:Nat) (vC:Value) (cs:List Int) (v:Value) (l:List Int) (a s:Int) (H:Heap) (hv:Hs.rdS RB 1 H v l) (ha0:0≤a) (ha1:a≤1000000000) (hC:H bC=some (.cells ⟨[vC]⟩ 45 (0,0))) (hcs:Hs.rdS RI 1 H vC cs) (hO:H bO=some (.cells ⟨[pp bS 0]⟩ 42 (0,0))) (hold:old∈cs) (hn:cs.length≤100):CT prog 25 ⟨[iv k,iv old,pp bC 0,pp bO 0]⟩ [(BX bS [v,iv a,.int .u64 s] 109)] H (fun r N=>∃ c a' s',r=iv c∧N=[(BX bS [v,iv (a'),.int .u64 (s')] 109)]∧(0≤c∧c<(cs.length:Int)∧cs.getD c.toNat 0=old)∧(a≤a'∧a'≤a+1)):=by
 have hcl:=hcs.le
 refine Zl func25 rfl rfl<|Zd<|JAn rfl<|Zd<|JAn rfl<|Zg<|Zd<|JLr (Zc YL rfl (ZcN hC) rfl ?_)
 obtain ⟨a1,cap1,hv1⟩:=hcs.sl
 have hle1:=hcs.le
 refine JLn (ZcM ZS hv1)<|JLM rfl<|Za<|Zm<|ZD (fun k ρ M=>∃ (j:Nat) (y1:Value) (q1:Zf),ρ 1=iv old∧ρ 3=pp bO 0∧ρ 6=iv 0∧ρ 7=y1∧ρ 10=vC∧ρ 11=iv ((cs.length:Int))∧ρ 12=iv ((j:Int))∧Sub [q1,(BX bS [v,iv a,.int .u64 s] 109)] M∧j≤cs.length∧Own 3 1 y1 (Z2 (smI cs old j)) q1∧k=cs.length-j) _ ⟨0,nS,[],rfl,rfl,rfl,rfl,rfl,rfl,rfl,(ZcL (Sk Sub.nil)),Nat.zero_le _,(show Own _ 1 _ (Z2 []) _ from Own.nil),rfl⟩ ?_
 rintro _ ρ2 _ ⟨j,y1,q1,e3,e4,e5,e6,e7,e8,e9,hm10,hj,how1,rfl⟩
 obtain ⟨ρ11,rfl⟩:=Zi (uc e3 (uc e4 (uc e5 (uc e6 (uc e7 (uc e8 (uc e9 un)))))))
 clear e3 e4 e5 e6 e7 e8 e9
 refine ZF hm10 ?_
 have hsl:=DY cs old j
 refine Zd<|JLn (Pu.lss rfl rfl)<|Za<|Zg<|Zt rfl (fun h12=>?_) (fun h12=>?_)
 ·replace h12:=dt h12
  have h12n:j<cs.length:=by omega
  refine Zo<|Zg<|Zm<|Zd<|JLM rfl ?_
  obtain ⟨b13,o13,cap13,row13,T13,fr13,cs13,hv13,hb13,hs13,hE13⟩:=hcs.get j (by first | assumption | omega | decide | simp)
  refine JLn (Pu.idx j ZS ty3 hv13 rfl rfl (by first | assumption | omega | decide | simp))<|JLr (Zc ty3 rfl (ZcN hb13) (ZP ((show cs13=[Value.int .i64 (cs[j])] from hE13)▸hs13))<|JLA rfl<|JAn rfl<|Zd<|JLM rfl<|JLM rfl<|JLn (Pu.eql rfl rfl)<|Za<|Zt rfl (fun h14=>?_) (fun h14=>?_))
  ·replace h14:=dt h14
   refine Ze<|JLm y1<|JLM rfl<|JLr (Zj (vs:=[iv ((j:Int))]) [[iv ((j:Int))]] ZS el3 rfl rfl (by intro e he;simp only [mem_cons,not_mem_nil,or_false] at he;subst he;exact rfl) rfl (by decide) fun b15 k15 ho15 hk15=>?_)
   have hlens16:∀ e∈([[iv ((j:Int))]]:List (List Value)),List.length e=1:=by
    intro e he;simp only [mem_cons,not_mem_nil,or_false] at he
    rcases he with rfl
    ·exact rfl
   have hoks16:∀ e∈([[iv ((j:Int))]]:List (List Value)),okc e:=by
    intro e he;simp only [mem_cons,not_mem_nil,or_false] at he
    rcases he with rfl
    ·exact (Zh rfl Zq)
   refine JLr (ZA (i:=1) (n:=1) (es':=[[iv ((j:Int))]]) ZS ZS (Or.inl rfl) el3 rfl rfl rfl how1 (fun F w m=>Src.row (((ZcS 0 rfl (by rw [hk15];exact mem_cons_self))).heap m) (Zx (Zw hlens16))) rfl hlens16 hoks16 (by decide) (by rw [Zv];omega) fun v16 k16 ho16=>JLa v16<|Za<|Ze<|JLn (ZcP rfl rfl (by omega))<|JLM rfl<|Za<|⟨_,?_,(j+1),v16,k16,rfl,rfl,rfl,rfl,rfl,rfl,rfl,(Sd (Sk (Sk Sub.nil))),?_,?_,rfl⟩)
   ·omega
   ·omega
   rw [DV h12n h14,Wa];exact ho16
  replace h14:=df h14
  refine Zo<|Ze<|JLn (ZcP rfl rfl (by omega))<|JLM rfl<|Za<|⟨_,?_,(j+1),y1,q1,rfl,rfl,rfl,rfl,rfl,rfl,rfl,(Sk (Sk Sub.nil)),?_,?_,rfl⟩
  ·omega
  ·omega
  rw [AC h12n h14];exact how1
 replace h12:=df h12
 have h12n:cs.length≤j:=by omega
 refine ZC _ rfl<|Zg ?_
 have hje:j=cs.length:=by have:=h12n;omega
 have hsp:=DW hold
 rw [← hje] at hsp
 refine Ze<|JLm y1<|JLr (Zc W5 rfl (ZcN hO) rfl<|JLm y1 ?_)
 obtain ⟨a17,cap17,hv17⟩:=how1.sl
 rw [Zv] at hv17
 refine JLn (ZcM ZS hv17)<|Zs 1 rfl call22 rfl rfl (fun hin=>Yw _ _ _ _ _ _ (RBs.mono (Hle.hu _ _) hv) (by omega) (by omega) _) rfl ?_
 rintro _ _ ⟨n18,a18,s18,rfl,rfl,hn18,ha18⟩
 obtain ⟨b19,cap19,row19,hv19,hm19,hs19⟩:=how1.at (j:=n18.toNat) (by rw [Zv];first | assumption | omega)
 rw [Yg _ _ (by first | assumption | omega)] at hs19
 rw [← (show (smI cs old j).getD (n18.toNat) 0=(smI cs old j)[n18.toNat] from YO (by omega))] at hs19
 refine JLq (pp b19 (0+n18.toNat*1)) (Pu.idx n18.toNat ZS ty3 hv19 rfl (by first | rfl | omega) (by rw [Zv];first | assumption | omega))<|JLr (Zc ty3 rfl (ZcS 1 rfl hm19) (ZP hs19)<|JAn rfl<|Zz<|⟨iv (((smI cs old j).getD n18.toNat 0)),[(BX bS [v,iv a18,.int .u64 s18] 109)],Ret.one rfl (RV.tmp rfl),(Sk Sub.nil),?_⟩)
 rw [← hje]
 exact ⟨_,_,_,rfl,rfl,DZ (by omega),by omega⟩
set_option maxHeartbeats 8000000 in
theorem Zat:∀ (bF bK bW bC bO bS:Nat) (vC v:Value) (cp l:List Int) (m:Int) (hmem:∀ x:Int,0≤x→x<m→x∈cp) (hn:cp.length≤100) (t:Tm) (cs:List Value) (H:Heap) (kk a s:Int),RT H cs t→Hs.rdS RB 1 H v l∧H bF=some (.cells ⟨[.func (.func 25) ⟨[]⟩ ⟨[pp bC 0,pp bO 0]⟩]⟩ 47 (0,0))∧H bW=some (.cells ⟨[.func (.func 67) ⟨[]⟩ ⟨[pp bF 0,pp bK 0,pp bW 0]⟩]⟩ 52 (0,0))∧H bC=some (.cells ⟨[vC]⟩ 45 (0,0))∧Hs.rdS RI 1 H vC cp∧H bO=some (.cells ⟨[pp bS 0]⟩ 42 (0,0))→gdT m t→sizeT t≤1000→0≤kk→kk+sizeT t≤1000000→0≤a→a+sizeT t≤1000000→CT prog 67 ⟨[.agg ⟨cs⟩,pp bF 0,pp bK 0,pp bW 0]⟩ [((BX bK [iv kk] 3))++((BX bS [v,iv a,.int .u64 s] 109))] H (fun r N=>∃ t' ds k' a' s' kt,r=.agg ⟨ds⟩∧N=[((BX bK [iv (k')] 3))++((BX bS [v,iv (a'),.int .u64 (s')] 109)),kt]∧OT t' ds kt∧CPt cp t t'∧(kk≤k'∧k'≤kk+sizeT t)∧(a≤a'∧a'≤a+sizeT t)):=by
 intro bF bK bW bC bO bS vC v cp l m hmem hn t
 induction t using Tm.ind with
 | h kind num ref kids cases ih ih'=>
 intro cs H kk a s ht hF hgd hz hk0 hk1 ha0 ha1
 obtain ⟨hv,h1,h3,hC,hcs,hO⟩:=hF
 rw [sizeT] at hz hk1 ha1
 have hlk:=XR kids
 have hlc:=WX cases
 obtain ⟨ks,cv,rfl,hk,hn2,hks,hcv⟩:=RT_mk.1 ht
 have hnA: -9223372036854775808≤num:=hn2.1
 have hnB:num≤9223372036854775807:=hn2.2
 refine Zl func67 rfl rfl<|ZF (M':=[(BX bK [iv kk] 3),(BX bS [v,iv a,.int .u64 s] 109)]) (Sub.flat Sub.refl (by simp))<|Zd<|JLr (Zr (l:=pkT kind num ref ks cv) rfl rfl fun b1=>JLr (Zk (l:=pkT 0 0 zS nS nS) zeroValue51 rfl fun b2=>Za<|Zd<|JLq (pp b1 0) (Yh rfl rfl)<|JLr (Zc ty3 rfl (ZcK 1 rfl) (YE ..)<|JLq (pp b1 1) (Y1 rfl rfl)<|JLr (Zc ty3 rfl (ZcK 1 rfl) (XV ..) ?_))))
 refine JLq (pp b1 2) (TO rfl rfl)<|JLr (Zn Yv rfl (ZcK 1 rfl) (QV ..)<|JLq (.agg ⟨pkT kind num ref nS nS⟩) (Pu.build (pv:=[(0,iv kind),(1,iv num),(2,.agg ⟨sC ref⟩)]) (l:=pkT kind num ref nS nS) rfl (Lk _ _ _))<|JLr (Zk (l:=pkT 0 0 zS nS nS) zeroValue51 rfl fun b3=>JLr (Zb 0 (vs:=pkT kind num ref nS nS) (l:=pkT kind num ref nS nS) Zu rfl rfl rfl rfl rfl (ZR rfl rfl) (Yb ..)<|Za<|Zg<|Zd<|JLq (pp b1 0) (Yh rfl rfl)<|JLr (Zc ty3 rfl (ZcK 2 rfl) (YE ..)<|JLn (Pu.eql rfl rfl)<|Za ?_))))
 refine NW (N:=fun ρ M=>∃ (n6 k6 a6 s6:Int),((kind=7→cpQ cp n6 num))∧((¬ kind=7→n6=num))∧((kk≤k6∧k6≤kk+1))∧((a≤a6∧a6≤a+1))∧ρ 3=pp bW 0∧ρ 4=pp b1 0∧ρ 5=pp b2 0∧ρ 6=pp b3 0∧Sub [(BX b3 (pkT kind n6 ref nS nS) 51),(BX b2 (pkT 0 0 zS nS nS) 51),(BX b1 (pkT kind num ref ks cv) 51),(BX bK [iv k6] 3),(BX bS [v,iv a6,.int .u64 s6] 109)] M) ?_ ?_
 ·refine Zt rfl (fun h4=>?_) (fun h4=>?_)
  ·replace h4:=dt h4
   refine Zg ?_
   have hs7:=hgd.self h4
   have hold:=hmem num hs7.2.2.1 hs7.2.2.2.1
   refine Ze<|JLr (Zc Zcp rfl (ZcN h1) rfl<|JLr (Zc ty3 rfl (ZcK 3 rfl) rfl<|JLq (pp b1 1) (Y1 rfl rfl)<|JLr (Zc ty3 rfl (ZcK 2 rfl) (XV ..)<|Zs 4 rfl call25 rfl rfl (fun hin=>Zbc _ _ _ _ _ _ _ _ _ _ _ _ (RBs.mono (Hle.hu _ _) hv) (by omega) (by omega) (Hle.hu _ _ _ _ hC) (RIs.mono (Hle.hu _ _) hcs) (Hle.hu _ _ _ _ hO) hold hn) rfl ?_)))
   rintro _ _ ⟨c5,a5,s5,rfl,rfl,hc5,ha5⟩
   refine JLq (pp b3 1) (Y1 rfl rfl)<|JLr (Zb 1 (vs:=[iv c5]) (l:=pkT kind c5 ref nS nS) ty3 rfl rfl rfl rfl rfl (Zh rfl Zq) (G0 ..)<|Za<|Ze<|JLr (Zc ty3 rfl (ZcK 4 rfl) rfl<|JLn (ZcV rfl rfl (by first | omega | (constructor <;> omega)))<|JLr (Zb 4 (vs:=[iv (kk+1)]) (l:=[iv (kk+1)]) ty3 rfl rfl rfl rfl rfl (Zh rfl Zq) rfl<|Za ?_)))
   exact ⟨c5,(kk+1),a5,s5,(fun _=>hc5),(fun q=>absurd h4 q),(by omega),(by omega),rfl,rfl,rfl,rfl,(Sub.cons 1 rfl (Sub.cons 1 rfl (Sub.cons 1 rfl (Sub.cons 1 rfl (Sk Sub.nil)))))⟩
  replace h4:=df h4
  refine Zo ?_
  exact ⟨num,kk,a,s,(fun q=>absurd q h4),(fun _=>rfl),(by omega),(by omega),rfl,rfl,rfl,rfl,(Sk (Sk (Sk (Sk (Sk Sub.nil)))))⟩
 rintro ρ6 _ ⟨n6,k6,a6,s6,h67,h6n,hk6,ha6,e7,e8,e9,e10,hm11⟩
 obtain ⟨ρ12,rfl⟩:=Zi (uc e7 (uc e8 (uc e9 (uc e10 un))))
 clear e7 e8 e9 e10
 refine ZF hm11<|Zg<|Zd<|JLq (pp b1 34) (YS rfl rfl)<|JLr (Zc XE rfl (ZcK 2 rfl) (Xq ..) ?_)
 obtain ⟨a13,cap13,hv13⟩:=hks.sl
 have hle13:=hks.le
 refine JLn (ZcM ZI hv13)<|JLM rfl<|Za<|Zm<|ZD (fun k ρ M=>∃ (j:Nat) (ts:List Tm) (w1:Value) (es:List (List Value)) (k1 k2:Zf) (kww1 aww1 sww1:Int),ρ 3=pp bW 0∧ρ 4=pp b1 0∧ρ 5=pp b2 0∧ρ 6=pp b3 0∧ρ 30=ks∧ρ 31=iv ((kids.length:Int))∧ρ 32=iv ((j:Int))∧Sub [(BX b3 (pkT kind n6 ref w1 nS) 51),k1,k2,(BX bK [iv kww1] 3),(BX bS [v,iv aww1,.int .u64 sww1] 109),(BX b2 (pkT 0 0 zS nS nS) 51),(BX b1 (pkT kind num ref ks cv) 51)] M∧j≤kids.length∧Own 51 36 w1 es k1∧OTs ts es k2∧ts.length=j∧CPs cp (kids.take j) ts∧(k6≤kww1∧kww1≤k6+sizeTs (kids.take j))∧(a6≤aww1∧aww1≤a6+sizeTs (kids.take j))∧k=kids.length-j) _ ⟨0,[],nS,[],[],[],k6,a6,s6,rfl,rfl,rfl,rfl,rfl,rfl,rfl,(Sk (ZcL (ZcL (Sub.cons 2 rfl (Sub.cons 2 rfl (Sk (Sk Sub.nil))))))),Nat.zero_le _,Own.nil,OTs.nil,rfl,(CPs.nil cp),⟨Int.le_refl _,by simp [sizeTs]⟩,⟨Int.le_refl _,by simp [sizeTs]⟩,rfl⟩ ?_
 rintro _ ρ14 _ ⟨j,ts,w1,es,k1,k2,kww1,aww1,sww1,e15,e16,e17,e18,e19,e20,e21,hm22,hj,how1,hopw1,hlnw1,hcpw1,hkww1,haww1,rfl⟩
 obtain ⟨ρ23,rfl⟩:=Zi (uc e15 (uc e16 (uc e17 (uc e18 (uc e19 (uc e20 (uc e21 un)))))))
 clear e15 e16 e17 e18 e19 e20 e21
 refine ZF hm22 ?_
 have helw1:=YH hopw1
 refine Zd<|JLn (Pu.lss rfl rfl)<|Za<|Zg<|Zt rfl (fun h24=>?_) (fun h24=>?_)
 ·replace h24:=dt h24
  have h24n:j<kids.length:=by omega
  have hs1w1:=Ra h24n
  have hs2w1:=RJ kids (j+1)
  refine Zo<|Zg<|Zm<|Zg<|Ze ?_
  obtain ⟨b25,o25,cap25,row25,T25,fr25,cs25,hv25,hb25,hs25,hE25⟩:=hks.get j (by first | assumption | omega | decide | simp)
  refine JLn (Pu.idx j ZI Zu hv25 rfl rfl (by first | assumption | omega | decide | simp))<|JLr (Zn Zu rfl (ZcN hb25) hs25<|JLr (Zk (l:=pkT 0 0 zS nS nS) zeroValue51 rfl fun b26=>JLr (Zb 0 (vs:=cs25) (l:=cs25) Zu rfl rfl rfl rfl (Zy hE25) (Y5 hE25) (ZY (n:=36) rfl (Zy hE25))<|Za<|ZF (ZcO (Sub.cons 4 rfl (Sub.cons 4 rfl (Sk (Sk (Sk (Sk (Sk (Sk Sub.nil)))))))))<|WF mixed #[0,1,0,0,12,28,63,127,255] 6 0 [4] rfl (by kernel_rfl) (by decide) rfl (by kernel_rfl) (fun i r27 N27=>match i with | 0=>(r27 0)=pp b3 34 | 1=>(r27 1)=w1 | 2=>(r27 2)=.func (.func 67) ⟨[]⟩ ⟨[pp bF 0,pp bK 0,pp bW 0]⟩ | 3=>(r27 3)=.agg ⟨cs25⟩ | 4=>(r27 4)=.agg ⟨(cll (r27 4))⟩∧(cll (r27 4)).length=36∧okc (cll (r27 4))∧∃ tM lM aM sM kM,(N27 4)=((BX bK [iv lM] 3))++(((BX bS [v,iv aM,.int .u64 sM] 109))++kM)∧OT tM (cll (r27 4)) kM∧CPt cp (kids[j]) tM∧(kww1≤lM∧lM≤kww1+sizeT (kids[j]))∧(aww1≤aM∧aM≤aww1+sizeT (kids[j])) | 5=>(r27 5)=.slice (some ⟨(Y3 (r27 5)),0,none⟩) 1 1∧(N27 5)=[(Y3 (r27 5),.cells ⟨flatten [(cll (r27 4))]⟩ 51 (0,0))]∧Own 51 36 (.slice (some ⟨(Y3 (r27 5)),0,none⟩) 1 1) [(cll (r27 4))] (N27 5) | _=>True) ⟨?_,?_,?_,?_,?_,?_,trivial⟩ ?_)))
  ·intro ρ r27 N27 B hB hBa hBb hp hr hr0
   obtain ⟨ρ28,rfl⟩:=Zi (uc (show ρ 6=pp b3 0 from hr0 6 (by kernel_rfl)) un)
   refine JLq (pp b3 34) (YS rfl rfl)<|Za ?_
   exact ⟨pp b3 34,[],rfl,(ZcL Sub.refl),rfl⟩
  ·intro ρ r27 N27 B hB hBa hBb hp hr hr0
   have p0:(r27 0)=pp b3 34:=hp 0 (by decide) rfl
   obtain ⟨ρ29,rfl⟩:=Zi (uc (show ρ 36=pp b3 34 from (hr 0 _ _ (by decide) rfl rfl rfl).trans p0) un)
   refine JLr (Zc XE rfl (ZcK 8 (Ym ((hB 2 (by decide)).trans rfl))) (Xq ..)<|Za ?_)
   exact ⟨w1,[],rfl,(ZcL Sub.refl),rfl⟩
  ·intro ρ r27 N27 B hB hBa hBb hp hr hr0
   obtain ⟨ρ30,rfl⟩:=Zi (uc (show ρ 3=pp bW 0 from hr0 3 (by kernel_rfl)) un)
   refine JLr (Zc LK rfl (ZcN h3) rfl<|Za ?_)
   exact ⟨.func (.func 67) ⟨[]⟩ ⟨[pp bF 0,pp bK 0,pp bW 0]⟩,[],rfl,(ZcL Sub.refl),rfl⟩
  ·intro ρ r27 N27 B hB hBa hBb hp hr hr0
   obtain ⟨ρ31,rfl⟩:=Zi (uc (show ρ 8=pp b26 0 from hr0 8 (by kernel_rfl)) un)
   refine JLr (Zn Zu rfl (ZcK 7 (Ym ((hB 1 (by decide)).trans rfl))) (Zx (Zy hE25))<|Za ?_)
   exact ⟨.agg ⟨cs25⟩,[],rfl,(ZcL Sub.refl),rfl⟩
  ·intro ρ r27 N27 B hB hBa hBb hp hr hr0
   have p2:(r27 2)=.func (.func 67) ⟨[]⟩ ⟨[pp bF 0,pp bK 0,pp bW 0]⟩:=hp 2 (by decide) rfl
   have p3:(r27 3)=.agg ⟨cs25⟩:=hp 3 (by decide) rfl
   obtain ⟨ρ32,rfl⟩:=Zi (uc (show ρ 38=.func (.func 67) ⟨[]⟩ ⟨[pp bF 0,pp bK 0,pp bW 0]⟩ from (hr 2 _ _ (by decide) rfl rfl rfl).trans p2) (uc (show ρ 39=.agg ⟨cs25⟩ from (hr 3 _ _ (by decide) rfl rfl rfl).trans p3) un))
   have hB2:=hBa rfl
   change B=[((BX bK [iv kww1] 3))++((BX bS [v,iv aww1,.int .u64 sww1] 109)),(BX b26 cs25 51),(BX b3 (pkT kind n6 ref w1 nS) 51),k1,k2,(BX b2 (pkT 0 0 zS nS nS) 51),(BX b1 (pkT kind num ref ks cv) 51)] at hB2
   subst hB2
   refine ZB (M':=[(N27 0),(N27 1),(N27 2),(N27 3),[],(N27 5),((BX bK [iv kww1] 3))++((BX bS [v,iv aww1,.int .u64 sww1] 109)),(BX b26 cs25 51),(BX b3 (pkT kind n6 ref w1 nS) 51),k1,k2,(BX b2 (pkT 0 0 zS nS nS) 51),(BX b1 (pkT kind num ref ks cv) 51)]) Sub.refl<|Zs 6 rfl call67 rfl rfl (fun hin=>ih _ (getElem_mem h24n) _ _ _ _ _ (RT.mono (Hle.hu _ _) hE25) ⟨RBs.mono (Hle.hu _ _) hv,Hle.hu _ _ _ _ h1,Hle.hu _ _ _ _ h3,Hle.hu _ _ _ _ hC,RIs.mono (Hle.hu _ _) hcs,Hle.hu _ _ _ _ hO⟩ (hgd.kid h24n) (by omega) (by omega) (by omega) (by omega) (by omega)) rfl ?_
   rintro _ _ ⟨t33,cs33,l33,a33,s33,k33,rfl,rfl,hO33,hD33,hl33,ha33⟩
   refine ZB (M':=[(BX bK [iv l33] 3),(BX bS [v,iv a33,.int .u64 s33] 109),k33,(N27 0),(N27 1),(N27 2),(N27 3),[],(N27 5),(BX b26 cs25 51),(BX b3 (pkT kind n6 ref w1 nS) 51),k1,k2,(BX b2 (pkT 0 0 zS nS nS) 51),(BX b1 (pkT kind num ref ks cv) 51)]) (Sub.flat Sub.refl (by simp))<|Za ?_
   exact ⟨.agg ⟨cs33⟩,((BX bK [iv l33] 3))++(((BX bS [v,iv a33,.int .u64 s33] 109))++k33),rfl,(Sub.flat (M':=[(N27 0),(N27 1),(N27 2),(N27 3),[],(N27 5),((BX bK [iv l33] 3))++(((BX bS [v,iv a33,.int .u64 s33] 109))++k33),(BX b26 cs25 51),(BX b3 (pkT kind n6 ref w1 nS) 51),k1,k2,(BX b2 (pkT 0 0 zS nS nS) 51),(BX b1 (pkT kind num ref ks cv) 51)]) (Sub.cons 3 rfl (Sub.cons 3 rfl (Sub.cons 3 rfl (Sub.cons 3 rfl (ZcL (Sub.cons 4 rfl (ZcY (Sk (Sk (Sk (Sd (Sk (Sk (Sk (Sk (Sk (Sk Sub.nil))))))))))))))))) rfl),⟨rfl,hO33.len,hO33.ok,t33,l33,a33,s33,k33,rfl,hO33,hD33,hl33,ha33⟩⟩
  ·intro ρ r27 N27 B hB hBa hBb hp hr hr0
   have p4:(r27 4)=.agg ⟨(cll (r27 4))⟩∧(cll (r27 4)).length=36∧okc (cll (r27 4))∧∃ tM lM aM sM kM,(N27 4)=((BX bK [iv lM] 3))++(((BX bS [v,iv aM,.int .u64 sM] 109))++kM)∧OT tM (cll (r27 4)) kM∧CPt cp (kids[j]) tM∧(kww1≤lM∧lM≤kww1+sizeT (kids[j]))∧(aww1≤aM∧aM≤aww1+sizeT (kids[j])):=hp 4 (by decide) rfl
   obtain ⟨ρ34,rfl⟩:=Zi (uc (show ρ 40=.agg ⟨(cll (r27 4))⟩ from (hr 4 _ _ (by decide) rfl rfl rfl).trans p4.1) un)
   refine JLr (Zj (vs:=[.agg ⟨(cll (r27 4))⟩]) [(cll (r27 4))] ZI YM rfl rfl (by intro e he;simp only [mem_cons,not_mem_nil,or_false] at he;subst he;exact p4.2.1) rfl (by decide) fun b35 k35 ho35 hk35=>Za ?_)
   exact ⟨.slice (some ⟨b35,0,none⟩) 1 1,k35,rfl,Sub.refl,⟨rfl,hk35,ho35⟩⟩
  intro ρ r27 N27 hp hr hr0
  have p4:(r27 4)=.agg ⟨(cll (r27 4))⟩∧(cll (r27 4)).length=36∧okc (cll (r27 4))∧∃ tM lM aM sM kM,(N27 4)=((BX bK [iv lM] 3))++(((BX bS [v,iv aM,.int .u64 sM] 109))++kM)∧OT tM (cll (r27 4)) kM∧CPt cp (kids[j]) tM∧(kww1≤lM∧lM≤kww1+sizeT (kids[j]))∧(aww1≤aM∧aM≤aww1+sizeT (kids[j])):=hp 4 (by decide)
  have p5:(r27 5)=.slice (some ⟨(Y3 (r27 5)),0,none⟩) 1 1∧(N27 5)=[(Y3 (r27 5),.cells ⟨flatten [(cll (r27 4))]⟩ 51 (0,0))]∧Own 51 36 (.slice (some ⟨(Y3 (r27 5)),0,none⟩) 1 1) [(cll (r27 4))] (N27 5):=hp 5 (by decide)
  obtain ⟨ρ36,rfl⟩:=Zi (uc (show ρ 3=pp bW 0 from hr0 3 (by kernel_rfl)) (uc (show ρ 4=pp b1 0 from hr0 4 (by kernel_rfl)) (uc (show ρ 5=pp b2 0 from hr0 5 (by kernel_rfl)) (uc (show ρ 6=pp b3 0 from hr0 6 (by kernel_rfl)) (uc (show ρ 30=ks from hr0 30 (by kernel_rfl)) (uc (show ρ 31=iv ((kids.length:Int)) from hr0 31 (by kernel_rfl)) (uc (show ρ 32=iv ((j:Int)) from hr0 32 (by kernel_rfl)) (uc (show ρ 37=w1 from (hr 1 _ _ (by decide) rfl rfl).trans (hp 1 (by decide))) (uc (show ρ 41=.slice (some ⟨(Y3 (r27 5)),0,none⟩) 1 1 from (hr 5 _ _ (by decide) rfl rfl).trans p5.1) un)))))))))
  have p27_4:=p4;have p27_5:=p5
  clear hp hr hr0 p4 p5
  refine ZB (M':=[(N27 0),(N27 1),(N27 2),(N27 3),[],(N27 5),(N27 4),(BX b26 cs25 51),(BX b3 (pkT kind n6 ref w1 nS) 51),k1,k2,(BX b2 (pkT 0 0 zS nS nS) 51),(BX b1 (pkT kind num ref ks cv) 51)]) Sub.refl ?_
  obtain ⟨tM27_4,lM27_4,aM27_4,sM27_4,kM27_4,hNM27_4,hOM27_4,hDM27_4,hlM27_4,haM27_4⟩:=p27_4.2.2.2
  refine ZB (M':=[(N27 5),((BX bK [iv lM27_4] 3))++(((BX bS [v,iv aM27_4,.int .u64 sM27_4] 109))++kM27_4),(BX b26 cs25 51),(BX b3 (pkT kind n6 ref w1 nS) 51),k1,k2,(BX b2 (pkT 0 0 zS nS nS) 51),(BX b1 (pkT kind num ref ks cv) 51)]) (Sd (Sd (Sd (Sd (Sd (Sk (Se hNM27_4 (Sk (Sk (Sk (Sk (Sk (Sk Sub.nil)))))))))))))<|ZB (M':=[(N27 5),(BX bK [iv lM27_4] 3),(BX bS [v,iv aM27_4,.int .u64 sM27_4] 109),kM27_4,(BX b26 cs25 51),(BX b3 (pkT kind n6 ref w1 nS) 51),k1,k2,(BX b2 (pkT 0 0 zS nS nS) 51),(BX b1 (pkT kind num ref ks cv) 51)]) (Sub.flat Sub.refl (by simp)) ?_
  show JL _ _ _ [_,_,_] _ _ _
  have hlens37:∀ e∈([(cll (r27 4))]:List (List Value)),List.length e=36:=by
   intro e he;simp only [mem_cons,not_mem_nil,or_false] at he
   rcases he with rfl
   ·exact p27_4.2.1
  have hoks37:∀ e∈([(cll (r27 4))]:List (List Value)),okc e:=by
   intro e he;simp only [mem_cons,not_mem_nil,or_false] at he
   rcases he with rfl
   ·exact p27_4.2.2.1
  refine JLr (ZA (i:=6) (n:=1) (es':=[(cll (r27 4))]) ZI ZI (Or.inl rfl) YM rfl rfl rfl how1 (fun F w m=>Src.row (((ZcS 0 rfl (by rw [p27_5.2.1];exact mem_cons_self))).heap m) (Zx (Zw hlens37))) rfl hlens37 hoks37 (by decide) (by omega) fun v37 k37 ho37=>JLq (pp b3 34) (YS rfl rfl)<|JLr (Zb 5 (vs:=[v37]) (l:=pkT kind n6 ref v37 nS) XE rfl rfl rfl (ZH ho37.one) rfl (Zh ho37.one Zq) (U8 ..)<|Za<|Ze<|JLn (ZcP rfl rfl (by omega))<|JLM rfl<|Za<|⟨_,?_,(j+1),(ts++[tM27_4]),v37,(es++[(cll (r27 4))]),k37,(k2++kM27_4),lM27_4,aM27_4,sM27_4,rfl,rfl,rfl,rfl,rfl,rfl,rfl,(Sd (Sub.cons 4 rfl (Sub.cons 4 rfl (ZcO (Sub.cons 4 rfl (Sub.cons 2 rfl (Sk (Sk (Sd (Sk (Sk Sub.nil))))))))))),?_,?_,?_,?_,?_,?_,?_,rfl⟩))
  ·omega
  ·omega
  ·exact ho37
  ·exact OTs.snoc hOM27_4 hopw1
  ·simp;omega
  ·exact CPs.snoc h24n hcpw1 hDM27_4
  ·omega
  omega
 replace h24:=df h24
 have h24n:kids.length≤j:=by omega
 refine ZC _ rfl<|Zg<|Zd<|JLq (pp b1 35) (Y0 rfl rfl)<|JLr (Zc WN rfl (ZcK 6 rfl) (XA ..) ?_)
 obtain ⟨a38,cap38,hv38⟩:=hcv.sl
 have hle38:=hcv.le
 refine JLn (ZcM Xp hv38)<|JLM rfl<|Za<|Zm ?_
 rw [take_of_length_le h24n] at hcpw1 hkww1 haww1
 refine ZD (fun k ρ M=>∃ (j:Nat) (ts2:List (Pt×Tm)) (w2:Value) (es2:List (List Value)) (k3 k4:Zf) (kww2 aww2 sww2:Int),ρ 3=pp bW 0∧ρ 5=pp b2 0∧ρ 6=pp b3 0∧ρ 46=cv∧ρ 47=iv ((cases.length:Int))∧ρ 48=iv ((j:Int))∧Sub [(BX b3 (pkT kind n6 ref w1 w2) 51),k3,k4,(BX bK [iv kww2] 3),(BX bS [v,iv aww2,.int .u64 sww2] 109),k1,k2,(BX b2 (pkT 0 0 zS nS nS) 51),(BX b1 (pkT kind num ref ks cv) 51)] M∧j≤cases.length∧Own 117 71 w2 es2 k3∧OCs ts2 es2 k4∧ts2.length=j∧CPc cp (cases.take j) ts2∧(kww1≤kww2∧kww2≤kww1+sizeCs (cases.take j))∧(aww1≤aww2∧aww2≤aww1+sizeCs (cases.take j))∧k=cases.length-j) _ ⟨0,[],nS,[],[],[],kww1,aww1,sww1,rfl,rfl,rfl,rfl,rfl,rfl,(Sk (ZcL (ZcL (Sub.cons 2 rfl (Sub.cons 2 rfl (Sk (Sk (Sk (Sk Sub.nil))))))))),Nat.zero_le _,Own.nil,OCs.nil,rfl,(CPc.nil cp),⟨Int.le_refl _,by simp [sizeCs]⟩,⟨Int.le_refl _,by simp [sizeCs]⟩,rfl⟩ ?_
 rintro _ ρ39 _ ⟨j,ts2,w2,es2,k3,k4,kww2,aww2,sww2,e40,e41,e42,e43,e44,e45,hm46,hj,how2,hopw2,hlnw2,hcpw2,hkww2,haww2,rfl⟩
 obtain ⟨ρ47,rfl⟩:=Zi (uc e40 (uc e41 (uc e42 (uc e43 (uc e44 (uc e45 un))))))
 clear e40 e41 e42 e43 e44 e45
 refine ZF hm46 ?_
 have helw2:=S3 hopw2
 refine Zd<|JLn (Pu.lss rfl rfl)<|Za<|Zg<|Zt rfl (fun h48=>?_) (fun h48=>?_)
 ·replace h48:=dt h48
  have h48n:j<cases.length:=by omega
  have hs1w2:=Rc h48n
  have hs2w2:=N6 cases (j+1)
  refine Zo<|Zg<|Zm<|Zg<|Ze ?_
  obtain ⟨b49,o49,cap49,row49,T49,fr49,cs49,hv49,hb49,hs49,hE49⟩:=hcv.get j (by first | assumption | omega | decide | simp)
  obtain ⟨ca49,cb49,rfl,hA49,hB49⟩:=hE49
  refine JLn (Pu.idx j Xp YD hv49 rfl rfl (by first | assumption | omega | decide | simp))<|JLr (Zn YD rfl (ZcN hb49) hs49<|JLr (Zk (l:=(pkP 0 0 zS nS)++(pkT 0 0 zS nS nS)) zeroValue117 rfl fun b50=>JLr (Zb 0 (vs:=ca49++cb49) (l:=ca49++cb49) YD rfl rfl rfl rfl (ZJ (ZL hA49) (Zy hB49)) (YB (W3 hA49) (Y5 hB49)) (ZY (n:=71) rfl (ZJ (ZL hA49) (Zy hB49)))<|Za<|ZF (ZcO (Sub.cons 4 rfl (Sub.cons 4 rfl (Sk (Sk (Sk (Sk (Sk (Sk (Sk (Sk Sub.nil)))))))))))<|WF mixed #[0,1,0,4,12,0,0,64,252,508,1020,2047,4095,8191] 11 0 [8] rfl (by kernel_rfl) (by decide) rfl (by kernel_rfl) (fun i r51 N51=>match i with | 0=>(r51 0)=pp b3 35 | 1=>(r51 1)=w2 | 2=>(r51 2)=pp b50 0 | 3=>(r51 3)=.agg ⟨ca49⟩ | 4=>(r51 4)=.agg ⟨(cel (r51 4))⟩∧OP (cases[j].1) (cel (r51 4)) (N51 4) | 5=>(r51 5)=.func (.func 67) ⟨[]⟩ ⟨[pp bF 0,pp bK 0,pp bW 0]⟩ | 6=>(r51 6)=pp b50 35 | 7=>(r51 7)=.agg ⟨cb49⟩ | 8=>(r51 8)=.agg ⟨(cll (r51 8))⟩∧(cll (r51 8)).length=36∧okc (cll (r51 8))∧∃ tM lM aM sM kM,(N51 8)=((BX bK [iv lM] 3))++(((BX bS [v,iv aM,.int .u64 sM] 109))++kM)∧OT tM (cll (r51 8)) kM∧CPt cp (cases[j].2) tM∧(kww2≤lM∧lM≤kww2+sizeT (cases[j].2))∧(aww2≤aM∧aM≤aww2+sizeT (cases[j].2)) | 9=>(r51 9)=.agg ⟨((cel (r51 4)))++((cll (r51 8)))⟩ | 10=>(r51 10)=.slice (some ⟨(Y3 (r51 10)),0,none⟩) 1 1∧(N51 10)=[(Y3 (r51 10),.cells ⟨flatten [((cel (r51 4)))++((cll (r51 8)))]⟩ 117 (0,0))]∧Own 117 71 (.slice (some ⟨(Y3 (r51 10)),0,none⟩) 1 1) [((cel (r51 4)))++((cll (r51 8)))] (N51 10) | _=>True) ⟨?_,?_,?_,?_,?_,?_,?_,?_,?_,?_,?_,trivial⟩ ?_)))
  ·intro ρ r51 N51 B hB hBa hBb hp hr hr0
   obtain ⟨ρ52,rfl⟩:=Zi (uc (show ρ 6=pp b3 0 from hr0 6 (by kernel_rfl)) un)
   refine JLq (pp b3 35) (Y0 rfl rfl)<|Za ?_
   exact ⟨pp b3 35,[],rfl,(ZcL Sub.refl),rfl⟩
  ·intro ρ r51 N51 B hB hBa hBb hp hr hr0
   have p0:(r51 0)=pp b3 35:=hp 0 (by decide) rfl
   obtain ⟨ρ53,rfl⟩:=Zi (uc (show ρ 52=pp b3 35 from (hr 0 _ _ (by decide) rfl rfl rfl).trans p0) un)
   refine JLr (Zc WN rfl (ZcK 13 (Ym ((hB 2 (by decide)).trans rfl))) (XA ..)<|Za ?_)
   exact ⟨w2,[],rfl,(ZcL Sub.refl),rfl⟩
  ·intro ρ r51 N51 B hB hBa hBb hp hr hr0
   obtain ⟨ρ54,rfl⟩:=Zi (uc (show ρ 10=pp b50 0 from hr0 10 (by kernel_rfl)) un)
   refine JLq (pp b50 0) (WD rfl rfl)<|Za ?_
   exact ⟨pp b50 0,[],rfl,(ZcL Sub.refl),rfl⟩
  ·intro ρ r51 N51 B hB hBa hBb hp hr hr0
   have p2:(r51 2)=pp b50 0:=hp 2 (by decide) rfl
   obtain ⟨ρ55,rfl⟩:=Zi (uc (show ρ 54=pp b50 0 from (hr 2 _ _ (by decide) rfl rfl rfl).trans p2) un)
   refine JLr (Zn ZO rfl (ZcK 12 (Ym ((hB 1 (by decide)).trans rfl))) (Va (ZL hA49))<|Za ?_)
   exact ⟨.agg ⟨ca49⟩,[],rfl,(ZcL Sub.refl),rfl⟩
  ·intro ρ r51 N51 B hB hBa hBb hp hr hr0
   have p3:(r51 3)=.agg ⟨ca49⟩:=hp 3 (by decide) rfl
   obtain ⟨ρ56,rfl⟩:=Zi (uc (show ρ 55=.agg ⟨ca49⟩ from (hr 3 _ _ (by decide) rfl rfl rfl).trans p3) un)
   refine Jc call66 rfl (fun hin=>Tr _ _ _ (RP.mono (Hle.hu _ _) hA49) (by omega)) rfl ?_
   rintro _ _ ⟨cs57,k57,rfl,rfl,hO57⟩
   refine Za ?_
   exact ⟨.agg ⟨cs57⟩,k57,rfl,Sub.refl,⟨rfl,hO57⟩⟩
  ·intro ρ r51 N51 B hB hBa hBb hp hr hr0
   obtain ⟨ρ58,rfl⟩:=Zi (uc (show ρ 3=pp bW 0 from hr0 3 (by kernel_rfl)) un)
   refine JLr (Zc LK rfl (ZcN h3) rfl<|Za ?_)
   exact ⟨.func (.func 67) ⟨[]⟩ ⟨[pp bF 0,pp bK 0,pp bW 0]⟩,[],rfl,(ZcL Sub.refl),rfl⟩
  ·intro ρ r51 N51 B hB hBa hBb hp hr hr0
   obtain ⟨ρ59,rfl⟩:=Zi (uc (show ρ 10=pp b50 0 from hr0 10 (by kernel_rfl)) un)
   refine JLq (pp b50 35) (WC rfl rfl)<|Za ?_
   exact ⟨pp b50 35,[],rfl,(ZcL Sub.refl),rfl⟩
  ·intro ρ r51 N51 B hB hBa hBb hp hr hr0
   have p6:(r51 6)=pp b50 35:=hp 6 (by decide) rfl
   obtain ⟨ρ60,rfl⟩:=Zi (uc (show ρ 58=pp b50 35 from (hr 6 _ _ (by decide) rfl rfl rfl).trans p6) un)
   refine JLr (Zn Zu rfl (ZcK 12 (Ym ((hB 1 (by decide)).trans rfl))) (Vt (ZL hA49) (Zy hB49))<|Za ?_)
   exact ⟨.agg ⟨cb49⟩,[],rfl,(ZcL Sub.refl),rfl⟩
  ·intro ρ r51 N51 B hB hBa hBb hp hr hr0
   have p5:(r51 5)=.func (.func 67) ⟨[]⟩ ⟨[pp bF 0,pp bK 0,pp bW 0]⟩:=hp 5 (by decide) rfl
   have p7:(r51 7)=.agg ⟨cb49⟩:=hp 7 (by decide) rfl
   obtain ⟨ρ61,rfl⟩:=Zi (uc (show ρ 57=.func (.func 67) ⟨[]⟩ ⟨[pp bF 0,pp bK 0,pp bW 0]⟩ from (hr 5 _ _ (by decide) rfl rfl rfl).trans p5) (uc (show ρ 59=.agg ⟨cb49⟩ from (hr 7 _ _ (by decide) rfl rfl rfl).trans p7) un))
   have hB2:=hBa rfl
   change B=[((BX bK [iv kww2] 3))++((BX bS [v,iv aww2,.int .u64 sww2] 109)),(BX b50 (ca49++cb49) 117),(BX b3 (pkT kind n6 ref w1 w2) 51),k3,k4,k1,k2,(BX b2 (pkT 0 0 zS nS nS) 51),(BX b1 (pkT kind num ref ks cv) 51)] at hB2
   subst hB2
   refine ZB (M':=[(N51 0),(N51 1),(N51 2),(N51 3),(N51 4),(N51 5),(N51 6),(N51 7),[],(N51 9),(N51 10),((BX bK [iv kww2] 3))++((BX bS [v,iv aww2,.int .u64 sww2] 109)),(BX b50 (ca49++cb49) 117),(BX b3 (pkT kind n6 ref w1 w2) 51),k3,k4,k1,k2,(BX b2 (pkT 0 0 zS nS nS) 51),(BX b1 (pkT kind num ref ks cv) 51)]) Sub.refl<|Zs 11 rfl call67 rfl rfl (fun hin=>ih' _ (getElem_mem h48n) _ _ _ _ _ (RT.mono (Hle.hu _ _) hB49) ⟨RBs.mono (Hle.hu _ _) hv,Hle.hu _ _ _ _ h1,Hle.hu _ _ _ _ h3,Hle.hu _ _ _ _ hC,RIs.mono (Hle.hu _ _) hcs,Hle.hu _ _ _ _ hO⟩ (hgd.cas h48n) (by omega) (by omega) (by omega) (by omega) (by omega)) rfl ?_
   rintro _ _ ⟨t62,cs62,l62,a62,s62,k62,rfl,rfl,hO62,hD62,hl62,ha62⟩
   refine ZB (M':=[(BX bK [iv l62] 3),(BX bS [v,iv a62,.int .u64 s62] 109),k62,(N51 0),(N51 1),(N51 2),(N51 3),(N51 4),(N51 5),(N51 6),(N51 7),[],(N51 9),(N51 10),(BX b50 (ca49++cb49) 117),(BX b3 (pkT kind n6 ref w1 w2) 51),k3,k4,k1,k2,(BX b2 (pkT 0 0 zS nS nS) 51),(BX b1 (pkT kind num ref ks cv) 51)]) (Sub.flat Sub.refl (by simp))<|Za ?_
   exact ⟨.agg ⟨cs62⟩,((BX bK [iv l62] 3))++(((BX bS [v,iv a62,.int .u64 s62] 109))++k62),rfl,(Sub.flat (M':=[(N51 0),(N51 1),(N51 2),(N51 3),(N51 4),(N51 5),(N51 6),(N51 7),[],(N51 9),(N51 10),((BX bK [iv l62] 3))++(((BX bS [v,iv a62,.int .u64 s62] 109))++k62),(BX b50 (ca49++cb49) 117),(BX b3 (pkT kind n6 ref w1 w2) 51),k3,k4,k1,k2,(BX b2 (pkT 0 0 zS nS nS) 51),(BX b1 (pkT kind num ref ks cv) 51)]) (Sub.cons 3 rfl (Sub.cons 3 rfl (Sub.cons 3 rfl (Sub.cons 3 rfl (Sub.cons 3 rfl (Sub.cons 3 rfl (Sub.cons 3 rfl (Sub.cons 3 rfl (ZcL (Sub.cons 4 rfl (Sub.cons 4 rfl (ZcY (Sk (Sk (Sk (Sd (Sk (Sk (Sk (Sk (Sk (Sk (Sk (Sk Sub.nil)))))))))))))))))))))))) rfl),⟨rfl,hO62.len,hO62.ok,t62,l62,a62,s62,k62,rfl,hO62,hD62,hl62,ha62⟩⟩
  ·intro ρ r51 N51 B hB hBa hBb hp hr hr0
   have p4:(r51 4)=.agg ⟨(cel (r51 4))⟩∧OP (cases[j].1) (cel (r51 4)) (N51 4):=hp 4 (by decide) rfl
   have p8:(r51 8)=.agg ⟨(cll (r51 8))⟩∧(cll (r51 8)).length=36∧okc (cll (r51 8))∧∃ tM lM aM sM kM,(N51 8)=((BX bK [iv lM] 3))++(((BX bS [v,iv aM,.int .u64 sM] 109))++kM)∧OT tM (cll (r51 8)) kM∧CPt cp (cases[j].2) tM∧(kww2≤lM∧lM≤kww2+sizeT (cases[j].2))∧(aww2≤aM∧aM≤aww2+sizeT (cases[j].2)):=hp 8 (by decide) rfl
   obtain ⟨ρ63,rfl⟩:=Zi (uc (show ρ 56=.agg ⟨(cel (r51 4))⟩ from (hr 4 _ _ (by decide) rfl rfl rfl).trans p4.1) (uc (show ρ 60=.agg ⟨(cll (r51 8))⟩ from (hr 8 _ _ (by decide) rfl rfl rfl).trans p8.1) un))
   refine JLq (.agg ⟨((cel (r51 4)))++((cll (r51 8)))⟩) (Pu.build (pv:=[(0,.agg ⟨(cel (r51 4))⟩),(1,.agg ⟨(cll (r51 8))⟩)]) (l:=((cel (r51 4)))++((cll (r51 8)))) rfl (W0 p4.2.len p8.2.1))<|Za ?_
   exact ⟨.agg ⟨((cel (r51 4)))++((cll (r51 8)))⟩,[],rfl,(ZcL Sub.refl),rfl⟩
  ·intro ρ r51 N51 B hB hBa hBb hp hr hr0
   have p4:(r51 4)=.agg ⟨(cel (r51 4))⟩∧OP (cases[j].1) (cel (r51 4)) (N51 4):=hp 4 (by decide) rfl
   have p8:(r51 8)=.agg ⟨(cll (r51 8))⟩∧(cll (r51 8)).length=36∧okc (cll (r51 8))∧∃ tM lM aM sM kM,(N51 8)=((BX bK [iv lM] 3))++(((BX bS [v,iv aM,.int .u64 sM] 109))++kM)∧OT tM (cll (r51 8)) kM∧CPt cp (cases[j].2) tM∧(kww2≤lM∧lM≤kww2+sizeT (cases[j].2))∧(aww2≤aM∧aM≤aww2+sizeT (cases[j].2)):=hp 8 (by decide) rfl
   have p9:(r51 9)=.agg ⟨((cel (r51 4)))++((cll (r51 8)))⟩:=hp 9 (by decide) rfl
   obtain ⟨ρ64,rfl⟩:=Zi (uc (show ρ 61=.agg ⟨((cel (r51 4)))++((cll (r51 8)))⟩ from (hr 9 _ _ (by decide) rfl rfl rfl).trans p9) un)
   refine JLr (Zj (vs:=[.agg ⟨((cel (r51 4)))++((cll (r51 8)))⟩]) [((cel (r51 4)))++((cll (r51 8)))] Xp SL rfl rfl (by intro e he;simp only [mem_cons,not_mem_nil,or_false] at he;subst he;exact (ZJ p4.2.len p8.2.1)) rfl (by decide) fun b65 k65 ho65 hk65=>Za ?_)
   exact ⟨.slice (some ⟨b65,0,none⟩) 1 1,k65,rfl,Sub.refl,⟨rfl,hk65,ho65⟩⟩
  intro ρ r51 N51 hp hr hr0
  have p4:(r51 4)=.agg ⟨(cel (r51 4))⟩∧OP (cases[j].1) (cel (r51 4)) (N51 4):=hp 4 (by decide)
  have p8:(r51 8)=.agg ⟨(cll (r51 8))⟩∧(cll (r51 8)).length=36∧okc (cll (r51 8))∧∃ tM lM aM sM kM,(N51 8)=((BX bK [iv lM] 3))++(((BX bS [v,iv aM,.int .u64 sM] 109))++kM)∧OT tM (cll (r51 8)) kM∧CPt cp (cases[j].2) tM∧(kww2≤lM∧lM≤kww2+sizeT (cases[j].2))∧(aww2≤aM∧aM≤aww2+sizeT (cases[j].2)):=hp 8 (by decide)
  have p10:(r51 10)=.slice (some ⟨(Y3 (r51 10)),0,none⟩) 1 1∧(N51 10)=[(Y3 (r51 10),.cells ⟨flatten [((cel (r51 4)))++((cll (r51 8)))]⟩ 117 (0,0))]∧Own 117 71 (.slice (some ⟨(Y3 (r51 10)),0,none⟩) 1 1) [((cel (r51 4)))++((cll (r51 8)))] (N51 10):=hp 10 (by decide)
  obtain ⟨ρ66,rfl⟩:=Zi (uc (show ρ 3=pp bW 0 from hr0 3 (by kernel_rfl)) (uc (show ρ 5=pp b2 0 from hr0 5 (by kernel_rfl)) (uc (show ρ 6=pp b3 0 from hr0 6 (by kernel_rfl)) (uc (show ρ 46=cv from hr0 46 (by kernel_rfl)) (uc (show ρ 47=iv ((cases.length:Int)) from hr0 47 (by kernel_rfl)) (uc (show ρ 48=iv ((j:Int)) from hr0 48 (by kernel_rfl)) (uc (show ρ 53=w2 from (hr 1 _ _ (by decide) rfl rfl).trans (hp 1 (by decide))) (uc (show ρ 62=.slice (some ⟨(Y3 (r51 10)),0,none⟩) 1 1 from (hr 10 _ _ (by decide) rfl rfl).trans p10.1) un))))))))
  have p51_4:=p4;have p51_8:=p8;have p51_10:=p10
  clear hp hr hr0 p4 p8 p10
  refine ZB (M':=[(N51 0),(N51 1),(N51 2),(N51 3),(N51 4),(N51 5),(N51 6),(N51 7),[],(N51 9),(N51 10),(N51 8),(BX b50 (ca49++cb49) 117),(BX b3 (pkT kind n6 ref w1 w2) 51),k3,k4,k1,k2,(BX b2 (pkT 0 0 zS nS nS) 51),(BX b1 (pkT kind num ref ks cv) 51)]) Sub.refl ?_
  obtain ⟨tM51_8,lM51_8,aM51_8,sM51_8,kM51_8,hNM51_8,hOM51_8,hDM51_8,hlM51_8,haM51_8⟩:=p51_8.2.2.2
  refine ZB (M':=[(N51 4),(N51 10),((BX bK [iv lM51_8] 3))++(((BX bS [v,iv aM51_8,.int .u64 sM51_8] 109))++kM51_8),(BX b50 (ca49++cb49) 117),(BX b3 (pkT kind n6 ref w1 w2) 51),k3,k4,k1,k2,(BX b2 (pkT 0 0 zS nS nS) 51),(BX b1 (pkT kind num ref ks cv) 51)]) (Sd (Sd (Sd (Sd (Sk (Sd (Sd (Sd (Sd (Sd (Sk (Se hNM51_8 (Sk (Sk (Sk (Sk (Sk (Sk (Sk (Sk Sub.nil))))))))))))))))))))<|ZB (M':=[(N51 4),(N51 10),(BX bK [iv lM51_8] 3),(BX bS [v,iv aM51_8,.int .u64 sM51_8] 109),kM51_8,(BX b50 (ca49++cb49) 117),(BX b3 (pkT kind n6 ref w1 w2) 51),k3,k4,k1,k2,(BX b2 (pkT 0 0 zS nS nS) 51),(BX b1 (pkT kind num ref ks cv) 51)]) (Sub.flat Sub.refl (by simp)) ?_
  show JL _ _ _ [_,_,_] _ _ _
  have hlens67:∀ e∈([((cel (r51 4)))++((cll (r51 8)))]:List (List Value)),List.length e=71:=by
   intro e he;simp only [mem_cons,not_mem_nil,or_false] at he
   rcases he with rfl
   ·exact (ZJ p51_4.2.len p51_8.2.1)
  have hoks67:∀ e∈([((cel (r51 4)))++((cll (r51 8)))]:List (List Value)),okc e:=by
   intro e he;simp only [mem_cons,not_mem_nil,or_false] at he
   rcases he with rfl
   ·exact (YB p51_4.2.ok p51_8.2.2.1)
  refine JLr (ZA (i:=7) (n:=1) (es':=[((cel (r51 4)))++((cll (r51 8)))]) Xp Xp (Or.inl rfl) SL rfl rfl rfl how2 (fun F w m=>Src.row (((ZcS 1 rfl (by rw [p51_10.2.1];exact mem_cons_self))).heap m) (Zx (Zw hlens67))) rfl hlens67 hoks67 (by decide) (by omega) fun v67 k67 ho67=>JLq (pp b3 35) (Y0 rfl rfl)<|JLr (Zb 6 (vs:=[v67]) (l:=pkT kind n6 ref w1 v67) WN rfl rfl rfl (ZH ho67.one) rfl (Zh ho67.one Zq) (U7 ..)<|Za<|Ze<|JLn (ZcP rfl rfl (by omega))<|JLM rfl<|Za<|⟨_,?_,(j+1),(ts2++[(cases[j].1,tM51_8)]),v67,(es2++[((cel (r51 4)))++((cll (r51 8)))]),k67,(k4++(((N51 4))++kM51_8)),lM51_8,aM51_8,sM51_8,rfl,rfl,rfl,rfl,rfl,rfl,(Sub.cons 6 rfl (Sub.cons 6 rfl (ZcY (Sub.cons 6 rfl (Sk (Sd (Sub.cons 2 rfl (Sk (Sk (Sd (Sk (Sk (Sk (Sk Sub.nil)))))))))))))),?_,?_,?_,?_,?_,?_,?_,rfl⟩))
  ·omega
  ·omega
  ·exact ho67
  ·exact OCs.snoc p51_4.2 hOM51_8 hopw2
  ·simp;omega
  ·exact CPc.snoc h48n hcpw2 hDM51_8
  ·omega
  omega
 replace h48:=df h48
 have h48n:cases.length≤j:=by omega
 refine ZC _ rfl<|Zd<|JLr (Zn Zu rfl (ZcK 0 rfl) (Z4 ..)<|JLr (Zb 7 (vs:=pkT kind n6 ref w1 w2) (l:=pkT kind n6 ref w1 w2) Zu rfl rfl rfl rfl rfl (ZR how1.one how2.one) (Yb ..)<|Za<|Zz<|⟨.agg ⟨pkT kind n6 ref w1 w2⟩,[((BX bK [iv kww2] 3))++((BX bS [v,iv aww2,.int .u64 sww2] 109)),k1++(k2++(k3++k4))],Ret.one rfl (RV.cell Zu rfl (ZcK 7 rfl) (Z4 ..)),(ZcO (Sd (Sub.cons 2 rfl (Sub.cons 2 rfl (Zc3 (Sub.cons 2 rfl (Sub.cons 2 rfl (Sk (Sk Sub.nil))))))))),?_⟩))
 rw [take_of_length_le h48n] at hcpw2 hkww2 haww2
 have h6i:inI n6:=(Decidable.em (kind=7)).elim (fun e=>by have q:=h67 e;unfold cpQ at q;unfold inI;omega) (fun e=>by rw [h6n e];exact hn2)
 exact ⟨.mk kind n6 ref ts ts2,_,_,_,_,_,rfl,rfl,OT_mk.2 ⟨w1,w2,es,es2,k1,k2,k3,k4,rfl,hk,h6i,how1,hopw1,how2,hopw2,rfl,by omega,by omega⟩,Zdy (fun e=>⟨h67 e,(hgd.self e).1,(hgd.self e).2.1,(hgd.self e).2.2.2.2⟩) h6n hcpw1 hcpw2,by rw [sizeT];omega,by rw [sizeT];omega⟩
theorem Bj (bC bO bS:Nat) (vC v:Value) (cp l:List Int) (m:Int) (hmem:∀ x:Int,0≤x→x<m→x∈cp) (hn:cp.length≤100) (t:Tm) (cs:List Value) (a s:Int) (H:Heap) (ht:RT H cs t) (hv:Hs.rdS RB 1 H v l) (hC:H bC=some (.cells ⟨[vC]⟩ 45 (0,0))) (hcs:Hs.rdS RI 1 H vC cp) (hO:H bO=some (.cells ⟨[pp bS 0]⟩ 42 (0,0))) (hgd:gdT m t) (hz:sizeT t≤1000) (ha0:0≤a) (ha1:a+sizeT t≤1000000):CT prog 24 ⟨[.agg ⟨cs⟩,.func (.func 25) ⟨[]⟩ ⟨[pp bC 0,pp bO 0]⟩]⟩ [(BX bS [v,iv a,.int .u64 s] 109)] H (fun r N=>∃ t' ds a' s' kt,r=.agg ⟨ds⟩∧N=[(BX bS [v,iv (a'),.int .u64 (s')] 109),kt]∧OT t' ds kt∧CPt cp t t'∧(a≤a'∧a'≤a+sizeT t)):=by
 refine Zl func24 rfl rfl<|Zd<|JLr (Zr (l:=cs) rfl rfl fun b1=>JLr (Zr (l:=[.func (.func 25) ⟨[]⟩ ⟨[pp bC 0,pp bO 0]⟩]) rfl rfl fun b2=>JLr (Zk (l:=pkT 0 0 zS nS nS) zeroValue51 rfl fun b3=>Za<|Zd<|JLr (Zk (l:=[iv 0]) zeroValue3 rfl fun b4=>JLr (Zb 0 (vs:=[iv 0]) (l:=[iv 0]) ty3 rfl rfl rfl rfl rfl (Zh rfl Zq) rfl<|Za<|Zg ?_)))))
 refine Ze<|JLr (Zk (l:=[.nilFunc]) zeroValue52 rfl fun b5=>Za<|Zd<|JLq (.func (.func 67) ⟨[]⟩ ⟨[pp b2 0,pp b4 0,pp b5 0]⟩) (Pu.makeFunc rfl rfl)<|JLr (Zb 0 (vs:=[.func (.func 67) ⟨[]⟩ ⟨[pp b2 0,pp b4 0,pp b5 0]⟩]) (l:=[.func (.func 67) ⟨[]⟩ ⟨[pp b2 0,pp b4 0,pp b5 0]⟩]) LK rfl rfl rfl rfl rfl (Zh rfl Zq) rfl<|Za<|Zd<|JLr (Zc LK rfl (ZcK 0 rfl) rfl<|JLr (Zn Zu rfl (ZcK 4 rfl) (Zx (Zy ht))<|ZB (ZcO (Sub.cons 1 rfl (Sub.cons 4 rfl (Sk (Sk (Sk (Sk Sub.nil))))))) ?_))))
 refine Zs 0 rfl call67 rfl rfl (fun hin=>Zat _ _ _ _ _ _ _ _ _ _ m hmem hn t _ _ _ _ _ (RT.mono (Hle.hu _ _) ht) ⟨RBs.mono (Hle.hu _ _) hv,(hin 2 _ rfl _ _ mem_cons_self),(hin 0 _ rfl _ _ mem_cons_self),Hle.hu _ _ _ _ hC,RIs.mono (Hle.hu _ _) hcs,Hle.hu _ _ _ _ hO⟩ hgd (by omega) (by omega) (by omega) (by omega) (by omega)) rfl ?_
 rintro _ _ ⟨t6,cs6,l6,a6,s6,k6,rfl,rfl,hO6,hD6,hl6,ha6⟩
 refine ZB (M':=[(BX b4 [iv l6] 3),(BX bS [v,iv a6,.int .u64 s6] 109),k6,(BX b5 [.func (.func 67) ⟨[]⟩ ⟨[pp b2 0,pp b4 0,pp b5 0]⟩] 52),(BX b3 (pkT 0 0 zS nS nS) 51),(BX b2 [.func (.func 25) ⟨[]⟩ ⟨[pp bC 0,pp bO 0]⟩] 47),(BX b1 cs 51)]) (Sub.flat Sub.refl (by simp))<|JLr (Zb 4 (vs:=cs6) (l:=cs6) Zu rfl rfl rfl rfl hO6.len hO6.ok (ZY (n:=36) rfl hO6.len)<|Za<|Zz<|⟨.agg ⟨cs6⟩,[(BX bS [v,iv a6,.int .u64 s6] 109),k6],Ret.one rfl (RV.cell Zu rfl (ZcK 4 rfl) (Zx hO6.len)),(Sd (Sk (Sk Sub.nil))),?_⟩)
 exact ⟨_,_,_,_,_,rfl,rfl,hO6,hD6,by omega⟩
end
section
variable (n:Nat)
mutual
theorem Qp:∀ t:Tm,Z8 (replicate n 0) [] t=Z8 (replicate 0 0) [] t
  | .mk k m r kids cases=>by
    rw [Z8,Z8,Xw,Xw,Lh kids,Li cases]
theorem Lh:∀ l:List Tm,ZZ (replicate n 0) [] l=ZZ (replicate 0 0) [] l
  | []=>rfl
  | t::l=>by rw [ZZ,ZZ,Qp t,Lh l]
theorem Li:∀ l:List (Pt×Tm),ZW (replicate n 0) [] l=ZW (replicate 0 0) [] l
  | []=>rfl
  | (p,t)::l=>by rw [ZW,ZW,Qp t,Li l]
end
end
mutual
theorem QE:∀ t:Tm,Lo t→sizeT (Z8 (replicate 0 0) [] t)=sizeT t∧Yj (Z8 (replicate 0 0) [] t)=Yj t
  | .mk k m r kids cases,h=>by
    obtain ⟨h7,h1,h2⟩:=h
    by_cases e:k=7
    · obtain ⟨_,rfl,rfl⟩:=h7 e
      rw [Z8,if_pos e,Xw,if_neg (by omega)]
      exact ⟨by rw [sizeT,sizeT],by rw [Yj,Yj]⟩
    · have a:=P5 kids h1
      have b:=P6 cases h2
      rw [Z8,if_neg e,sizeT,sizeT,Yj,Yj,a.1,a.2,b.1,b.2]
      exact ⟨rfl,rfl⟩
theorem P5:∀ l:List Tm,UV l→sizeTs (ZZ (replicate 0 0) [] l)=sizeTs l∧Yi (ZZ (replicate 0 0) [] l)=Yi l
  | [],_=>⟨rfl,rfl⟩
  | t::l,h=>by
    have a:=QE t h.1
    have b:=P5 l h.2
    rw [ZZ,sizeTs,sizeTs,Yi,Yi,a.1,a.2,b.1,b.2];exact ⟨rfl,rfl⟩
theorem P6:∀ l:List (Pt×Tm),UW l→sizeCs (ZW (replicate 0 0) [] l)=sizeCs l∧Yo (ZW (replicate 0 0) [] l)=Yo l
  | [],_=>⟨rfl,rfl⟩
  | (p,t)::l,h=>by
    have a:=QE t h.1
    have b:=P6 l h.2
    rw [ZW,sizeCs,sizeCs,Yo,Yo,a.1,a.2,b.1,b.2];exact ⟨rfl,rfl⟩
end
section
variable {d N:Int}
mutual
theorem TH:∀ (b:Int) (t:Tm),Lo t→ZV d N b (Z8 (replicate 0 0) [] t)=0→(∀ x∈sfR t,0≤x∧x<N)→ZV d N b t=0
  | b,.mk k m r kids cases,h,g,hs=>by
    obtain ⟨h7,h1,h2⟩:=h
    by_cases e:k=7
    · obtain ⟨rfl,rfl,rfl⟩:=h7 e
      subst e
      have:=hs m (by rw [sfR,if_pos rfl];simp)
      exact Sq (by unfold YF Yx Ys loK hiK;simp;omega) rfl rfl rfl
    · rw [Z8,if_neg e] at g
      obtain ⟨g1,g2,g3,g4⟩:=Xi g
      rw [sfR,if_neg e] at hs
      rw [Ob,Oc] at g1
      rw [QX] at g2
      exact Sq g1 g2 (RQ b k 0 kids h1 g3 fun x hx=>hs x (mem_append.2 (.inl hx))) (RR b cases h2 g4 fun x hx=>hs x (mem_append.2 (.inr hx)))
theorem RQ:∀ (b k:Int) (i:Nat) (l:List Tm),UV l→Z0 d N b k i (ZZ (replicate 0 0) [] l)=0→(∀ x∈Yl l,0≤x∧x<N)→Z0 d N b k i l=0
  | b,k,i,[],_,_,_=>by rw [Z0]
  | b,k,i,t::l,h,g,hs=>by
    rw [ZZ,Z0] at g
    rw [Yl] at hs
    split at g
    · rename_i g0
      rw [Z0,if_pos (TH _ t h.1 g0 fun x hx=>hs x (mem_append.2 (.inl hx)))]
      exact RQ b k (i+1) l h.2 g fun x hx=>hs x (mem_append.2 (.inr hx))
    · exact absurd g (by assumption)
theorem RR:∀ (b:Int) (l:List (Pt×Tm)),UW l→Yc d N b (ZW (replicate 0 0) [] l)=0→(∀ x∈Yp l,0≤x∧x<N)→Yc d N b l=0
  | b,[],_,_,_=>by rw [Yc]
  | b,(p,t)::l,h,g,hs=>by
    rw [ZW,Yc] at g
    rw [Yp] at hs
    split at g
    · rename_i g0
      rw [Yc,if_pos (TH _ t h.1 g0 fun x hx=>hs x (mem_append.2 (.inl hx)))]
      exact RR b l h.2 g fun x hx=>hs x (mem_append.2 (.inr hx))
    · exact absurd g (by assumption)
end
end
theorem Pq {m:List Tm} (h:okG m) {z:Nat} (hz:∀ t∈m,sizeT t≤z) (hb:1+m.length*(2*z)≤1285):∀ (r:Nat) {i:Nat},i<m.length→rkM m i<r→VO m i=false
  | 0,_,_,h=>absurd h (by omega)
  | r + 1,i,hi,hr=>by
    have ok:=Qe h.ok (i:=(i:Int)) (by omega) (by omega)
    have hl:=ok.len
    have hlen:(Yf (Ye m i)).length≤65536:=by
      rw [SO h.ok hi]
      have g:=KK h ok (fun k=>sha (Yf (Ye m k)))
      have e:=Qm _ g.1 (by omega)
      have key:∀ (s:List Sm) (l:List Int),(∀ x∈l,0≤x∧x<(m.length:Int))→Xh (l.map (cdK m (Y8 m i) s))≤l.length*(2*z):=by
        intro s l
        induction l with
        | nil=>intro _;simp [Xh]
        | cons x l ih=>
          intro hx
          have b:=ih fun y hy=>hx y (by simp [hy])
          have hx:=hx x (by simp)
          have a:=Gn (Z8 (byL m.length (Y8 m i)) s (atL m x.toNat))
          have c:=(WI (by':=byL m.length (Y8 m i)) (s:=s) (atL m x.toNat)).1
          have q:=hz _ (XM (l:=m) (i:=x.toNat) (by omega))
          rw [map_cons,Xh,length_cons,Nat.succ_mul]
          have a1:=a.1
          unfold cdK
          unfold cdK at b
          omega
      have k:=key (smL m (Y8 m i) fun k=>sha (Yf (Ye m k))) _ ok.2
      have k2:(Y8 m i).length*(2*z)≤m.length*(2*z):=Nat.mul_le_mul_right _ hl
      have:szI (cdI m (Y8 m i) fun k=>sha (Yf (Ye m k)))≤1285:=by
        unfold cdI;rw [szI];unfold cdK at k;omega
      omega
    rw [SP h.ok hi,Bool.or_eq_false_iff]
    refine ⟨?_,by simp;omega⟩
    rw [List.any_eq_false]
    intro k _ hk
    rw [Bool.and_eq_true] at hk
    have:=WS h.ok hi hk.1
    rw [Pq h hz hb r this.1 (by omega)] at hk
    cases hk.2
theorem LL {l:List Tm} (h:okG l) {z:Nat} (hz:∀ t∈l,sizeT t≤z) (hb:1+l.length*(2*z)≤1285):∀ i,i<l.length→cR l i=0:=fun i hi=>by
  rw [VQ,if_neg]
  rw [Pq (m:=mkL l) h.mkL (z:=z) (fun t ht=>by
    obtain ⟨u,hu,rfl⟩:=mem_map.1 ht
    have:=(WI (by':=frI l) (s:=[]) u).1
    have:=hz u hu
    omega) (by rw [ZQ];exact hb) _ (by rw [ZQ];exact Ya hi) (Nat.lt_succ_self _)]
  exact Bool.false_ne_true
theorem Ai {l:List Tm} (h:okG l) (hc:∀ i,i<l.length→cR l i=0):kSe l=0∧kSs l=smG l:=by
  have s:=OR hc
  have k:=On (Co h)
  rw [k.1,k.2];exact ⟨s.1,s.2.1⟩
structure cpG (lt mt:List Tm) (cp:List Int):Prop where
  len:cp.length=mt.length
  rng:∀ i,i<mt.length→0≤cp.getD i 0∧cp.getD i 0<(lt.length:Int)
  rel:∀ i,i<mt.length→CPt cp (atL lt (cp.getD i 0).toNat) (atL mt i)
theorem Cw {l:List Tm} {t:Tm} (h:t∈l):∃ i,i<l.length∧atL l i=t:=by
  obtain ⟨i,hi,e⟩:=List.getElem_of_mem h
  exact ⟨i,hi,(YK hi).trans e⟩
theorem Oe {l:List Tm} (h1:1≤l.length) (h8:l.length≤8) (hg:∀ t∈l,ZV 0 l.length 0 t=0∧((sizeT t:Int)≤300∧Yj t≤60)):okG l:=⟨h1,h8,fun t ht=>checkR_iff.2 ⟨by
  have:=hg t ht
  cases e:Sv t with
  | false=>rfl
  | true=>rw [WW] at e;omega,(hg t ht).1⟩⟩
theorem Zax {lt mt:List Tm} {cp:List Int} {z:Nat} {dz:Int} (C:cpG lt mt cp) (h1:1≤lt.length) (h8:lt.length≤8) (hm1:1≤mt.length) (hm:mt.length≤8) (hg:∀ t∈lt,ZV 0 lt.length 0 t=0∧((sizeT t:Int)≤z∧Yj t≤dz)) (hz:z≤300) (hd:dz≤60) (hb:1+lt.length*(2*z)≤1285):
    (kSe lt=0∧kSs lt=smG lt)∧(kSe mt=0∧kSs mt=smG mt)∧∀ i,i<mt.length→(smG mt).getD i zS=(smG lt).getD (cp.getD i 0).toNat zS:=by
  have ol:okG lt:=Oe h1 h8 fun t ht=>by have:=hg t ht;exact ⟨this.1,by omega⟩
  have om:okG mt:=by
    refine Oe hm1 hm fun u hu=>?_
    obtain ⟨i,hi,rfl⟩:=Cw hu
    obtain ⟨b,f,s⟩:=C.rel i hi
    have r:=C.rng i hi
    have ht:=hg _ (XM (l:=lt) (i:=(cp.getD i 0).toNat) (by omega))
    have q:=QE _ s
    unfold YJ at b
    have q2:=WI (by':=replicate 0 0) (s:=[]) (atL lt (cp.getD i 0).toNat)
    rw [← b] at q2
    refine ⟨TH 0 _ s ?_ fun x hx=>?_,by omega⟩
    · rw [b]
      exact Sp (m:=lt.length) (fun x _ _=>by rw [Xw];omega) 0 _ ht.1
    · obtain ⟨k,hk,rfl⟩:=List.getElem_of_mem hx
      have:=f.get k hk (by rw [← f.len];exact hk)
      have e:=C.len
      unfold cpQ at this
      omega
  have X:XB mt lt (fun a x=>a<mt.length∧x=(cp.getD a 0).toNat):=
    { la:=fun h=>h.1
      lx:=fun h=>by have:=C.rng _ h.1;obtain ⟨_,rfl⟩:=h;omega
      bl:=fun {a x} h=>by
        obtain ⟨ha,rfl⟩:=h
        have:=(C.rel a ha).1
        unfold YJ at this ⊢
        rw [Qp mt.length,Qp lt.length,this]
      st:=fun {a x} h=>by
        obtain ⟨ha,rfl⟩:=h
        rw [Vc,Vc]
        refine (C.rel a ha).2.1.imp fun c o q=>?_
        obtain ⟨q0,q1,q2⟩:=q
        have e:=C.len
        have r:=C.rng c.toNat (by omega)
        exact ⟨c.toNat,o.toNat,by omega,by omega,by omega,by rw [q2]⟩}
  have cl:=LL ol (z:=z) (fun t ht=>by have:=hg t ht;omega) hb
  have cm:∀ i,i<mt.length→cR mt i=0:=fun i hi=>by
    rw [(X.same om ol ⟨hi,rfl⟩).2]
    exact cl _ (by have:=C.rng i hi;omega)
  refine ⟨Ai ol cl,Ai om cm,fun i hi=>?_⟩
  have r:=C.rng i hi
  have e1:(smG mt).getD i zS=sha (cB mt i):=by
    rw [getD_eq_getElem?_getD,getElem?_eq_getElem (by rw [We];exact hi)];simp [smG]
  have e2:(smG lt).getD (cp.getD i 0).toNat zS=sha (cB lt (cp.getD i 0).toNat):=by
    have hx:(cp.getD i 0).toNat<lt.length:=by omega
    generalize (cp.getD i 0).toNat=x at hx
    rw [getD_eq_getElem?_getD,getElem?_eq_getElem (by rw [We];exact hx)];simp [smG]
  rw [e1,e2,(X.same om ol ⟨hi,rfl⟩).1]
theorem Rr {l:List Int} {k:Int} {i:Nat} (h:i<l.length):(l++[k]).getD i 0=l.getD i 0:=by
  rw [getD_eq_getElem?_getD,getD_eq_getElem?_getD,List.getElem?_append_left h]
theorem Oq {l:List Int} {k:Int}:(l++[k]).getD l.length 0=k:=by
  rw [getD_eq_getElem?_getD,List.getElem?_append_right (Nat.le_refl _)];simp
theorem Lp {l:List Tm} {t:Tm} {i:Nat} (h:i<l.length):atL (l++[t]) i=atL l i:=by
  unfold atL
  rw [getD_eq_getElem?_getD,getD_eq_getElem?_getD,List.getElem?_append_left h]
theorem Lq {l:List Tm} {t:Tm}:atL (l++[t]) l.length=t:=by
  unfold atL
  rw [getD_eq_getElem?_getD,List.getElem?_append_right (Nat.le_refl _)];simp
structure CPX (lt mt:List Tm) (cp:List Int) (j:Nat):Prop where
  lc:cp.length=mt.length
  lm:mt.length=lt.length+j
  rng:∀ i,i<mt.length→0≤cp.getD i 0∧cp.getD i 0<(lt.length:Int)
  at_:∀ i,i<mt.length→atL mt i=atL lt (cp.getD i 0).toNat
  pre:∀ k,k<lt.length→cp.getD k 0=(k:Int)
theorem CPX.beg {lt:List Tm} {cp:List Int} (h:cp.length=lt.length) (hv:∀ k,k<lt.length→cp.getD k 0=(k:Int)):CPX lt lt cp 0:=
  ⟨h,rfl,fun i hi=>by rw [hv i hi];omega,fun i hi=>by rw [hv i hi];simp,hv⟩
theorem CPX.snoc {lt mt:List Tm} {cp:List Int} {j:Nat} (h:CPX lt mt cp j) {k:Int} (h0:0≤k) (h1:k<(lt.length:Int)):CPX lt (mt++[atL lt k.toNat]) (cp++[k]) (j+1):=by
  have e:=h.lc
  have e2:=h.lm
  have key:∀ i,i<(mt++[atL lt k.toNat]).length→i<mt.length∨i=mt.length:=fun i hi=>by simp at hi;omega
  refine ⟨by simp [e],by simp;omega,fun i hi=>?_,fun i hi=>?_,fun i hi=>?_⟩
  · rcases key i hi with q | rfl
    · rw [Rr (by omega)];exact h.rng i q
    · rw [← e,Oq];exact ⟨h0,h1⟩
  · rcases key i hi with q | rfl
    · rw [Rr (by omega),Lp q];exact h.at_ i q
    · rw [Lq,← e,Oq]
  · rw [Rr (by omega)];exact h.pre i hi
theorem CPX.mem {lt mt:List Tm} {cp:List Int} {j:Nat} (h:CPX lt mt cp j):∀ x:Int,0≤x→x<(lt.length:Int)→x∈cp:=fun x h0 h1=>by
  have e:=h.lc
  have e2:=h.lm
  have p:=h.pre x.toNat (by omega)
  rw [getD_eq_getElem?_getD,getElem?_eq_getElem (show x.toNat<cp.length by omega),Option.getD_some] at p
  have:cp[x.toNat]'(by omega)=x:=by omega
  exact this▸getElem_mem _
theorem CPX.gd {lt mt:List Tm} {cp:List Int} {j:Nat} (h:CPX lt mt cp j) {z d:Int} (hg:∀ t∈lt,ZV 0 lt.length 0 t=0∧((sizeT t:Int)≤z∧Yj t≤d)) {i:Nat} (hi:i<mt.length):gdT lt.length mt[i]∧(sizeT mt[i]:Int)≤z:=by
  have r:=h.rng i hi
  have a:=h.at_ i hi
  rw [YK hi] at a
  rw [a]
  have:=hg _ (XM (l:=lt) (i:=(cp.getD i 0).toNat) (by omega))
  exact ⟨⟨0,this.1⟩,this.2.1⟩
theorem CPX.cpG {lt mt dn:List Tm} {cp:List Int} {j:Nat} (h:CPX lt mt cp j) (hl:dn.length=mt.length) (hr:∀ i (hi:i<mt.length),CPt cp mt[i] (atL dn i)):Hs.cpG lt dn cp:=by
  refine ⟨by rw [h.lc,hl],fun i hi=>h.rng i (by omega),fun i hi=>?_⟩
  have:=hr i (by omega)
  rw [← YK (by omega),h.at_ i (by omega)] at this
  exact this
theorem EB {mt dn:List Tm} {cp:List Int} {j:Nat} {u:Tm} (hd:dn.length=j) (h:∀ i (hi:i<mt.length),i<j→CPt cp mt[i] (atL dn i)) (hj:j<mt.length) (g:CPt cp mt[j] u):∀ i (hi:i<mt.length),i<j+1→CPt cp mt[i] (atL (dn++[u]) i):=fun i hi hl=>by
  rcases Nat.lt_or_ge i j with q | q
  · rw [Lp (by omega)];exact h i hi q
  · obtain rfl:i=j:=by omega
    subst hd
    rw [Lq];exact g
theorem Zaw {cp:List Int} {j:Nat} (h:∀ k,k<j→cp.getD k 0=(k:Int)) (hj:j<cp.length):∀ k,k<j+1→(cp.set j (j:Int)).getD k 0=(k:Int):=fun k hk=>by
  rw [getD_eq_getElem?_getD,List.getElem?_set]
  by_cases e:j=k
  · subst e;simp [hj]
  · rw [if_neg e,← getD_eq_getElem?_getD];exact h k (by omega)
section
attribute [local irreducible] JL J CT wlo DT
theorem P3 {{l:List Tm}} (h:kSe l=0∧kSs l=smG l) (v:Value) (H:Heap) (hv:Hs.rdS RT 36 H v l) (hz:∀ t∈l,sizeT t≤400000) (hGK:GK H):CT prog 13 ⟨[v]⟩ [] H (fun r N=>∃ u k,r=.tuple ⟨[u,iv 0]⟩∧N=[k]∧Own 38 32 u (sms (smG l)) k):=by
 have z:=UY l v H hv hz hGK
 rw [h.1,h.2] at z
 exact z
set_option maxHeartbeats 8000000 in
theorem copied_law (v u:Value) (l w:List Int) (H:Heap) (hb:bytesR H v l) (hv:Hs.rdS RB 1 H v l) (hb2:bytesR H u w) (hv2:Hs.rdS RB 1 H u w) (hGK:GK H):CT prog 4 ⟨[v,u]⟩ [] H (fun v N=>v=.bool true∧N=[]):=by
 refine Zl func4 rfl rfl<|Zd<|JAn rfl<|Zd<|JLm v<|Jc call18 rfl (fun hin=>B9 _ _ _ (bytesR.mono (Hle.hu _ _) hb) (RBs.mono (Hle.hu _ _) hv)) rfl ?_
 rintro _ _ ⟨bS1,u1,k1,s1,l1,rfl,rfl,hu1,hr1⟩
 refine JLm u<|Jc call18 rfl (fun hin=>B9 _ _ _ (bytesR.mono (Hle.hu _ _) hb2) (RBs.mono (Hle.hu _ _) hv2)) rfl ?_
 rintro _ _ ⟨bS2,u2,k2,s2,l2,rfl,rfl,hu2,hr2⟩
 refine JLr (Zk (l:=[.pointer none]) zeroValue42 rfl fun b3=>JLA rfl<|JLr (Zb 0 (vs:=[pp bS2 0]) (l:=[pp bS2 0]) W5 rfl rfl rfl rfl rfl (Zh rfl Zq) rfl<|Za<|Zd<|JLM rfl<|Zs 3 rfl call19 rfl rfl (fun hin=>Cz _ _ _ _ _ _ (hr1 _ (hin 3 _ rfl)) (by omega) (by omega) _ _ (by omega) (by omega) (by omega) (by omega)) rfl ?_))
 rintro v4 _ ⟨lt,k4,a4,s4,rfl,hO4,hln,hg,ha4⟩
 refine JLa v4<|Za<|U2 (i:=0) rfl ?_
 intro H hh hkH
 have hGK:=GK.mono hh hGK
 have hL:=hO4.rd hkH
 refine Zd<|JLr (Zc W5 rfl (ZcK 1 rfl) rfl<|JLm v4 ?_)
 obtain ⟨a5,cap5,hv5⟩:=hL.sl
 have hle5:=hL.le
 refine JLn (ZcM ZI hv5)<|Zs 2 rfl call20 rfl rfl (fun hin=>L1 _ _ _ _ _ _ (hr2 _ (hin 2 _ rfl)) (by omega) (by omega) lt.length (by omega)) rfl ?_
 rintro v6 _ ⟨k6,out,a6,s6,rfl,ho6,hol,hor,ha6⟩
 refine JLa v6<|Za<|Zd<|JLm v4<|Jc call7 rfl (fun hin=>Mn _ _ _ (RTs.mono (Hle.hu _ _) hL) (by omega) (fun t ht=>by have:=hg t ht;omega)) rfl ?_
 rintro v7 _ ⟨k7,rfl,hO7⟩
 obtain ⟨esM,kM,tM,hwM,hsM,rfl,hmM⟩:=hO7
 refine ZB (M':=[kM,tM,k6,(BX bS2 [u2,iv a6,.int .u64 s6] 109),(BX bS1 [u1,iv a4,.int .u64 s4] 109),(BX b3 [pp bS2 0] 42),k2,k1]) (Sub.flat Sub.refl (by simp))<|JLa v7<|Za<|Zd<|JLm v4 ?_
 obtain ⟨a8,cap8,hv8⟩:=hL.sl
 have hle8:=hL.le
 refine JLn (ZcM ZI hv8)<|JLr (Uj (lt.length) ZS el3 rfl rfl rfl rfl (by omega) (by omega) fun v9 k9 ho9=>?_)
 rw [MI] at ho9
 refine JLr (Zk (l:=[nS]) zeroValue45 rfl fun b10=>JLr (Zb 0 (vs:=[v9]) (l:=[v9]) YL rfl rfl rfl (ZH ho9.one) rfl (Zh ho9.one Zq) rfl<|Za<|Zg<|Zd<|JLr (Zc YL rfl (ZcK 0 rfl) rfl ?_)))
 obtain ⟨a11,cap11,hv11⟩:=ho9.sl
 rw [Zv] at hv11
 refine JLn (ZcM ZS hv11)<|JLM rfl<|Za<|Zm ?_
 rw [show ((replicate lt.length (0:Int)).length:Int)=(lt.length:Int) by rw [length_replicate]]
 refine ZD (fun k ρ M=>∃ (j:Nat) (cp:List Int) (yc:Value) (qc:Zf),ρ 4=.bool false∧ρ 6=pp b3 0∧ρ 7=v4∧ρ 8=v6∧ρ 9=v7∧ρ 10=pp b10 0∧ρ 36=iv ((lt.length:Int))∧ρ 37=iv ((j:Int))∧Sub [(BX b10 [yc] 45),qc,kM,tM,k6,(BX bS2 [u2,iv a6,.int .u64 s6] 109),(BX bS1 [u1,iv a4,.int .u64 s4] 109),(BX b3 [pp bS2 0] 42),k2,k1] M∧j≤lt.length∧Own 3 1 yc (Z2 cp) qc∧cp.length=lt.length∧(∀ k,k<j→cp.getD k 0=(k:Int))∧k=lt.length-j) _ ⟨0,(replicate lt.length 0),v9,k9,rfl,rfl,rfl,rfl,rfl,rfl,rfl,rfl,(Sk (Sk (Sk (Sk (Sk (Sk (Sk (Sk (Sk (Sk Sub.nil)))))))))),Nat.zero_le _,ho9,length_replicate ..,(fun k hk=>absurd hk (by omega)),rfl⟩ ?_
 rintro _ ρ12 _ ⟨j,cp,yc,qc,e13,e14,e15,e16,e17,e18,e19,e20,hm21,hj,hoc,hcl,hcv,rfl⟩
 obtain ⟨ρ22,rfl⟩:=Zi (uc e13 (uc e14 (uc e15 (uc e16 (uc e17 (uc e18 (uc e19 (uc e20 un))))))))
 clear e13 e14 e15 e16 e17 e18 e19 e20
 refine ZF hm21<|Zd<|JLn (Pu.lss rfl rfl)<|Za<|Zg<|Zt rfl (fun h23=>?_) (fun h23=>?_)
 ·replace h23:=dt h23
  have h23n:j<lt.length:=by omega
  have hjc:j<cp.length:=by omega
  refine Zo<|Zg<|Zm<|Zd<|JLM rfl<|JAn rfl<|Ze<|JLr (Zc YL rfl (ZcK 0 rfl) rfl<|JLM rfl<|JLM rfl ?_)
  obtain ⟨b24,cap24,row24,hv24,hm24,hs24⟩:=hoc.at (j:=j) (by rw [Zv];first | assumption | omega)
  rw [Yg _ _ (by first | assumption | omega)] at hs24
  refine JLn (Pu.idx j ZS ty3 hv24 rfl rfl (by rw [Zv];first | assumption | omega))<|JLr (Y7 (i:=1) (j:=j) (b:=b24) (e':=[iv ((j:Int))]) ty3 rfl hoc ⟨_,_,hv24⟩ rfl (by rw [Zv];first | assumption | omega) rfl rfl rfl (Zh rfl Zq) fun k25 ho25=>?_)
  rw [Pg] at ho25
  refine Za<|Ze<|JLn (ZcP rfl rfl (by omega))<|JLM rfl<|Za<|⟨_,?_,(j+1),(List.set cp j ((j:Int))),yc,k25,rfl,rfl,rfl,rfl,rfl,rfl,rfl,rfl,(Sk (Sk (Sk (Sk (Sk (Sk (Sk (Sk (Sk (Sk Sub.nil)))))))))),?_,?_,?_,?_,rfl⟩
  ·omega
  ·omega
  ·exact ho25
  ·rw [length_set];exact hcl
  exact Zaw hcv hjc
 replace h23:=df h23
 have h23n:lt.length≤j:=by omega
 refine ZC _ rfl<|Zg<|Zd<|JLr (Zc W5 rfl (ZcK 7 rfl) rfl<|Zs 5 rfl call21 rfl rfl (fun hin=>SD _ _ _ _ _ _ (hr2 _ (hin 7 _ rfl)) (by omega) (by omega) _ _ (by omega) (by omega) (by omega)) rfl ?_)
 rintro _ _ ⟨n26,a26,s26,rfl,rfl,hn26,ha26⟩
 refine JLM rfl<|Za<|Zm<|ZD (fun k ρ M=>∃ (j:Nat) (mt:List Tm) (yN:Value) (esN:List (List Value)) (kN tN:Zf) (cp2:List Int) (y2:Value) (q2:Zf) (a2 s2:Int),ρ 4=.bool false∧ρ 6=pp b3 0∧ρ 7=v4∧ρ 8=v6∧ρ 9=yN∧ρ 10=pp b10 0∧ρ 46=iv n26∧ρ 47=iv ((j:Int))∧Sub [(BX b10 [y2] 45),q2,kN,tN,(BX bS2 [u2,iv a2,.int .u64 s2] 109),k6,(BX bS1 [u1,iv a4,.int .u64 s4] 109),(BX b3 [pp bS2 0] 42),k2,k1] M∧(j:Int)≤n26∧Own 51 36 yN esN kN∧OTs mt esN tN∧Own 3 1 y2 (Z2 cp2) q2∧CPX lt mt cp2 j∧(a26≤a2∧a2≤a26+j)∧k=n26.toNat-j) _ ⟨0,lt,v7,esM,kM,tM,cp,yc,qc,a26,s26,rfl,rfl,rfl,rfl,rfl,rfl,rfl,rfl,(Sub.cons 1 rfl (Sub.cons 1 rfl (Sub.cons 1 rfl (Sub.cons 1 rfl (Sk (Sk (Sk (Sk (Sk (Sk Sub.nil)))))))))),(by omega),hwM,hsM,hoc,(CPX.beg hcl (fun k hk=>hcv k (by omega))),(by omega),rfl⟩ ?_
 rintro _ ρ27 _ ⟨j,mt,yN,esN,kN,tN,cp2,y2,q2,a2,s2,e28,e29,e30,e31,e32,e33,e34,e35,hm36,hj,hwN,hsN,ho2,hX,ha2,rfl⟩
 obtain ⟨ρ37,rfl⟩:=Zi (uc e28 (uc e29 (uc e30 (uc e31 (uc e32 (uc e33 (uc e34 (uc e35 un))))))))
 clear e28 e29 e30 e31 e32 e33 e34 e35
 refine ZF hm36 ?_
 have hlc:=hX.lc
 have hlm:=hX.lm
 have heN:=YH hsN
 refine Zd<|JLn (Pu.lss rfl rfl)<|Za<|Zg<|Zt rfl (fun h38=>?_) (fun h38=>?_)
 ·replace h38:=dt h38
  refine Zo<|Zg<|Zm<|Zd<|JLm v6<|JLr (Zc W5 rfl (ZcK 7 rfl) rfl<|JLm v6 ?_)
  obtain ⟨a39,cap39,hv39⟩:=ho6.sl
  rw [Zv] at hv39
  refine JLn (ZcM ZS hv39)<|Zs 4 rfl call22 rfl rfl (fun hin=>Yw _ _ _ _ _ _ (hr2 _ (hin 7 _ rfl)) (by omega) (by omega) _) rfl ?_
  rintro _ _ ⟨n40,a40,s40,rfl,rfl,hn40,ha40⟩
  obtain ⟨b41,cap41,row41,hv41,hm41,hs41⟩:=ho6.at (j:=n40.toNat) (by rw [Zv];first | assumption | omega)
  rw [Yg _ _ (by first | assumption | omega)] at hs41
  rw [← (show out.getD (n40.toNat) 0=out[n40.toNat] from YO (by omega))] at hs41
  refine JLq (pp b41 (0+n40.toNat*1)) (Pu.idx n40.toNat ZS ty3 hv41 rfl (by first | rfl | omega) (by rw [Zv];first | assumption | omega))<|JLr (Zc ty3 rfl (ZcS 5 rfl hm41) (ZP hs41)<|JAn rfl<|Zg ?_)
  have hk0:=Fe hor (show (0:Int)<(lt.length:Int) by omega) n40.toNat
  refine Ze<|JLm yN<|JLm v4<|JLM rfl ?_
  obtain ⟨b42,o42,cap42,row42,T42,fr42,cs42,hv42,hb42,hs42,hE42⟩:=hL.get ((out.getD n40.toNat 0)).toNat (by first | assumption | omega | decide | simp)
  refine JLq (pp b42 (o42+((out.getD n40.toNat 0)).toNat*36)) (Pu.idx ((out.getD n40.toNat 0)).toNat ZI Zu hv42 rfl (by first | rfl | omega) (by first | assumption | omega | decide | simp))<|JLr (Zn Zu rfl (ZcN hb42) hs42<|Jc call23 rfl (fun hin=>V5 (atL lt (((out.getD n40.toNat 0)).toNat)) _ _ (by rw [YK (show ((out.getD n40.toNat 0)).toNat<lt.length by omega)];exact (RT.mono (Hle.hu _ _) hE42)) (by have:=hg _ (XM (l:=lt) (i:=((out.getD n40.toNat 0)).toNat) (by omega));omega)) rfl ?_)
  rintro _ _ ⟨cs43,k43,rfl,rfl,hO43⟩
  refine JLr (Zj (vs:=[.agg ⟨cs43⟩]) [cs43] ZI YM rfl rfl (by intro e he;simp only [mem_cons,not_mem_nil,or_false] at he;subst he;exact hO43.len) rfl (by decide) fun b44 k44 ho44 hk44=>?_)
  have hlens45:∀ e∈([cs43]:List (List Value)),List.length e=36:=by
   intro e he;simp only [mem_cons,not_mem_nil,or_false] at he
   rcases he with rfl
   ·exact hO43.len
  have hoks45:∀ e∈([cs43]:List (List Value)),okc e:=by
   intro e he;simp only [mem_cons,not_mem_nil,or_false] at he
   rcases he with rfl
   ·exact hO43.ok
  refine JLr (ZA (i:=5) (n:=1) (es':=[cs43]) ZI ZI (Or.inl rfl) YM rfl rfl rfl hwN (fun F w m=>Src.row (((ZcS 0 rfl (by rw [hk44];exact mem_cons_self))).heap m) (Zx (Zw hlens45))) rfl hlens45 hoks45 (by decide) (by first | omega | (rw [Zv];omega)) fun v45 k45 ho45=>JLa v45<|Za<|Ze<|JLr (Zc YL rfl (ZcK 3 rfl) rfl<|JLM rfl<|JLr (Zj (vs:=[iv ((out.getD n40.toNat 0))]) [[iv ((out.getD n40.toNat 0))]] ZS el3 rfl rfl (by intro e he;simp only [mem_cons,not_mem_nil,or_false] at he;subst he;exact rfl) rfl (by decide) fun b46 k46 ho46 hk46=>?_)))
  have hlens47:∀ e∈([[iv ((out.getD n40.toNat 0))]]:List (List Value)),List.length e=1:=by
   intro e he;simp only [mem_cons,not_mem_nil,or_false] at he
   rcases he with rfl
   ·exact rfl
  have hoks47:∀ e∈([[iv ((out.getD n40.toNat 0))]]:List (List Value)),okc e:=by
   intro e he;simp only [mem_cons,not_mem_nil,or_false] at he
   rcases he with rfl
   ·exact (Zh rfl Zq)
  refine JLr (ZA (i:=5) (n:=1) (es':=[[iv ((out.getD n40.toNat 0))]]) ZS ZS (Or.inl rfl) el3 rfl rfl rfl ho2 (fun F w m=>Src.row (((ZcS 0 rfl (by rw [hk46];exact mem_cons_self))).heap m) (Zx (Zw hlens47))) rfl hlens47 hoks47 (by decide) (by first | omega | (rw [Zv];omega)) fun v47 k47 ho47=>JLr (Zb 4 (vs:=[v47]) (l:=[v47]) YL rfl rfl rfl (ZH ho47.one) rfl (Zh ho47.one Zq) rfl<|Za<|Ze<|JLn (ZcP rfl rfl (by omega))<|JLM rfl<|Za<|⟨_,?_,(j+1),(mt++[atL lt (((out.getD n40.toNat 0)).toNat)]),v45,(esN++[cs43]),k45,(tN++k43),(cp2++[((out.getD n40.toNat 0))]),v47,k47,a40,s40,rfl,rfl,rfl,rfl,rfl,rfl,rfl,rfl,(Sd (Sd (Sub.cons 2 rfl (Sub.cons 2 rfl (Sub.cons 2 rfl (ZcO (Sub.cons 2 rfl (Sk (Sk (Sk (Sk (Sk (Sk (Sk Sub.nil)))))))))))))),?_,?_,?_,?_,?_,?_,rfl⟩))
  ·omega
  ·omega
  ·exact ho45
  ·exact OTs.snoc hO43 hsN
  ·rw [Wa];exact ho47
  ·exact hX.snoc hk0.1 hk0.2
  omega
 replace h38:=df h38
 refine ZC _ rfl<|Zg<|Zd<|JLm yN ?_
 obtain ⟨a48,cap48,hv48⟩:=hwN.sl
 rw [(YH hsN)] at hv48
 refine JLn (ZcM ZI hv48)<|JLM rfl<|Za<|Zm<|ZD (fun k ρ M=>∃ (j:Nat) (dn:List Tm) (es5:List (List Value)) (k5 c0 d0:Zf) (a5 s5:Int),ρ 4=.bool false∧ρ 6=pp b3 0∧ρ 7=v4∧ρ 9=yN∧ρ 10=pp b10 0∧ρ 70=iv ((mt.length:Int))∧ρ 71=iv ((j:Int))∧Sub [k5,c0,d0,(BX bS2 [u2,iv a5,.int .u64 s5] 109),(BX b10 [y2] 45),q2,k6,(BX bS1 [u1,iv a4,.int .u64 s4] 109),(BX b3 [pp bS2 0] 42),k2,k1] M∧j≤mt.length∧Own 51 36 yN es5 k5∧es5.length=mt.length∧OTs (mt.drop j) (es5.drop j) c0∧OTs dn (es5.take j) d0∧dn.length=j∧(∀ i (hi:i<mt.length),i<j→CPt cp2 mt[i] (atL dn i))∧(a2≤a5∧a5≤a2+1000*j)∧k=mt.length-j) _ ⟨0,[],esN,kN,tN,[],a2,s2,rfl,rfl,rfl,rfl,rfl,rfl,rfl,(Sub.cons 2 rfl (Sub.cons 2 rfl (ZcL (Sub.cons 2 rfl (Sk (Sk (Sk (Sk (Sk (Sk (Sk Sub.nil))))))))))),Nat.zero_le _,hwN,(YH hsN),(by simpa using hsN),⟨rfl,rfl⟩,rfl,(fun i hi q=>absurd q (by omega)),(by omega),rfl⟩ ?_
 rintro _ ρ49 _ ⟨j,dn,es5,k5,c0,d0,a5,s5,e50,e51,e52,e53,e54,e55,e56,hm57,hj,ho5,hl5,hr5,hd5,hdl,hcj,ha5,rfl⟩
 obtain ⟨ρ58,rfl⟩:=Zi (uc e50 (uc e51 (uc e52 (uc e53 (uc e54 (uc e55 (uc e56 un)))))))
 clear e50 e51 e52 e53 e54 e55 e56
 refine ZF hm57<|Zd<|JLn (Pu.lss rfl rfl)<|Za<|Zg<|Zt rfl (fun h59=>?_) (fun h59=>?_)
 ·replace h59:=dt h59
  have h59n:j<mt.length:=by omega
  obtain ⟨e5,kc5,c5,hE,hO5,rfl,hR5⟩:=OTs.take hr5 h59n
  have hgj:=hX.gd hg h59n
  refine ZF (M':=[k5,kc5,c5,d0,(BX bS2 [u2,iv a5,.int .u64 s5] 109),(BX b10 [y2] 45),q2,k6,(BX bS1 [u1,iv a4,.int .u64 s4] 109),(BX b3 [pp bS2 0] 42),k2,k1]) (Sub.flat Sub.refl (by simp))<|Zo<|Zg<|Zm<|Zd<|JLM rfl<|JAn rfl<|Ze<|JLm yN<|JLM rfl<|JLm yN ?_
  refine JLM rfl ?_
  obtain ⟨b60,cap60,row60,hv60,hm60,hs60⟩:=ho5.at' hE
  refine JLn (Pu.idx j ZI Zu hv60 rfl rfl (by rw [hl5];exact h59n))<|JLr (Zn Zu rfl (ZcS 0 rfl hm60) hs60<|JLq (.func (.func 25) ⟨[]⟩ ⟨[pp b10 0,pp b3 0]⟩) (Pu.makeFunc rfl rfl)<|Zs 4 rfl call24 rfl rfl (fun hin=>Bj _ _ _ _ _ _ _ (lt.length:Int) hX.mem (by omega) _ _ _ _ _ (hO5.rd (hin 1 _ rfl)) (hr2 _ (hin 9 _ rfl)) (hin 4 _ rfl _ _ mem_cons_self) (Yr ho2 (by omega) (hin 5 _ rfl)) (hin 8 _ rfl _ _ mem_cons_self) hgj.1 (by omega) (by omega) (by omega)) rfl ?_)
  rintro _ _ ⟨t61,cs61,a61,s61,k61,rfl,rfl,hO61,hD61,ha61⟩
  obtain ⟨b62,cap62,row62,hv62,hm62,hs62⟩:=ho5.at' hE
  refine JLn (Pu.idx j ZI Zu hv62 rfl rfl (by rw [hl5];exact h59n))<|JLr (Y7 (i:=2) (j:=j) (b:=b62) Zu rfl ho5 ⟨_,_,hv62⟩ rfl (by rw [hl5];exact h59n) rfl rfl hO61.len hO61.ok fun k63 ho63=>Za<|Ze<|JLn (ZcP rfl rfl (by omega))<|JLM rfl<|Za<|⟨_,?_,(j+1),(dn++[t61]),(es5.set j cs61),k63,c5,(d0++k61),a61,s61,rfl,rfl,rfl,rfl,rfl,rfl,rfl,(Sub.cons 2 rfl (Sub.cons 3 rfl (ZcO (Sub.cons 3 rfl (Sub.cons 1 rfl (Sk (Sd (Sk (Sk (Sk (Sk (Sk (Sk (Sk Sub.nil)))))))))))))),?_,?_,?_,?_,?_,?_,?_,?_,rfl⟩)
  ·omega
  ·omega
  ·exact ho63
  ·rw [length_set];exact hl5
  ·exact hR5 _
  ·rw [Gj hE];exact OTs.snoc hO61 hd5
  ·simp;omega
  ·exact EB hdl hcj h59n hD61
  omega
 replace h59:=df h59
 have h59n:mt.length≤j:=by omega
 refine ZC _ rfl<|Zg ?_
 rw [take_of_length_le (by omega)] at hd5
 have hd6:=hd5
 have hcj2:∀ i (hi:i<mt.length),CPt cp2 mt[i] (atL dn i):=fun i hi=>hcj i hi (by omega)
 have hlcX:=hX.lc
 have hlmX:=hX.lm
 obtain ⟨hA,hB,hcpl⟩:=Zax (z:=129) (dz:=18) (hX.cpG (by omega) hcj2) (by omega) (by omega) (by omega) (by omega) (fun t ht=>by have:=hg t ht;exact ⟨this.1,by omega⟩) (by omega) (by omega) (by omega)
 have hzd:∀ t∈dn,sizeT t≤400000:=fun t ht=>by have:=(Ah hB.1).1.sz ht;omega
 have hdm:dn.length=mt.length:=by omega
 refine Ze<|JLm v4<|Jc call13 rfl (fun hin=>P3 hA _ _ (RTs.mono (Hle.hu _ _) hL) (fun t ht=>by have:=hg t ht;omega) (GK.mono (Hle.hu _ _) hGK)) rfl ?_
 rintro _ _ ⟨u64,k64,rfl,rfl,ho64⟩
 refine JLM rfl<|JLn (Pu.extract rfl rfl)<|JLn (Pu.extract rfl rfl)<|JLa u64<|JAn rfl<|Zd<|JLm yN<|Jc call13 rfl (fun hin=>P3 hB _ _ ((OL.mk ho5 hd6 (by omega)).rd (Has.app (hin 1 _ rfl) (hin 3 _ rfl))) hzd (GK.mono (Hle.hu _ _) hGK)) rfl ?_
 rintro _ _ ⟨u65,k65,rfl,rfl,ho65⟩
 refine JLM rfl<|JLn (Pu.extract rfl rfl)<|JLn (Pu.extract rfl rfl)<|JLa u65<|JAn rfl<|Zg<|Zd<|JLM rfl<|JLq (.bool false) (ZcW (Pu.neq rfl rfl) (by decide))<|JLM rfl<|JLM rfl ?_
 refine JLq (.bool false) (ZcW (Pu.neq rfl rfl) (by decide))<|JLq (.bool false) (ZcX rfl rfl)<|JLM rfl<|JLm u64 ?_
 obtain ⟨a66,cap66,hv66⟩:=ho64.sl
 rw [XJ] at hv66
 refine JLn (ZcM Vp hv66)<|JLm v4 ?_
 obtain ⟨a67,cap67,hv67⟩:=hL.sl
 have hle67:=hL.le
 refine JLn (ZcM ZI hv67)<|JLq (.bool false) (ZcW (Pu.neq rfl rfl) (by simp [We] <;> omega))<|JLq (.bool false) (ZcX rfl rfl)<|JLM rfl<|JLm u65 ?_
 obtain ⟨a68,cap68,hv68⟩:=ho65.sl
 rw [XJ] at hv68
 refine JLn (ZcM Vp hv68)<|JLm yN ?_
 obtain ⟨a69,cap69,hv69⟩:=ho5.sl
 rw [hl5] at hv69
 refine JLn (ZcM ZI hv69)<|JLq (.bool false) (ZcW (Pu.neq rfl rfl) (by simp [We] <;> omega))<|JLq (.bool false) (ZcX rfl rfl)<|Za<|Zt (b:=false) rfl (fun h=>absurd h (by simp)) (fun _=>Zo<|Zg<|Zd<|JLr (Zc YL rfl (ZcK 6 rfl) rfl ?_))
 obtain ⟨a70,cap70,hv70⟩:=ho2.sl
 rw [Zv] at hv70
 refine JLn (ZcM ZS hv70)<|JLM rfl<|Za<|Zm<|ZD (fun k ρ M=>∃ (j:Nat),ρ 4=.bool false∧ρ 14=u64∧ρ 16=u65∧ρ 114=y2∧ρ 115=iv ((cp2.length:Int))∧ρ 116=iv ((j:Int))∧Sub [k65,k64,k5,c0,d0,(BX bS2 [u2,iv a5,.int .u64 s5] 109),(BX b10 [y2] 45),q2,k6,(BX bS1 [u1,iv a4,.int .u64 s4] 109),(BX b3 [pp bS2 0] 42),k2,k1] M∧j≤cp2.length∧k=cp2.length-j) _ ⟨0,rfl,rfl,rfl,rfl,rfl,rfl,(Sk (Sk (Sk (Sk (Sk (Sk (Sk (Sk (Sk (Sk (Sk (Sk (Sk Sub.nil))))))))))))),Nat.zero_le _,rfl⟩ ?_
 rintro _ ρ71 _ ⟨j,e72,e73,e74,e75,e76,e77,hm78,hj,rfl⟩
 obtain ⟨ρ79,rfl⟩:=Zi (uc e72 (uc e73 (uc e74 (uc e75 (uc e76 (uc e77 un))))))
 clear e72 e73 e74 e75 e76 e77
 refine ZF hm78<|Zd<|JLn (Pu.lss rfl rfl)<|Za<|Zg<|Zt rfl (fun h80=>?_) (fun h80=>?_)
 ·replace h80:=dt h80
  have h80n:j<cp2.length:=by omega
  have hrg:=hX.rng j (by omega)
  have hcpj:=hcpl j (by omega)
  rw [YO h80n] at hrg hcpj
  have hsd:=We dn
  have hsl:=We lt
  refine Zo<|Zg<|Zm<|Zd<|JLM rfl ?_
  obtain ⟨b81,cap81,row81,hv81,hm81,hs81⟩:=ho2.at (j:=j) (by rw [Zv];first | assumption | omega)
  rw [Yg _ _ (by first | assumption | omega)] at hs81
  refine JLn (Pu.idx j ZS ty3 hv81 rfl rfl (by rw [Zv];first | assumption | omega))<|JLr (Zc ty3 rfl (ZcS 7 rfl hm81) (ZP hs81)<|JLA rfl<|JAn rfl<|Zg<|ZM mixed #[0,0,3,7,0,0,48,112,255] 8 [some 121,some 122,some 123,some 124,some 125,some 126,some 127,some 128] [] [] rfl (by kernel_rfl) rfl (by kernel_rfl)<|Dm u65<|DM (fun _=>rfl) ?_)
  obtain ⟨b84,cap84,row84,hv84,hm84,hs84⟩:=ho65.at (j:=j) (by rw [XJ];first | assumption | omega)
  rw [Gz (by first | assumption | omega)] at hs84
  refine Dn (fun _=>Pu.idx j Vp Yv hv84 rfl rfl (by rw [XJ];first | assumption | omega))<|Dl Yv (ZcS 0 rfl hm84) hs84<|Dm u64<|DM (fun _=>rfl) ?_
  obtain ⟨b85,cap85,row85,hv85,hm85,hs85⟩:=ho64.at (j:=(cp2[j]).toNat) (by rw [XJ];first | assumption | omega)
  rw [Gz (by first | assumption | omega)] at hs85
  refine Dq (pp b85 (0+(cp2[j]).toNat*32)) (fun _=>Pu.idx (cp2[j]).toNat Vp Yv hv85 rfl (by first | rfl | omega) (by rw [XJ];first | assumption | omega))<|Dl Yv (ZcS 1 rfl hm85) hs85<|ZX (M':=[k65,k64,k5,c0,d0,(BX bS2 [u2,iv a5,.int .u64 s5] 109),(BX b10 [y2] 45),q2,k6,(BX bS1 [u1,iv a4,.int .u64 s4] 109),(BX b3 [pp bS2 0] 42),k2,k1]) rfl ?_
  show JL _ _ _ [_] _ _ _
  refine JLq (.bool false) (ZcW (neqS rfl rfl) (by rw [hcpj];simp))<|Za<|Zt (b:=false) rfl (fun h=>absurd h (by simp)) (fun _=>Zo<|Ze<|JLn (ZcP rfl rfl (by omega))<|JLM rfl<|Za<|⟨_,?_,(j+1),rfl,rfl,rfl,rfl,rfl,rfl,(Sk (Sk (Sk (Sk (Sk (Sk (Sk (Sk (Sk (Sk (Sk (Sk (Sk Sub.nil))))))))))))),?_,rfl⟩)
  ·omega
  omega
 replace h80:=df h80
 have h80n:cp2.length≤j:=by omega
 refine ZC _ rfl<|Zd<|Jc call6 rfl (fun hin=>Hy _ (GK.mono (Hle.hu _ _) hGK)) rfl ?_
 rintro _ _ ⟨rfl,rfl⟩
 refine JAn rfl<|Zz<|⟨.bool true,[],Ret.one rfl (RV.tmp rfl),(Sd Sub.nil),?_⟩
 exact ⟨rfl,rfl⟩
end
end Go.Proofs.YtjdjmjgleadcfaaGreatDoor.Hs
namespace Go.Proofs.YtjdjmjgleadcfaaGreatDoor
section
open Go Go.ChangeShapes Go.WideShapes
theorem Le {Ht:Type} {enc:TypeId×Value→Ht} {W:World} {base b0:Nat} {sp:Nat→Bool} {held:Bool} {v:Value} {d:DataW Ht} {ps:List MemPlace} (hv:Value.okWide prog W .any b0 28 v) (h:DataW.Trod enc prog W base sp held 28 v d ps):
    ∃ l,Hs.bytesR (UJ W) v l:=by
  obtain ⟨a,len,cap,rfl⟩:=okWide_slice underlying28 hv
  obtain ⟨fuel,hf⟩:=h
  obtain ⟨ks,l,hks,hl⟩:=Hs.slice_rd (E:=Hs.RB) (sz:=1) (H:=UJ W) (fun _ _ h=>h) underlying28 (by kernel_rfl) (by decide) (fun m hm cs x hx=>by
    obtain ⟨k,hk,_,wk⟩:=DataW.trod_int underlying5 hx
    exact ⟨k,hk⟩) hf
  have e:Value.slice a len cap=ks:=by
    have:[Value.slice a len cap]=[ks]:=hks
    exact (List.cons.inj this).1
  subst e
  obtain ⟨a',c',e',hn,_⟩:=id hl
  cases e'
  refine ⟨l,a,cap,rfl,?_,hl⟩
  rcases DataW.trod_slice underlying28 hf with ⟨e,_⟩ | ⟨_,_,_,_,_,_,_,e,_,_,hlc,_⟩
  · have:[Value.slice a l.length cap]=[Value.slice none 0 0]:=e
    have:=(List.cons.inj this).1
    injection this with h1 h2 h3
    omega
  · have:=(List.cons.inj e).1
    injection this with h1 h2 h3
    omega
theorem P1 {P:Program} {W:World} {n:String} {g:Nat} {cs:Array Value} (hg:P.globalNamed n=some g) (h:W.var? P n=some cs):∃ T fr,W.heap[g]?=some (.cells cs T fr):=by
  unfold World.var? at h
  rw [hg] at h
  simp only [Option.bind_some] at h
  split at h
  · rename_i c T fr e
    cases h
    exact ⟨T,fr,e⟩
  · cases h
theorem gTaken:prog.globalNamed "hoarstone/sum.constants" =some 1:=by kernel_rfl
theorem gNew:prog.globalNamed "hoarstone/sum.begin" =some 0:=by kernel_rfl
theorem tTaken:(prog.globals[1]?).map (·.type)=some 219:=by kernel_rfl
theorem tNew:(prog.globals[0]?).map (·.type)=some 138:=by kernel_rfl
theorem Cp {W:World} (h:laidMetH prog Rows.knotCopiedRow.laid W):Hs.GK (UJ W):=by
  rw [MakeChecks.laidMetH_plain _ _ _ (by kernel_rfl)] at h
  obtain ⟨ps,⟨g0,t0,cs0,f0,p0,q0,hg0,ht0,hv0,hd0,⟨g1,t1,cs1,f1,p1,q1,hg1,ht1,hv1,hd1,_,_⟩,_⟩,_,_⟩:=h
  obtain rfl:=Option.some.inj (gTaken.symm.trans hg0)
  obtain rfl:=Option.some.inj (gNew.symm.trans hg1)
  obtain rfl:=Option.some.inj (tTaken.symm.trans ht0)
  obtain rfl:=Option.some.inj (tNew.symm.trans ht1)
  have e0:cs0=⟨Hs.uC Hs.kW⟩:=by
    have:=Lib.cells_of_tab (zs:=Hs.kW.map fun w=>(w.toNat:Int)) (k:=.u32) underlying219 underlying137 (by kernel_rfl) (by kernel_rfl) hd0
    obtain ⟨c⟩:=cs0
    exact congrArg Array.mk (this.trans (by kernel_rfl))
  have e1:cs1=⟨Hs.uC Hs.beW⟩:=by
    have:=Lib.cells_of_tab (zs:=Hs.beW.map fun w=>(w.toNat:Int)) (k:=.u32) underlying138 underlying137 (by kernel_rfl) (by kernel_rfl) hd1
    obtain ⟨c⟩:=cs1
    exact congrArg Array.mk (this.trans (by kernel_rfl))
  subst e0 e1
  exact ⟨P1 gTaken hv0,P1 gNew hv1⟩
theorem Ey (os:Os) (args:Array Value):laidMetH prog Rows.knotCopiedRow.laid ((World.doorLaid prog 400 os).forCall (fun _ _=>0) ⟨#[],args,[]⟩).memory:=
  laidMetH_of_parts3 (fuel:=8) (laidMet_of_run' 8 (by kernel_rfl) (by kernel_rfl)) (by kernel_rfl) (by kernel_rfl)
theorem PV (os:Os) (started:os.Started) (H:Type) (enc:TypeId×Value→H):
    ReturnsInHanded {} checked os 4 .any (fun w args=>(Rows.knotCopiedSpec.pre enc prog f4 Rows.knotCopiedRow.domain false w args∧laidMetH prog Rows.knotCopiedRow.laid w)∧sizedMet enc prog f4 (OpenSpec.ofChange Rows.knotCopiedSpec) false w args)
      (Rows.knotCopiedSpec.post enc prog f4 false true false false):=by
  refine returnsInHanded_of_change_and (C:=checked) (X:=fun w _=>laidMetH prog Rows.knotCopiedRow.laid w) (fun _ _ _ hh h=>h.of_heap hh) By started (by kernel_rfl) func4
    (ChangeSpec.witness_shaped (enc:=enc) (C:=checked) (os:=os) (X:=fun w _=>laidMetH prog Rows.knotCopiedRow.laid w) false (World.doorLaid prog 400 os) #[.slice none 0 0,.slice none 0 0] 8 rfl (World.shaped_of_RefB (by kernel_rfl) (by kernel_rfl)) (by kernel_rfl) (by kernel_rfl) (by kernel_rfl) (Ey os _)) ?_
  intro W base args ds gs before hval0 hW _ _ hL _
  have hval:∀ (j:Nat) t v,f4.params[j]?=some t→args[j]?=some v→Value.okWide prog W .any base t v:=hval0
  have hW':=hW
  obtain ⟨p,q,hA0,_,_,_,_⟩:=hW
  have hA:DataW.TrodAll enc prog W 0 (fun _=>true) true f4.params.toList args.toList ds p:=hA0
  rw [params4] at hA hval
  obtain ⟨v0,l0,d0,e0,p0,q0,hl0,rfl,rfl,h0,hA⟩:=trodAll_cons hA
  obtain ⟨v1,l1,d1,e1,p1,q1,hl1,rfl,rfl,h1,hA⟩:=trodAll_cons hA
  obtain ⟨rfl,rfl,rfl⟩:=trodAll_nil hA
  subst hl1
  obtain ⟨ars⟩:=args
  simp only at hl0
  subst hl0
  obtain ⟨l,hb⟩:=Le (hval 0 _ v0 rfl rfl) h0
  have hv0:Hs.rdS Hs.RB 1 (UJ W) v0 l:=by obtain ⟨_,_,_,_,h⟩:=hb;exact h
  obtain ⟨m,hc⟩:=Le (hval 1 _ v1 rfl rfl) h1
  have hv1:Hs.rdS Hs.RB 1 (UJ W) v1 m:=by obtain ⟨_,_,_,_,h⟩:=hc;exact h
  refine (I6 (Hs.copied_law v0 v1 l m (UJ W) hb hv0 hc hv1 (Cp hL))).mono fun e W' ⟨he,hb,ho,hout⟩=>⟨_,he,?_⟩
  refine FR (apart:=false) EV EW hW' rfl (by rw [params4];decide+kernel) (tb:=4) rfl underlying4 ?_ ?_ ?_ hb ho hout
  · intro l hl
    match l,hl with
    | [_,_],_=>rfl
  · intro l hl
    match l,hl with
    | [_,_],_=>rfl
  · intro l hl
    match l,hl with
    | [_,_],_=>rfl
theorem RG:Rows.KnotCopiedSaid:=
  OpenClaim.holds_of_wide 4 f4 rfl rfl rfl rfl rfl rfl rfl ⟨rfl,rfl,rfl,rfl,rfl⟩ rfl rfl rfl rfl rfl (by kernel_rfl) func4 (by kernel_rfl)
    (of_decide_eq_true (by kernel_rfl)) (by unfold Func.isWrapper;first | (rw [if_pos (by decide+kernel)];kernel_rfl) | (rw [if_neg (by decide+kernel)];exact ⟨rfl,rfl⟩))
    (fun os started H enc _=>PV os started H enc)
end
end Go.Proofs.YtjdjmjgleadcfaaGreatDoor
