/-
 G17T
-/
import Derived.Test.YtmpilgkfbibhlaaGreatDoorG16T
set_option linter.unusedSimpArgs false
set_option linter.unusedVariables false
set_option maxRecDepth 100000
set_option maxHeartbeats 20000000
namespace Go.Proofs.YtmpilgkfbibhlaaGreatDoor
section
open Sx Go.RowKit Mr
structure Ap(x:LifeS):Prop where
 b:fE x
 a:1≤x.made.2.2.1∧x.made.2.2.1≤4294967296
 t:0≤x.tes∧x.tes≤4294967296
def vz(x:LifeS):Int:=if x.tst=true then max 0 (1000 - x.tes*1000 / x.made.2.2.1)else 0
def scoreP(x:LifeS):Int:=max 0 (1000 - vz x - (x.thr / (10*x.made.2.2.1)+x.hot / 1000+20*x.fau+5*x.mov))
def qf(n:Int):Int:=if 900≤n then 0 else if 750≤n then 1 else if 600≤n then 2 else if 400≤n then 3 else 4
def gradeP(x:LifeS):Int:=if x.scr=true then 6 else if x.os.length≠0 then 5 else qf (scoreP x)
theorem jE {a b:Int} (ha:0≤a)(hb:1≤b):0≤a / b∧a / b≤a:=⟨Int.ediv_nonneg ha (by omega),Int.ediv_le_self _ ha⟩
theorem kd(W:World)(j:Nat)(hj:j < 4):(Instr.index 193 (.agg #[.int .i64 900,.int .i64 750,.int .i64 600,.int .i64 400]) (.int .i64 (j:Int))).run Tryz.prog W=.ok (.int .i64 ([900,750,600,400].getD j 0)) W:=by
 have hu:=Tryz.underlying193
 have hc:Tryz.prog.cellsOf 2=1:=by kernel_rfl
 have h3:j=0∨j=1∨j=2∨j=3:=by omega
 rcases h3 with rfl | rfl | rfl | rfl
 all_goals
  simp only [Instr.index,Sem.run_bind,asIntOf,Sem.run_pure,Result.andThen_ok,run_underlying hu]
  simp
  simp only [part,Sem.run_bind,run_isAgg_plain Tryz.underlying2 rfl,Result.andThen_ok]
  rfl
theorem sK {T:TypeId} {B off:Nat} {name:ByteArray} {x:LifeS} {vm vo:Value} {w:World} (h:bw T B off name x vm vo w)(hs:Ap x):Calls Tryz.prog 124 #[.pointer (some ⟨B,off,none⟩)] w fun en w'=> en=.returned (.int .i64 (scoreP x))∧Below w.heap.size w w':=by
 unfold scoreP vz
 have c3:=h.cell (j:=5) rfl
 have c11:=h.cell (j:=11) rfl
 have c12:=h.cell (j:=12) rfl
 have c13:=h.cell (j:=13) rfl
 have c14:=h.cell (j:=14) rfl
 have c15:=h.cell (j:=15) rfl
 have c16:=h.cell (j:=16) rfl
 have cl:=h.lt
 obtain⟨⟨b1,b2,b3,b4,b5⟩,ha,ht⟩:=hs
 generalize x.made.2.2.1=A at*
 generalize x.thr=th at*
 generalize x.hot=ho at*
 generalize x.tes=te at*
 generalize x.fau=fa at*
 generalize x.mov=mo at*
 have d1:=jE (a:=te*1000) (b:=A) (by omega) ha.1
 have d2:=jE (a:=th) (b:=10*A) b2.1 (by omega)
 have d3:=jE (a:=ho) (b:=1000) b3.1 (by omega)
 have q1:Int.tdiv (te*1000) A=te*1000 / A:=Int.tdiv_eq_ediv_of_nonneg (by omega)
 have q2:Int.tdiv th (10*A)=th / (10*A):=Int.tdiv_eq_ediv_of_nonneg b2.1
 have q3:Int.tdiv ho 1000=ho / 1000:=Int.tdiv_eq_ediv_of_nonneg b3.1
 have w1:IntKind.i64.wrap (te*1000)=te*1000:=cC _ ⟨by omega,by omega⟩
 have w2:IntKind.i64.wrap (10*A)=10*A:=cC _ ⟨by omega,by omega⟩
 have w3:IntKind.i64.wrap (20*fa)=20*fa:=cC _ ⟨by omega,by omega⟩
 have w4:IntKind.i64.wrap (5*mo)=5*mo:=cC _ ⟨by omega,by omega⟩
 generalize te*1000 / A=e1 at*
 generalize th / (10*A)=e2 at*
 generalize ho / 1000=e3 at*
 have w5:IntKind.i64.wrap e1=e1:=cC _ ⟨by omega,by omega⟩
 have w6:IntKind.i64.wrap (1000 - e1)=1000 - e1:=cC _ ⟨by omega,by omega⟩
 have w7:IntKind.i64.wrap (1000 - max 0 (1000 - e1))=1000 - max 0 (1000 - e1):=cC _ ⟨by omega,by omega⟩
 have w8:IntKind.i64.wrap e2=e2:=cC _ ⟨by omega,by omega⟩
 have w9:IntKind.i64.wrap e3=e3:=cC _ ⟨by omega,by omega⟩
 have wa:IntKind.i64.wrap (e2+e3)=e2+e3:=cC _ ⟨by omega,by omega⟩
 have wb:IntKind.i64.wrap (e2+e3+20*fa)=e2+e3+20*fa:=cC _ ⟨by omega,by omega⟩
 have wc:IntKind.i64.wrap (e2+e3+20*fa+5*mo)=e2+e3+20*fa+5*mo:=cC _ ⟨by omega,by omega⟩
 have wd:∀ n:Int,-1000000≤n∧n≤1000→IntKind.i64.wrap (n - (e2+e3+20*fa+5*mo))=n - (e2+e3+20*fa+5*mo):=fun n hn=> cC _ ⟨by omega,by omega⟩
 have hA:(A==0)=false:=by simp;omega
 have hA2:¬ A=0:=by omega
 have hM:(10*A==0)=false:=by simp;omega
 have hM2:¬ 10*A=0:=by omega
 have HD:=aa wd
 clear h b1 wd
 cases ht9:x.tst
 ·rw [ht9] at c13
  have wz:=HD.out 1000 ⟨by omega,by omega⟩
  go_enter Tryz.func124,Tryz.ntmps124
  go_upto_region 4 with fail
  have f3:=fun s:aC w=> ag c3 s.2
  have f11:=fun s:aC w=> ag c11 s.2
  have f12:=fun s:aC w=> ag c12 s.2
  have f15:=fun s:aC w=> ag c15 s.2
  have f16:=fun s:aC w=> ag c16 s.2
  have fl:=fun s:aC w=> ar cl (s.2).size
  refine aF (by kernel_rfl) (by kernel_rfl) ?_
  repeat(first | (refine WQ.skip rfl rfl rfl rfl ?_;simp only [Act.put,aU,aV,aW,aX]) | ((first | (apply WQ.val;(exact rfl)) | (apply WQ.valg;(exact rfl);(exact rfl);(exact rfl)));(intro w9 hw9;obtain⟨s9,rfl⟩:=hw9;simp [go_sem,q1,q2,q3,w1,w2,w3,w4,w5,w6,w7,w8,w9,wa,wb,wc,wz,hA,hA2,hM,hM2,f3,f11,f12,f15,f16,fl];first | done | exact rfl);simp only [Act.put,aU,aV,aW,aX]))
  refine WQ.fin fun W4 hbn=> ?_
  clear f3 f11 f12 f15 f16 fl
  go_wp2_with fail
  exact bc (v:=.int .i64 (max 0 (1000 - (e2+e3+20*fa+5*mo)))) (by simp only [results,Tryz.results124];go_simp) rfl ⟨rfl,hbn⟩
 ·rw [ht9] at c13
  have wz:=HD.out (1000 - max 0 (1000 - e1)) ⟨by omega,by omega⟩
  go_enter Tryz.func124,Tryz.ntmps124
  go_upto_region 3 with fail
  have f3:=fun s:aC w=> ag c3 s.2
  have f14:=fun s:aC w=> ag c14 s.2
  have fl:=fun s:aC w=> ar cl (s.2).size
  refine aF (by kernel_rfl) (by kernel_rfl) ?_
  repeat(first | (refine WQ.skip rfl rfl rfl rfl ?_;simp only [Act.put,aU,aV,aW,aX]) | ((first | (apply WQ.val;(exact rfl)) | (apply WQ.valg;(exact rfl);(exact rfl);(exact rfl)));(intro w9 hw9;obtain⟨s9,rfl⟩:=hw9;simp [go_sem,q1,q2,q3,w1,w2,w3,w4,w5,w6,w7,w8,w9,wa,wb,wc,wz,hA,hA2,hM,hM2,f3,f14,fl];first | done | exact rfl);simp only [Act.put,aU,aV,aW,aX]))
  refine WQ.fin fun W4 hb3=> ?_
  clear f3 f14 fl
  go_upto_region 4 with fail
  have f3:=fun s:aC W4=> ag c3 (ai hb3 s.2)
  have f11:=fun s:aC W4=> ag c11 (ai hb3 s.2)
  have f12:=fun s:aC W4=> ag c12 (ai hb3 s.2)
  have f15:=fun s:aC W4=> ag c15 (ai hb3 s.2)
  have f16:=fun s:aC W4=> ag c16 (ai hb3 s.2)
  have fl:=fun s:aC W4=> ar cl ((ai hb3 s.2)).size
  refine aF (by kernel_rfl) (by kernel_rfl) ?_
  repeat(first | (refine WQ.skip rfl rfl rfl rfl ?_;simp only [Act.put,aU,aV,aW,aX]) | ((first | (apply WQ.val;(exact rfl)) | (apply WQ.valg;(exact rfl);(exact rfl);(exact rfl)));(intro w9 hw9;obtain⟨s9,rfl⟩:=hw9;simp [go_sem,q1,q2,q3,w1,w2,w3,w4,w5,w6,w7,w8,w9,wa,wb,wc,wz,hA,hA2,hM,hM2,f3,f11,f12,f15,f16,fl];first | done | exact rfl);simp only [Act.put,aU,aV,aW,aX]))
  refine WQ.fin fun W4 hbn=> ?_
  clear f3 f11 f12 f15 f16 fl
  go_wp2_with fail
  exact bc (v:=.int .i64 (max 0 (1000 - max 0 (1000 - e1) - (e2+e3+20*fa+5*mo)))) (by simp only [results,Tryz.results124];go_simp) rfl ⟨rfl,ai hb3 hbn⟩
theorem sL {T:TypeId} {B off:Nat} {name:ByteArray} {x:LifeS} {vm vo:Value} {w:World} (h:bw T B off name x vm vo w)(hs:Ap x):Calls Tryz.prog 84 #[.pointer (some ⟨B,off,none⟩)] w fun en w'=> en=.returned (.int .i64 (gradeP x))∧Below w.heap.size w w':=by
 have CS:=aa (fun W (hW:Below w.heap.size w W)=> sK (h.step hW) hs)
 have c17:=h.open1.2.2.2.2.2.1
 have c10:=h.open1.2.2.2.2.1
 have cl:=h.lt
 obtain⟨ao,co,hvo,-⟩:=h.os
 subst hvo
 unfold gradeP
 cases hsc:x.scr
 rotate_left
 ·rw [hsc] at c17
  rw [aG rfl]
  clear h hs
  go_enter Tryz.func84,Tryz.ntmps84
  go_wp2_with fail
  exact aH (v:=.int .i64 6) rfl rfl rfl ⟨rfl,(by repeat' (first | exact Below.refl _ _ | assumption | apply aI | apply bg | apply aK | (refine cB ?_ ?_ _) | (refine ai ?_ (by assumption)) | omega | (simp <;> omega)))⟩
 ·rw [hsc] at c17
  rw [aA (by decide)]
  by_cases h0:x.os.length≠0
  ·rw [aG h0]
   have h1:(x.os.length:Int) > 0:=by omega
   generalize x.os.length=n at*
   clear h hs h0
   go_enter Tryz.func84,Tryz.ntmps84
   go_wp2_with fail
   exact aH (v:=.int .i64 5) rfl rfl rfl ⟨rfl,(by repeat' (first | exact Below.refl _ _ | assumption | apply aI | apply bg | apply aK | (refine cB ?_ ?_ _) | (refine ai ?_ (by assumption)) | omega | (simp <;> omega)))⟩
  ·rw [aA h0]
   have h1:¬ (x.os.length:Int) > 0:=by omega
   generalize x.os.length=n at*
   generalize scoreP x=sc at*
   unfold qf
   clear h hs h0
   by_cases g0:900≤sc
   ·rw [aG g0]
    have k0:sc≥900:=g0
    clear g0
    have ix0:∀ W:World,(Instr.index 193 (.agg #[.int .i64 900,.int .i64 750,.int .i64 600,.int .i64 400]) (.int .i64 0)).run Tryz.prog W=.ok (.int .i64 900) W:=fun W=> kd W 0 (by decide)
    go_enter Tryz.func84,Tryz.ntmps84
    go_wp2_with (go_at_call 124;refine(CS.out _ (Below.refl _ _)).mono ?_;rintro e w1 ⟨rfl,hb1⟩)
    refine wp_loop_rounds 6 ?_
    rw [rounds_succ]
    go_wp2_with fail
    exact aH (v:=.int .i64 0) rfl rfl rfl ⟨rfl,ai hb1 (by repeat' (first | exact Below.refl _ _ | assumption | apply aI | apply bg | apply aK | (refine cB ?_ ?_ _) | (refine ai ?_ (by assumption)) | omega | (simp <;> omega)))⟩
   ·skip
    by_cases g1:750≤sc
    ·rw [aA g0,aG g1]
     have k0:sc < 900:=by omega
     have k1:sc≥750:=g1
     clear g0 g1
     have ix0:∀ W:World,(Instr.index 193 (.agg #[.int .i64 900,.int .i64 750,.int .i64 600,.int .i64 400]) (.int .i64 0)).run Tryz.prog W=.ok (.int .i64 900) W:=fun W=> kd W 0 (by decide)
     have ix1:∀ W:World,(Instr.index 193 (.agg #[.int .i64 900,.int .i64 750,.int .i64 600,.int .i64 400]) (.int .i64 1)).run Tryz.prog W=.ok (.int .i64 750) W:=fun W=> kd W 1 (by decide)
     go_enter Tryz.func84,Tryz.ntmps84
     go_wp2_with (go_at_call 124;refine(CS.out _ (Below.refl _ _)).mono ?_;rintro e w1 ⟨rfl,hb1⟩)
     refine wp_loop_rounds 6 ?_
     rw [rounds_succ]
     go_wp2_with fail
     rw [rounds_succ]
     go_wp2_with fail
     exact aH (v:=.int .i64 1) rfl rfl rfl ⟨rfl,ai hb1 (by repeat' (first | exact Below.refl _ _ | assumption | apply aI | apply bg | apply aK | (refine cB ?_ ?_ _) | (refine ai ?_ (by assumption)) | omega | (simp <;> omega)))⟩
    ·skip
     by_cases g2:600≤sc
     ·rw [aA g0,aA g1,aG g2]
      have k0:sc < 900:=by omega
      have k1:sc < 750:=by omega
      have k2:sc≥600:=g2
      clear g0 g1 g2
      have ix0:∀ W:World,(Instr.index 193 (.agg #[.int .i64 900,.int .i64 750,.int .i64 600,.int .i64 400]) (.int .i64 0)).run Tryz.prog W=.ok (.int .i64 900) W:=fun W=> kd W 0 (by decide)
      have ix1:∀ W:World,(Instr.index 193 (.agg #[.int .i64 900,.int .i64 750,.int .i64 600,.int .i64 400]) (.int .i64 1)).run Tryz.prog W=.ok (.int .i64 750) W:=fun W=> kd W 1 (by decide)
      have ix2:∀ W:World,(Instr.index 193 (.agg #[.int .i64 900,.int .i64 750,.int .i64 600,.int .i64 400]) (.int .i64 2)).run Tryz.prog W=.ok (.int .i64 600) W:=fun W=> kd W 2 (by decide)
      go_enter Tryz.func84,Tryz.ntmps84
      go_wp2_with (go_at_call 124;refine(CS.out _ (Below.refl _ _)).mono ?_;rintro e w1 ⟨rfl,hb1⟩)
      refine wp_loop_rounds 6 ?_
      rw [rounds_succ]
      go_wp2_with fail
      rw [rounds_succ]
      go_wp2_with fail
      rw [rounds_succ]
      go_wp2_with fail
      exact aH (v:=.int .i64 2) rfl rfl rfl ⟨rfl,ai hb1 (by repeat' (first | exact Below.refl _ _ | assumption | apply aI | apply bg | apply aK | (refine cB ?_ ?_ _) | (refine ai ?_ (by assumption)) | omega | (simp <;> omega)))⟩
     ·skip
      by_cases g3:400≤sc
      ·rw [aA g0,aA g1,aA g2,aG g3]
       have k0:sc < 900:=by omega
       have k1:sc < 750:=by omega
       have k2:sc < 600:=by omega
       have k3:sc≥400:=g3
       clear g0 g1 g2 g3
       have ix0:∀ W:World,(Instr.index 193 (.agg #[.int .i64 900,.int .i64 750,.int .i64 600,.int .i64 400]) (.int .i64 0)).run Tryz.prog W=.ok (.int .i64 900) W:=fun W=> kd W 0 (by decide)
       have ix1:∀ W:World,(Instr.index 193 (.agg #[.int .i64 900,.int .i64 750,.int .i64 600,.int .i64 400]) (.int .i64 1)).run Tryz.prog W=.ok (.int .i64 750) W:=fun W=> kd W 1 (by decide)
       have ix2:∀ W:World,(Instr.index 193 (.agg #[.int .i64 900,.int .i64 750,.int .i64 600,.int .i64 400]) (.int .i64 2)).run Tryz.prog W=.ok (.int .i64 600) W:=fun W=> kd W 2 (by decide)
       have ix3:∀ W:World,(Instr.index 193 (.agg #[.int .i64 900,.int .i64 750,.int .i64 600,.int .i64 400]) (.int .i64 3)).run Tryz.prog W=.ok (.int .i64 400) W:=fun W=> kd W 3 (by decide)
       go_enter Tryz.func84,Tryz.ntmps84
       go_wp2_with (go_at_call 124;refine(CS.out _ (Below.refl _ _)).mono ?_;rintro e w1 ⟨rfl,hb1⟩)
       refine wp_loop_rounds 6 ?_
       rw [rounds_succ]
       go_wp2_with fail
       rw [rounds_succ]
       go_wp2_with fail
       rw [rounds_succ]
       go_wp2_with fail
       rw [rounds_succ]
       go_wp2_with fail
       exact aH (v:=.int .i64 3) rfl rfl rfl ⟨rfl,ai hb1 (by repeat' (first | exact Below.refl _ _ | assumption | apply aI | apply bg | apply aK | (refine cB ?_ ?_ _) | (refine ai ?_ (by assumption)) | omega | (simp <;> omega)))⟩
      ·skip
       rw [aA g0,aA g1,aA g2,aA g3]
       have k0:sc < 900:=by omega
       have k1:sc < 750:=by omega
       have k2:sc < 600:=by omega
       have k3:sc < 400:=by omega
       clear g0 g1 g2 g3
       have ix0:∀ W:World,(Instr.index 193 (.agg #[.int .i64 900,.int .i64 750,.int .i64 600,.int .i64 400]) (.int .i64 0)).run Tryz.prog W=.ok (.int .i64 900) W:=fun W=> kd W 0 (by decide)
       have ix1:∀ W:World,(Instr.index 193 (.agg #[.int .i64 900,.int .i64 750,.int .i64 600,.int .i64 400]) (.int .i64 1)).run Tryz.prog W=.ok (.int .i64 750) W:=fun W=> kd W 1 (by decide)
       have ix2:∀ W:World,(Instr.index 193 (.agg #[.int .i64 900,.int .i64 750,.int .i64 600,.int .i64 400]) (.int .i64 2)).run Tryz.prog W=.ok (.int .i64 600) W:=fun W=> kd W 2 (by decide)
       have ix3:∀ W:World,(Instr.index 193 (.agg #[.int .i64 900,.int .i64 750,.int .i64 600,.int .i64 400]) (.int .i64 3)).run Tryz.prog W=.ok (.int .i64 400) W:=fun W=> kd W 3 (by decide)
       go_enter Tryz.func84,Tryz.ntmps84
       go_wp2_with (go_at_call 124;refine(CS.out _ (Below.refl _ _)).mono ?_;rintro e w1 ⟨rfl,hb1⟩)
       refine wp_loop_rounds 6 ?_
       rw [rounds_succ]
       go_wp2_with fail
       rw [rounds_succ]
       go_wp2_with fail
       rw [rounds_succ]
       go_wp2_with fail
       rw [rounds_succ]
       go_wp2_with fail
       rw [rounds_succ]
       go_wp2_with fail
       exact aH (v:=.int .i64 4) rfl rfl rfl ⟨rfl,ai hb1 (by repeat' (first | exact Below.refl _ _ | assumption | apply aI | apply bg | apply aK | (refine cB ?_ ?_ _) | (refine ai ?_ (by assumption)) | omega | (simp <;> omega)))⟩
end
section
open Sx Go.RowKit Mr
theorem yZ {t a b:Int} {nm ot:ByteArray} (h:gy 1 t a b nm ot=true):1≤a∧a≤4294967296:=by
 unfold gy gx dH at h
 simp at h
 omega
theorem vA {t a b:Int} {nm ot:ByteArray} (h:gy 3 t a b nm ot=true):0≤a∧a≤4294967296:=by
 unfold gy gx dH at h
 simp at h
 omega
theorem ny {nm:ByteArray}:∀ h:List bQ,fA nm h→(∀ e∈h,eC e=true)→h≠[]→1≤(lifeOf nm h).made.2.2.1∧(lifeOf nm h).made.2.2.1≤4294967296:=by
 refine eH (fun _ _ c=> absurd rfl c) fun h e ih hl hk _=> ?_
 have hc:=hl.last
 have he:=hk e (by simp)
 obtain⟨k,t,a,b,n1,ot⟩:=e
 rw [bZ]
 show 1≤(if k=1 then((k,t,a,b,n1,ot):bQ)else(lifeOf nm h).made).2.2.1∧(if k=1 then((k,t,a,b,n1,ot):bQ)else(lifeOf nm h).made).2.2.1≤4294967296
 by_cases h1:k=1
 ·rw [aG h1]
  subst h1
  exact yZ he
 ·rw [aA h1]
  refine ih hl.init (fun e he=> hk e (List.mem_append_left _ he)) (fun c=> ?_)
  subst c
  unfold iE at hc
  simp at hc
  exact h1 hc
theorem o5(nm:ByteArray):∀ h:List bQ,(∀ e∈h,eC e=true)→0≤(lifeOf nm h).tes∧(lifeOf nm h).tes≤4294967296:=by
 refine eH (fun _=> ⟨show(0:Int)≤0 by decide,show(0:Int)≤4294967296 by decide⟩) fun h e ih hk=> ?_
 have he:=hk e (by simp)
 have ih2:=ih fun e he=> hk e (List.mem_append_left _ he)
 obtain⟨k,t,a,b,n1,ot⟩:=e
 rw [bZ]
 show 0≤(if k=3 then a else(lifeOf nm h).tes)∧(if k=3 then a else(lifeOf nm h).tes)≤4294967296
 by_cases h1:k=3
 ·rw [aG h1]
  subst h1
  exact vA he
 ·rw [aA h1];exact ih2
theorem za {nm:ByteArray} {h:List bQ} (hl:fA nm h)(hk:∀ e∈h,eC e=true)(hn:h≠[])(hlen:h.length≤1000):Ap (lifeOf nm h):=
 ⟨((iO nm h hk).lifeB (by rw [iG];exact hlen)).1,ny h hl hk hn,o5 nm h hk⟩
theorem qg {es:List bR} (h:es≠[]):br es≠[]:=fun c=> h (by unfold br at c;simpa using c)
theorem dc.sc {a:RegA} (ho:dc a){p:ByteArray×List bR} (hp:p∈a.ps):Ap (lf p):=by
 obtain⟨h1,h2,h3,h4⟩:=ho.p p hp
 exact za h2 h3 (qg (ho.ne p hp)) (by rw [dd];omega)
theorem sM {B R:Nat} {a:RegA} {g:RegS} {vb vp:Value} {w:World} (h:bW B R vb a g vp w)(ho:dc a)(nm:ByteArray)(hf:¬ findA nm a < a.ps.length):Calls Tryz.prog 33 #[.pointer (some ⟨R,0,none⟩),.string nm] w fun en w'=> en=.returned (.tuple #[.int .i64 0,.int .i64 5])∧Below w.heap.size w w':=by
 have hok:=h.ok ho.toji
 have hlen:=h.len
 have hnp:=ho.np
 have CV:=aa (fun W (hW:Below w.heap.size w W)=> dm (h.ra.step hW) hok.pt.1)
 have HB:=aa (Below.refl w.heap.size w)
 obtain⟨pa,cp,hvp⟩:=h.ra.vpS
 subst hvp
 have CF:=aa (fun W (hW:Below w.heap.size w W)=> fM (h.ra.step hW) nm (by omega))
 rw [h.find,jD (by omega)] at CF
 clear h ho hok hlen hnp hf
 go_enter Tryz.func33,Tryz.ntmps33
 go_wp2_with ((first | (go_at_call 56;refine(CV.out _ HB.out).mono ?_) | (go_at_call 57;refine(CF.out _ HB.out).mono ?_));rintro e w1 ⟨rfl,hbn⟩;have HB9:=aa (ai HB.out hbn);clear HB hbn;have HB:=HB9;clear HB9)
 exact dP (v:=.tuple #[.int .i64 0,.int .i64 5]) rfl rfl rfl ⟨rfl,HB.out⟩
theorem qh {B R:Nat} {a:RegA} {g:RegS} {vb vp:Value} {w:World} (h:bW B R vb a g vp w)(ho:dc a)(nm:ByteArray)(p:ByteArray×List bR)(hp:a.ps[findA nm a]? =some p):Calls Tryz.prog 33 #[.pointer (some ⟨R,0,none⟩),.string nm] w fun en w'=> en=.returned (.tuple #[.int .i64 (gradeP (lf p)),.int .i64 0])∧Below w.heap.size w w':=by
 have hok:=h.ok ho.toji
 have hlen:=h.len
 have hnp:=ho.np
 have CV:=aa (fun W (hW:Below w.heap.size w W)=> dm (h.ra.step hW) hok.pt.1)
 have HB:=aa (Below.refl w.heap.size w)
 have hf:findA nm a < a.ps.length:=(aB hp).1
 obtain⟨PB,cp,cur,hvp,hPB,hbP,-⟩:=h.ra.packs (by rintro c;rw [c] at hlen;simp at hlen;omega)
 subst hvp
 have CF:=aa (fun W (hW:Below w.heap.size w W)=> fM (h.ra.step hW) nm (by omega))
 rw [h.find,eM (by omega)] at CF
 obtain⟨q,hq,e1,e2,e3,e4⟩:=h.get hp
 have hqm:=aJ hq
 have hlv:=h.ra.life rfl hq
 have CC:=aa (fun W (hW:Below w.heap.size w W)=> sL (hlv.1.step hW) (by rw [e3];exact ho.sc (aJ hp)))
 rw [e3] at CC
 generalize gradeP (lf p)=g9 at*
 generalize findA nm a=i at*
 clear h ho hok hlen hnp hf hp hq e1 e2 e3 e4 hqm hlv hPB hbP
 go_enter Tryz.func33,Tryz.ntmps33
 go_wp2_with ((first | (go_at_call 56;refine(CV.out _ HB.out).mono ?_) | (go_at_call 57;refine(CF.out _ HB.out).mono ?_) | (go_at_call 84;refine(CC.out _ HB.out).mono ?_));rintro e w1 ⟨rfl,hbn⟩;have HB9:=aa (ai HB.out hbn);clear HB hbn;have HB:=HB9;clear HB9)
 exact bc (v:=.tuple #[.int .i64 g9,.int .i64 0]) (by simp only [results,Tryz.results33];go_simp) rfl ⟨rfl,HB.out⟩
end
section
open Sx Go.RowKit Mr
theorem xp:(Tryz.prog.info? 29).map (·.size)=some 6:=by kernel_rfl
structure o6(nm:ByteArray)(h:List bQ):Prop where
 nb:nameB nm=true
 len:h.length≤500
 leg:fA nm h
 ok:∀ e∈h,eC e=true
theorem o6.at_ {nm:ByteArray} {h:List bQ} (hl:o6 nm h){i:Nat} {e:bQ} (he:h[i]? =some e):eC e=true∧cg nm (lifeOf nm (h.take i)) e=true∧fE (lifeOf nm (h.take i))∧(lifeOf nm (h.take i)).ms.length≤100000∧(lifeOf nm (h.take i)).os.length≤100000∧lifeOf nm (h.take (i+1))=(lifeOf nm (h.take i)).add nm e:=by
 have hi:=(aB he).1
 have hsp:h=h.take i++e::h.drop (i+1):=by
  conv=> lhs;rw [← List.take_append_drop i h]
  rw [List.drop_eq_getElem_cons hi,(aB he).2]
 have hlt:fA nm (h.take i):=fun g e2 r hg=> hl.leg g e2 (r++e::h.drop (i+1)) (hsp.trans (by rw [hg];simp))
 have hn:=(iO nm (h.take i) fun e2 he2=> hl.ok e2 (List.mem_of_mem_take he2)).lifeB (by rw [iG,List.length_take];have:=hl.len;omega)
 refine⟨hl.ok e (aJ he),?_,hn.1,hn.2.1,hn.2.2,?_⟩
 ·rw [fC hlt]
  exact hl.leg _ _ _ hsp
 ·rw [List.take_add_one,he]
  exact bZ _ _ _
end
section
open Go
section
variable {a:RegA} {n i:Nat} {e:bQ} {p:ByteArray×List bR} {b t t0 t1:Int} {nm m to bt r:ByteArray}
theorem xq {pt:Nat} {bks:List Bk} (h:secR pt bks=0):dc (kJ pt bks):=by
 refine⟨⟨h,rfl,fun k=> ?_,Nat.zero_le _,(fun p hp=> by cases hp)⟩,(fun p hp=> by cases hp),(fun i j p q hp=> by simp [kJ] at hp),(fun p hp=> by cases hp)⟩
 have:∀ k,(kJ pt bks).used.getD k 0=0:=fun k=> by
  show(List.replicate 8 0).getD k 0=0
  rw [di,List.getElem?_replicate]
  split <;> rfl
 rw [this]
 exact Nat.zero_le _
theorem nz(hp:a.ps[i]? =some p){j:Nat} {q:ByteArray×List bR} (hq:(putA a n i e).ps[j]? =some q):∃ q0,a.ps[j]? =some q0∧q0.1=q.1:=by
 by_cases c:j=i
 ·subst c
  rw [j6 hp] at hq
  obtain rfl:=bD hq
  exact⟨p,hp,rfl⟩
 ·rw [fq c] at hq
  exact⟨q,hq,rfl⟩
theorem rF(hp:a.ps[i]? =some p){o:ByteArray×List bR} (ho:o∈a.ps):∃ o'∈(putA a n i e).ps,o'.1=o.1:=by
 obtain⟨j,hj⟩:=List.getElem?_of_mem ho
 by_cases c:j=i
 ·subst c
  rw [hp] at hj
  obtain rfl:=bD hj
  exact⟨_,aJ (j6 (n:=n) (e:=e) hp),rfl⟩
 ·exact⟨o,aJ ((fq c).trans hj),rfl⟩
theorem dc.mk_put(hp:a.ps[i]? =some p)(hb:ji (putA a n i e))(hne:∀ j q,j≠i→a.ps[j]? =some q→q.2≠[])(hnm:∀ (i j:Nat) (p q:ByteArray×List bR),a.ps[i]? =some p→a.ps[j]? =some q→p.1=q.1→i=j)
  (horg:∀ q∈a.ps,∀ m∈(lf q).ms,∃ o∈a.ps,o.1=(cE m).1) (hnew:∀ m∈((lf p).add p.1 e).ms,∃ o∈a.ps,o.1=(cE m).1):dc (putA a n i e):=by
 refine⟨hb,fun q hq=> ?_,fun j k q x hq hx hqx=> ?_,fun q hq m hm=> ?_⟩
 ·obtain⟨j,hj⟩:=List.getElem?_of_mem hq
  by_cases c:j=i
  ·subst c
   rw [j6 hp] at hj
   obtain rfl:=bD hj
   simp [lT]
  ·exact hne j q c ((fq c).symm.trans hj)
 ·obtain⟨q0,h1,h2⟩:=nz hp hq
  obtain⟨x0,h3,h4⟩:=nz hp hx
  exact hnm j k q0 x0 h1 h3 (h2.trans (hqx.trans h4.symm))
 ·obtain⟨j,hj⟩:=List.getElem?_of_mem hq
  have key:∃ o∈a.ps,o.1=(cE m).1:=by
   by_cases c:j=i
   ·subst c
    rw [j6 hp] at hj
    obtain rfl:=bD hj
    rw [yU] at hm
    exact hnew m hm
   ·exact horg q (aJ ((fq c).symm.trans hj)) m hm
  obtain⟨o,h1,h2⟩:=key
  obtain⟨o',h3,h4⟩:=rF (n:=n) (e:=e) hp h1
  exact⟨o',h3,h4.trans h2⟩
theorem qi {x:LifeS} (h1:e.1≠1)(h5:e.1≠5):∀ m∈(x.add nm e).ms,m∈x.ms:=by
 intro m hm
 obtain⟨k,t,ea,eb,n1,ot⟩:=e
 change m∈dj nm x.ms (k,t,ea,eb,n1,ot)at hm
 unfold dj at hm
 dsimp only at hm h1 h5
 rw [aA h1,aA h5] at hm
 split at hm
 ·exact(List.mem_filter.1 hm).1
 ·exact hm
theorem dc.put(ho:dc a)(hp:a.ps[i]? =some p)(hok:eC e=true)(hcan:cg p.1 (lf p) e=true)(hl:p.2.length < 500)(hu:a.used.getD n 0 < (a.bks.getD n (0,[])).2.length)(hnew:∀ m∈((lf p).add p.1 e).ms,∃ o∈a.ps,o.1=(cE m).1):dc (putA a n i e):=
 dc.mk_put hp (ho.toji.put hp hok hcan hl hu) (fun _ q _ hq=> ho.ne q (aJ hq)) ho.nm ho.org hnew
theorem gV(hb:n < a.bks.length)(h:¬ leftA a (n:Int) < 1):a.used.getD n 0 < (a.bks.getD n (0,[])).2.length:=by
 have:=dX hb
 omega
theorem sN(ho:dc a)(h4:¬ findA nm a < a.ps.length):∀ p∈a.ps,p.1≠nm:=by
 intro p hp e
 apply h4
 exact List.findIdx_lt_length.2 ⟨p,hp,i6.2 e⟩
theorem sO(ho:dc a)(b:Int)(nm:ByteArray)(e:bQ):dc (bi a b nm e).2:=by
 by_cases hb:0≤b∧b < a.bks.length
 ·by_cases hv:nameB nm=true∧eC e=true∧e.1≠5∧e.1≠6
  ·obtain⟨n,rfl⟩:=Int.eq_ofNat_of_zero_le hb.1
   have hnb:n < a.bks.length:=by omega
   by_cases hk:e.1=1
   ·rw [ez hb hv hk]
    split
    ·exact ho
    ·rename_i h4
     split
     ·exact ho
     ·rename_i h5
      split
      ·exact ho
      ·rename_i h6
       dsimp only
       rw [Int.toNat_natCast]
       have hp:({ a with ps:=a.ps++[(nm,[])] }:RegA).ps[a.ps.length]? =some (nm,[]):=by simp
       have hob:=ho.toji.addP hv.1 (show a.ps.length < 100 by omega)
       have hcan:cg nm (lf (nm,[])) e=true:=by show cg nm life0 e=true;unfold cg;rw [aG (show life0.n=0 from rfl),hk];rfl
       have hin:∀ (j:Nat) (q:ByteArray×List bR),(a.ps++[(nm,[])])[j]? =some q→(j < a.ps.length∧a.ps[j]? =some q)∨(j=a.ps.length∧q=(nm,[])):=fun j q hq=> by
        rcases Nat.lt_or_ge j a.ps.length with c | c
        ·rw [List.getElem?_append_left c] at hq;exact ax ⟨c,hq⟩
        ·rw [List.getElem?_append_right c] at hq
         have h1:=(aB hq).1
         simp at h1
         have h2:j=a.ps.length:=by omega
         subst h2
         simp at hq
         exact ay ⟨rfl,hq.symm⟩
       have hnw:=sN ho h4
       refine dc.mk_put hp (hob.put hp hv.2.1 hcan (Nat.zero_lt_succ _) (gV (a:=a) hnb h6)) (fun j q hj hq=> ?_) (fun x y q z hq hz hqz=> ?_) (fun q hq m hm=> ?_) (fun m hm=> ?_)
       ·rcases hin j q hq with⟨-,c⟩ | ⟨c,-⟩
        ·exact ho.ne q (aJ c)
        ·exact absurd c hj
       ·rcases hin x q hq with⟨c1,c⟩ | ⟨c1,rfl⟩
        ·rcases hin y z hz with⟨d1,d⟩ | ⟨d1,rfl⟩
         ·exact ho.nm x y q z c d hqz
         ·exact absurd hqz (hnw q (aJ c))
        ·rcases hin y z hz with⟨d1,d⟩ | ⟨d1,rfl⟩
         ·exact absurd hqz.symm (hnw z (aJ d))
         ·omega
       ·rcases List.mem_append.1 hq with hq | hq
        ·obtain⟨o,h1,h2⟩:=ho.org q hq m hm
         exact⟨o,List.mem_append_left _ h1,h2⟩
        ·obtain rfl:=List.mem_singleton.1 hq
         cases hm
       ·obtain⟨k,t,ea,eb,n1,ot⟩:=e
        change m∈dj nm [] (k,t,ea,eb,n1,ot)at hm
        unfold dj at hm
        dsimp only at hm hk
        rw [aG hk] at hm
        subst hk
        rw [List.nil_append] at hm
        obtain⟨x,hx,rfl⟩:=List.mem_map.1 hm
        have hb2:=(lD (show gy 1 t ea eb n1 ot=true from hv.2.1)).2
        exact⟨(nm,[]),List.mem_append_right _ (by simp),(oZ hv.1 (by have:=List.mem_range.1 hx;omega)).2.symm⟩
   ·rw [gP hb hv hk]
    cases hp:a.ps[findA nm a]? with
    | none=> exact ho
    | some p=>
     dsimp only
     split
     ·exact ho
     ·rename_i h5
      split
      ·exact ho
      ·rename_i h6
       split
       ·exact ho
       ·rename_i h8
        dsimp only
        rw [Int.toNat_natCast]
        exact ho.put hp hv.2.1 (by simpa using h5) (by omega) (gV hnb h8) fun m hm=> ho.org p (aJ hp) m (qi hk hv.2.2.1 m hm)
  ·rw [dY hb hv];exact ho
 ·rw [gK hb];exact ho
theorem sP(hp:a.ps[whereA m a]? =some p):m∈(lf p).ms:=by
 have hl:=(aB hp).1
 have h1:=List.findIdx_getElem (w:=hl)
 have h9:a.ps[List.findIdx (fun p=> hasT (lf p).ms m) a.ps]'hl=p:=(aB hp).2
 rw [h9] at h1
 obtain⟨x,h2,h3⟩:=List.any_eq_true.1 h1
 rw [← i6.1 h3]
 exact h2
theorem vC(ho:dc a)(b t:Int)(m to:ByteArray):dc (moveA a b t m to).2:=by
 by_cases hb:0≤b∧b < a.bks.length
 ·by_cases hv:modB m=true∧nameB to=true∧bJ t=true
  ·obtain⟨n,rfl⟩:=Int.eq_ofNat_of_zero_le hb.1
   have hnb:n < a.bks.length:=by omega
   cases hp:a.ps[whereA m a]? with
   | none=> rw [fZ hb hv (ax hp)];exact ho
   | some p=>
    cases hq:a.ps[findA to a]? with
    | none=> rw [fZ hb hv (ay hq)];exact ho
    | some q=>
     rw [ik hb hv hp hq]
     split
     ·exact ho
     ·rename_i h6
      split
      ·exact ho
      ·rename_i h9
       split
       ·exact ho
       ·rename_i h10
        dsimp only
        rw [Int.toNat_natCast]
        simp only [not_or,Bool.not_eq_false] at h6
        obtain⟨h6,h7,h8⟩:=h6
        have hus:=dX hnb
        have hmp:=sP hp
        have o1:dc (putA a n (whereA m a) (bE t m to)):=ho.put hp (jd hv) h7 (by omega) (by omega) fun x hx=> ho.org p (aJ hp) x (qi (e:=bE t m to) (show(6:Int)≠1 by decide) (show(6:Int)≠5 by decide) x hx)
        have hq1:(putA a n (whereA m a) (bE t m to)).ps[findA to a]? =some q:=by rw [fq (fun c=> h6 c.symm)];exact hq
        refine o1.put hq1 (j7 hv.1 (ho.p p (aJ hp)).2.2.2 hv.2.2) h8 (by omega) (by rw [eY.1,gR hp,gU];split <;> omega) fun x hx=> ?_
        have hx2:x∈(lf q).ms++[m]:=hx
        rcases List.mem_append.1 hx2 with hx2 | hx2
        ·exact o1.org q (aJ hq1) x hx2
        ·obtain rfl:=List.mem_singleton.1 hx2
         obtain⟨o,g1,g2⟩:=ho.org p (aJ hp) x hmp
         obtain⟨o',g3,g4⟩:=rF (n:=n) (e:=bE t x to) hp g1
         exact⟨o',g3,g4.trans g2⟩
  ·rw [fY hb hv];exact ho
 ·rw [li hb];exact ho
theorem ol(ho:dc a)(hb:n < a.bks.length)(hv:nameB bt=true∧nameB r=true∧bJ t=true∧bJ t0=true∧bJ t1=true)(h1:(affA a bt t0 t1 r).any (fun i=> decide (t < (lf (cy a i)).at_))=false)
  (h2:(affA a bt t0 t1 r).any (fun i=> decide (500≤(cy a i).2.length))=false) (h3:¬ leftA a (n:Int) < (affA a bt t0 t1 r).length):oh a (affA a bt t0 t1 r) n t r:=by
 refine⟨me _ _ _ _ _,hb,by have:=dX hb;omega,vw hv.2.1 hv.2.2.1,fun i hi=> ?_⟩
 obtain⟨p,p1,p2,p3⟩:=iT hi
 have c1:=List.any_eq_false.1 h1 i hi
 have c2:=List.any_eq_false.1 h2 i hi
 rw [p3] at c1 c2
 exact⟨p,p1,rE ho p1 p2 (by simpa using c1),by simpa using c2⟩
theorem xr(ho:dc a){L:List Nat} (hc:oh a L n t r):∀ j,j≤L.length→dc (da t r n (L.take j) a)∧jj a (da t r n (L.take j) a) L n j:=by
 intro j
 induction j with
 | zero=> exact fun _=> ⟨ho,jj.start ho.toji L n⟩
 | succ j ih=>
  intro hj
  obtain⟨o1,i1⟩:=ih (by omega)
  obtain⟨i,hi⟩:∃ i,L[j]? =some i:=⟨L[j],bh (by omega)⟩
  obtain⟨⟨p,hp,hp0⟩,hb,hu,i2⟩:=i1.next hc hi
  rw [fy hi]
  obtain⟨p9,hp9,hcan,hl⟩:=hc.p i (aJ hi)
  rw [hp0] at hp9
  obtain rfl:=bD hp9
  exact⟨o1.put hp hc.ok hcan hl hu fun x hx=> o1.org p (aJ hp) x (qi (e:=jh t r) (show(7:Int)≠1 by decide) (show(7:Int)≠5 by decide) x hx),i2⟩
theorem qj(ho:dc a)(b t:Int)(bt:ByteArray)(t0 t1:Int)(r:ByteArray):dc (aE a b t bt t0 t1 r).2.2:=by
 by_cases hb:0≤b∧b < a.bks.length
 ·by_cases hv:nameB bt=true∧nameB r=true∧bJ t=true∧bJ t0=true∧bJ t1=true
  ·obtain⟨n,rfl⟩:=Int.eq_ofNat_of_zero_le hb.1
   rw [eS hb hv]
   split
   ·exact ho
   ·rename_i h1
    split
    ·exact ho
    ·rename_i h2
     split
     ·exact ho
     ·rename_i h3
      dsimp only
      rw [Int.toNat_natCast]
      have hc:=ol ho (show n < a.bks.length by omega) hv (by simpa using h1) (by simpa using h2) h3
      have:=(xr ho hc _ (bz _)).1
      rw [List.take_length] at this
      exact this
  ·rw [dB hb hv];exact ho
 ·rw [je hb];exact ho
end
end
section
open Sx Go.RowKit Mr
def gX(X:Nat→Prop)(a:Option Addr)(es:List bR)(W:World):Prop:=es≠[]→∃ b,a=some ⟨b,0,none⟩∧X b∧b < W.heap.size∧∀ (j:Nat) (u:Value),(bK es)[j]? =some u→W.cell? ⟨b,j,none⟩=some u
theorem gX.at_ {X:Nat→Prop} {a:Option Addr} {es:List bR} {W:World} (h:gX X a es W):iP a es W:=fun hn=> by
 obtain⟨b,rfl,-,h2,h3⟩:=h hn
 exact⟨b,0,rfl,h2,fun k y hk j u hj=> by rw [Nat.zero_add];exact h3 _ _ (lK hk hj)⟩
theorem gX.of_own {X:Nat→Prop} {B c:Nat} {a:Option Addr} {es:List bR} {W:World} (h:W.ownsRow B 31 10 (.slice a es.length c) es.length (bK es))(hX:∀ k,B≤k→X k):gX X a es W:=fun hn=> by
 have hl:es.length≠0:=fun e=> hn (eF e)
 obtain⟨-,h2⟩:=h
 rcases h2 with⟨-,h3⟩ | ⟨g,cap,cur,q1,q2,q3,q4,q5,q6,q7⟩
 ·exact absurd h3 hl
 ·cases q1
  refine⟨g,rfl,hX g q2,ak q3,fun j u hj=> ah q3 ?_⟩
  rw [← q7] at hj
  have hlt:j < (bK es).length:=by rw [← q7];exact(aB hj).1
  rw [jc] at hlt
  rw [List.getElem?_take_of_lt (by omega)] at hj
  simpa using hj
theorem gX.keep {X X':Nat→Prop} {a:Option Addr} {es:List bR} {W w2:World} (h:gX X a es W)(hX:∀ k,X k→X' k)(hs:W.heap.size≤w2.heap.size)(hK:∀ k,X k→k < W.heap.size→w2.heap[k]? =W.heap[k]?):gX X' a es w2:=fun hn=> by
 obtain⟨b,e1,e2,e3,e4⟩:=h hn
 refine⟨b,e1,hX b e2,ar e3 hs,fun j u hj=> ?_⟩
 have h5:=e4 j u hj
 unfold World.cell? at h5 ⊢
 rw [hK b e2 e3]
 exact h5
def tu(X:Nat→Prop)(v:Value)(ps:List (ByteArray×List bR))(W:World):Prop:=∃ a c,v=.slice a ps.length c∧(ps≠[]→∃ b,a=some ⟨b,0,none⟩∧X b∧b < W.heap.size∧∀ (k:Nat) (p:ByteArray×List bR),ps[k]? =some p→
 W.cell? ⟨b,k*2,none⟩=some (.string p.1)∧∃ ae ce,W.cell? ⟨b,k*2+1,none⟩=some (.slice ae p.2.length ce)∧gX X ae p.2 W)
theorem tu.keep {X X':Nat→Prop} {v:Value} {ps:List (ByteArray×List bR)} {W w2:World} (h:tu X v ps W)(hX:∀ k,X k→X' k)(hs:W.heap.size≤w2.heap.size)(hK:∀ k,X k→k < W.heap.size→w2.heap[k]? =W.heap[k]?):tu X' v ps w2:=by
 obtain⟨a,c,e1,h2⟩:=h
 refine⟨a,c,e1,fun hn=> ?_⟩
 obtain⟨b,e2,e3,e4,e5⟩:=h2 hn
 refine⟨b,e2,hX b e3,ar e4 hs,fun k p hk=> ?_⟩
 obtain⟨q1,ae,ce,q2,q3⟩:=e5 k p hk
 have hc:∀ o u,W.cell? ⟨b,o,none⟩=some u→w2.cell? ⟨b,o,none⟩=some u:=fun o u h5=> by
  unfold World.cell? at h5 ⊢
  rw [hK b e3 e4]
  exact h5
 exact⟨hc _ _ q1,ae,ce,hc _ _ q2,q3.keep hX hs hK⟩
def lj(pt:Nat)(vb:Value)(us:List Nat)(vP:Value):List Value:=[.int .u64 (pt:Int),vb]++(us.map fun n:Nat=> Value.int .i64 (n:Int))++[vP]
theorem mg {pt:Nat} {vb vP:Value} {us:List Nat} (h:us.length=8):(lj pt vb us vP).toArray[10]? =some vP:=by
 unfold lj
 rw [List.getElem?_toArray,List.getElem?_append_right (by simp [h])]
 simp [h]
theorem iU {pt k:Nat} {vb vP:Value} {us:List Nat} (hk:k < us.length):(lj pt vb us vP).toArray[2+k]? =some (.int .i64 ((us.getD k 0:Nat):Int)):=by
 unfold lj
 rw [List.getElem?_toArray,List.append_assoc,List.getElem?_append_right (by simp),List.getElem?_append_left (by simp;omega)]
 simp [bX,di,bh hk]
structure bC(w0:World)(X:Nat→Prop)(Q:Nat)(vb:Value)(a:RegA)(vP:Value)(W:World):Prop where
 bel:Below w0.heap.size w0 W
 hQ:w0.heap.size≤Q
 blk:W.heap[Q]? =some (.cells (lj a.pt vb a.used vP).toArray 135 (0,0))
 nq:¬ X Q
 u8:a.used.length=8
 pk:tu X vP a.ps W
 bk:∃ ab cb,vb=.slice ab a.bks.length cb∧dS ab a.bks w0
section
variable {w0 W w2:World} {X:Nat→Prop} {Q:Nat} {vb vP:Value} {a:RegA}
theorem bC.step(h:bC w0 X Q vb a vP W)(hb:Below W.heap.size W w2):bC w0 X Q vb a vP w2:=
 ⟨h.bel.trans (hb.mono h.bel.size),h.hQ,an h.blk hb,h.nq,h.u8,h.pk.keep (fun _ h=> h) hb.size (fun k _ hk=> hb.block k hk),h.bk⟩
theorem bC.books(h:bC w0 X Q vb a vP W):∃ ab cb,vb=.slice ab a.bks.length cb∧dS ab a.bks W:=by
 obtain⟨ab,cb,h1,h2⟩:=h.bk
 exact⟨ab,cb,h1,fun hn=> by
  obtain⟨b,off,e1,e2,e3⟩:=h2 hn
  refine⟨b,off,e1,ar e2 h.bel.size,fun k bk hk=> ?_⟩
  obtain⟨q1,vp,q2,q3⟩:=e3 k bk hk
  exact⟨ag q1 h.bel,vp,ag q2 h.bel,q3.step h.bel⟩⟩
theorem bC.other(h:bC w0 X Q vb a vP W)(hb:Below w0.heap.size w0 w2)(hs:W.heap.size≤w2.heap.size)(hK:∀ k,(X k∨k=Q)→k < W.heap.size→w2.heap[k]? =W.heap[k]?):bC w0 X Q vb a vP w2:=
 ⟨hb,h.hQ,(hK Q (ay rfl) (ak h.blk)).trans h.blk,h.nq,h.u8,h.pk.keep (fun _ h=> h) hs (fun k hk=> hK k (ax hk)),h.bk⟩
theorem bC.pslice(h:bC w0 X Q vb a vP W):∃ pa pc,vP=.slice pa a.ps.length pc:=by
 obtain⟨x,c,e,-⟩:=h.pk
 exact⟨x,c,e⟩
theorem bC.cell10(h:bC w0 X Q vb a vP W):W.cell? ⟨Q,10,none⟩=some vP:=ah h.blk (mg h.u8)
theorem bC.pack {pa:Option Addr} {pc k:Nat} {p:ByteArray×List bR} (h:bC w0 X Q vb a (.slice pa a.ps.length pc) W)(hk:a.ps[k]? =some p):∃ b,pa=some ⟨b,0,none⟩∧b < W.heap.size∧W.cell? ⟨b,k*2,none⟩=some (.string p.1)∧
  ∃ ae ce,W.cell? ⟨b,k*2+1,none⟩=some (.slice ae p.2.length ce)∧gX X ae p.2 W:=by
 obtain⟨x,c,e,h2⟩:=h.pk
 cases e
 obtain⟨b,e2,-,e4,e5⟩:=h2 (by rintro e;rw [e] at hk;cases hk)
 obtain⟨q1,q2⟩:=e5 k p hk
 exact⟨b,e2,e4,q1,q2⟩
end
def eZ(w0:World)(X:Nat→Prop)(Q:Nat)(vb:Value)(a':RegA)(w W:World):Prop:=∃ vP',bC w0 (fun k=> X k∨w.heap.size≤k) Q vb a' vP' W∧bP (fun k=> k=Q) w W
theorem bC.stay {w0 w W:World} {X:Nat→Prop} {Q:Nat} {vb vP:Value} {a:RegA} (h:bC w0 X Q vb a vP w)(hb:Below w.heap.size w W):eZ w0 X Q vb a w W:=by
 have h2:=h.step hb
 refine⟨vP,⟨h2.bel,h2.hQ,h2.blk,fun c=> ?_,h2.u8,h2.pk.keep (fun _ h=> ax h) (bz _) (fun _ _ _=> rfl),h2.bk⟩,bP.of_below hb⟩
 rcases c with c | c
 ·exact h.nq c
 ·have:=ak h.blk;omega
end
section
open Sx Go.RowKit Mr
def zb(k n:Nat):Int:=if k < n then(k:Int)else -1
theorem dM {k n:Nat} (h:k < n):zb k n=(k:Int):=aG h
theorem im {k n:Nat} (h:¬ k < n):zb k n= -1:=aA h
theorem rG {α:Type} {p:α→Bool} {qs:List α} {i:Nat} {q:α} (h:∀ j,j < i→∀ q,qs[j]? =some q→p q=false)(hq:qs[i]? =some q)(hp:p q=true):qs.findIdx p=i:=by
 have hi:=(aB hq).1
 rw [List.findIdx_eq hi]
 refine⟨by rw [bh hi] at hq;rw [bD hq];exact hp,fun j hj=> ?_⟩
 have:=h j hj (qs[j]'(by omega)) (bh _)
 simpa using this
theorem rH {α:Type} {p:α→Bool} {qs:List α} (h:∀ j,j < qs.length→∀ q,qs[j]? =some q→p q=false):qs.findIdx p=qs.length:=by
 rw [List.findIdx_eq_length]
 intro q hq
 obtain⟨j,hj,rfl⟩:=List.getElem_of_mem hq
 simpa using h j hj _ (bh hj)
theorem cH {w0 w:World} {X:Nat→Prop} {Q:Nat} {vb vP:Value} {a:RegA} (h:bC w0 X Q vb a vP w)(nm:ByteArray)(hl:a.ps.length≤1000000):Calls Tryz.prog 83 #[.pointer (some ⟨Q,0,none⟩),.string nm] w fun e w'=> e=.returned (.int .i64 (zb (findA nm a) a.ps.length))∧Below w.heap.size w w':=by
 obtain⟨pa,pc,rfl⟩:=h.pslice
 have H:=aa h
 have c10:=h.cell10
 have cl:=ak h.blk
 clear h
 go_enter Tryz.func83,Tryz.ntmps83
 go_wp2_with fail
 clear c10 cl
 go_loopw [5] (fun ix wr=> ∃ i:Nat,i≤a.ps.length∧ix=.int .i64 i∧Hid (∀ j,j < i→∀ p,a.ps[j]? =some p→fS p.1 nm=false)∧Hid (Below w.heap.size w wr)) (fun ix _=> a.ps.length - (intOf ix).toNat)
 case atStart=> exact⟨0,by omega,rfl,(fun j hj=> absurd hj (Nat.not_lt_zero j)),Below.refl _ _⟩
 case round=>
  obtain⟨i,hi,rfl,HQ,HW⟩:=hrel
  have HG:=aa (H.out.step HW.out)
  have c10:=HG.out.cell10
  have cl:=ak HG.out.blk
  by_cases hc:i < a.ps.length
  ·have c1:(i:Int) < a.ps.length:=by omega
   have c0:(0:Int)≤i:=by omega
   obtain⟨p,hk⟩:∃ p,a.ps[i]? =some p:=⟨a.ps[i],bh hc⟩
   obtain⟨b,eb,lb,q1,-⟩:=HG.out.pack hk
   subst eb
   have HP:=aa hk
   clear hk
   cases he:fS p.1 nm with
   | true=>
    have z1:(p.1.toList==nm.toList)=true:=he
    have HR:Hid (findA nm a=i):=rG HQ.out HP.out he
    clear he hc
    generalize p.1=t1 at*
    go_wp2_with fail
    exact bc (v:=.int .i64 (i:Int)) (by simp only [results,Tryz.results83];go_simp) rfl ⟨by rw [HR.out,dM (by omega)],HW.out⟩
   | false=>
    have z1:(p.1.toList==nm.toList)=false:=he
    have HQ2:Hid (∀ j,j < i+1→∀ p,a.ps[j]? =some p→fS p.1 nm=false):=fun j hj r hr=> by
     by_cases c:j=i
     ·subst c
      rw [HP.out] at hr
      obtain rfl:=bD hr
      exact he
     ·exact HQ.out j (by omega) r hr
    clear he hc
    generalize p.1=t1 at*
    go_wp2_with fail
    exact⟨⟨i+1,by omega,by push_cast;rfl,HQ2,HW⟩,by simp [intOf];omega⟩
  ·obtain rfl:i=a.ps.length:=by omega
   have HR:Hid (findA nm a=a.ps.length):=rH HQ.out
   clear hc
   go_wp2_with fail
   exact aH (v:=.int .i64 (-1)) rfl rfl rfl ⟨by rw [HR.out,im (by omega)],HW.out⟩
theorem dC {w0 w:World} {X:Nat→Prop} {Q:Nat} {vb vP:Value} {a:RegA} (h:bC w0 X Q vb a vP w)(ho:ji a)(b:Int):Calls Tryz.prog 80 #[.pointer (some ⟨Q,0,none⟩),.int .i64 b] w fun e w'=> e=.returned (.int .i64 (leftA a b))∧Below w.heap.size w w':=by
 obtain⟨hb1,hb8,hbk⟩:=fW ho.sec
 obtain⟨ab,cb,evb,hB⟩:=h.books
 subst evb
 have c1:w.cell? ⟨Q,1,none⟩=some (.slice ab a.bks.length cb):=ah (o:=1) h.blk rfl
 have cl:=ak h.blk
 by_cases hin:0≤b∧b < a.bks.length
 ·unfold leftA
  rw [aG hin]
  obtain⟨h0,h1⟩:=hin
  obtain⟨n,rfl⟩:=Int.eq_ofNat_of_zero_le h0
  have h2:n < a.bks.length:=by omega
  have h8:n < 8:=by omega
  obtain⟨bk,hk⟩:∃ bk,a.bks[n]? =some bk:=⟨a.bks[n],bh h2⟩
  obtain⟨bb,ob,rfl,hbb,hbc⟩:=hB (by rintro e;rw [e] at h2;simp at h2)
  obtain⟨-,vq,s1,ap,cp,rfl,-⟩:=hbc n bk hk
  have hu:w.cell? ⟨Q,2+n,none⟩=some (.int .i64 ((a.used.getD n 0:Nat):Int)):=ah h.blk (iU (by rw [h.u8];exact h8))
  have hus:=ho.us n
  have hpl:=(hbk bk (aJ hk)).2.1
  have hgd:a.bks.getD n (0,[])=bk:=by rw [di,hk];rfl
  rw [hgd] at hus
  have HV:Hid (((a.bks.getD (n:Int).toNat (0,[])).2.length:Int) - (a.used.getD (n:Int).toNat 0:Nat)=(bk.2.length:Int) - (a.used.getD n 0:Nat)):=by
   unfold Hid
   rw [Int.toNat_natCast,hgd]
  rw [HV.out]
  generalize a.used.getD n 0=un at*
  have hw:IntKind.i64.wrap ((bk.2.length:Int) - (un:Int))=(bk.2.length:Int) - (un:Int):=cC _ ⟨by omega,by omega⟩
  have h8i:(n:Int) < 8:=by omega
  have h0b:¬ (n:Int) < 0:=by omega
  have h1b:¬ (n:Int)≥a.bks.length:=by omega
  clear h ho hB hbc hb1 hb8 hbk hk hus hpl HV hgd
  go_enter Tryz.func80,Tryz.ntmps80
  go_upto_region 3 with fail
  have d1:∀ s:aC w,s.1.cell? ⟨Q,1,none⟩=some (.slice (some ⟨bb,ob,none⟩) a.bks.length cb):=fun s=> ag c1 s.2
  have d2:∀ s:aC w,s.1.cell? ⟨Q,2+n,none⟩=some (.int .i64 (un:Int)):=fun s=> ag hu s.2
  have d3:∀ s:aC w,s.1.cell? ⟨bb,ob+n*2+1,none⟩=some (.slice ap bk.2.length cp):=fun s=> ag s1 s.2
  have d4:∀ s:aC w,Q < s.1.heap.size:=fun s=> ar cl s.2.size
  clear h0b h1b c1 hu s1
  refine aF (by kernel_rfl) (by kernel_rfl) ?_
  repeat(first | (refine WQ.skip rfl rfl rfl rfl ?_;simp only [Act.put,aU,aV,aW,aX]) | ((first | (apply WQ.val;(exact rfl)) | (apply WQ.valg;(exact rfl);(exact rfl);(exact rfl)));(intro w9 hw9;obtain⟨s9,rfl⟩:=hw9;simp [go_sem,d1,d2,d3,d4,h0,h1,h2,h8,h8i,hw];first | done | exact rfl);simp only [Act.put,aU,aV,aW,aX]))
  refine WQ.fin fun W4 hbn=> ?_
  go_wp2_with fail
  exact bc (v:=.int .i64 ((bk.2.length:Int) - (un:Int))) (by simp only [results,Tryz.results80];go_simp) rfl ⟨rfl,hbn⟩
 ·unfold leftA
  rw [aA hin]
  clear hB hb1 hb8 hbk ho
  by_cases hneg:b < 0
  ·clear h hin
   go_enter Tryz.func80,Tryz.ntmps80
   go_wp2_with fail
   exact aH (v:=.int .i64 0) rfl rfl rfl ⟨rfl,Below.refl _ _⟩
  ·have hge:b≥(a.bks.length:Int):=by omega
   clear h hin
   go_enter Tryz.func80,Tryz.ntmps80
   go_wp2_with fail
   exact aH (v:=.int .i64 0) rfl rfl rfl ⟨rfl,Below.refl _ _⟩
theorem ql {w0 w:World} {X:Nat→Prop} {Q:Nat} {vb vP:Value} {a:RegA} (h:bC w0 X Q vb a vP w)(hl:a.ps.length≤1000000):Calls Tryz.prog 78 #[.pointer (some ⟨Q,0,none⟩)] w fun e w'=> ∃ v',e=.returned v'∧w'.ownsRow w.heap.size 9 1 v' a.ps.length (a.ps.map fun p=> Value.string p.1)∧Below w.heap.size w w':=by
 obtain⟨pa,pc,rfl⟩:=h.pslice
 obtain⟨j0,hj0,hy0,hy1,hy2⟩:=info_parts ia
 have H:=aa h
 have c10:=h.cell10
 have cl:=ak h.blk
 clear h
 go_enter Tryz.func78,Tryz.ntmps78
 go_wp2_with fail
 clear c10 cl
 go_loopw [3,4] (fun v ix wr=> ∃ i:Nat,i≤a.ps.length∧ix=.int .i64 i∧Hid (wr.ownsRow w.heap.size 9 1 v i ((a.ps.take i).map fun p=> Value.string p.1))∧Hid (Below w.heap.size w wr)) (fun _ ix _=> a.ps.length - (intOf ix).toNat)
 case atStart=> exact⟨0,by omega,rfl,⟨rfl,ax ⟨rfl,rfl⟩⟩,Below.refl _ _⟩
 case round=>
  obtain⟨i,hi,rfl,HO,HW⟩:=hrel
  have HG:=aa (H.out.step HW.out)
  have c10:=HG.out.cell10
  have cl:=ak HG.out.blk
  by_cases hc:i < a.ps.length
  ·have c1:(i:Int) < a.ps.length:=by omega
   have c0:(0:Int)≤i:=by omega
   obtain⟨p,hk⟩:∃ p,a.ps[i]? =some p:=⟨a.ps[i],bh hc⟩
   have HS:Hid ((a.ps.take (i+1)).map (fun p=> Value.string p.1)=(a.ps.take i).map (fun p=> Value.string p.1)++[.string p.1]):=by show _=_;rw [List.take_add_one,hk,List.map_append];rfl
   obtain⟨b,eb,lb,q1,-⟩:=HG.out.pack hk
   subst eb
   obtain⟨aO,cO,evO⟩:=aP HO.out
   subst evO
   clear hk hc
   generalize p.1=t1 at*
   go_wp2_with (at_builtin;refine bM _ rfl (.tmp 14) (.tmp 23) 47 rfl w.heap.size 9 j0 _ 1 16 Tryz.underlying47 hj0 hy0 hy1 hy2 rfl (by decide) _ i ((a.ps.take i).map fun p=> Value.string p.1) rfl (aD HO.out bU) (some ⟨wr.heap.size,0,none⟩) 1 1 [.string t1] rfl rfl dr (lu _) (by unfold maxLen;omega) (by omega) (by have:=HW.out.size;simp;omega) ?_;intro v' w5 hown hgrow hat;have hO2:Hid (w5.ownsRow w.heap.size 9 1 v' (i+1) ((a.ps.take (i+1)).map fun p=> Value.string p.1)):=(by show World.ownsRow _ _ _ _ _ _ _;rw [HS.out];exact hown);have hB2:Hid (Below w.heap.size w w5):=(aK HW.out _).grown hgrow (by have:=HW.out.size;simp;omega) (fun k hk=> (World.ownsRow.lt HO.out k hk).1);clear hown hgrow hat)
   exact⟨⟨i+1,by omega,by push_cast;rfl,hO2,hB2⟩,by simp [intOf];omega⟩
  ·obtain rfl:i=a.ps.length:=by omega
   have hO:Hid (wr.ownsRow w.heap.size 9 1 u3 a.ps.length (a.ps.map fun p=> Value.string p.1)):=by have q:=HO.out;rw [List.take_of_length_le (bz _)] at q;exact q
   obtain⟨aO,cO,evO⟩:=aP hO.out
   subst evO
   clear hc
   go_wp2_with fail
   exact bc (v:=.slice aO a.ps.length cO) (by simp only [results,Tryz.results78];go_simp) rfl ⟨_,rfl,hO.out,HW.out⟩
end
end Go.Proofs.YtmpilgkfbibhlaaGreatDoor
