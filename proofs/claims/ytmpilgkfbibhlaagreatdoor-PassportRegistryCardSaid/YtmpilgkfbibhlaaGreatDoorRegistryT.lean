/-
  PassportRegistry: for every point and books, and whatever is entered, moved and recalled, a registry shows what the reference's shows, and a copy goes on alike, and apart: for every point, books, list of deeds and place of the copy the call returns true, and nothing that was in memory changes. No condition but the listed variables, which are tied to the program's text.
-/
import Derived.Test.YtmpilgkfbibhlaaGreatDoorG24T
import Derived.Test.YtmpilgkfbibhlaaGreatDoorTie
import Derived.Test.YtmpilgkfbibhlaaGreatDoorCards
import Derived.Lay
import Derived.Stop.LaidErr
import Derived.HandedShaped
set_option linter.unusedSimpArgs false
set_option linter.unusedVariables false
set_option maxRecDepth 100000
set_option maxHeartbeats 20000000
namespace Go.Proofs.YtmpilgkfbibhlaaGreatDoor
section
open Go.ChangeShapes Go.WideShapes Go.ChangeAt Go.RowKit

theorem handed_laid_shaped {H:Type} {enc:TypeId×Value→H} {a:Assume} {C:Checked} {os:Os} {f:FuncId} {fn:Func} {s:ChangeSpec} {conds:List PathCond} {apart fresh handsOn again:Bool} {X:World→Array Value→Prop}
    (hX:∀ (w w':World) (args:Array Value),w.heap=w'.heap→X w args→X w' args)
    (own:ownKnob C.prog.godebug=none) (started:os.Started) (noInit:C.prog.inits.idxOf? f=none) (hfn:C.prog.funcs[f]? =some fn)
    (witness:∃ (w:World) (tape:Tape) (i:Input),w.os=os∧(w.forCall tape i).Shaped C.prog∧i.vars=[]∧Input.okWide C.prog (w.forCall tape i) .any w.heap.size f i∧
      ((s.pre enc C.prog fn conds apart (w.forCall tape i).memory i.args∧X (w.forCall tape i).memory i.args)∧sizedMet enc C.prog fn (OpenSpec.ofChange s) apart (w.forCall tape i).memory i.args)∧a.holds C.prog (lone (Frame.enter C.prog f i.args .normal) [] (w.forCall tape i)))
    (contract:∀ (W:World) (base:Nat) (args:Array Value) (ds gs:List (DataW H)) (before:List MemPlace),
      (∀ (j:Nat) t v,fn.params[j]? =some t→args[j]? =some v→Value.okWide C.prog W .any base t v)→
      DataW.Whole enc C.prog fn.params.toList s.vars apart W args.toList ds gs before→
      conds.all (PathCond.test C.prog ⟨fn.params.toList,ds,s.plain.varTypes C.prog,gs⟩)=true→
      (DataW.weightsEach C.prog (fn.params.toList++s.plain.varTypes C.prog) (ds++gs)).all (·≤reachBytes)=true→X W args→W.ShapedOpen C.prog→
      a.holds C.prog (lone (Frame.enter C.prog f args .normal) [] W)→
      Calls C.prog f args W fun e W'=> ∃ v,e=.returned v∧s.post enc C.prog fn apart fresh handsOn again W args v W'):
    ReturnsInHanded a C os f .any (fun w args=> (s.pre enc C.prog fn conds apart w args∧X w args)∧sizedMet enc C.prog fn (OpenSpec.ofChange s) apart w args) (s.post enc C.prog fn apart fresh handsOn again):=by
  refine returnsInHanded_of_calls own started noInit witness ?_
  intro w tape i _ hsh _ hok hpre hholds
  obtain⟨_,_,_,fn',hfn',_,_,_,_,hval⟩:=hok
  have e:fn'=fn:=bD (hfn'.symm.trans hfn)
  subst e
  obtain⟨⟨⟨ds,gs,before,hw,hc⟩,hx⟩,hz⟩:=hpre
  have hw':=DataW.Whole.of_heap (w':=w.forCall tape i) (by rfl) hw
  refine(contract (w.forCall tape i) w.heap.size i.args ds gs before hval hw' hc (hz.weights hw) (hX _ _ _ (by rfl) hx) hsh hholds).mono fun e W' ⟨v,he,hp⟩=> ?_
  subst he
  exact ChangeSpec.post_blind hp

theorem errAt_of_laid {n nm:String} {d:DataW Unit} {W:World} {g:Nat} {ti:TypeId} {ms:Array (String×TypeId)}
    (h:laidMet Tryz.prog [(n,.iface nm d)] W) (hg:Tryz.prog.globalNamed n=some g) (ht:(Tryz.prog.globals[g]?).map (·.type)=some ti) (hi:Tryz.prog.underlying ti=some (.interface ms)):Sx.ErrAt W n:=by
  obtain⟨ps,⟨g0,t0,cs0,f0,p0,q0,hg0,ht0,hv0,hd0,_,e0⟩,_,hrows⟩:=h
  obtain rfl:=bD (hg.symm.trans hg0)
  obtain rfl:=bD (ht.symm.trans ht0)
  obtain⟨l0⟩:=cs0
  obtain⟨f1,u,v,e,hn,h1⟩:=iface_of_trod hi hd0
  have e':l0=[.iface u v]:=e
  subst e'
  exact⟨u,v,hv0⟩
/-- A list of one variable, which holds an error. -/
def isIf:List (String×DataW Unit)→String→Bool
  | [(x,.iface _ _)],n=> x==n
  | _,_=> false
theorem isIf_is {l:List (String×DataW Unit)} {n:String} (h:isIf l n=true):∃ m d,l=[(n,.iface m d)]:=by
  unfold isIf at h
  split at h
  · have e:=eq_of_beq h
    subst e
    exact⟨_,_,rfl⟩
  · cases h
theorem max_of_shaped {W:World} (h:W.ShapedOpen Tryz.prog):Sx.zM W:=
  Go.Proofs.cell_of_shapedOpen_int (t:=3) (k:=.i64) (zero:=#[.int .i64 0]) h (of_decide_eq_true (by kernel_rfl)) (by kernel_rfl) rfl (by kernel_rfl) (by kernel_rfl) Tryz.underlying3
theorem glob_of_laid {l:List (String×DataW Unit)} (hd:(l.all fun x=> x.2.handleName?.isNone)=true)
    (hl:l.filter (fun x=> x.1==Sx.ww)=[(Sx.ww,Lib.tabData .u64 Lib.pow10Tab)]) (hl2:isIf (l.filter (fun x=> x.1==Sx.ym)) Sx.ym=true) (hl3:isIf (l.filter (fun x=> x.1==Sx.yq)) Sx.yq=true)
    {W:World} (h:laidMetH Tryz.prog l W) (hS:W.ShapedOpen Tryz.prog):Sx.dn W:=by
  obtain⟨m2,d2,hl2⟩:=isIf_is hl2
  obtain⟨m3,d3,hl3⟩:=isIf_is hl3
  rw [MakeChecks.laidMetH_plain _ _ _ hd] at h
  have h1:=h.filter (fun x=> x.1==Sx.ww)
  rw [hl] at h1
  have h2:=h.filter (fun x=> x.1==Sx.ym)
  rw [hl2] at h2
  have h3:=h.filter (fun x=> x.1==Sx.yq)
  rw [hl3] at h3
  exact Sx.zO ⟨Lib.tabIs_of_head (t:=238) (e:=22) (n:=20) Sx.qT (by kernel_rfl) Tryz.underlying238 Tryz.underlying22 (by kernel_rfl) (by kernel_rfl) h1,
    errAt_of_laid h2 Sx.nM (by kernel_rfl) Tryz.underlying185,errAt_of_laid h3 Sx.nN (by kernel_rfl) Tryz.underlying185,max_of_shaped hS⟩

theorem passportRegistry_own:ownKnob Tryz.prog.godebug=none:=by kernel_rfl
theorem passportRegistry_laidOut:laidOutB Tryz.prog=true:=by kernel_rfl
theorem passportRegistry_lifted(os:Os)(started:os.Started)(H:Type)(enc:TypeId×Value→H):
    ReturnsInHanded {} Tryz.checked os 7 .any (fun w args=> (Rows.passportRegistrySpec.pre enc Tryz.prog Tryz.f7 Rows.passportRegistryRow.domain false w args∧laidMetH Tryz.prog Rows.passportRegistryRow.laid w)∧sizedMet enc Tryz.prog Tryz.f7 (OpenSpec.ofChange Rows.passportRegistrySpec) false w args)
      (Rows.passportRegistrySpec.post enc Tryz.prog Tryz.f7 false true false false):=by
  refine handed_laid_shaped (C:=Tryz.checked) (X:=fun w _=> laidMetH Tryz.prog Rows.passportRegistryRow.laid w) (fun _ _ _ hh h=> h.of_heap hh) passportRegistry_own started (by kernel_rfl) Tryz.func7
    (ChangeSpec.witness_shaped (enc:=enc) (C:=Tryz.checked) (os:=os) (X:=fun w _=> laidMetH Tryz.prog Rows.passportRegistryRow.laid w) false (World.laidAll Tryz.prog os Rows.passportRegistryRow.laid) #[.int .u64 0,.slice none 0 0,.slice none 0 0,.int .u8 0] 8 (World.laidAll_os _ _ _)
      (World.shaped_of_ZipB (by kernel_rfl) (by kernel_rfl)) (by kernel_rfl) (by kernel_rfl) (by kernel_rfl)
      (by rw [MakeChecks.laidMetH_plain _ _ _ (by kernel_rfl)];exact laidMet_laidAll _ (by kernel_rfl) (by kernel_rfl))) ?_
  intro W base args ds gs before hval0 hW hcnd _ hL hS _
  have hG:Sx.dn W:=glob_of_laid (by kernel_rfl) (by kernel_rfl) (by kernel_rfl) (by kernel_rfl) hL hS
  have hval:∀ (j:Nat) t v,Tryz.f7.params[j]? =some t→args[j]? =some v→Value.okWide Tryz.prog W .any base t v:=hval0
  have hW':=hW
  obtain⟨p,q,hA0,hV,rfl,hfz,hnd⟩:=hW
  have hA:DataW.TrodAll enc Tryz.prog W 0 (fun _=> true) true Tryz.f7.params.toList args.toList ds p:=hA0
  rw [Tryz.params7] at hA hval
  obtain⟨v0,vs0,d0,ds0,p0,q0,hargs,rfl,rfl,h0,r0⟩:=trodAll_cons hA
  obtain⟨v1,vs1,d1,ds1,p1,q1,rfl,rfl,rfl,h1,r1⟩:=trodAll_cons r0
  obtain⟨v2,vs2,d2,ds2,p2,q2,rfl,rfl,rfl,h2,r2⟩:=trodAll_cons r1
  obtain⟨v3,vs3,d3,ds3,p3,q3,rfl,rfl,rfl,h3,r3⟩:=trodAll_cons r2
  obtain⟨rfl,rfl,rfl⟩:=trodAll_nil r3
  obtain rfl:args=#[v0,v1,v2,v3]:=by cases args;simp_all
  obtain⟨rfl,rfl⟩:=trodVars_none hV
  have k0:=h0
  have lt0:∀ x∈p0,x.block < W.heap.size:=by obtain⟨m,hm⟩:=k0;exact DataW.trod_lt m _ _ _ hm
  obtain⟨z0,e0,-,-,w0⟩:=open_int Tryz.underlying22 (hval 0 22 v0 rfl rfl) h0
  subst e0
  obtain⟨a0,rfl,u0⟩:=lk w0
  have k1:=h1
  have lt1:∀ x∈p1,x.block < W.heap.size:=by obtain⟨m,hm⟩:=k1;exact DataW.trod_lt m _ _ _ hm
  obtain⟨a1_a,a1_len,a1_cap,e1⟩:=okWide_slice Tryz.underlying23 (hval 1 23 v1 rfl rfl)
  subst e1
  obtain⟨m1,t1⟩:=h1
  obtain⟨a1,c1,l1,ev1,hc1,hm1,ho1,hA1⟩:=qu t1
  simp only [Value.slice.injEq] at ev1
  obtain⟨rfl,rfl,rfl⟩:=ev1
  have k2:=h2
  have lt2:∀ x∈p2,x.block < W.heap.size:=by obtain⟨m,hm⟩:=k2;exact DataW.trod_lt m _ _ _ hm
  obtain⟨a2_a,a2_len,a2_cap,e2⟩:=okWide_slice Tryz.underlying66 (hval 2 66 v2 rfl rfl)
  subst e2
  obtain⟨m2,t2⟩:=h2
  obtain⟨a2,c2,l2,ev2,hc2,hm2,ho2,hA2⟩:=qS t2
  simp only [Value.slice.injEq] at ev2
  obtain⟨rfl,rfl,rfl⟩:=ev2
  have k3:=h3
  have lt3:∀ x∈p3,x.block < W.heap.size:=by obtain⟨m,hm⟩:=k3;exact DataW.trod_lt m _ _ _ hm
  obtain⟨z3,e3,-,-,w3⟩:=open_int Tryz.underlying5 (hval 3 5 v3 rfl rfl) h3
  subst e3
  obtain⟨a3,rfl,u3⟩:=wj w3
  clear hA0 hval0
  refine(iz a0 _ _ a3 hA1 hA2 hG u0 u3 ho2 ⟨by have:=hm1;unfold maxLen at this;omega,by have:=hm2;unfold maxLen at this;omega⟩).mono fun e W' ⟨he,bel⟩=> ?_
  subst he
  exact⟨_,rfl,_,_,_,[],_,[],hW',trodAll_mk1 (shut_bool Tryz.underlying4 _),(trodAll_cons_mk (Below.trod passportRegistry_laidOut (by kernel_rfl) (of_decide_eq_true (by kernel_rfl)) k0 bel lt0) (trodAll_cons_mk (Below.trod passportRegistry_laidOut (by kernel_rfl) (of_decide_eq_true (by kernel_rfl)) k1 bel lt1) (trodAll_cons_mk (Below.trod passportRegistry_laidOut (by kernel_rfl) (of_decide_eq_true (by kernel_rfl)) k2 bel lt2) (trodAll_cons_mk (Below.trod passportRegistry_laidOut (by kernel_rfl) (of_decide_eq_true (by kernel_rfl)) k3 bel lt3) trodAll_mk0)))),rfl,bel.frame _,fun h=> by cases h⟩

theorem PassportRegistry_row:Rows.PassportRegistrySaid:=
  OpenClaim.holds_of_wide 7 Tryz.f7 rfl rfl rfl rfl rfl rfl rfl ⟨rfl,rfl,rfl,rfl,rfl⟩ rfl rfl rfl rfl rfl (by kernel_rfl) Tryz.func7 (by kernel_rfl)
    (of_decide_eq_true (by kernel_rfl)) (by unfold Func.isWrapper;first | (rw [aG (by decide+kernel)];kernel_rfl) | (rw [aA (by decide+kernel)];exact⟨rfl,rfl⟩))
    (fun os started H enc _=> passportRegistry_lifted os started H enc)
theorem PassportRegistry_proved:Rows.PassportRegistryCardSaid:=
  Claim7.holds_tied_plain_at .later [] [.data,.data,.data,.sentinel,.sentinel,.sentinel] true (true, "7cd1ab14b13c1434c64699f22fb25d186d113f2950c82dffac6fcf9b274c8633") true
    PassportRegistry_row (fun _ h=> by cases h) (by kernel_rfl) (fun _ h=> by cases h) passportRegistry_row_tie rfl ⟨rfl,rfl⟩ (by kernel_rfl) rfl
    (fun f fn hf hfn=> by
      obtain rfl:f=7:=bD ((show Tryz.prog.funcNamed Rows.passportRegistryRow.func=some 7 by kernel_rfl).symm.trans hf) |>.symm
      obtain rfl:fn=Tryz.f7:=(bD (Tryz.func7.symm.trans hfn)).symm
      exact⟨by kernel_rfl,fun j t ht=> by
        have hall:(Tryz.f7.params.all fun t=> !Tryz.prog.wantsStandIn t)=true:=by kernel_rfl
        have:=Array.all_eq_true_iff_forall_mem.1 hall t (Array.mem_of_getElem? ht)
        have h2:Tryz.prog.wantsStandIn t=false:=by simpa using this
        exact h2⟩)
    (by kernel_rfl)
end
end Go.Proofs.YtmpilgkfbibhlaaGreatDoor
