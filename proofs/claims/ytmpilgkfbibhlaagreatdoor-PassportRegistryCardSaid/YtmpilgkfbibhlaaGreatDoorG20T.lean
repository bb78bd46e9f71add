/-
 G20T
-/
import Derived.Test.YtmpilgkfbibhlaaGreatDoorG19T
set_option linter.unusedSimpArgs false
set_option linter.unusedVariables false
set_option maxRecDepth 100000
set_option maxHeartbeats 20000000
namespace Go.Proofs.YtmpilgkfbibhlaaGreatDoor
section
open Sx Go.RowKit Mr
theorem nF {o:Oper} {a:Act} {C:World→Prop} {w:World} (k t ea eb:Int)(n1 ot:ByteArray)(x:Operand)(b off:Nat)(ho:o.op=.load 29 x)(hx:a.eval x=.pointer (some ⟨b,off,none⟩))
  (hc:∀ (j:Nat) (u:Value),(gg (k,t,ea,eb,n1,ot))[j]? =some u→w.cell? ⟨b,off+j,none⟩=some u):o.quietAt Tryz.prog a C w (.agg #[.int .i64 k,.int .i64 t,.int .i64 ea,.int .i64 eb,.string n1,.string ot]):=by
 unfold Oper.quietAt execOp
 simp only [ho,hx,Instr.loadAt,Instr.sureAddr,Sem.run_bind,Sem.run_pure,Result.andThen_ok,run_loadVar_mid w b off 29 (gg (k,t,ea,eb,n1,ot)) _ (fun j v hv=> hc j v hv) Tryz.underlying29 rfl xp]
 exact⟨rfl,rfl⟩
theorem eK.takeN {a:Option Addr} {h:List bQ} {W:World} (hE:eK a h W)(i:Nat):eK a (h.take i) W:=fun hn=> by
 obtain⟨b,off,e1,e2,e3⟩:=hE (by rintro rfl;simp at hn)
 exact⟨b,off,e1,e2,fun k e hk j u hj=> by
  rw [List.getElem?_take] at hk
  split at hk
  ·exact e3 k e hk j u hj
  ·cases hk⟩
theorem sW {e:bQ} (h:eC e=true):e.2.2.2.2.1.size≤1000000∧e.2.2.2.2.2.size≤1000000:=by
 obtain⟨k,t,a,b,nm,ot⟩:=e
 have h2:gy k t a b nm ot=true:=h
 unfold gy at h2
 rw [Bool.and_eq_true] at h2
 have:=of_decide_eq_true h2.1
 exact⟨this.2.2.1,this.2.2.2⟩
theorem qy {ae:Option Addr} {h:List bQ} {w:World} (ce:Nat)(nm:ByteArray)(hce:h.length≤ce)(hE:eK ae h w)(hl:o6 nm h):Calls Tryz.prog 164 #[.string nm,.slice ae h.length ce] w fun en w'=> en=.returned (.tuple #[.int .i64 (h.length:Int),.bool true,.int .i64 0])∧Below w.heap.size w w':=by
 have hnm:=(bI hl.nb).2
 have CN:=aa (bu nm w)
 rw [hl.nb] at CN
 have HE:=aa hE
 have HL:=aa hl
 have hlen:¬ (500:Int) < h.length:=by have:=hl.len;omega
 have hl5:=hl.len
 have HNM:=aa (show nm.size≤1000 by omega)
 clear hE hl hnm
 go_enter Tryz.func164,Tryz.ntmps164
 go_upto_block 6 with(go_at_call 48;refine CN.out.mono ?_;rintro e w1 ⟨rfl,hb1⟩;have HB1:=aa hb1;clear hb1)
 clear CN hlen
 go_wp2_with fail
 go_loopw [7] (fun ix wr=> ∃ i:Nat,i≤h.length∧ix=.int .i64 i∧Hid (Below w.heap.size w wr)) (fun ix _=> h.length - (intOf ix).toNat)
 case atStart=> exact⟨0,Nat.zero_le _,rfl,HB1.out⟩
 case round=>
  obtain⟨i,hi,rfl,HW⟩:=hrel
  by_cases hc:i < h.length
  ·have c1:(i:Int) < h.length:=by omega
   have c0:(0:Int)≤i:=by omega
   obtain⟨e,he⟩:∃ e,h[i]? =some e:=⟨h[i],bh hc⟩
   have ho:=HL.out.ok e (aJ he)
   have hsz:=sW ho
   obtain⟨b,off,eb9,hb0,hcs⟩:=HE.out (by rintro e9;rw [e9] at hc;simp at hc)
   obtain rfl:=eb9
   have hyc:=hcs i e he
   have HYC:Hid (∀ (s:aC wr) (j:Nat) (u:Value),(gg e)[j]? =some u→s.1.cell? ⟨b,off+i*6+j,none⟩=some u):=fun s j u hj=> ag (hyc j u hj) (ai HW.out s.2)
   have hsp:h=h.take i++e::h.drop (i+1):=by
    conv=> lhs;rw [← List.take_append_drop i h]
    rw [List.drop_eq_getElem_cons hc,(aB he).2]
   have hcr:=HL.out.leg _ _ _ hsp
   have htl:(h.take i).length=i:=by rw [List.length_take];omega
   obtain⟨k,t,ea,eb,n1,ot⟩:=e
   have CC:Hid (∀ s:aC wr,Calls Tryz.prog 50 #[.string nm,.slice (some ⟨b,off,none⟩) i ce,(.agg #[.int .i64 k,.int .i64 t,.int .i64 ea,.int .i64 eb,.string n1,.string ot])] s.1 fun en w'=> en=.returned (.bool true)∧∃ t:aC wr,w'=t.1):=fun s=> by
    have h9:=gY (a:=some ⟨b,off,none⟩) (h:=h.take i) (w:=s.1) ce nm ((HE.out.takeN i).step (ai HW.out s.2)) (by omega) (eU fun e9 h9=> HL.out.ok e9 (List.mem_of_mem_take h9)) HNM.out (k,t,ea,eb,n1,ot)
    rw [hcr,htl] at h9
    exact dy s h9
   have CK:Hid (∀ s:aC wr,Calls Tryz.prog 49 #[.agg #[.int .i64 k,.int .i64 t,.int .i64 ea,.int .i64 eb,.string n1,.string ot]] s.1 fun en w'=> en=.returned (.int .i64 0)∧∃ t:aC wr,w'=t.1):=fun s=> by
    have h9:=rJ k t ea eb n1 ot s.1 hsz.1 hsz.2
    rw [show gy k t ea eb n1 ot=true from ho] at h9
    exact dy s h9
   have fl:=fun s:aC wr=> ar hb0 (ai HW.out s.2).size
   have d1:i≤h.length:=hi
   have d2:i≤ce:=by omega
   have d3:(i:Int)≤ce:=by omega
   have d4:(i:Int)≤h.length:=by omega
   clear hcs hyc he hsp hcr htl ho hsz hc
   go_upto_region 8 with fail
   refine aF (by kernel_rfl) (by kernel_rfl) ?_
   repeat(first | (refine WQ.skip rfl rfl rfl rfl ?_;simp only [Act.put,aU,aV,aW,aX]) | (apply WQ.val;(exact rfl);(intro w9 hw9;obtain⟨s9,rfl⟩:=hw9;with_reducible refine nF k t ea eb n1 ot (.tmp 22) b (off+i*6) rfl rfl (HYC.out s9));simp only [Act.put,aU,aV,aW,aX]) | (apply WQ.valg;(exact rfl);(exact rfl);(exact rfl);(intro w9 hw9;obtain⟨s9,rfl⟩:=hw9;with_reducible refine nF k t ea eb n1 ot (.tmp 33) b (off+i*6) rfl rfl (HYC.out s9));simp only [Act.put,aU,aV,aW,aX]) | ((first | (apply WQ.val;(exact rfl)) | (apply WQ.valg;(exact rfl);(exact rfl);(exact rfl)));(intro w9 hw9;obtain⟨s9,rfl⟩:=hw9;simp [go_sem,fl,c0,c1,d1,d2,d3,d4];first | done | exact rfl | (with_reducible exact CK.out s9) | (with_reducible exact CC.out s9));simp only [Act.put,aU,aV,aW,aX]))
   refine WQ.fin fun W4 hbn=> ?_
   have HW2:=aa (ai HW.out hbn)
   clear fl CK CC HYC hbn HW d1 d2 d3 d4
   go_wp2_with fail
   exact⟨⟨i+1,by omega,by push_cast;rfl,HW2⟩,by simp [intOf];omega⟩
  ·obtain rfl:i=h.length:=by omega
   clear hc
   go_wp2_with fail
   exact bc (v:=.tuple #[.int .i64 (h.length:Int),.bool true,.int .i64 0]) (by simp only [results,Tryz.results164];go_simp) rfl ⟨rfl,HW.out⟩
theorem qA {ae:Option Addr} {h:List bQ} {w:World} (ce:Nat)(nm:ByteArray)(hce:h.length≤ce)(hE:eK ae h w)(hl:o6 nm h):Calls Tryz.prog 148 #[.string nm,.slice ae h.length ce] w fun en w'=> en=.returned (.int .i64 0)∧Below w.heap.size w w':=by
 have CL:=aa (qy ce nm hce hE hl)
 clear hE hl
 go_enter Tryz.func148,Tryz.ntmps148
 go_wp2_with (go_at_call 164;refine CL.out.mono ?_;rintro e w1 ⟨rfl,hb1⟩)
 exact aH (v:=.int .i64 0) rfl rfl rfl ⟨rfl,hb1⟩
end
section
open Sx Go.RowKit Mr
theorem pn {nm:ByteArray} {h:List bQ} (hl:fA nm h){i:Nat} {e:bQ} (he:h[i]? =some e):(i=0→e.1=1)∧(i≠0→e.1≠1):=by
 have hi:=(aB he).1
 have hsp:h=h.take i++e::h.drop (i+1):=by
  conv=> lhs;rw [← List.take_append_drop i h]
  rw [List.drop_eq_getElem_cons hi,(aB he).2]
 have hc:=hl _ _ _ hsp
 unfold iE at hc
 refine⟨fun h0=> ?_,fun h0=> ?_⟩
 ·subst h0
  simpa using hc
 ·have hne:h.take i≠[]:=fun c=> by
   have:=congrArg List.length c
   rw [List.length_take,List.length_nil] at this
   omega
  obtain⟨z,hz⟩:∃ z,(h.take i).getLast? =some z:=⟨_,List.getLast?_eq_some_getLast hne⟩
  rw [hz] at hc
  simp only [Bool.and_eq_true,Bool.not_eq_true',decide_eq_false_iff_not] at hc
  exact hc.1.1.1
theorem mp {nm:ByteArray} {h:List bQ} {e0:bQ} (hl:fA nm h)(h0:h[0]? =some e0):∀ i,1≤i→i≤h.length→(lifeOf nm (h.take i)).made=e0:=by
 intro i
 induction i with
 | zero=> omega
 | succ i ih=>
  intro _ hi
  obtain⟨e,he⟩:∃ e,h[i]? =some e:=⟨h[i],bh (by omega)⟩
  rw [List.take_add_one,he]
  show(lifeOf nm (h.take i++[e])).made=e0
  rw [bZ]
  show(if e.1=1 then e else(lifeOf nm (h.take i)).made)=e0
  by_cases c:i=0
  ·subst c
   rw [aG ((pn hl he).1 rfl)]
   rw [he] at h0
   exact bD h0
  ·rw [aA ((pn hl he).2 c)]
   exact ih (by omega) (by omega)
def lossA(A:Int)(x:LifeS):Int:=if x.tst=true then max 0 (1000 - x.tes*1000 / A)else 0
theorem qB {ae:Option Addr} {h:List bQ} {w:World} (ce:Nat)(nm:ByteArray)(hE:eK ae h w)(hl:o6 nm h)(hn:h≠[]):Calls Tryz.prog 149 #[.slice ae h.length ce] w fun en w'=> en=.returned (.int .i64 (scoreP (lifeOf nm h)))∧Below w.heap.size w w':=by
 have hlen:0 < h.length:=Nat.pos_of_ne_zero fun e=> hn (eF e)
 obtain⟨e0,he0⟩:∃ e0,h[0]? =some e0:=⟨h[0],bh hlen⟩
 obtain⟨b,off,eb9,hb0,hcs⟩:=hE hn
 subst eb9
 have hma:=ny h hl.leg hl.ok hn
 have hmf:=mp hl.leg he0 h.length hlen (bz _)
 rw [List.take_length] at hmf
 obtain⟨A,hA⟩:∃ A,e0.2.2.1=A:=⟨_,rfl⟩
 have hmA:(lifeOf nm h).made.2.2.1=A:=by rw [hmf];exact hA
 rw [hmA] at hma
 have gA:w.cell? ⟨b,off+2,none⟩=some (.int .i64 A):=by
  have:=hcs 0 e0 he0 2 (.int .i64 A) (by obtain⟨k,t,a,b,n1,ot⟩:=e0;subst hA;rfl)
  simpa using this
 have HC:=aa hcs
 have HL:=aa hl
 have HMA:=aa hmA
 have HLE:=aa (Nat.le_of_lt hlen)
 have hp0:(0:Int) < h.length:=by omega
 have hl5:=hl.len
 have hAb:=hma
 have HB0:=aa hb0
 have hS:scoreP (lifeOf nm h)=max 0 (1000 - lossA A (lifeOf nm h) - (lifeOf nm h).thr / (10*A) - (lifeOf nm h).hot / 1000 - (20*(lifeOf nm h).fau+5*(lifeOf nm h).mov)):=by
  unfold scoreP vz lossA
  rw [hmA]
  congr 1
  omega
 have HS:=aa hS
 clear hE hl hn he0 hcs hmf hA hmA hma hlen hS
 go_enter Tryz.func149,Tryz.ntmps149
 go_upto_block 3 with fail
 clear gA hb0 hp0
 go_wp2_with fail
 go_loopw [4,5,6,7,8] (fun lx tx hx rx ix wr=> ∃ i:Nat,i≤h.length∧ix=.int .i64 i∧lx=.int .i64 (lossA A (lifeOf nm (h.take i)))∧tx=.int .i64 (lifeOf nm (h.take i)).thr∧hx=.int .i64 (lifeOf nm (h.take i)).hot∧rx=.int .i64 (20*(lifeOf nm (h.take i)).fau+5*(lifeOf nm (h.take i)).mov)∧Hid (Below w.heap.size w wr)) (fun _ _ _ _ ix _=> h.length - (intOf ix).toNat)
 case atStart=> exact⟨0,Nat.zero_le _,rfl,rfl,rfl,rfl,rfl,Below.refl _ _⟩
 case round=>
  obtain⟨i,hi,rfl,rfl,rfl,rfl,rfl,HW⟩:=hrel
  by_cases hc:i < h.length
  ·have c1:(i:Int) < h.length:=by omega
   have c0:(0:Int)≤i:=by omega
   obtain⟨e,he⟩:∃ e,h[i]? =some e:=⟨h[i],bh hc⟩
   obtain⟨ho,-,hB,-,-,hadd⟩:=HL.out.at_ he
   have hB2:fE (lifeOf nm (h.take (i+1))):=((iO nm (h.take (i+1)) fun e2 he2=> HL.out.ok e2 (List.mem_of_mem_take he2)).lifeB (by rw [iG,List.length_take];omega)).1
   have hy:=HC.out i e he
   obtain⟨k,t,ea,eb,n1,ot⟩:=e
   have g0:wr.cell? ⟨b,off+i*6,none⟩=some (.int .i64 k):=ag (hy 0 _ rfl) HW.out
   have g2:wr.cell? ⟨b,off+i*6+2,none⟩=some (.int .i64 ea):=ag (hy 2 _ rfl) HW.out
   have g3:wr.cell? ⟨b,off+i*6+3,none⟩=some (.int .i64 eb):=ag (hy 3 _ rfl) HW.out
   have lb:=ar HB0.out HW.out.size
   rw [hadd] at hB2
   have HX:=aa hadd
   generalize lifeOf nm (h.take i)=x at*
   obtain⟨-,b1,b2,b3,b4⟩:=hB
   obtain⟨-,d1,d2,d3,d4⟩:=hB2
   clear hy he hadd hc
   by_cases k2:k=2
   ·subst k2
    have d5:0≤x.thr+ea∧x.thr+ea≤100000*1099511627776:=d1
    have d6:0≤x.hot+eb∧x.hot+eb≤100000*1099511627776:=d2
    have w1:IntKind.i64.wrap (x.thr+ea)=x.thr+ea:=cC _ ⟨by omega,by omega⟩
    have w2:IntKind.i64.wrap (x.hot+eb)=x.hot+eb:=cC _ ⟨by omega,by omega⟩
    clear d1 d2 d3 d4 b1 b2 b3 b4 d5 d6 ho
    go_wp2_with fail
    exact⟨⟨i+1,by omega,by push_cast;rfl,by rw [HX.out];rfl,by rw [HX.out];rfl,by rw [HX.out];rfl,by rw [HX.out];rfl,HW⟩,by simp [intOf];omega⟩
   ·by_cases k3:k=3
    ·subst k3
     have ht:=vA ho
     have q0:=jE (a:=ea*1000) (b:=A) (by omega) hAb.1
     have q1:Int.tdiv (ea*1000) A=ea*1000 / A:=Int.tdiv_eq_ediv_of_nonneg (by omega)
     have w1:IntKind.i64.wrap (ea*1000)=ea*1000:=cC _ ⟨by omega,by omega⟩
     have HZ:Hid (lossA A (x.add nm (3,t,ea,eb,n1,ot))=max 0 (1000 - ea*1000 / A)):=rfl
     generalize ea*1000 / A=e1 at*
     have w2:IntKind.i64.wrap e1=e1:=cC _ ⟨by omega,by omega⟩
     have w3:IntKind.i64.wrap (1000 - e1)=1000 - e1:=cC _ ⟨by omega,by omega⟩
     have hA:(A==0)=false:=by simp;omega
     have hA2:¬ A=0:=by omega
     clear d1 d2 d3 d4 b1 b2 b3 b4 ho k2
     go_wp2_with fail
     exact⟨⟨i+1,by omega,by push_cast;rfl,by rw [HX.out,HZ.out],by rw [HX.out];rfl,by rw [HX.out];rfl,by rw [HX.out];rfl,HW⟩,by simp [intOf];omega⟩
    ·by_cases k4:k=4
     ·subst k4
      have w1:IntKind.i64.wrap (20*x.fau+5*x.mov+20)=20*x.fau+5*x.mov+20:=cC _ ⟨by omega,by omega⟩
      have HZ:Hid (20*(x.add nm (4,t,ea,eb,n1,ot)).fau+5*(x.add nm (4,t,ea,eb,n1,ot)).mov=20*x.fau+5*x.mov+20):=by show 20*(x.fau+1)+5*x.mov=_;omega
      clear d1 d2 d3 d4 b1 b2 b3 b4 ho k2 k3
      go_wp2_with fail
      exact⟨⟨i+1,by omega,by push_cast;rfl,by rw [HX.out];rfl,by rw [HX.out];rfl,by rw [HX.out];rfl,by rw [HX.out,HZ.out],HW⟩,by simp [intOf];omega⟩
     ·by_cases k5:k=5∨k=6
      ·have w1:IntKind.i64.wrap (20*x.fau+5*x.mov+5)=20*x.fau+5*x.mov+5:=cC _ ⟨by omega,by omega⟩
       clear d1 d2 d3 d4 b1 b2 b3 b4 ho k2 k3 k4
       rcases k5 with rfl | rfl
       ·have HZ:Hid (20*(x.add nm (5,t,ea,eb,n1,ot)).fau+5*(x.add nm (5,t,ea,eb,n1,ot)).mov=20*x.fau+5*x.mov+5):=by show 20*x.fau+5*(x.mov+1)=_;omega
        go_wp2_with fail
        exact⟨⟨i+1,by omega,by push_cast;rfl,by rw [HX.out];rfl,by rw [HX.out];rfl,by rw [HX.out];rfl,by rw [HX.out,HZ.out],HW⟩,by simp [intOf];omega⟩
       ·have HZ:Hid (20*(x.add nm (6,t,ea,eb,n1,ot)).fau+5*(x.add nm (6,t,ea,eb,n1,ot)).mov=20*x.fau+5*x.mov+5):=by show 20*x.fau+5*(x.mov+1)=_;omega
        go_wp2_with fail
        exact⟨⟨i+1,by omega,by push_cast;rfl,by rw [HX.out];rfl,by rw [HX.out];rfl,by rw [HX.out];rfl,by rw [HX.out,HZ.out],HW⟩,by simp [intOf];omega⟩
      ·have k5a:¬ k=5:=fun c=> k5 (ax c)
       have k6a:¬ k=6:=fun c=> k5 (ay c)
       have z2:(k==2)=false:=by simpa using k2
       have z3:(k==3)=false:=by simpa using k3
       have z4:(k==4)=false:=by simpa using k4
       have z5:(k==5)=false:=by simpa using k5a
       have z6:(k==6)=false:=by simpa using k6a
       have HZ:Hid (lossA A (x.add nm (k,t,ea,eb,n1,ot))=lossA A x∧(x.add nm (k,t,ea,eb,n1,ot)).thr=x.thr∧(x.add nm (k,t,ea,eb,n1,ot)).hot=x.hot∧(x.add nm (k,t,ea,eb,n1,ot)).fau=x.fau∧(x.add nm (k,t,ea,eb,n1,ot)).mov=x.mov):=by
        refine⟨?_,aA k2,aA k2,aA k4,?_⟩
        ·unfold lossA
         rw [show(x.add nm (k,t,ea,eb,n1,ot)).tst=x.tst from aA k3,show(x.add nm (k,t,ea,eb,n1,ot)).tes=x.tes from aA k3]
        ·exact(aA k5a).trans (aA k6a)
       clear d1 d2 d3 d4 b1 b2 b3 b4 ho k2 k3 k4 k5 k5a k6a
       go_wp2_with fail
       exact⟨⟨i+1,by omega,by push_cast;rfl,by rw [HX.out,HZ.out.1],by rw [HX.out,HZ.out.2.1],by rw [HX.out,HZ.out.2.2.1],by rw [HX.out,HZ.out.2.2.2.1,HZ.out.2.2.2.2],HW⟩,by simp [intOf];omega⟩
  ·obtain rfl:i=h.length:=by omega
   rw [List.take_length]
   have hB:=((iO nm h HL.out.ok).lifeB (by rw [iG];omega)).1
   have hT:=o5 nm h HL.out.ok
   generalize hxl:lifeOf nm h=x at*
   have HXL:=aa hxl
   clear hxl
   obtain⟨-,b1,b2,b3,b4⟩:=hB
   have hL:0≤lossA A x∧lossA A x≤1000:=by
    unfold lossA
    split
    ·have:=(jE (a:=x.tes*1000) (b:=A) (by omega) hAb.1).1
     omega
    ·omega
   have q2:Int.tdiv x.thr (10*A)=x.thr / (10*A):=Int.tdiv_eq_ediv_of_nonneg b1.1
   have q3:Int.tdiv x.hot 1000=x.hot / 1000:=Int.tdiv_eq_ediv_of_nonneg b2.1
   have e2:=jE (a:=x.thr) (b:=10*A) b1.1 (by omega)
   have e3:=jE (a:=x.hot) (b:=1000) b2.1 (by omega)
   generalize lossA A x=lo at*
   generalize x.thr / (10*A)=f2 at*
   generalize x.hot / 1000=f3 at*
   have hrs:0≤20*x.fau+5*x.mov∧20*x.fau+5*x.mov≤3000000:=by omega
   generalize 20*x.fau+5*x.mov=rs at*
   have w2:IntKind.i64.wrap (10*A)=10*A:=cC _ ⟨by omega,by omega⟩
   have w3:IntKind.i64.wrap (1000 - lo)=1000 - lo:=cC _ ⟨by omega,by omega⟩
   have w4:IntKind.i64.wrap f2=f2:=cC _ ⟨by omega,by omega⟩
   have w5:IntKind.i64.wrap f3=f3:=cC _ ⟨by omega,by omega⟩
   have w6:IntKind.i64.wrap (1000 - lo - f2)=1000 - lo - f2:=cC _ ⟨by omega,by omega⟩
   have w7:IntKind.i64.wrap (1000 - lo - f2 - f3)=1000 - lo - f2 - f3:=cC _ ⟨by omega,by omega⟩
   have w8:IntKind.i64.wrap (1000 - lo - f2 - f3 - rs)=1000 - lo - f2 - f3 - rs:=cC _ ⟨by omega,by omega⟩
   have hM:(10*A==0)=false:=by simp;omega
   have hM2:¬ 10*A=0:=by omega
   clear b1 b2 b3 b4 hL e2 e3 hT hrs hc
   go_wp2_with fail
   exact bc (v:=.int .i64 (max 0 (1000 - lo - f2 - f3 - rs))) (by simp only [results,Tryz.results149];go_simp) rfl ⟨by rw [HXL.out,HS.out],HW.out⟩
end
section
open Sx Go.RowKit Mr
theorem qC {ae:Option Addr} {h:List bQ} {w:World} (ce:Nat)(nm:ByteArray)(hce:h.length≤ce)(hE:eK ae h w)(hl:o6 nm h)(hn:h≠[]):Calls Tryz.prog 125 #[.string nm,.slice ae h.length ce] w fun en w'=> en=.returned (.tuple #[.int .i64 (scoreP (lifeOf nm h)),.int .i64 0])∧Below w.heap.size w w':=by
 have CL:=aa (qA ce nm hce hE hl)
 have CS:Hid (∀ W,Below w.heap.size w W→Calls Tryz.prog 149 #[.slice ae h.length ce] W fun en w'=> en=.returned (.int .i64 (scoreP (lifeOf nm h)))∧Below W.heap.size W w'):=fun W hW=> qB ce nm (hE.step hW) hl hn
 have h0:h.length≠0:=fun e=> hn (eF e)
 have h1:¬ (h.length:Int)=0:=by omega
 have h2:((h.length:Int)==0)=false:=by simpa using h0
 clear hE hl hce h0
 go_enter Tryz.func125,Tryz.ntmps125
 go_wp2_with (first | (go_at_call 148;refine CL.out.mono ?_;rintro e w1 ⟨rfl,hb1⟩;have HB1:=aa hb1;clear hb1) | (go_at_call 149;refine(CS.out _ HB1.out).mono ?_;rintro e w2 ⟨rfl,hb2⟩;have HB2:=aa (ai HB1.out hb2);clear hb2))
 exact bc (v:=.tuple #[.int .i64 (scoreP (lifeOf nm h)),.int .i64 0]) (by simp only [results,Tryz.results125];go_simp) rfl ⟨rfl,HB2.out⟩
theorem po {ae:Option Addr} {h:List bQ} {w:World} (ce:Nat)(nm:ByteArray)(hce:h.length≤ce)(hE:eK ae h w)(hl:o6 nm h)(hn:h≠[]):Calls Tryz.prog 85 #[.string nm,.slice ae h.length ce] w fun en w'=> en=.returned (.tuple #[.int .i64 (gradeP (lifeOf nm h)),.int .i64 0])∧Below w.heap.size w w':=by
 have CS:=aa (qC ce nm hce hE hl hn)
 have CO:Hid (∀ W,Below w.heap.size w W→Calls Tryz.prog 112 #[.slice ae h.length ce] W fun en w'=> ∃ v,en=.returned v∧OS W (opnsOf h) v w'):=fun W hW=> kK ce (hE.step hW) (by have:=hl.len;omega)
 obtain⟨j,hj⟩:∃ j,h.length=j+1:=⟨h.length - 1,by have:h.length≠0:=fun e=> hn (eF e);omega⟩
 obtain⟨z,hz⟩:∃ z,h[j]? =some z:=⟨h[j]'(by omega),bh (by omega)⟩
 have hg:h.getLast? =some z:=by rw [List.getLast?_eq_getElem?,hj];exact hz
 have hscr:=(gm h hl.leg hg).2
 obtain⟨b,off,rfl,hb0,hcs⟩:=hE hn
 have hZ:w.cell? ⟨b,off+j*6,none⟩=some (.int .i64 z.1):=hcs j z hz 0 _ (by obtain⟨k,t,a,b,n1,ot⟩:=z;rfl)
 have HZ:=aa hZ
 have HB0:=aa hb0
 have hl5:=hl.len
 have hj1:(h.length:Int) - 1=(j:Int):=by omega
 have hj2:(j:Int) < h.length:=by omega
 have hj0:(0:Int)≤j:=by omega
 have hjw:IntKind.i64.wrap (j:Int)=(j:Int):=cC _ ⟨by omega,by omega⟩
 have hsn:0≤scoreP (lifeOf nm h):=by unfold scoreP;omega
 have hos:(lifeOf nm h).os=opnsOf h:=nO nm h
 unfold gradeP
 rw [hscr,hos]
 generalize scoreP (lifeOf nm h)=sc at*
 generalize z.1=zk at*
 clear hE hl hn hce hj hz hg hscr hcs hZ hb0 hos hl5
 by_cases h9:zk=9
 ·subst h9
  rw [bF rfl,aG rfl]
  go_enter Tryz.func85,Tryz.ntmps85
  go_wp2_with (go_at_call 125;refine CS.out.mono ?_;rintro e w1 ⟨rfl,hb1⟩;have HB1:=aa hb1;have gz:=ag HZ.out hb1;have lz:=ar HB0.out hb1.size;clear hb1)
  exact dP (v:=.tuple #[.int .i64 6,.int .i64 0]) rfl rfl rfl ⟨rfl,HB1.out⟩
 ·have h9b:(zk==9)=false:=by simpa using h9
  rw [bv h9,aA (by decide)]
  by_cases h0:(opnsOf h).length≠0
  ·rw [aG h0]
   have h1:((opnsOf h).length:Int) > 0:=by omega
   clear h9 h0
   go_enter Tryz.func85,Tryz.ntmps85
   go_wp2_with (first | (go_at_call 125;refine CS.out.mono ?_;rintro e w1 ⟨rfl,hb1⟩;have HB1:=aa hb1;have gz:=ag HZ.out hb1;have lz:=ar HB0.out hb1.size;clear hb1) | (go_at_call 112;refine(CO.out _ HB1.out).mono ?_;rintro e w2 ⟨v9,rfl,hO⟩;obtain⟨a9,c9,e9⟩:=aP hO.own;subst e9;have HB2:=aa (ai HB1.out hO.bel);clear hO))
   exact dP (v:=.tuple #[.int .i64 5,.int .i64 0]) rfl rfl rfl ⟨rfl,HB2.out⟩
  ·rw [aA h0]
   have h1:¬ ((opnsOf h).length:Int) > 0:=by omega
   unfold qf
   clear h9 h0
   by_cases g0:900≤sc
   ·rw [aG g0]
    have m0:¬ sc < 900:=by omega
    clear g0
    go_enter Tryz.func85,Tryz.ntmps85
    go_upto_block 9 with(first | (go_at_call 125;refine CS.out.mono ?_;rintro e w1 ⟨rfl,hb1⟩;have HB1:=aa hb1;have gz:=ag HZ.out hb1;have lz:=ar HB0.out hb1.size;clear hb1) | (go_at_call 112;refine(CO.out _ HB1.out).mono ?_;rintro e w2 ⟨v9,rfl,hO⟩;obtain⟨a9,c9,e9⟩:=aP hO.own;subst e9;have HB2:=aa (ai HB1.out hO.bel);clear hO))
    refine wp_loop_rounds 6 ?_
    rw [rounds_succ]
    go_wp2_with fail
    exact dP (v:=.tuple #[.int .i64 0,.int .i64 0]) rfl rfl rfl ⟨rfl,by first | exact HB2.out | exact HB2.out.alloc (by exact HB2.out.size) _ | (repeat(first | exact HB2.out | (refine aK ?_ _)))⟩
   ·skip
    by_cases g1:750≤sc
    ·rw [aA g0,aG g1]
     have k0:sc < 900:=by omega
     have m1:¬ sc < 750:=by omega
     clear g0 g1
     go_enter Tryz.func85,Tryz.ntmps85
     go_upto_block 9 with(first | (go_at_call 125;refine CS.out.mono ?_;rintro e w1 ⟨rfl,hb1⟩;have HB1:=aa hb1;have gz:=ag HZ.out hb1;have lz:=ar HB0.out hb1.size;clear hb1) | (go_at_call 112;refine(CO.out _ HB1.out).mono ?_;rintro e w2 ⟨v9,rfl,hO⟩;obtain⟨a9,c9,e9⟩:=aP hO.own;subst e9;have HB2:=aa (ai HB1.out hO.bel);clear hO))
     refine wp_loop_rounds 6 ?_
     rw [rounds_succ]
     go_wp2_with fail
     rw [rounds_succ]
     go_wp2_with fail
     exact dP (v:=.tuple #[.int .i64 1,.int .i64 0]) rfl rfl rfl ⟨rfl,by first | exact HB2.out | exact HB2.out.alloc (by exact HB2.out.size) _ | (repeat(first | exact HB2.out | (refine aK ?_ _)))⟩
    ·skip
     by_cases g2:600≤sc
     ·rw [aA g0,aA g1,aG g2]
      have k0:sc < 900:=by omega
      have k1:sc < 750:=by omega
      have m2:¬ sc < 600:=by omega
      clear g0 g1 g2
      go_enter Tryz.func85,Tryz.ntmps85
      go_upto_block 9 with(first | (go_at_call 125;refine CS.out.mono ?_;rintro e w1 ⟨rfl,hb1⟩;have HB1:=aa hb1;have gz:=ag HZ.out hb1;have lz:=ar HB0.out hb1.size;clear hb1) | (go_at_call 112;refine(CO.out _ HB1.out).mono ?_;rintro e w2 ⟨v9,rfl,hO⟩;obtain⟨a9,c9,e9⟩:=aP hO.own;subst e9;have HB2:=aa (ai HB1.out hO.bel);clear hO))
      refine wp_loop_rounds 6 ?_
      rw [rounds_succ]
      go_wp2_with fail
      rw [rounds_succ]
      go_wp2_with fail
      rw [rounds_succ]
      go_wp2_with fail
      exact dP (v:=.tuple #[.int .i64 2,.int .i64 0]) rfl rfl rfl ⟨rfl,by first | exact HB2.out | exact HB2.out.alloc (by exact HB2.out.size) _ | (repeat(first | exact HB2.out | (refine aK ?_ _)))⟩
     ·skip
      by_cases g3:400≤sc
      ·rw [aA g0,aA g1,aA g2,aG g3]
       have k0:sc < 900:=by omega
       have k1:sc < 750:=by omega
       have k2:sc < 600:=by omega
       have m3:¬ sc < 400:=by omega
       clear g0 g1 g2 g3
       go_enter Tryz.func85,Tryz.ntmps85
       go_upto_block 9 with(first | (go_at_call 125;refine CS.out.mono ?_;rintro e w1 ⟨rfl,hb1⟩;have HB1:=aa hb1;have gz:=ag HZ.out hb1;have lz:=ar HB0.out hb1.size;clear hb1) | (go_at_call 112;refine(CO.out _ HB1.out).mono ?_;rintro e w2 ⟨v9,rfl,hO⟩;obtain⟨a9,c9,e9⟩:=aP hO.own;subst e9;have HB2:=aa (ai HB1.out hO.bel);clear hO))
       refine wp_loop_rounds 6 ?_
       rw [rounds_succ]
       go_wp2_with fail
       rw [rounds_succ]
       go_wp2_with fail
       rw [rounds_succ]
       go_wp2_with fail
       rw [rounds_succ]
       go_wp2_with fail
       exact dP (v:=.tuple #[.int .i64 3,.int .i64 0]) rfl rfl rfl ⟨rfl,by first | exact HB2.out | exact HB2.out.alloc (by exact HB2.out.size) _ | (repeat(first | exact HB2.out | (refine aK ?_ _)))⟩
      ·skip
       rw [aA g0,aA g1,aA g2,aA g3]
       have k0:sc < 900:=by omega
       have k1:sc < 750:=by omega
       have k2:sc < 600:=by omega
       have k3:sc < 400:=by omega
       have m4:¬ sc < 0:=by omega
       clear g0 g1 g2 g3
       go_enter Tryz.func85,Tryz.ntmps85
       go_upto_block 9 with(first | (go_at_call 125;refine CS.out.mono ?_;rintro e w1 ⟨rfl,hb1⟩;have HB1:=aa hb1;have gz:=ag HZ.out hb1;have lz:=ar HB0.out hb1.size;clear hb1) | (go_at_call 112;refine(CO.out _ HB1.out).mono ?_;rintro e w2 ⟨v9,rfl,hO⟩;obtain⟨a9,c9,e9⟩:=aP hO.own;subst e9;have HB2:=aa (ai HB1.out hO.bel);clear hO))
       refine wp_loop_rounds 6 ?_
       rw [rounds_succ]
       go_wp2_with fail
       rw [rounds_succ]
       go_wp2_with fail
       rw [rounds_succ]
       go_wp2_with fail
       rw [rounds_succ]
       go_wp2_with fail
       rw [rounds_succ]
       go_wp2_with fail
       exact dP (v:=.tuple #[.int .i64 4,.int .i64 0]) rfl rfl rfl ⟨rfl,by first | exact HB2.out | exact HB2.out.alloc (by exact HB2.out.size) _ | (repeat(first | exact HB2.out | (refine aK ?_ _)))⟩
end
section
open Sx Go.RowKit Mr
theorem xF {W:World} {B E sz n c:Nat} {a:Option Addr} {xs:List Value} (h:W.ownsRow B E sz (.slice a n c) n xs):n≤c:=by
 obtain⟨-,h2⟩:=h
 rcases h2 with⟨e1,e2⟩ | ⟨g,cap,cur,q1,q2,q3,q4,-⟩
 ·omega
 ·cases q1
  exact q4
theorem qD {w0 w:World} {X:Nat→Prop} {Q:Nat} {vb vP:Value} {a:RegA} (h:bC w0 X Q vb a vP w)(nm:ByteArray)(hl:a.ps.length≤1000000)(hf:¬ findA nm a < a.ps.length):Calls Tryz.prog 34 #[.pointer (some ⟨Q,0,none⟩),.string nm] w fun en w'=> en=.returned (.tuple #[.int .i64 0,.int .i64 5])∧Below w.heap.size w w':=by
 have CF:=aa (cH h nm hl)
 rw [im hf] at CF
 clear h hf
 go_enter Tryz.func34,Tryz.ntmps34
 go_wp2_with (go_at_call 83;refine CF.out.mono ?_;rintro e w1 ⟨rfl,hb1⟩;have HB1:=aa hb1;clear hb1)
 exact dP (v:=.tuple #[.int .i64 0,.int .i64 5]) rfl rfl rfl ⟨rfl,HB1.out⟩
theorem pp {w0 w:World} {X:Nat→Prop} {Q:Nat} {vb vP:Value} {a:RegA} (h:bC w0 X Q vb a vP w)(ho:dc a)(p:ByteArray×List bR)(hp:a.ps[findA p.1 a]? =some p):Calls Tryz.prog 34 #[.pointer (some ⟨Q,0,none⟩),.string p.1] w fun en w'=> en=.returned (.tuple #[.int .i64 (gradeP (lf p)),.int .i64 0])∧Below w.heap.size w w':=by
 have hnp:=ho.np
 have CF:=aa (cH h p.1 (by omega))
 have hlt:=(aB hp).1
 rw [dM hlt] at CF
 obtain⟨pa,pc,rfl⟩:=h.pslice
 have H:=aa h
 have HP:=aa hp
 have hm:=aJ hp
 obtain⟨p1,p2,p3,p4⟩:=ho.p p hm
 have CH:Hid (∀ (W:World) (a9:Option Addr) (c9:Nat),p.2.length≤c9→eK a9 (br p.2) W→Calls Tryz.prog 85 #[.string p.1,.slice a9 p.2.length c9] W fun en w'=> en=.returned (.tuple #[.int .i64 (gradeP (lf p)),.int .i64 0])∧Below W.heap.size W w'):=fun W a9 c9 hc hE=> by
  have h9:=po (w:=W) c9 p.1 (by rw [dd];exact hc) hE (ho.legA hm) (qg (ho.ne p hm))
  rw [dd] at h9
  exact h9
 clear h hp ho p2 p3 p4 hm
 generalize findA p.1 a=k at*
 have k0:(0:Int)≤k:=by omega
 have k1:(k:Int) < a.ps.length:=by omega
 go_enter Tryz.func34,Tryz.ntmps34
 go_upto_region 4 with(go_at_call 83;refine CF.out.mono ?_;rintro e w1 ⟨rfl,hb1⟩;have HB1:=aa hb1;clear hb1)
 obtain⟨b,rfl,lb,q1,ae,ce,q2,q3⟩:=(H.out.step HB1.out).pack HP.out
 have c10:=(H.out.step HB1.out).cell10
 have cl:=ak (H.out.step HB1.out).blk
 have CE:Hid (∀ W,Below w1.heap.size w1 W→Calls Tryz.prog 51 #[.slice ae p.2.length ce] W fun en w'=> ∃ v',en=.returned v'∧w'.ownsRow W.heap.size 29 6 v' p.2.length (eh (br p.2))∧Below W.heap.size W w'):=fun W hW=> dI ce (q3.keep (fun _ h=> h) hW.size (fun k _ hk=> hW.block k hk)).at_ (by omega)
 clear q3 q1 CF
 go_wp2_with (first | (go_at_call 51;refine(CE.out _ (Below.refl _ _)).mono ?_;rintro e w2 ⟨v9,rfl,ho9,hb2⟩;obtain⟨a9,c9,e9⟩:=aP ho9;subst e9;have hcp:=xF ho9;have HB2:=aa (ai HB1.out hb2);have CG:=aa (CH.out _ a9 c9 hcp (by have hl9:=dd p.2;rw [← hl9] at ho9;exact mh ho9));clear ho9 hb2) | (go_at_call 85;refine CG.out.mono ?_;rintro e w3 ⟨rfl,hb3⟩;have HB3:=aa (ai HB2.out hb3);clear hb3))
 exact bc (v:=.tuple #[.int .i64 (gradeP (lf p)),.int .i64 0]) (by simp only [results,Tryz.results34];go_simp) rfl ⟨rfl,HB3.out⟩
theorem qE {w0 w:World} {X:Nat→Prop} {Q:Nat} {vb vP:Value} {a:RegA} (h:bC w0 X Q vb a vP w)(m:ByteArray)(hs:m.size≤1000000)(h2:modB m=false):Calls Tryz.prog 31 #[.pointer (some ⟨Q,0,none⟩),.string m] w fun en w'=> en=.returned (.tuple #[.string ⟨#[]⟩,.int .i64 2])∧Below w.heap.size w w':=by
 have CM:=aa (bS m w hs)
 rw [h2] at CM
 clear h h2
 go_enter Tryz.func31,Tryz.ntmps31
 go_wp2_with (go_at_call 81;refine CM.out.mono ?_;rintro e w1 ⟨rfl,hb1⟩;have HB1:=aa hb1;clear hb1)
 exact bc (v:=.tuple #[.string ⟨#[]⟩,.int .i64 2]) (by simp only [results,Tryz.results31];go_simp) rfl ⟨rfl,HB1.out⟩
theorem sX {w0 w:World} {X:Nat→Prop} {Q:Nat} {vb vP:Value} {a:RegA} (h:bC w0 X Q vb a vP w)(ho:ji a)(m:ByteArray)(hs:m.size≤1000000)(h2:modB m=true)(hf:¬ whereA m a < a.ps.length):Calls Tryz.prog 31 #[.pointer (some ⟨Q,0,none⟩),.string m] w fun en w'=> en=.returned (.tuple #[.string ⟨#[]⟩,.int .i64 5])∧Below w.heap.size w w':=by
 have CM:=aa (bS m w hs)
 rw [h2] at CM
 have CW:Hid (∀ W,Below w.heap.size w W→Calls Tryz.prog 82 #[.pointer (some ⟨Q,0,none⟩),.string m] W fun e w'=> e=.returned (.int .i64 (zb (whereA m a) a.ps.length))∧Below W.heap.size W w'):=fun W hW=> dt (h.step hW) ho m
 rw [im hf] at CW
 clear h h2 hf ho
 go_enter Tryz.func31,Tryz.ntmps31
 go_wp2_with (first | (go_at_call 81;refine CM.out.mono ?_;rintro e w1 ⟨rfl,hb1⟩;have HB1:=aa hb1;clear hb1) | (go_at_call 82;refine(CW.out _ HB1.out).mono ?_;rintro e w2 ⟨rfl,hb2⟩;have HB2:=aa (ai HB1.out hb2);clear hb2))
 exact bc (v:=.tuple #[.string ⟨#[]⟩,.int .i64 5]) (by simp only [results,Tryz.results31];go_simp) rfl ⟨rfl,HB2.out⟩
theorem qF {w0 w:World} {X:Nat→Prop} {Q:Nat} {vb vP:Value} {a:RegA} (h:bC w0 X Q vb a vP w)(ho:ji a)(m:ByteArray)(hs:m.size≤1000000)(h2:modB m=true)(p:ByteArray×List bR)(hp:a.ps[whereA m a]? =some p):Calls Tryz.prog 31 #[.pointer (some ⟨Q,0,none⟩),.string m] w fun en w'=> en=.returned (.tuple #[.string p.1,.int .i64 0])∧Below w.heap.size w w':=by
 have CM:=aa (bS m w hs)
 rw [h2] at CM
 have CW:Hid (∀ W,Below w.heap.size w W→Calls Tryz.prog 82 #[.pointer (some ⟨Q,0,none⟩),.string m] W fun e w'=> e=.returned (.int .i64 (zb (whereA m a) a.ps.length))∧Below W.heap.size W w'):=fun W hW=> dt (h.step hW) ho m
 have hlt:=(aB hp).1
 have hnp:=ho.np
 rw [dM hlt] at CW
 obtain⟨pa,pc,rfl⟩:=h.pslice
 have H:=aa h
 have HP:=aa hp
 clear h h2 hp ho
 generalize whereA m a=k at*
 have k0:(0:Int)≤k:=by omega
 have k1:(k:Int) < a.ps.length:=by omega
 go_enter Tryz.func31,Tryz.ntmps31
 go_upto_region 7 with(first | (go_at_call 81;refine CM.out.mono ?_;rintro e w1 ⟨rfl,hb1⟩;have HB1:=aa hb1;clear hb1) | (go_at_call 82;refine(CW.out _ HB1.out).mono ?_;rintro e w2 ⟨rfl,hb2⟩;have HB2:=aa (ai HB1.out hb2);clear hb2))
 obtain⟨b,rfl,lb,q1,ae,ce,q2,q3⟩:=(H.out.step HB2.out).pack HP.out
 have c10:=(H.out.step HB2.out).cell10
 have cl:=ak (H.out.step HB2.out).blk
 clear q3 q2
 go_wp2_with fail
 exact bc (v:=.tuple #[.string p.1,.int .i64 0]) (by simp only [results,Tryz.results31];go_simp) rfl ⟨rfl,HB2.out⟩
end
section
open Sx Go.RowKit Mr
def fh(W w2:World):Prop:=∀ (b:Nat) (cs:Array Value) (T:TypeId) (fr:Nat×Nat),W.heap[b]? =some (.cells cs T fr)→T≠135→w2.heap[b]? =some (.cells cs T fr)
theorem fh.pads {v:Value} {ns:List Nat} {W w2:World} (hk:fh W w2)(h:mK v ns W):mK v ns w2:=by
 obtain⟨a,c,h1,h2⟩:=h
 refine⟨a,c,h1,fun hn=> ?_⟩
 obtain⟨b,off,cs,fr,e1,e2,e3⟩:=h2 hn
 exact⟨b,off,cs,fr,e1,hk b cs _ fr e2 (by decide),e3⟩
theorem fh.books {a:Option Addr} {bks:List Bk} {W w2:World} (hk:fh W w2)(h:nX a bks W):nX a bks w2:=fun hn=> by
 obtain⟨b,off,cs,fr,e1,e2,e3⟩:=h hn
 refine⟨b,off,cs,fr,e1,hk b cs _ fr e2 (by decide),fun k bk hk2=> ?_⟩
 obtain⟨q1,vp,q2,q3⟩:=e3 k bk hk2
 exact⟨q1,vp,q2,hk.pads q3⟩
theorem fh.own {B E sz n:Nat} {v:Value} {xs:List Value} {W w2:World} (hk:fh W w2)(h:W.ownsRow B E sz v n xs)(hE:E≠135):w2.ownsRow B E sz v n xs:=by
 obtain⟨h1,h2⟩:=h
 refine⟨h1,?_⟩
 rcases h2 with h2 | ⟨g,cap,cur,q1,q2,q3,q4⟩
 ·exact ax h2
 ·exact ay ⟨g,cap,cur,q1,q2,hk g _ _ _ q3 hE,q4⟩
theorem bP.keepQ {Q:Nat} {cs:Array Value} {fr:Nat×Nat} {W w2:World} (h:bP (fun k=> k=Q) W w2)(hq:W.heap[Q]? =some (.cells cs 135 fr)):fh W w2:=fun b cs2 T fr2 e hT=> by
 refine(h.block b (ak e) (fun c=> ?_)).trans e
 have c2:b=Q:=c
 rw [c2,hq] at e
 cases e
 exact hT rfl
theorem bj.keepQ {B R:Nat} {g:RegS} {vb vp:Value} {W w2:World} (h:bj B R g vb vp W)(hk:fh W w2):bj B R g vb vp w2:=by
 obtain⟨h1,h2,⟨ab,cb,h3,h4⟩,h5,h6,h7,h8,h9⟩:=h
 have hs:∀ {v:Value} {l:List ByteArray},bH v l W→bH v l w2:=fun h=> h.keep fun b cs fr e=> (hk b cs _ fr e (by decide)).trans e.symm
 exact⟨hk R _ _ _ h1 (by decide),h2,⟨ab,cb,h3,hk.books h4⟩,hk.own h5 (by decide),fun q hq=> ⟨hs (h6 q hq).1,hs (h6 q hq).2.1,(h6 q hq).2.2⟩,fun q hq=> hk.own (h7 q hq) (by decide),h8,h9⟩
structure Tw(w0:World)(B R Q:Nat)(vb vb2:Value)(a a2:RegA)(g:RegS)(vp vP:Value)(X:Nat→Prop)(W:World):Prop where
 rv:bW B R vb a g vp W
 rf:bC w0 X Q vb2 a2 vP W
 hB:w0.heap.size≤B∧B≤Q
 xs:∀ k,X k→k < W.heap.size
 ap:∀ k,uX R g vp k→¬ X k∧k≠Q
def ep(w0:World)(B R Q:Nat)(vb vb2:Value)(a a2:RegA)(W:World):Prop:=∃ g vp vP X,Tw w0 B R Q vb vb2 a a2 g vp vP X W
section
variable {w0 W w2:World} {B R Q:Nat} {vb vb2 vp vP:Value} {a a2 a':RegA} {g:RegS} {X:Nat→Prop}
theorem Tw.size(h:Tw w0 B R Q vb vb2 a a2 g vp vP X W):B≤W.heap.size:=Nat.le_trans h.rv.ra.hB (Nat.le_of_lt (ak h.rv.ra.reg))
theorem Tw.step(h:Tw w0 B R Q vb vb2 a a2 g vp vP X W)(hb:Below W.heap.size W w2):Tw w0 B R Q vb vb2 a a2 g vp vP X w2:=
 ⟨h.rv.step hb,h.rf.step hb,h.hB,fun k hk=> ar (h.xs k hk) hb.size,h.ap⟩
theorem Tw.prog(h:Tw w0 B R Q vb vb2 a a2 g vp vP X W)(hN:gh B R vb a' g vp W w2):ep w0 B R Q vb vb2 a' a2 w2∧Below B W w2:=by
 obtain⟨g',vp',h1,h2⟩:=hN
 have hb:Below B W w2:=h2.below h.rv.ra h.size
 refine⟨⟨g',vp',vP,X,h1,h.rf.other (h.rf.bel.trans (hb.mono h.hB.1)) hb.size (fun k hk hl=> h2.kp.block k hl fun c=> ?_),h.hB,fun k hk=> ar (h.xs k hk) hb.size,fun k hk=> ?_⟩,hb⟩
 ·rcases hk with hk | hk
  ·exact(h.ap k c).1 hk
  ·exact(h.ap k c).2 hk
 ·rcases h2.own k hk with c | c
  ·exact h.ap k c
  ·refine⟨fun hX=> ?_,fun e=> ?_⟩
   ·have:=h.xs k hX;omega
   ·have:=ak h.rf.blk;omega
theorem bC.narrow(h:bC w0 X Q vb2 a2 vP W):bC w0 (fun k=> X k∧k < W.heap.size) Q vb2 a2 vP W:=by
 obtain⟨h1,h2,h3,h4,h5,⟨pa,pc,e1,h6⟩,h7⟩:=h
 refine⟨h1,h2,h3,fun c=> h4 c.1,h5,⟨pa,pc,e1,fun hn=> ?_⟩,h7⟩
 obtain⟨b,q1,q2,q3,q4⟩:=h6 hn
 refine⟨b,q1,⟨q2,q3⟩,q3,fun k p hk=> ?_⟩
 obtain⟨r1,ae,ce,r2,r3⟩:=q4 k p hk
 refine⟨r1,ae,ce,r2,fun hn2=> ?_⟩
 obtain⟨b2,s1,s2,s3,s4⟩:=r3 hn2
 exact⟨b2,s1,⟨s2,s3⟩,s3,s4⟩
theorem Tw.ref(h:Tw w0 B R Q vb vb2 a a2 g vp vP X W)(hN:eZ w0 X Q vb2 a' W w2):ep w0 B R Q vb vb2 a a' w2∧Below B W w2:=by
 obtain⟨vP',h1,h2⟩:=hN
 have hb:Below B W w2:=⟨h2.os,h2.tape,h2.output,h2.size,fun k hk=> h2.block k (ar hk h.size) (fun c=> by have c2:k=Q:=c;have:=h.hB.2;omega)⟩
 refine⟨⟨g,vp,vP',_,⟨h.rv.ra.keepQ (h2.keepQ h.rf.blk),h.rv.abs,h.rv.lf⟩,h1.narrow,h.hB,fun k hk=> hk.2,fun k hk=> ⟨fun c=> ?_,(h.ap k hk).2⟩⟩,hb⟩
 rcases c.1 with c1 | c1
 ·exact(h.ap k hk).1 c1
 ·have:=(h.rv.ra.ownT hk).2.1;omega
theorem ep.step(h:ep w0 B R Q vb vb2 a a2 W)(hb:Below W.heap.size W w2):ep w0 B R Q vb vb2 a a2 w2:=by
 obtain⟨g,vp,vP,X,h⟩:=h
 exact⟨g,vp,vP,X,h.step hb⟩
end
end
section
open Sx Go.RowKit Mr
structure Dd where
 do_:Nat
 by_:Int
 nm:ByteArray
 ev:bQ
 at_:Int
 md:ByteArray
 bt:ByteArray
 t0:Int
 t1:Int
 rs:ByteArray
def mq(d:Dd):List Value:=[.int .u8 (d.do_:Int),.int .i64 d.by_,.string d.nm,.int .i64 d.ev.1,.int .i64 d.ev.2.1,.int .i64 d.ev.2.2.1,.int .i64 d.ev.2.2.2.1,.string d.ev.2.2.2.2.1,.string d.ev.2.2.2.2.2,
 .int .i64 d.at_,.string d.md,.string d.bt,.int .i64 d.t0,.int .i64 d.t1,.string d.rs]
theorem xG(d:Dd):(mq d).length=15:=rfl
structure vF(d:Dd):Prop where
 nm:d.nm.size≤100
 md:d.md.size≤100
 bt:d.bt.size≤100
 rs:d.rs.size≤100
 e1:d.ev.2.2.2.2.1.size≤100
 e2:d.ev.2.2.2.2.2.size≤100
def rK(a:RegA)(d:Dd):RegA:=if d.do_ % 3=0 then(bi a d.by_ d.nm d.ev).2 else if d.do_ % 3=1 then(moveA a d.by_ d.at_ d.md d.nm).2 else(aE a d.by_ d.at_ d.bt d.t0 d.t1 d.rs).2.2
theorem vG {a:RegA} (ho:dc a)(d:Dd):dc (rK a d):=by
 unfold rK
 split
 ·exact sO ho _ _ _
 ·split
  ·exact vC ho _ _ _ _
  ·exact qj ho _ _ _ _ _ _
def HdI(a:RegA):Prop:=∀ p∈a.ps,∀ y∈p.2,y.2.2.2.1 < P31
theorem vH(pt:Nat)(bks:List Bk)(head:Nat)(e:bQ)(b m:Nat):(fg pt bks head e b m).2.2.2.1 < P31:=fw (by decide) _ _
theorem HdI.put' {a:RegA} (h:HdI a)(n i:Nat)(e:bQ):HdI (putA a n i e):=by
 unfold putA
 cases hp:a.ps[i]? with
 | none=> exact h
 | some p=>
  intro q hq y hy
  have hq2:q∈a.ps.set i (lT a n e p):=hq
  rcases List.mem_or_eq_of_mem_set hq2 with hq | rfl
  ·exact h q hq y hy
  ·unfold lT at hy
   rcases List.mem_append.1 hy with hy | hy
   ·exact h p (aJ hp) y hy
   ·obtain rfl:=List.mem_singleton.1 hy
    exact vH _ _ _ _ _ _
theorem HdI.put:vD (fun _=> True) HdI:=fun a n i e _ _ h _ _ _ _ _ _=> h.put' n i e
theorem HdI.addP {a:RegA} (h:HdI a)(nm:ByteArray):HdI { a with ps:=a.ps++[(nm,[])] }:=fun q hq y hy=> by
 rcases List.mem_append.1 hq with hq | hq
 ·exact h q hq y hy
 ·obtain rfl:=List.mem_singleton.1 hq
  cases hy
theorem HdI.enter {a:RegA} (ho:dc a)(h:HdI a)(b:Int)(nm:ByteArray)(e:bQ):HdI (bi a b nm e).2:=by
 by_cases hk:e.1=1
 ·rcases qm ho b nm e hk with⟨c,-,q⟩ | ⟨n,-,-,-,-,-,-,-,-,-,q⟩
  ·rw [q];exact h
  ·rw [q];exact(h.addP nm).put' _ _ _
 ·exact o8 HdI.put ho h b nm e trivial hk
theorem HdI.do_ {a:RegA} (ho:dc a)(h:HdI a)(d:Dd):HdI (rK a d):=by
 unfold rK
 split
 ·exact h.enter ho _ _ _
 ·split
  ·exact qo HdI.put ho h _ _ _ _ trivial fun _=> trivial
  ·exact oq HdI.put ho h _ _ _ _ _ _ trivial
theorem HdI.u64 {a:RegA} (h:HdI a){p:ByteArray×List bR} (hp:p∈a.ps):∀ y∈p.2,y.2.2.2.1 < 18446744073709551616:=fun y hy=> by have:=h p hp y hy;unfold P31 at this;omega
end
end Go.Proofs.YtmpilgkfbibhlaaGreatDoor
