/-
 G9T
-/
import Derived.Test.YtmpilgkfbibhlaaGreatDoorG8T
set_option linter.unusedSimpArgs false
set_option linter.unusedVariables false
set_option maxRecDepth 100000
set_option maxHeartbeats 20000000
namespace Go.Proofs.YtmpilgkfbibhlaaGreatDoor
section
open Go.RowKit
def cG(n m:Nat):List Nat:=(List.range m).map fun j=> n / 256 ^ (m - 1 - j) % 256
theorem dq(n m:Nat):(cG n m).length=m:=by simp [cG]
theorem yF(n:Nat):cG n 8=b8 n:=by simp [cG,b8,List.range_succ]
theorem uB {n m j:Nat} (h:j < m):(dw (cG n m))[j]? =some (.int .u8 ((n / 256 ^ (m - 1 - j) % 256:Nat):Int)):=by
 unfold dw cG
 rw [bX,bX,List.getElem?_range h]
 rfl
def wU(B n m k:Nat)(W:World):Prop:=∃ cs:Array Value,W.heap[B]? =some (.cells cs 5 (0,0))∧cs.size=m∧(∀ j,j < m→∃ x:Int,cs[j]? =some (.int .u8 x))∧∀ j,m - k≤j→j < m→cs[j]? =(dw (cG n m))[j]?
theorem wU.cell {B n m k:Nat} {W:World} (h:wU B n m k W){j:Nat} (hj:j < m):(∃ x:Int,W.cell? ⟨B,j,none⟩=some (.int .u8 x))∧W.frozen? ⟨B,j,none⟩=false:=by
 obtain⟨cs,h1,h2,h3,h4⟩:=h
 obtain⟨x,hx⟩:=h3 j hj
 exact⟨⟨x,ah h1 hx⟩,aR h1⟩
theorem wU.next {B n m k:Nat} {W:World} (h:wU B n m k W)(hk:k < m):wU B n m (k+1) (W.setCell ⟨B,m - 1 - k,none⟩ (.int .u8 ((n / 256 ^ k % 256:Nat):Int))):=by
 obtain⟨cs,h1,h2,h3,h4⟩:=h
 refine⟨_,bn h1,by simpa using h2,fun j hj=> ?_,fun j hj hjm=> ?_⟩
 ·rw [Array.getElem?_setIfInBounds]
  by_cases c:m - 1 - k=j
  ·rw [aG c,aG (by omega)];exact⟨_,rfl⟩
  ·rw [aA c];exact h3 j hj
 ·rw [Array.getElem?_setIfInBounds]
  by_cases c:m - 1 - k=j
  ·rw [aG c,aG (by omega),uB hjm,show m - 1 - j=k by omega]
  ·rw [aA c];exact h4 j (by omega) hjm
theorem wU.done {B n m:Nat} {W:World} (h:wU B n m m W):W.heap[B]? =some (.cells (dw (cG n m)).toArray 5 (0,0)):=by
 obtain⟨cs,h1,h2,h3,h4⟩:=h
 have e:cs=(dw (cG n m)).toArray:=by
  refine Array.ext_getElem? fun j=> ?_
  have e:(dw (cG n m)).toArray[j]? =(dw (cG n m))[j]?:=by simp
  rw [e]
  by_cases hj:j < m
  ·exact h4 j (by omega) hj
  ·rw [Array.getElem?_eq_none (by omega),List.getElem?_eq_none (by simp [dw,dq];omega)]
 rw [← e]
 exact h1
theorem wV(K j:Nat)(hj:j < K):(madeCells (Value.int .u8 0).cells K)[j]? =some (.int .u8 0):=by
 have hc1:(Value.int .u8 0).cells=#[.int .u8 0]:=rfl
 unfold madeCells
 rw [hc1,Array.getElem?_map,Array.getElem?_range,aG (by simpa using hj)]
 simp [Nat.mod_one]
theorem nW(K:Nat):(madeCells (Value.int .u8 0).cells K).size=K:=by
 have hc1:(Value.int .u8 0).cells=#[.int .u8 0]:=rfl
 unfold madeCells
 rw [hc1]
 simp
theorem rl(n m:Nat)(hn:n < 18446744073709551616)(h1:1≤m)(hm:m≤8)(w:World):
  Calls Tryz.prog 141 #[.int .u64 n,.int .i64 m] w fun e w'=> e=.returned (.slice (some ⟨w.heap.size,0,none⟩) m m)∧w'.heap[w.heap.size]? =some (.cells (dw (cG n m)).toArray 5 (0,0))∧Below w.heap.size w w':=by
 obtain⟨i0,hi0,hz0,hz1,hz2⟩:=info_parts rc
 have hmk:=run_make (P:=Tryz.prog) w 88 5 i0 (.int .u8 0) Tryz.underlying88 hi0 hz0 .i64 .i64 (m:Int) (m:Int) (by omega) (Int.le_refl _) (by rw [hz2];omega) (by omega)
 rw [hz1] at hmk
 simp only [Int.toNat_natCast,Nat.mul_one] at hmk
 have hB0:Hid (wU w.heap.size n m 0 (w.alloc (.cells (madeCells (Value.int .u8 0).cells m) 5))):=⟨_,au w _,nW m,fun j hj=> ⟨0,wV m j hj⟩,fun j hj hjm=> by omega⟩
 generalize madeCells (Value.int .u8 0).cells m=C at*
 clear hz0 hz1 hz2 hi0
 go_enter Tryz.func141,Tryz.ntmps141
 go_wp2_with fail
 go_loopw [0,6] (fun v i wr=> ∃ k:Nat,k≤m∧v=.int .u64 ((n / 256 ^ k:Nat):Int)∧i=.int .i64 ((m:Int) - 1 - k)∧Hid (wU w.heap.size n m k wr)∧Hid (Below w.heap.size w wr)) (fun _ i _=> (intOf i+1).toNat)
 case atStart=> exact⟨0,by omega,by simp,by simp,hB0,aa zW⟩
 case round=>
  obtain⟨k,hk,rfl,rfl,HB,HW⟩:=hrel
  by_cases hlt:k < m
  ·obtain⟨⟨x,hc⟩,hf⟩:=HB.out.cell (show m - 1 - k < m by omega)
   have hnx:=aa (HB.out.next hlt)
   have hge:(0:Int)≤(m:Int) - 1 - k:=by omega
   have hge2:(m:Int) - 1 - k < m:=by omega
   have ei:((m:Int) - 1 - k)=((m - 1 - k:Nat):Int):=by omega
   have ei2:((m:Int) - 1 - k).toNat=m - 1 - k:=by omega
   have hd2:=aa (show n / 256 ^ (k+1)=n / 256 ^ k / 256 by rw [Nat.pow_succ,Nat.div_div_eq_div_mul])
   have hq:n / 256 ^ k < 18446744073709551616:=Nat.lt_of_le_of_lt (Nat.div_le_self _ _) hn
   generalize n / 256 ^ k=q at*
   have e1:IntKind.u64.wrap ((q:Int).tdiv 256)=((q / 256:Nat):Int):=by
    rw [Int.tdiv_eq_ediv_of_nonneg (by omega)]
    have:=Go.IntWalk.u64_in ((q:Int) / 256) ⟨by omega,by omega⟩
    rw [this];omega
   have e2:(q:Int).tmod 256 % 256=((q % 256:Nat):Int):=by
    rw [Int.tmod_eq_emod_of_nonneg (by omega)];omega
   have e3:((q % 256:Nat):Int)=(q:Int) % 256:=by omega
   have HWs:=aa (HW.out.setCell (bz _) (p:=⟨w.heap.size,m - 1 - k,none⟩) (.int .u8 ((q % 256:Nat):Int)))
   go_wp2_with fail
   refine⟨⟨k+1,by omega,by rw [hd2.out];push_cast;rfl,by rw [← ei];congr 1;push_cast;omega,by rw [e3] at hnx;exact hnx,by rw [e3] at HWs;exact HWs⟩,?_⟩
   rw [← ei]
   simp [intOf]
   omega
  ·obtain rfl:k=m:=by omega
   have hge:¬ (0:Int)≤(k:Int) - 1 - k:=by omega
   have hd:=aa HB.out.done
   go_wp2_with fail
   exact bc (v:=.slice (some ⟨w.heap.size,0,none⟩) k k) (by simp only [results,Tryz.results141];go_simp) rfl ⟨rfl,hd.out,HW.out⟩
end
section
open Go
abbrev bR:=bQ×Int×Int×Nat×Nat
abbrev Bk:=Nat×List Nat
def P31:Nat:=2147483647
def eC:bQ→Bool
 | (k,t,a,b,nm,ot)=> gy k t a b nm ot
def jw:bQ→List Nat
 | (k,t,a,b,nm,ot)=> fH (tq k t a b nm ot)
def eP(head:Nat)(e:bQ)(by_:Nat):List Nat:=cG head 4++jw e++[by_ % 256]
def headD(pt:Nat)(m:List Nat):Nat:=dig P31 3 pt m
def beginE(pt:Nat)(name:ByteArray):Nat:=headD pt (name.data.toList.map UInt8.toNat)
def fg(pt:Nat)(bks:List Bk)(head:Nat)(e:bQ)(by_ pad:Nat):bR:=
 (e,by_,pad,headD pt (eP head e by_),(headD (bks.getD by_ (0,[])).1 (eP head e by_)+(bks.getD by_ (0,[])).2.getD pad 0) % P31)
def headOf(pt:Nat)(name:ByteArray)(pre:List bR):Nat:=match pre.getLast? with
 | none=> beginE pt name
 | some y=> y.2.2.2.1
def dR:Bk→Bool
 | (p,ps)=> decide (p < 1) || decide (P31≤p) || decide (5000 < ps.length) || ps.any fun n=> decide (P31≤n)
def secR(pt:Nat)(bks:List Bk):Int:=if pt < 1∨P31≤pt then 3 else if bks.length < 1∨8 < bks.length∨bks.any dR=true then 2 else 0
def br(l:List bR):List bQ:=l.map (·.1)
end
section
open Go.RowKit Mr
theorem lD {t a b:Int} {nm ot:ByteArray} (h:gy 1 t a b nm ot=true):0≤b∧b≤32:=by
 unfold gy gx dH at h
 simp at h
 omega
theorem uC {T:TypeId} {B off:Nat} {name:ByteArray} {x:LifeS} {vm vo:Value} {w:World} (hT:T≠9)(h:bw T B off name x vm vo w)(hB:fE x)(hl:x.ms.length≤100000∧x.os.length≤100000)(hnm:name.size≤1000)
  (h0:x.n=0→vm=.slice none 0 0∧x.ms=[]) (e:bQ) (hok:eC e=true) (hc:cg name x e=true):
  Calls Tryz.prog 46 #[.pointer (some ⟨B,off,none⟩),kZ e] w fun en w'=> en=.returned (.tuple #[])∧∃ vm' vo',jo w T B off name (x.add name e) vm vo vm' vo' w'∧bO T B off 18 w w':=by
 obtain⟨k,t,a,b,nm,ot⟩:=e
 change gy k t a b nm ot=true at hok
 obtain⟨he,-,-⟩:=jv hok
 have hk:=he.k
 have ha:=he.a
 have hb:=he.b
 clear he
 change 1≤k∧k≤9 at hk
 change 0≤a∧a≤1099511627776 at ha
 change 0≤b∧b≤1099511627776 at hb
 have hk9:k=1∨k=2∨k=3∨k=4∨k=5∨k=6∨k=7∨k=8∨k=9:=by omega
 unfold cg at hc
 rcases hk9 with rfl | rfl | rfl | rfl | rfl | rfl | rfl | rfl | rfl
 ·by_cases hn:x.n=0
  ·obtain⟨e1,e2⟩:=h0 hn
   have hb2:=lD hok
   exact t6 hT h hB t a b nm ot hb2 hnm e1 e2
  ·exfalso
   simp [hn,de] at hc
 ·exact tQ hT h hB t a b nm ot ha hb
 ·exact tV hT h hB t a b nm ot
 ·exact tP hT h hB t a b nm ot
 ·exact tX hT h hB t a b nm ot hl
 ·refine tY hT h hB t a b nm ot hl ?_
  by_cases hn:x.n=0
  ·simp [hn] at hc
  ·simp [hn,de] at hc
   exact qV hc.2.2.1
 ·exact tW hT h hB t a b nm ot hl
 ·refine tZ hT h hB t a b nm ot hl ?_
  by_cases hn:x.n=0
  ·simp [hn] at hc
  ·simp [hn,de] at hc
   exact qV hc.2.2
 ·exact tN hT h hB t a b nm ot
end
section
open Go.RowKit
def jy(v:Value)(ns:List Nat)(W:World):Prop:=∃ a c,v=.slice a ns.length c∧(ns≠[]→∃ b off,a=some ⟨b,off,none⟩∧b < W.heap.size∧∀ (k n:Nat),ns[k]? =some n→W.cell? ⟨b,off+k,none⟩=some (.int .u64 (n:Int)))
theorem jy.step {v:Value} {ns:List Nat} {W w2:World} (h:jy v ns W)(hb:Below W.heap.size W w2):jy v ns w2:=by
 obtain⟨a,c,h1,h2⟩:=h
 refine⟨a,c,h1,fun hn=> ?_⟩
 obtain⟨b,off,e1,e2,e3⟩:=h2 hn
 exact⟨b,off,e1,ar e2 hb.size,fun k n hk=> ag (e3 k n hk) hb⟩
def dS(a:Option Addr)(bks:List Bk)(W:World):Prop:=bks≠[]→∃ b off,a=some ⟨b,off,none⟩∧b < W.heap.size∧∀ (k:Nat) (bk:Bk),bks[k]? =some bk→W.cell? ⟨b,off+k*2,none⟩=some (.int .u64 (bk.1:Int))∧∃ vp,W.cell? ⟨b,off+k*2+1,none⟩=some vp∧jy vp bk.2 W
theorem dS.step {a:Option Addr} {bks:List Bk} {W w2:World} (h:dS a bks W)(hb:Below W.heap.size W w2):dS a bks w2:=by
 intro hn
 obtain⟨b,off,e1,e2,e3⟩:=h hn
 refine⟨b,off,e1,ar e2 hb.size,fun k bk hk=> ?_⟩
 obtain⟨q1,vp,q2,q3⟩:=e3 k bk hk
 exact⟨ag q1 hb,vp,ag q2 hb,q3.step hb⟩
theorem pN(x B:Nat)(W:World)(hc:W.cell? ⟨B,0,none⟩=some (.int .u64 2147483647)):
  Calls Tryz.prog 94 #[.int .u64 (x:Int),.pointer (some ⟨B,0,none⟩)] W fun e w'=> e=.returned (.bool (decide (P31≤x)))∧∃ q,w'=W.drewN q:=by
 have hd:decide (P31≤x)=decide ((x:Int)≥2147483647):=by rw [decide_eq_decide];unfold P31;omega
 rw [hd]
 go_enter Tryz.func94,Tryz.ntmps94
 go_wp2_with fail
 go_ret
 exact⟨rfl,0,rfl⟩
theorem oM {v:Value} {ns:List Nat} {w:World} (B:Nat)(h:jy v ns w)(hl:ns.length≤1000000)(hB:B < w.heap.size)(hc:w.cell? ⟨B,0,none⟩=some (.int .u64 2147483647)):
  Calls Tryz.prog 93 #[v,.func (.func 94) #[] #[.pointer (some ⟨B,0,none⟩)]] w fun e w'=> e=.returned (.bool (ns.any fun n=> decide (P31≤n)))∧Below w.heap.size w w':=by
 have eg:∀ args w,(callFunc 94 args).run Tryz.prog w=.ok (.enter 94 args) w:=enters_of Tryz.func94 (by kernel_rfl) rfl
 obtain⟨a,c,rfl,h2⟩:=h
 by_cases hn:ns=[]
 ·subst hn
  exact(AnyE.slices_ContainsFunc_empty jG a c _ w).mono fun e w' q=> ⟨q.1,by rw [q.2];exact Below.refl _ _⟩
 ·obtain⟨b,off,rfl,-,h3⟩:=h2 hn
  have h4:=AnyE.slices_ContainsFunc jG (fun n:Nat=> Value.int .u64 (n:Int)) (fun n=> decide (P31≤n)) 94 #[.pointer (some ⟨B,0,none⟩)] eg b off ns.length c ns w
   (fun W x hW=> pN x B W ((hW.cell (p:=⟨B,0,none⟩) hB).trans hc)) (bz _) (by omega) (fun j hj=> by rw [h3 j _ (bh hj)];rw [getElem!_pos ns j hj])
  rw [List.take_of_length_le (bz _)] at h4
  exact h4.mono fun e w' q=> ⟨q.1,by obtain⟨n,e⟩:=q.2;rw [e];exact aI (Below.refl _ _)⟩
theorem sg(bk:Bk)(vp:Value)(B:Nat)(w:World)(h:jy vp bk.2 w)(hl:bk.2.length≤1000000)(hB:B < w.heap.size)(hc:w.cell? ⟨B,0,none⟩=some (.int .u64 2147483647)):
  Calls Tryz.prog 92 #[.agg #[.int .u64 (bk.1:Int),vp],.pointer (some ⟨B,0,none⟩)] w fun e w'=> e=.returned (.bool (dR bk))∧Below w.heap.size w w':=by
 obtain⟨p,ps⟩:=bk
 dsimp only at h hl ⊢
 rw [show dR (p,ps)=(decide (p < 1) || decide (P31≤p) || decide (5000 < ps.length) || ps.any fun n=> decide (P31≤n))from rfl]
 have CX:=aa (oM B (h.step (Mr.bU (o:=.cells #[.int .u64 (p:Int),vp] 85))) hl (by simp;omega) (by rw [← hc];exact Mr.bU.cell (p:=⟨B,0,none⟩) hB))
 obtain⟨a,c,rfl,-⟩:=h
 generalize(ps.any fun n=> decide (P31≤n))=r at*
 by_cases c1:p < 1
 ·rw [bF c1]
  have d1:(p:Int) < 1:=by omega
  clear c1 hl CX
  go_enter Tryz.func92,Tryz.ntmps92
  go_wp2_with fail
  exact aH (v:=.bool true) rfl rfl rfl ⟨rfl,(by repeat' (first | exact Below.refl _ _ | assumption | apply aI | apply bg | apply aK | (refine cB ?_ ?_ _) | (refine ai ?_ (by assumption)) | omega | (simp <;> omega)))⟩
 ·rw [bv c1]
  have d1:¬ (p:Int) < 1:=by omega
  by_cases c2:P31≤p
  ·rw [bF c2]
   have d2:(2147483647:Int)≤p:=by unfold P31 at c2;omega
   clear c1 c2 hl CX
   go_enter Tryz.func92,Tryz.ntmps92
   go_wp2_with fail
   exact aH (v:=.bool true) rfl rfl rfl ⟨rfl,(by repeat' (first | exact Below.refl _ _ | assumption | apply aI | apply bg | apply aK | (refine cB ?_ ?_ _) | (refine ai ?_ (by assumption)) | omega | (simp <;> omega)))⟩
  ·rw [bv c2]
   have d2:¬ (2147483647:Int)≤p:=by unfold P31 at c2;omega
   by_cases c3:5000 < ps.length
   ·rw [bF c3]
    have d3:(5000:Int) < ps.length:=by omega
    clear c1 c2 c3 hl CX
    go_enter Tryz.func92,Tryz.ntmps92
    go_wp2_with fail
    exact aH (v:=.bool true) rfl rfl rfl ⟨rfl,(by repeat' (first | exact Below.refl _ _ | assumption | apply aI | apply bg | apply aK | (refine cB ?_ ?_ _) | (refine ai ?_ (by assumption)) | omega | (simp <;> omega)))⟩
   ·rw [bv c3]
    have d3:¬ (5000:Int) < ps.length:=by omega
    clear c1 c2 c3 hl
    go_enter Tryz.func92,Tryz.ntmps92
    go_wp2_with (go_at_call 93;refine CX.out.mono ?_;rintro e w1 ⟨rfl,hb1⟩)
    exact bc (v:=.bool r) (by simp only [results,Tryz.results92];go_simp) rfl ⟨by simp,ai Mr.bU hb1⟩
end
section
open Go.RowKit
theorem oN {bks:List Bk} {i:Nat} {bk:Bk} (h:(bks.take i).any dR=false)(hk:bks[i]? =some bk)(hb:dR bk=false):(bks.take (i+1)).any dR=false:=by
 rw [List.take_add_one,hk,List.any_append,h]
 simpa using hb
theorem uD {bks:List Bk} {i:Nat} {bk:Bk} (hk:bks[i]? =some bk)(hb:dR bk=true):bks.any dR=true:=List.any_eq_true.2 ⟨bk,aJ hk,hb⟩
theorem uE {a:Option Addr} {bks:List Bk} {w:World} (c B:Nat)(h:dS a bks w)(hl:bks.length≤1000000∧∀ bk∈bks,bk.2.length≤1000000)(hB:B < w.heap.size)(hc:w.cell? ⟨B,0,none⟩=some (.int .u64 2147483647)):
  Calls Tryz.prog 133 #[.slice a bks.length c,.func (.func 92) #[] #[.pointer (some ⟨B,0,none⟩)]] w fun e w'=> ∃ i:Int,e=.returned (.int .i64 i)∧(decide (i≥0)=bks.any dR)∧Below w.heap.size w w':=by
 have H:=aa h
 have HC:=aa (ba hB hc)
 have HL:=aa hl.2
 have hl1:=hl.1
 clear h hB hc hl
 go_enter Tryz.func133,Tryz.ntmps133
 go_wp2_with fail
 go_loopw [8] (fun ix wr=> ∃ i:Nat,i≤bks.length∧ix=.int .i64 i∧Hid ((bks.take i).any dR=false)∧Hid (Below w.heap.size w wr)) (fun ix _=> bks.length - (intOf ix).toNat)
 case atStart=> exact⟨0,by omega,rfl,rfl,Below.refl _ _⟩
 case round=>
  obtain⟨i,hi,rfl,HT,HW⟩:=hrel
  by_cases hc:i < bks.length
  ·have c1:(i:Int) < bks.length:=by omega
   have c0:(0:Int)≤i:=by omega
   obtain⟨bk,hk⟩:∃ bk,bks[i]? =some bk:=⟨bks[i],bh hc⟩
   obtain⟨b,off,rfl,hb0,hcs⟩:=(H.out.step HW.out) (by rintro rfl;simp at hc)
   obtain⟨g0,vp,g1,hp⟩:=hcs i bk hk
   have CB:=aa (sg bk vp B wr hp (HL.out bk (aJ hk)) (ar HC.out.1 HW.out.size) (ag HC.out.2 HW.out))
   have HKK:=aa hk
   clear hcs hp hk hc
   cases hbd:dR bk
   ·rw [hbd] at CB
    have HBD:=aa hbd
    clear hbd
    go_wp2_with (go_at_call 92;refine CB.out.mono ?_;rintro e w1 ⟨rfl,hb1⟩)
    exact⟨⟨i+1,by omega,by push_cast;rfl,oN HT.out HKK.out HBD.out,ai HW.out hb1⟩,by simp [intOf];omega⟩
   ·rw [hbd] at CB
    have HBD:=aa hbd
    clear hbd
    go_wp2_with (go_at_call 92;refine CB.out.mono ?_;rintro e w1 ⟨rfl,hb1⟩)
    exact bc (v:=.int .i64 (i:Int)) (by simp only [results,Tryz.results133];go_simp) rfl ⟨i,rfl,by rw [uD HKK.out HBD.out];exact bF (by omega),ai HW.out hb1⟩
  ·obtain rfl:i=bks.length:=by omega
   clear hc
   go_wp2_with fail
   exact aH (v:=.int .i64 (-1)) rfl rfl rfl ⟨-1,rfl,by have q:=HT.out;rw [List.take_of_length_le (bz _)] at q;rw [q];rfl,HW.out⟩
theorem pO {a:Option Addr} {bks:List Bk} {w:World} (c B:Nat)(h:dS a bks w)(hl:bks.length≤1000000∧∀ bk∈bks,bk.2.length≤1000000)(hB:B < w.heap.size)(hc:w.cell? ⟨B,0,none⟩=some (.int .u64 2147483647)):
  Calls Tryz.prog 95 #[.slice a bks.length c,.func (.func 92) #[] #[.pointer (some ⟨B,0,none⟩)]] w fun e w'=> e=.returned (.bool (bks.any dR))∧Below w.heap.size w w':=by
 have CI:=aa (uE c B h hl hB hc)
 clear h hl hB hc
 generalize bks.any dR=r at*
 generalize bks.length=n at*
 go_enter Tryz.func95,Tryz.ntmps95
 go_wp2_with (go_at_call 133;refine CI.out.mono ?_;rintro e w1 ⟨i,rfl,hi,hb1⟩;have HI:=aa hi;clear hi)
 exact bc (v:=.bool (decide (i≥0))) (by simp only [results,Tryz.results95];go_simp) rfl ⟨by rw [HI.out],hb1⟩
theorem ku(w:World):Calls Tryz.prog 40 #[] w fun e w'=> ∃ B off,e=.returned (.pointer (some ⟨B,off,none⟩))∧w.heap.size≤B∧B < w'.heap.size∧w'.cell? ⟨B,off,none⟩=some (.int .u64 2147483647)∧w'.cell? ⟨B,off+1,none⟩=some (.int .i64 3)∧Below w.heap.size w w':=by
 have CF:=aa (jS 2 (by decide) w)
 go_enter Tryz.func40,Tryz.ntmps40
 go_wp2_with (go_at_call 86;refine CF.out.mono ?_;rintro e w1 ⟨B,off,rfl,h1,h2,h3,h4,hb⟩)
 exact bc (v:=.pointer (some ⟨B,off,none⟩)) (by simp only [results,Tryz.results40];go_simp) rfl ⟨B,off,rfl,h1,h2,h3,h4,hb⟩
end
section
open Go.RowKit
theorem kw {a:Option Addr} {bks:List Bk} {W w2:World} (hb:Below W.heap.size W w2)(h:dS a bks W):dS a bks (w2.alloc (.cells #[.int .u64 2147483647] 22)):=(h.step hb).step Mr.bU
theorem kP {a:Option Addr} {bks:List Bk} {w:World} (pt c:Nat)(h:dS a bks w)(hl:bks.length≤1000000∧∀ bk∈bks,bk.2.length≤1000000):
  Calls Tryz.prog 38 #[.int .u64 (pt:Int),.slice a bks.length c] w fun e w'=> e=.returned (.int .i64 (secR pt bks))∧Below w.heap.size w w':=by
 have CL:=aa (ku w)
 have H0:=aa h
 have HLL:=aa hl
 clear h hl
 unfold secR
 by_cases c1:pt < 1
 ·rw [aG (ax c1)]
  have d1:(pt:Int) < 1:=by omega
  clear c1
  go_enter Tryz.func38,Tryz.ntmps38
  go_wp2_with (go_at_call 40;refine CL.out.mono ?_;rintro e w1 ⟨B0,off0,rfl,h1,h2,h3,h4,hb1⟩;have HX1:=aa (ba hb1 (kw hb1 H0.out));clear h1 h4)
  exact aH (v:=.int .i64 3) rfl rfl rfl ⟨rfl,ai HX1.out.1 Mr.bU⟩
 ·by_cases c2:P31≤pt
  ·rw [aG (ay c2)]
   have d1:¬ (pt:Int) < 1:=by omega
   have d2:(2147483647:Int)≤pt:=by unfold P31 at c2;omega
   clear c1 c2
   go_enter Tryz.func38,Tryz.ntmps38
   go_wp2_with (go_at_call 40;refine CL.out.mono ?_;rintro e w1 ⟨B0,off0,rfl,h1,h2,h3,h4,hb1⟩;have HX1:=aa (ba hb1 (kw hb1 H0.out));clear h1 h4)
   exact aH (v:=.int .i64 3) rfl rfl rfl ⟨rfl,ai HX1.out.1 Mr.bU⟩
  ·rw [aA (fun e=> e.elim c1 c2)]
   have d1:decide ((pt:Int) < 1)=false:=bv (by omega)
   have d2:decide ((2147483647:Int)≤pt)=false:=bv (by unfold P31 at c2;omega)
   clear c1 c2
   have CH:=aa (fun(W:World) (B:Nat) (hh:dS a bks W) (hB:B < W.heap.size) (hcc:W.cell? ⟨B,0,none⟩=some (.int .u64 2147483647))=> pO (w:=W) c B hh HLL.out hB hcc)
   clear HLL
   generalize bks.length=n at*
   generalize bks.any dR=r at*
   by_cases c3:n < 1
   ·rw [aG (ax c3)]
    have d3:(n:Int) < 1:=by omega
    clear c3
    go_enter Tryz.func38,Tryz.ntmps38
    go_wp2_with (go_at_call 40;refine CL.out.mono ?_;rintro e w1 ⟨B0,off0,rfl,h1,h2,h3,h4,hb1⟩;have HX1:=aa (ba hb1 (kw hb1 H0.out));clear h1 h4)
    exact aH (v:=.int .i64 2) rfl rfl rfl ⟨rfl,ai HX1.out.1 Mr.bU⟩
   ·by_cases c4:8 < n
    ·rw [aG (ay (ax c4))]
     have d3:¬ (n:Int) < 1:=by omega
     have d4:(8:Int) < n:=by omega
     clear c3 c4
     go_enter Tryz.func38,Tryz.ntmps38
     go_wp2_with (go_at_call 40;refine CL.out.mono ?_;rintro e w1 ⟨B0,off0,rfl,h1,h2,h3,h4,hb1⟩;have HX1:=aa (ba hb1 (kw hb1 H0.out));clear h1 h4)
     exact aH (v:=.int .i64 2) rfl rfl rfl ⟨rfl,ai HX1.out.1 Mr.bU⟩
    ·have hs:(if n < 1∨8 < n∨r=true then(2:Int)else 0)=(bif r then 2 else 0):=by
      cases r
      ·rw [aA (by rintro(e | e | e);exact c3 e;exact c4 e;cases e)];rfl
      ·rw [aG (ay (ay rfl))];rfl
     rw [hs]
     have d3:¬ (n:Int) < 1:=by omega
     have d4:¬ (8:Int) < n:=by omega
     clear c3 c4 hs
     cases r
     ·go_enter Tryz.func38,Tryz.ntmps38
      go_wp2_with (first | (go_at_call 40;refine CL.out.mono ?_;rintro e w1 ⟨B0,off0,rfl,h1,h2,h3,h4,hb1⟩;have HX1:=aa (ba hb1 (kw hb1 H0.out));clear h1 h4) | (go_at_call 95;refine(CH.out _ _ HX1.out.2 (by simp) (by go_simp)).mono ?_;rintro e w2 ⟨rfl,hb2⟩))
      exact aH (v:=.int .i64 0) rfl rfl rfl ⟨rfl,ai HX1.out.1 (ai Mr.bU hb2)⟩
     ·go_enter Tryz.func38,Tryz.ntmps38
      go_wp2_with (first | (go_at_call 40;refine CL.out.mono ?_;rintro e w1 ⟨B0,off0,rfl,h1,h2,h3,h4,hb1⟩;have HX1:=aa (ba hb1 (kw hb1 H0.out));clear h1 h4) | (go_at_call 95;refine(CH.out _ _ HX1.out.2 (by simp) (by go_simp)).mono ?_;rintro e w2 ⟨rfl,hb2⟩))
      exact aH (v:=.int .i64 2) rfl rfl rfl ⟨rfl,ai HX1.out.1 (ai Mr.bU hb2)⟩
end
end Go.Proofs.YtmpilgkfbibhlaaGreatDoor
