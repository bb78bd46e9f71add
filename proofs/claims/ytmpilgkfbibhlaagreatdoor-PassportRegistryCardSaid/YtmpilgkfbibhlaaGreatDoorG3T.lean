/-
 G3T
-/
import Derived.Test.YtmpilgkfbibhlaaGreatDoorG2T
set_option linter.unusedSimpArgs false
set_option linter.unusedVariables false
set_option maxRecDepth 100000
set_option maxHeartbeats 20000000
namespace Go.Proofs.YtmpilgkfbibhlaaGreatDoor
section
open Go.RowKit Go.Instr Go.ChangeMaps
theorem ie {P:Program} {w:World} {k:TypeId} {q:IntKind} (hk:P.underlying k=some (.int q))(em:Bool)(v:Value):(checkKey em 10000 k v).run P w=.ok () w:=by
 unfold checkKey
 simp [run_underlying hk]
theorem iI {P:Program} {w:World} {k:TypeId} {q:IntKind} (hk:P.underlying k=some (.int q)){v:Value} {es:List MapEntry} {r:Option (Nat×Value)} (h:findNow (.int q) v es 0=some r):(findKey k v es).run P w=.ok r w:=by
 unfold findKey
 simp [run_underlying hk,h]
theorem pC {P:Program} {w:World} {t k e:TypeId} {q:IntKind} {b clock:Nat} {es:Array MapEntry} {key val:Value} (ht:P.underlying t=some (.map k e))(hk:P.underlying k=some (.int q))(hb:w.heap[b]? =some (.map es clock))(h:findNow (.int q) key es.toList 0=some none):
  (mapUpdate t (.map (some b)) key val).run P w=.ok () (setBlock w b (.map (es.push { key,val,born:=clock }) (clock+1))):=by
 unfold mapUpdate
 simp [run_underlying ht,MapKept.run_getObj_map hb,ie hk,iI hk h,Result.andThen,MapKept.run_setObj_map _ hb,setBlock]
theorem gv {P:Program} {w:World} {t k e:TypeId} {q:IntKind} {b clock i:Nat} {es:Array MapEntry} {key val:Value} (ht:P.underlying t=some (.map k e))(hk:P.underlying k=some (.int q))(hb:w.heap[b]? =some (.map es clock))(h:findNow (.int q) key es.toList 0=some (some (i,val))):
  (lookup t (.map (some b)) key true).run P w=.ok (.tuple #[val,.bool true]) w:=by
 unfold lookup
 simp [run_underlying ht,MapKept.run_getObj_map hb,ie hk,iI hk h,Result.andThen]
theorem iJ {P:Program} {w:World} {t k e:TypeId} {q:IntKind} {b clock:Nat} {es:Array MapEntry} {key z:Value} (ht:P.underlying t=some (.map k e))(hk:P.underlying k=some (.int q))(hb:w.heap[b]? =some (.map es clock))(h:findNow (.int q) key es.toList 0=some none)(hz:(zeroValue e).run P w=.ok z w):
  (lookup t (.map (some b)) key true).run P w=.ok (.tuple #[z,.bool false]) w:=by
 unfold lookup
 simp [run_underlying ht,MapKept.run_getObj_map hb,ie hk,iI hk h,hz,Result.andThen]
theorem mJ {P:Program} {w:World} {ops:Array Oper} {rest:List Oper} {o:Oper} {a:Act} {Q:Exit→Act→World→Prop}
  (hg:o.guard=none) (m x v:Operand) (t:TypeId) (hop:o.op=Op.insert t m x v) (k e:TypeId) (q:IntKind) (ht:P.underlying t=some (.map k e)) (hk:P.underlying k=some (.int q))
  (b clock:Nat) (es:Array MapEntry) (hb:w.heap[b]? =some (.map es clock)) (key val:Value) (hm:a.eval m=.map (some b)) (hx:a.eval x=key) (hv:a.eval v=val) (h:findNow (.int q) key es.toList 0=some none)
  (hK:∀ w',w'.heap[b]? =some (.map (es.push { key,val,born:=clock }) (clock+1))→w.grownBy w' (some b)→wpList P ops Q rest (a.put o.dst undef) w'):
  wpList P ops Q (o::rest) a w:=by
 refine wpList_plain hg fun K' hK'=> ?_
 have hrun:=pC (val:=val) ht hk hb h
 unfold Oper.wp
 simp [execOp,hop,hm,hx,hv,hrun,Result.andThen]
 exact hK' _ _ (hK _ (heap_setBlock_same hb _) ⟨rfl,rfl,rfl,by simp [setBlock],fun i _ hi=> heap_setBlock_other hb _ (fun e=> hi (by rw [e]))⟩)
theorem lr {P:Program} {w:World} {ops:Array Oper} {rest:List Oper} {a:Act} {Q:Exit→Act→World→Prop} {m x v:Operand} {t ty k e:TypeId} {ps:String} {af:Array Edge} {q:IntKind} {b clock:Nat} {es:Array MapEntry} {key val:Value}
  (hb:w.heap[b]? =some (.map es clock)) (ht:P.underlying t=some (.map k e)) (hk:P.underlying k=some (.int q)) (hm:a.eval m=.map (some b)) (hx:a.eval x=key) (hv:a.eval v=val) (h:findNow (.int q) key es.toList 0=some none)
  (hK:∀ w',w'.heap[b]? =some (.map (es.push { key,val,born:=clock }) (clock+1))→w.grownBy w' (some b)→wpList P ops Q rest (a.put none undef) w'):
  wpList P ops Q ({ dst:=none,op:=.insert t m x v,type:=ty,pos:=ps,after:=af,guard:=none }::rest) a w:=
 mJ rfl m x v t rfl k e q ht hk b clock es hb key val hm hx hv h hK
end
section
open Go.RowKit Mr
theorem rT {B off q:Nat} {k t a b:Int} {nm ot:ByteArray} {w:World}:
  kt w.heap.size (w.heap.size+1) B off k t a b nm ot (((w.alloc (.cells #[.pointer (some ⟨B,off,none⟩)] 91)).alloc (.cells #[.int .i64 k,.int .i64 t,.int .i64 a,.int .i64 b,.string nm,.string ot] 29)).drewN q)∧
  Below w.heap.size w (((w.alloc (.cells #[.pointer (some ⟨B,off,none⟩)] 91)).alloc (.cells #[.int .i64 k,.int .i64 t,.int .i64 a,.int .i64 b,.string nm,.string ot] 29)).drewN q):=by
 refine⟨⟨?_,?_,?_,?_,?_,?_⟩,?_⟩
 ·go_simp
 ·go_simp
 ·go_simp
 ·go_simp
 ·show w.heap.size < ((w.alloc _).alloc _).heap.size;simp;omega
 ·show w.heap.size+1 < ((w.alloc _).alloc _).heap.size;simp
 ·exact aI (aK (aK (Below.refl _ _) _) _)
def yv(bx be:Nat):Array MapEntry:=#[
 {key:=.int .i64 1,val:=.func (.func 97) #[] #[],born:=0 },
 {key:=.int .i64 5,val:=.func (.func 98) #[] #[.pointer (some ⟨bx,0,none⟩),.pointer (some ⟨be,0,none⟩)],born:=1 },
 {key:=.int .i64 6,val:=.func (.func 100) #[] #[.pointer (some ⟨bx,0,none⟩),.pointer (some ⟨be,0,none⟩)],born:=2 },
 {key:=.int .i64 7,val:=.func (.func 101) #[] #[.pointer (some ⟨bx,0,none⟩),.pointer (some ⟨be,0,none⟩)],born:=3 },
 {key:=.int .i64 8,val:=.func (.func 102) #[] #[.pointer (some ⟨bx,0,none⟩),.pointer (some ⟨be,0,none⟩)],born:=4 },
 {key:=.int .i64 9,val:=.func (.func 103) #[] #[.pointer (some ⟨bx,0,none⟩)],born:=5 }]
theorem tM {T:TypeId} {B off:Nat} {name:ByteArray} {x:LifeS} {vm vo:Value} {w:World} (h:bw T B off name x vm vo w)(hn:¬ x.n=0)(k t a b:Int)(nm ot:ByteArray)(hk:1≤k∧k≤9)(ht:¬ t < x.at_)(hs:x.scr=false)(hl1:x.ms.length≤1000000)(hl2:x.os.length≤1000000):
  Calls Tryz.prog 43 #[.pointer (some ⟨B,off,none⟩),.agg #[.int .i64 k,.int .i64 t,.int .i64 a,.int .i64 b,.string nm,.string ot]] w fun e w'=> e=.returned (.bool (de name x.ms x.os (k,t,a,b,nm,ot)))∧Below w.heap.size w w':=by
 obtain⟨c0,c1,c2,c9,c10,c17,cl⟩:=h.open1
 have hn2:((x.n:Int)==0)=false:=by simpa using hn
 rw [hs] at c17
 have ht2:decide (t < x.at_)=false:=bv ht
 have H:=aa h
 have HL:=aa (ba hl1 hl2)
 have HK:=aa hk
 clear h hn hs ht hl1 hl2 hk
 go_enter Tryz.func43,Tryz.ntmps43
 go_upto_region 3 with fail
 go_quiet (fail)
 go_upto_region 5 with fail
 have HB:=aa (rT (B:=B) (off:=off) (q:=nq) (k:=k) (t:=t) (a:=a) (b:=b) (nm:=nm) (ot:=ot) (w:=w))
 replace H:=aa (H.out.step HB.out.2)
 clear c0 c1 c2 c9 c10 c17 cl hn2 ht2
 generalize(((w.alloc _).alloc _).drewN nq)=W1 at*
 generalize w.heap.size+1=be at*
 generalize hbx:w.heap.size=bx at*
 have HX:=aa hbx
 clear hbx
 have HM:=aa (au W1 (.map #[] 0))
 have HW:=aa (bU (W:=W1) (o:=.map #[] 0))
 have hmm:=@run_makeMap Tryz.prog
 go_upto_region 6 with((with_reducible apply lr);(case hb=> exact HM.out);(case ht=> exact Tryz.underlying164);(case hk=> exact Tryz.underlying3);(case hm=> rfl);(case hx=> rfl);(case hv=> rfl);(case h=> rfl);intro w9 hm9 hg9;replace HW:=aa (HW.out.grown hg9 HW.out.size (by intro k e;cases e;exact bz _));replace HM:=aa hm9;clear hm9 hg9)
 have HM2:Hid (w9.heap[W1.heap.size]? =some (.map (yv bx be) 6)):=HM.out
 clear HM hmm
 have HC:=aa (HB.out.1.step HW.out)
 replace H:=aa (H.out.step HW.out)
 have HD:Hid (Below w.heap.size w w9):=ai (by rw [HX.out];exact HB.out.2) HW.out
 clear HB HX HW
 have e0:=HC.out.e0
 have l2:=HC.out.l2
 have hk:=HK.out
 have hc:k=1∨k=2∨k=3∨k=4∨k=5∨k=6∨k=7∨k=8∨k=9:=by omega
 clear hk HK
 rcases hc with rfl | rfl | rfl | rfl | rfl | rfl | rfl | rfl | rfl
 ·have hl:=gv (key:=.int .i64 1) (i:=0) (val:=.func (.func 97) #[] #[]) Tryz.underlying164 Tryz.underlying3 HM2.out (by rfl)
  have CC:=aa (tL w9)
  clear HM2
  go_wp2_with (go_at_call 97;refine CC.out.mono ?_;rintro e w10 ⟨rfl,hb10⟩)
  exact aH (v:=.bool false) rfl rfl rfl ⟨by simp [de],ai HD.out hb10⟩
 ·have hl:=iJ (key:=.int .i64 2) Tryz.underlying164 Tryz.underlying3 HM2.out (by rfl) (Tryz.zeroValue26 w9)
  clear HM2
  go_wp2_with fail
  exact aH (v:=.bool true) rfl rfl rfl ⟨by simp [de],HD.out⟩
 ·have hl:=iJ (key:=.int .i64 3) Tryz.underlying164 Tryz.underlying3 HM2.out (by rfl) (Tryz.zeroValue26 w9)
  clear HM2
  go_wp2_with fail
  exact aH (v:=.bool true) rfl rfl rfl ⟨by simp [de],HD.out⟩
 ·have hl:=iJ (key:=.int .i64 4) Tryz.underlying164 Tryz.underlying3 HM2.out (by rfl) (Tryz.zeroValue26 w9)
  clear HM2
  go_wp2_with fail
  exact aH (v:=.bool true) rfl rfl rfl ⟨by simp [de],HD.out⟩
 ·have hl:=gv (key:=.int .i64 5) (i:=1) (val:=.func (.func 98) #[] #[.pointer (some ⟨bx,0,none⟩),.pointer (some ⟨be,0,none⟩)]) Tryz.underlying164 Tryz.underlying3 HM2.out (by rfl)
  have CC:=aa (tC H.out bx be 5 t a b nm ot HC.out HL.out.1)
  clear HM2
  go_wp2_with (go_at_call 98;refine CC.out.mono ?_;rintro e w10 ⟨rfl,hb10⟩)
  exact bc (v:=.bool (!(hasT x.ms nm) && decide (x.ms.length < 32) && !(fS ot name))) (by simp only [results,Tryz.results43];go_simp) rfl ⟨by simp [de],ai HD.out hb10⟩
 ·have hl:=gv (key:=.int .i64 6) (i:=2) (val:=.func (.func 100) #[] #[.pointer (some ⟨bx,0,none⟩),.pointer (some ⟨be,0,none⟩)]) Tryz.underlying164 Tryz.underlying3 HM2.out (by rfl)
  have CC:=aa (tG H.out bx be 6 t a b nm ot HC.out HL.out.1)
  clear HM2
  go_wp2_with (go_at_call 100;refine CC.out.mono ?_;rintro e w10 ⟨rfl,hb10⟩)
  exact bc (v:=.bool (hasT x.ms nm && !(fS ot name))) (by simp only [results,Tryz.results43];go_simp) rfl ⟨by simp [de],ai HD.out hb10⟩
 ·have hl:=gv (key:=.int .i64 7) (i:=3) (val:=.func (.func 101) #[] #[.pointer (some ⟨bx,0,none⟩),.pointer (some ⟨be,0,none⟩)]) Tryz.underlying164 Tryz.underlying3 HM2.out (by rfl)
  have CC:=aa (tH H.out bx be 7 t a b nm ot HC.out HL.out.2)
  clear HM2
  go_wp2_with (go_at_call 101;refine CC.out.mono ?_;rintro e w10 ⟨rfl,hb10⟩)
  exact bc (v:=.bool (!(hasT x.os nm))) (by simp only [results,Tryz.results43];go_simp) rfl ⟨by simp [de],ai HD.out hb10⟩
 ·have hl:=gv (key:=.int .i64 8) (i:=4) (val:=.func (.func 102) #[] #[.pointer (some ⟨bx,0,none⟩),.pointer (some ⟨be,0,none⟩)]) Tryz.underlying164 Tryz.underlying3 HM2.out (by rfl)
  have CC:=aa (tJ H.out bx be 8 t a b nm ot HC.out HL.out.2)
  clear HM2
  go_wp2_with (go_at_call 102;refine CC.out.mono ?_;rintro e w10 ⟨rfl,hb10⟩)
  exact bc (v:=.bool (hasT x.os nm)) (by simp only [results,Tryz.results43];go_simp) rfl ⟨by simp [de],ai HD.out hb10⟩
 ·have hl:=gv (key:=.int .i64 9) (i:=5) (val:=.func (.func 103) #[] #[.pointer (some ⟨bx,0,none⟩)]) Tryz.underlying164 Tryz.underlying3 HM2.out (by rfl)
  have CC:=aa (tK H.out bx be 9 t a b nm ot HC.out)
  clear HM2
  go_wp2_with (go_at_call 103;refine CC.out.mono ?_;rintro e w10 ⟨rfl,hb10⟩)
  exact bc (v:=.bool (decide (x.ms=[]))) (by simp only [results,Tryz.results43];go_simp) rfl ⟨by simp [de],ai HD.out hb10⟩
theorem jO {T:TypeId} {B off:Nat} {name:ByteArray} {x:LifeS} {vm vo:Value} {w:World} (h:bw T B off name x vm vo w)(e:bQ)(hk:1≤e.1∧e.1≤9)(hl1:x.ms.length≤1000000)(hl2:x.os.length≤1000000):
  Calls Tryz.prog 43 #[.pointer (some ⟨B,off,none⟩),kZ e] w fun en w'=> en=.returned (.bool (cg name x e))∧Below w.heap.size w w':=by
 obtain⟨k,t,a,b,nm,ot⟩:=e
 unfold cg
 by_cases hn:x.n=0
 ·rw [aG hn];exact rS h hn k t a b nm ot
 ·rw [aA hn]
  by_cases ht:t < x.at_
  ·rw [aG ht];exact oG h hn k t a b nm ot (ax ht)
  ·rw [aA ht]
   by_cases hs:x.scr=true
   ·rw [aG hs];exact oG h hn k t a b nm ot (ay ⟨ht,hs⟩)
   ·rw [aA hs];exact tM h hn k t a b nm ot hk ht (by simpa using hs) hl1 hl2
end
section
open Go.RowKit Mr
structure bO(T:TypeId)(B off n:Nat)(w W:World):Prop where
 os:W.os=w.os
 tape:W.tape=w.tape
 output:W.output=w.output
 size:w.heap.size≤W.heap.size
 lt:B < w.heap.size
 block:∀ k,k < w.heap.size→k≠B→W.heap[k]? =w.heap[k]?
 cells:∃ cs cs':Array Value,w.heap[B]? =some (.cells cs T (0,0))∧W.heap[B]? =some (.cells cs' T (0,0))∧cs'.size=cs.size∧∀ i,(i < off∨off+n≤i)→cs'[i]? =cs[i]?
section
variable {T:TypeId} {B off n:Nat} {w W w2:World}
theorem bO.start {cs:Array Value} (h:w.heap[B]? =some (.cells cs T (0,0))):bO T B off n w w:=
 ⟨rfl,rfl,rfl,bz _,ak h,fun _ _ _=> rfl,cs,cs,h,h,rfl,fun _ _=> rfl⟩
theorem bO.step(h:bO T B off n w W)(hb:Below W.heap.size W w2):bO T B off n w w2:=by
 obtain⟨cs,cs',h1,h2,h3,h4⟩:=h.cells
 exact⟨hb.os.trans h.os,hb.tape.trans h.tape,hb.output.trans h.output,Nat.le_trans h.size hb.size,h.lt,fun k hk hn=> (hb.block k (ar hk h.size)).trans (h.block k hk hn),cs,cs',h1,an h2 hb,h3,h4⟩
theorem bO.set(h:bO T B off n w W){j:Nat} (hj:j < n)(u:Value):bO T B off n w (W.setCell ⟨B,off+j,none⟩ u):=by
 obtain⟨cs,cs',h1,h2,h3,h4⟩:=h.cells
 refine⟨h.os,h.tape,h.output,by simpa using h.size,h.lt,fun k hk hn=> ?_,cs,cs'.setIfInBounds (off+j) u,h1,bn h2,by simpa using h3,fun i hi=> ?_⟩
 ·rw [Below.heap_setCell _ _ _ _ hn];exact h.block k hk hn
 ·rw [Array.getElem?_setIfInBounds,aA (by omega)];exact h4 i hi
theorem bO.grown {g:Option Nat} (h:bO T B off n w W)(hg:W.grownBy w2 g)(hr:∀ k,g=some k→w.heap.size≤k):bO T B off n w w2:=by
 obtain⟨cs,cs',h1,h2,h3,h4⟩:=h.cells
 have hk:∀ k,k < w.heap.size→some k≠g:=fun k hk e=> by have:=hr k e.symm;omega
 exact⟨hg.os.trans h.os,hg.tape.trans h.tape,hg.output.trans h.output,Nat.le_trans h.size hg.size,h.lt,fun k hk1 hn=> (hg.block k (ar hk1 h.size) (hk k hk1)).trans (h.block k hk1 hn),cs,cs',h1,(hg.block B (ak h2) (hk B h.lt)).trans h2,h3,h4⟩
theorem bH.only {v:Value} {l:List ByteArray} (h:bH v l w)(ho:bO T B off n w W)(hT:T≠9):bH v l W:=h.keep fun b cs fr e=> ho.block b (ak e) (fun c=> by
 subst c
 obtain⟨cs1,cs2,h1,-⟩:=ho.cells
 rw [h1] at e
 simp at e
 exact hT e.2.1)
end
def iv(w:World)(v v':Value):Prop:=v'=v∨∀ k,v'.ownBlock=some k→w.heap.size≤k
theorem iv.mono {w W:World} {v v':Value} (h:iv W v v')(hs:w.heap.size≤W.heap.size):iv w v v':=h.imp id fun h k hk=> Nat.le_trans hs (h k hk)
theorem iv.of_own {w W:World} {E sz n:Nat} {v v':Value} {xs:List Value} (h:W.ownsRow w.heap.size E sz v' n xs):iv w v v':=ay fun k hk=> (World.ownsRow.lt h k hk).1
structure jo(w:World)(T:TypeId)(B off:Nat)(name:ByteArray)(x:LifeS)(vm vo vm' vo':Value)(W:World):Prop where
 l:bw T B off name x vm' vo' W
 m:iv w vm vm'
 o:iv w vo vo'
structure aQ(T:TypeId)(B off:Nat)(name:ByteArray)(w:World)(be:Nat)(e:bQ)(x:LifeS)(vm vo:Value)(W:World):Prop where
 blk:∃ cs:Array Value,W.heap[B]? =some (.cells cs T (0,0))∧off+18≤cs.size∧∀ (j:Nat) (u:Value),(fD name x vm vo)[j]? =some u→cs[off+j]? =some u
 only:bO T B off 18 w W
 box:W.heap[be]? =some (.cells #[.int .i64 e.1,.int .i64 e.2.1,.int .i64 e.2.2.1,.int .i64 e.2.2.2.1,.string e.2.2.2.2.1,.string e.2.2.2.2.2] 29 (0,0))
 hbe:w.heap.size≤be
section
variable {T:TypeId} {B off be:Nat} {name:ByteArray} {w W w2:World} {e:bQ} {x x':LifeS} {vm vo vm' vo':Value}
theorem aQ.ne(h:aQ T B off name w be e x vm vo W):be≠B:=by have:=h.only.lt;have:=h.hbe;omega
theorem aQ.step(h:aQ T B off name w be e x vm vo W)(hb:Below W.heap.size W w2):aQ T B off name w be e x vm vo w2:=by
 obtain⟨⟨cs,h1,h2,h3⟩,h4,h5,h6⟩:=h
 exact⟨⟨cs,an h1 hb,h2,h3⟩,h4.step hb,an h5 hb,h6⟩
theorem aQ.set(h:aQ T B off name w be e x vm vo W){j:Nat} (u:Value)(hj:j < 18)(hcs:fD name x' vm' vo'=(fD name x vm vo).set j u):aQ T B off name w be e x' vm' vo' (W.setCell ⟨B,off+j,none⟩ u):=by
 have hne:=h.ne
 obtain⟨⟨cs,h1,h2,h3⟩,h4,h5,h6⟩:=h
 refine⟨⟨cs.setIfInBounds (off+j) u,bn h1,by simpa using h2,fun i v hi=> ?_⟩,h4.set hj u,bA h5 hne,h6⟩
 rw [hcs,List.getElem?_set] at hi
 rw [Array.getElem?_setIfInBounds]
 by_cases c:j=i
 ·subst c
  rw [aG rfl] at hi
  split at hi
  ·rw [aG rfl,aG (by omega)];exact hi
  ·cases hi
 ·rw [aA c] at hi
  rw [aA (by omega)]
  exact h3 i v hi
theorem aQ.grown {g:Option Nat} (h:aQ T B off name w be e x vm vo W)(hg:W.grownBy w2 g)(hr:∀ k,g=some k→w.heap.size≤k∧k≠be):aQ T B off name w be e x vm vo w2:=by
 have hl:=h.only.lt
 obtain⟨⟨cs,h1,h2,h3⟩,h4,h5,h6⟩:=h
 refine⟨⟨cs,(hg.block B (ak h1) fun c=> ?_).trans h1,h2,h3⟩,h4.grown hg fun k hk=> (hr k hk).1,(hg.block be (ak h5) fun c=> ?_).trans h5,h6⟩
 ·have:=(hr B c.symm).1;omega
 ·exact(hr be c.symm).2 rfl
theorem aQ.cell(h:aQ T B off name w be e x vm vo W){j:Nat} {u:Value} (hj:(fD name x vm vo)[j]? =some u):W.cell? ⟨B,off+j,none⟩=some u:=by
 obtain⟨⟨cs,h1,h2,h3⟩,h4,h5,h6⟩:=h
 exact ah h1 (h3 j u hj)
theorem aQ.free(h:aQ T B off name w be e x vm vo W)(j:Nat):W.frozen? ⟨B,off+j,none⟩=false:=by
 obtain⟨⟨cs,h1,h2,h3⟩,h4,h5,h6⟩:=h
 exact aR h1
theorem aQ.lt(h:aQ T B off name w be e x vm vo W):B < W.heap.size:=by
 obtain⟨⟨cs,h1,h2,h3⟩,h4,h5,h6⟩:=h
 exact ak h1
theorem aQ.ev(h:aQ T B off name w be e x vm vo W):W.cell? ⟨be,0,none⟩=some (.int .i64 e.1)∧W.cell? ⟨be,1,none⟩=some (.int .i64 e.2.1)∧W.cell? ⟨be,2,none⟩=some (.int .i64 e.2.2.1)∧W.cell? ⟨be,3,none⟩=some (.int .i64 e.2.2.2.1)∧W.cell? ⟨be,4,none⟩=some (.string e.2.2.2.2.1)∧W.cell? ⟨be,5,none⟩=some (.string e.2.2.2.2.2)∧be < W.heap.size:=
 ⟨ah h.box rfl,ah h.box rfl,ah h.box rfl,ah h.box rfl,ah h.box rfl,ah h.box rfl,ak h.box⟩
theorem aQ.done(h:aQ T B off name w be e x vm vo W)(hm:bH vm x.ms W)(ho:bH vo x.os W):bw T B off name x vm vo W:=by
 obtain⟨⟨cs,h1,h2,h3⟩,h4,h5,h6⟩:=h
 exact⟨⟨cs,h1,h3⟩,hm,ho⟩
end
end
section
open Go.RowKit Mr
structure fE(x:LifeS):Prop where
 n:x.n≤100000
 thr:0≤x.thr∧x.thr≤100000*1099511627776
 hot:0≤x.hot∧x.hot≤100000*1099511627776
 fau:0≤x.fau∧x.fau≤100000
 mov:0≤x.mov∧x.mov≤100000
structure kq(C:Bool→World→Prop)(val:Value)(b0 b1:Bool)(v0:Value)(W:World):Prop where
 s:C b1 W
 v:b0=true→v0=val
 n:b0=false→b1=false
theorem ed {T:TypeId} {B off:Nat} {name:ByteArray} {x:LifeS} {vm vo:Value} {w:World} (h:bw T B off name x vm vo w)(k t a b:Int)(nm ot:ByteArray):
  aQ T B off name w w.heap.size (k,t,a,b,nm,ot) x vm vo (w.alloc (.cells #[.int .i64 k,.int .i64 t,.int .i64 a,.int .i64 b,.string nm,.string ot] 29)):=by
 obtain⟨⟨cs,h1,h2⟩,h3,h4⟩:=h
 have h17:=(Array.getElem?_eq_some_iff.1 (h2 17 _ rfl)).1
 exact⟨⟨cs,an h1 bU,by omega,h2⟩,(bO.start h1).step bU,au w _,bz _⟩
theorem tN {T:TypeId} {B off:Nat} {name:ByteArray} {x:LifeS} {vm vo:Value} {w:World} (hT:T≠9)(h:bw T B off name x vm vo w)(hB:fE x)(t a b:Int)(nm ot:ByteArray):
  Calls Tryz.prog 46 #[.pointer (some ⟨B,off,none⟩),.agg #[.int .i64 9,.int .i64 t,.int .i64 a,.int .i64 b,.string nm,.string ot]] w fun en w'=> en=.returned (.tuple #[])∧∃ vm' vo',jo w T B off name (x.add name (9,t,a,b,nm,ot)) vm vo vm' vo' w'∧bO T B off 18 w w':=by
 have A0:=aa (ed h 9 t a b nm ot)
 have HR:=aa (ba h.ms h.os)
 have HB:=aa hB
 have hn:=hB.n
 have hw1:IntKind.i64.wrap ((x.n:Int)+1)=(x.n:Int)+1:=cC _ ⟨by omega,by omega⟩
 clear h hB hn
 go_enter Tryz.func46,Tryz.ntmps46
 go_upto_region 1 with fail
 generalize(w.alloc _)=W0 at*
 have c1:=A0.out.cell (j:=1) rfl
 have f1:=A0.out.free 1
 have lB:=A0.out.lt
 go_upto_region 2 with fail
 have A1:Hid (aQ T B off name w w.heap.size (9,t,a,b,nm,ot) {x with n:=x.n+1} vm vo (W0.setCell ⟨B,off+1,none⟩ (.int .i64 ((x.n:Int)+1)))):=A0.out.set (j:=1) (.int .i64 ((x.n:Int)+1)) (by decide) rfl
 generalize(W0.setCell ⟨B,off+1,none⟩ _)=W1 at*
 clear A0 c1 f1 lB hw1
 obtain⟨e0,e1,e2,e3,e4,e5,el⟩:=A1.out.ev
 have c2:=A1.out.cell (j:=2) rfl
 have f2:=A1.out.free 2
 have lB:=A1.out.lt
 go_upto_region 3 with fail
 have A2:Hid (aQ T B off name w w.heap.size (9,t,a,b,nm,ot) {x with n:=x.n+1,at_:=t} vm vo (W1.setCell ⟨B,off+2,none⟩ (.int .i64 t))):=A1.out.set (j:=2) (.int .i64 t) (by decide) rfl
 generalize(W1.setCell ⟨B,off+2,none⟩ _)=W2 at*
 clear A1 c2 f2 lB e0 e1 e2 e3 e4 e5 el
 obtain⟨e0,e1,e2,e3,e4,e5,el⟩:=A2.out.ev
 have lB:=A2.out.lt
 have c:=A2.out.cell (j:=17) rfl
 have f:=A2.out.free 17
 go_wp2_with fail
 have A3:Hid (aQ T B off name w w.heap.size (9,t,a,b,nm,ot) {x with n:=x.n+1,at_:=t,scr:=true} vm vo (W2.setCell ⟨B,off+17,none⟩ (.bool true))):=A2.out.set (j:=17) (.bool true) (by decide) rfl
 refine bodyPost_end (results_none rfl _ _ _) rfl ?_
 first | exact⟨rfl,⟨vm,vo,⟨A3.out.done (HR.out.1.only A3.out.only hT) (HR.out.2.only A3.out.only hT),ax rfl,ax rfl⟩⟩,A3.out.only⟩ | exact⟨rfl,vm,vo,⟨A3.out.done (HR.out.1.only A3.out.only hT) (HR.out.2.only A3.out.only hT),ax rfl,ax rfl⟩,A3.out.only⟩
theorem tP {T:TypeId} {B off:Nat} {name:ByteArray} {x:LifeS} {vm vo:Value} {w:World} (hT:T≠9)(h:bw T B off name x vm vo w)(hB:fE x)(t a b:Int)(nm ot:ByteArray):
  Calls Tryz.prog 46 #[.pointer (some ⟨B,off,none⟩),.agg #[.int .i64 4,.int .i64 t,.int .i64 a,.int .i64 b,.string nm,.string ot]] w fun en w'=> en=.returned (.tuple #[])∧∃ vm' vo',jo w T B off name (x.add name (4,t,a,b,nm,ot)) vm vo vm' vo' w'∧bO T B off 18 w w':=by
 have A0:=aa (ed h 4 t a b nm ot)
 have HR:=aa (ba h.ms h.os)
 have HB:=aa hB
 have hn:=hB.n
 have hw1:IntKind.i64.wrap ((x.n:Int)+1)=(x.n:Int)+1:=cC _ ⟨by omega,by omega⟩
 clear h hB hn
 go_enter Tryz.func46,Tryz.ntmps46
 go_upto_region 1 with fail
 generalize(w.alloc _)=W0 at*
 have c1:=A0.out.cell (j:=1) rfl
 have f1:=A0.out.free 1
 have lB:=A0.out.lt
 go_upto_region 2 with fail
 have A1:Hid (aQ T B off name w w.heap.size (4,t,a,b,nm,ot) {x with n:=x.n+1} vm vo (W0.setCell ⟨B,off+1,none⟩ (.int .i64 ((x.n:Int)+1)))):=A0.out.set (j:=1) (.int .i64 ((x.n:Int)+1)) (by decide) rfl
 generalize(W0.setCell ⟨B,off+1,none⟩ _)=W1 at*
 clear A0 c1 f1 lB hw1
 obtain⟨e0,e1,e2,e3,e4,e5,el⟩:=A1.out.ev
 have c2:=A1.out.cell (j:=2) rfl
 have f2:=A1.out.free 2
 have lB:=A1.out.lt
 go_upto_region 3 with fail
 have A2:Hid (aQ T B off name w w.heap.size (4,t,a,b,nm,ot) {x with n:=x.n+1,at_:=t} vm vo (W1.setCell ⟨B,off+2,none⟩ (.int .i64 t))):=A1.out.set (j:=2) (.int .i64 t) (by decide) rfl
 generalize(W1.setCell ⟨B,off+2,none⟩ _)=W2 at*
 clear A1 c2 f2 lB e0 e1 e2 e3 e4 e5 el
 obtain⟨e0,e1,e2,e3,e4,e5,el⟩:=A2.out.ev
 have lB:=A2.out.lt
 have c:=A2.out.cell (j:=15) rfl
 have f:=A2.out.free 15
 have hfa:=HB.out.fau
 have hw2:IntKind.i64.wrap (x.fau+1)=x.fau+1:=cC _ ⟨by omega,by omega⟩
 clear hfa
 go_wp2_with fail
 have A3:Hid (aQ T B off name w w.heap.size (4,t,a,b,nm,ot) {x with n:=x.n+1,at_:=t,fau:=x.fau+1} vm vo (W2.setCell ⟨B,off+15,none⟩ (.int .i64 (x.fau+1)))):=A2.out.set (j:=15) (.int .i64 (x.fau+1)) (by decide) rfl
 refine bodyPost_end (results_none rfl _ _ _) rfl ?_
 first | exact⟨rfl,⟨vm,vo,⟨A3.out.done (HR.out.1.only A3.out.only hT) (HR.out.2.only A3.out.only hT),ax rfl,ax rfl⟩⟩,A3.out.only⟩ | exact⟨rfl,vm,vo,⟨A3.out.done (HR.out.1.only A3.out.only hT) (HR.out.2.only A3.out.only hT),ax rfl,ax rfl⟩,A3.out.only⟩
theorem tQ {T:TypeId} {B off:Nat} {name:ByteArray} {x:LifeS} {vm vo:Value} {w:World} (hT:T≠9)(h:bw T B off name x vm vo w)(hB:fE x)(t a b:Int)(nm ot:ByteArray)(ha:0≤a∧a≤1099511627776)(hb:0≤b∧b≤1099511627776):
  Calls Tryz.prog 46 #[.pointer (some ⟨B,off,none⟩),.agg #[.int .i64 2,.int .i64 t,.int .i64 a,.int .i64 b,.string nm,.string ot]] w fun en w'=> en=.returned (.tuple #[])∧∃ vm' vo',jo w T B off name (x.add name (2,t,a,b,nm,ot)) vm vo vm' vo' w'∧bO T B off 18 w w':=by
 have A0:=aa (ed h 2 t a b nm ot)
 have HR:=aa (ba h.ms h.os)
 have HB:=aa hB
 have hn:=hB.n
 have hw1:IntKind.i64.wrap ((x.n:Int)+1)=(x.n:Int)+1:=cC _ ⟨by omega,by omega⟩
 clear h hB hn
 go_enter Tryz.func46,Tryz.ntmps46
 go_upto_region 1 with fail
 generalize(w.alloc _)=W0 at*
 have c1:=A0.out.cell (j:=1) rfl
 have f1:=A0.out.free 1
 have lB:=A0.out.lt
 go_upto_region 2 with fail
 have A1:Hid (aQ T B off name w w.heap.size (2,t,a,b,nm,ot) {x with n:=x.n+1} vm vo (W0.setCell ⟨B,off+1,none⟩ (.int .i64 ((x.n:Int)+1)))):=A0.out.set (j:=1) (.int .i64 ((x.n:Int)+1)) (by decide) rfl
 generalize(W0.setCell ⟨B,off+1,none⟩ _)=W1 at*
 clear A0 c1 f1 lB hw1
 obtain⟨e0,e1,e2,e3,e4,e5,el⟩:=A1.out.ev
 have c2:=A1.out.cell (j:=2) rfl
 have f2:=A1.out.free 2
 have lB:=A1.out.lt
 go_upto_region 3 with fail
 have A2:Hid (aQ T B off name w w.heap.size (2,t,a,b,nm,ot) {x with n:=x.n+1,at_:=t} vm vo (W1.setCell ⟨B,off+2,none⟩ (.int .i64 t))):=A1.out.set (j:=2) (.int .i64 t) (by decide) rfl
 generalize(W1.setCell ⟨B,off+2,none⟩ _)=W2 at*
 clear A1 c2 f2 lB e0 e1 e2 e3 e4 e5 el
 obtain⟨e0,e1,e2,e3,e4,e5,el⟩:=A2.out.ev
 have lB:=A2.out.lt
 have hth:=HB.out.thr
 have hho:=HB.out.hot
 have hw2:IntKind.i64.wrap (x.thr+a)=x.thr+a:=cC _ ⟨by omega,by omega⟩
 have hw3:IntKind.i64.wrap (x.hot+b)=x.hot+b:=cC _ ⟨by omega,by omega⟩
 clear hth hho ha hb
 go_upto_region 12 with fail
 refine bo 10 14 158 [(3,53),(9,159)] [(none,[]),(none,[]),(none,[]),(some 0,[]),(none,[]),(none,[]),(none,[0]),(none,[]),(none,[]),(some 1,[0])] [(50,(.pointer (some ⟨B,off,none⟩))),(51,(.pointer (some ⟨B,off,none⟩))),(52,(.pointer (some ⟨B,off+11,none⟩))),(54,(.pointer (some ⟨w.heap.size,2,none⟩))),(55,(.int .i64 (a))),(56,(.int .i64 (x.thr+a))),(57,(.pointer (some ⟨B,off,none⟩))),(58,(.pointer (some ⟨B,off+11,none⟩)))] (fun bsE vsE W=> kq (fun q W=> aQ T B off name w w.heap.size (2,t,a,b,nm,ot) (bif q then {x with n:=x.n+1,at_:=t,thr:=x.thr+a} else {x with n:=x.n+1,at_:=t}) vm vo W) (.int .i64 (x.thr)) (bsE.getD 0 false) (bsE.getD 1 false) (vsE.getD 0 undef) W) (by kernel_rfl) (by kernel_rfl) rfl rfl (by kernel_rfl) (by rfl) ?h0 ?each ?done
 case h0=>
  intro vsE hlv
  obtain⟨v0,v1,rfl⟩:=cd hlv
  exact⟨A2.out.step (Below.refl _ _).drew,(fun e=> by cases e),(fun _=> rfl)⟩
 case each=>
  simp only [dp]
  refine⟨⟨50,(.pointer (some ⟨B,off,none⟩)),rfl,by kernel_rfl,?_⟩,⟨51,(.pointer (some ⟨B,off,none⟩)),rfl,by kernel_rfl,?_⟩,⟨52,(.pointer (some ⟨B,off+11,none⟩)),rfl,by kernel_rfl,?_⟩,ax ⟨53,rfl,?q1_3⟩,⟨54,(.pointer (some ⟨w.heap.size,2,none⟩)),rfl,by kernel_rfl,?_⟩,⟨55,(.int .i64 (a)),rfl,by kernel_rfl,?_⟩,⟨56,(.int .i64 (x.thr+a)),rfl,by kernel_rfl,?q1_6⟩,⟨57,(.pointer (some ⟨B,off,none⟩)),rfl,by kernel_rfl,?_⟩,⟨58,(.pointer (some ⟨B,off+11,none⟩)),rfl,by kernel_rfl,?_⟩,ay ⟨rfl,?q1_9⟩,trivial⟩
  case q1_3=>
   intro bsE vsE W hlb hlv hnd hbk h
   obtain⟨b0,b1,rfl⟩:=cd hlb
   obtain⟨v0,v1,rfl⟩:=cd hlv
   obtain rfl:b0=false:=hbk
   replace h:kq (fun q W=> aQ T B off name w w.heap.size (2,t,a,b,nm,ot) (bif q then {x with n:=x.n+1,at_:=t,thr:=x.thr+a} else {x with n:=x.n+1,at_:=t}) vm vo W) (.int .i64 (x.thr)) false b1 v0 W:=h
   clear hnd
   have HST:=aa h
   obtain rfl:=h.n rfl;have c:=h.s.cell (j:=11) rfl;have lB:=h.s.lt
   intro K Q hK
   simp only [az,updAll,Act.put,aU,aV,aW,aX] at hK ⊢
   go_wp2_with fail
   all_goals(first | exact hK _ _ ⟨h.s,fun _=> rfl,fun _=> rfl⟩ | exact⟨h.s,fun _=> rfl,fun _=> rfl⟩)
  case q1_6=>
   intro bsE vsE W hlb hlv hnd h
   obtain⟨b0,b1,rfl⟩:=cd hlb
   obtain⟨v0,v1,rfl⟩:=cd hlv
   obtain rfl:b0=true:=hnd 0 (by simp)
   replace h:kq (fun q W=> aQ T B off name w w.heap.size (2,t,a,b,nm,ot) (bif q then {x with n:=x.n+1,at_:=t,thr:=x.thr+a} else {x with n:=x.n+1,at_:=t}) vm vo W) (.int .i64 (x.thr)) true b1 v0 W:=h
   clear hnd
   have HST:=aa h
   obtain rfl:=h.v rfl;have lB:=h.s.lt
   intro K Q hK
   simp only [az,updAll,Act.put,aU,aV,aW,aX] at hK ⊢
   go_wp2_with (fail)
   all_goals(first | exact hK _ (by first | exact h | exact h.step (by repeat' (first | exact Below.refl _ _ | apply aI | apply bg))) | exact(by first | exact h | exact h.step (by repeat' (first | exact Below.refl _ _ | apply aI | apply bg))))
  case q1_9=>
   intro bsE vsE W hlb hlv hnd hbk h
   obtain⟨b0,b1,rfl⟩:=cd hlb
   obtain⟨v0,v1,rfl⟩:=cd hlv
   obtain rfl:b0=true:=hnd 0 (by simp)
   obtain rfl:b1=false:=hbk
   replace h:kq (fun q W=> aQ T B off name w w.heap.size (2,t,a,b,nm,ot) (bif q then {x with n:=x.n+1,at_:=t,thr:=x.thr+a} else {x with n:=x.n+1,at_:=t}) vm vo W) (.int .i64 (x.thr)) true false v0 W:=h
   clear hnd
   have HST:=aa h
   obtain rfl:=h.v rfl;have c:=h.s.cell (j:=11) rfl;have f:=h.s.free 11;have lB:=h.s.lt
   intro K Q hK
   simp only [az,updAll,Act.put,aU,aV,aW,aX] at hK ⊢
   go_wp2_with fail
   all_goals(first | exact hK _ ⟨h.s.set (j:=11) (.int .i64 (x.thr+a)) (by decide) rfl,h.v,fun e=> by cases e⟩ | exact⟨h.s.set (j:=11) (.int .i64 (x.thr+a)) (by decide) rfl,h.v,fun e=> by cases e⟩)
  all_goals
   intro bsE vsE W hlb hlv hnd h
   obtain⟨b0,b1,rfl⟩:=cd hlb
   obtain⟨v0,v1,rfl⟩:=cd hlv
   replace h:kq (fun q W=> aQ T B off name w w.heap.size (2,t,a,b,nm,ot) (bif q then {x with n:=x.n+1,at_:=t,thr:=x.thr+a} else {x with n:=x.n+1,at_:=t}) vm vo W) (.int .i64 (x.thr)) b0 b1 v0 W:=h
   clear hnd
   have HST:=aa h
   have lB:=h.s.lt;obtain⟨e0,e1,e2,e3,e4,e5,el⟩:=h.s.ev
   intro K Q hK
   simp only [az,updAll,Act.put,aU,aV,aW,aX] at hK ⊢
   go_wp2_with (fail)
   all_goals(first | exact hK _ (by first | exact h | exact h.step (by repeat' (first | exact Below.refl _ _ | apply aI | apply bg))) | exact(by first | exact h | exact h.step (by repeat' (first | exact Below.refl _ _ | apply aI | apply bg))))
 case done=>
  intro vsE W hlv h
  obtain⟨v0,v1,rfl⟩:=cd hlv
  replace h:kq (fun q W=> aQ T B off name w w.heap.size (2,t,a,b,nm,ot) (bif q then {x with n:=x.n+1,at_:=t,thr:=x.thr+a} else {x with n:=x.n+1,at_:=t}) vm vo W) (.int .i64 (x.thr)) true true v0 W:=h
  have HST:=aa h
  have A3:Hid (aQ T B off name w w.heap.size (2,t,a,b,nm,ot) {x with n:=x.n+1,at_:=t,thr:=x.thr+a} vm vo W):=h.s
  clear h HST A2 e0 e1 e2 e3 e4 e5 el lB
  simp only [az,updAll,Act.put,aU,aV,aW,aX]
  go_upto_region 13 with fail
  obtain⟨e0,e1,e2,e3,e4,e5,el⟩:=A3.out.ev
  have lB:=A3.out.lt
  refine bo 10 14 158 [(3,62),(9,159)] [(none,[]),(none,[]),(none,[]),(some 0,[]),(none,[]),(none,[]),(none,[0]),(none,[]),(none,[]),(some 1,[0])] [(59,(.pointer (some ⟨B,off,none⟩))),(60,(.pointer (some ⟨B,off,none⟩))),(61,(.pointer (some ⟨B,off+12,none⟩))),(63,(.pointer (some ⟨w.heap.size,3,none⟩))),(64,(.int .i64 (b))),(65,(.int .i64 (x.hot+b))),(66,(.pointer (some ⟨B,off,none⟩))),(67,(.pointer (some ⟨B,off+12,none⟩)))] (fun bsE vsE W=> kq (fun q W=> aQ T B off name w w.heap.size (2,t,a,b,nm,ot) (bif q then {x with n:=x.n+1,at_:=t,thr:=x.thr+a,hot:=x.hot+b} else {x with n:=x.n+1,at_:=t,thr:=x.thr+a}) vm vo W) (.int .i64 (x.hot)) (bsE.getD 0 false) (bsE.getD 1 false) (vsE.getD 0 undef) W) (by kernel_rfl) (by kernel_rfl) rfl rfl (by kernel_rfl) (by rfl) ?h0 ?each ?done
  case h0=>
   intro vsE hlv
   obtain⟨v0,v1,rfl⟩:=cd hlv
   exact⟨A3.out.step (Below.refl _ _).drew,(fun e=> by cases e),(fun _=> rfl)⟩
  case each=>
   simp only [dp]
   refine⟨⟨59,(.pointer (some ⟨B,off,none⟩)),rfl,by kernel_rfl,?_⟩,⟨60,(.pointer (some ⟨B,off,none⟩)),rfl,by kernel_rfl,?_⟩,⟨61,(.pointer (some ⟨B,off+12,none⟩)),rfl,by kernel_rfl,?_⟩,ax ⟨62,rfl,?q2_3⟩,⟨63,(.pointer (some ⟨w.heap.size,3,none⟩)),rfl,by kernel_rfl,?_⟩,⟨64,(.int .i64 (b)),rfl,by kernel_rfl,?_⟩,⟨65,(.int .i64 (x.hot+b)),rfl,by kernel_rfl,?q2_6⟩,⟨66,(.pointer (some ⟨B,off,none⟩)),rfl,by kernel_rfl,?_⟩,⟨67,(.pointer (some ⟨B,off+12,none⟩)),rfl,by kernel_rfl,?_⟩,ay ⟨rfl,?q2_9⟩,trivial⟩
   case q2_3=>
    intro bsE vsE W hlb hlv hnd hbk h
    obtain⟨b0,b1,rfl⟩:=cd hlb
    obtain⟨v0,v1,rfl⟩:=cd hlv
    obtain rfl:b0=false:=hbk
    replace h:kq (fun q W=> aQ T B off name w w.heap.size (2,t,a,b,nm,ot) (bif q then {x with n:=x.n+1,at_:=t,thr:=x.thr+a,hot:=x.hot+b} else {x with n:=x.n+1,at_:=t,thr:=x.thr+a}) vm vo W) (.int .i64 (x.hot)) false b1 v0 W:=h
    clear hnd
    have HST:=aa h
    obtain rfl:=h.n rfl;have c:=h.s.cell (j:=12) rfl;have lB:=h.s.lt
    intro K Q hK
    simp only [az,updAll,Act.put,aU,aV,aW,aX] at hK ⊢
    go_wp2_with fail
    all_goals(first | exact hK _ _ ⟨h.s,fun _=> rfl,fun _=> rfl⟩ | exact⟨h.s,fun _=> rfl,fun _=> rfl⟩)
   case q2_6=>
    intro bsE vsE W hlb hlv hnd h
    obtain⟨b0,b1,rfl⟩:=cd hlb
    obtain⟨v0,v1,rfl⟩:=cd hlv
    obtain rfl:b0=true:=hnd 0 (by simp)
    replace h:kq (fun q W=> aQ T B off name w w.heap.size (2,t,a,b,nm,ot) (bif q then {x with n:=x.n+1,at_:=t,thr:=x.thr+a,hot:=x.hot+b} else {x with n:=x.n+1,at_:=t,thr:=x.thr+a}) vm vo W) (.int .i64 (x.hot)) true b1 v0 W:=h
    clear hnd
    have HST:=aa h
    obtain rfl:=h.v rfl;have lB:=h.s.lt
    intro K Q hK
    simp only [az,updAll,Act.put,aU,aV,aW,aX] at hK ⊢
    go_wp2_with (fail)
    all_goals(first | exact hK _ (by first | exact h | exact h.step (by repeat' (first | exact Below.refl _ _ | apply aI | apply bg))) | exact(by first | exact h | exact h.step (by repeat' (first | exact Below.refl _ _ | apply aI | apply bg))))
   case q2_9=>
    intro bsE vsE W hlb hlv hnd hbk h
    obtain⟨b0,b1,rfl⟩:=cd hlb
    obtain⟨v0,v1,rfl⟩:=cd hlv
    obtain rfl:b0=true:=hnd 0 (by simp)
    obtain rfl:b1=false:=hbk
    replace h:kq (fun q W=> aQ T B off name w w.heap.size (2,t,a,b,nm,ot) (bif q then {x with n:=x.n+1,at_:=t,thr:=x.thr+a,hot:=x.hot+b} else {x with n:=x.n+1,at_:=t,thr:=x.thr+a}) vm vo W) (.int .i64 (x.hot)) true false v0 W:=h
    clear hnd
    have HST:=aa h
    obtain rfl:=h.v rfl;have c:=h.s.cell (j:=12) rfl;have f:=h.s.free 12;have lB:=h.s.lt
    intro K Q hK
    simp only [az,updAll,Act.put,aU,aV,aW,aX] at hK ⊢
    go_wp2_with fail
    all_goals(first | exact hK _ ⟨h.s.set (j:=12) (.int .i64 (x.hot+b)) (by decide) rfl,h.v,fun e=> by cases e⟩ | exact⟨h.s.set (j:=12) (.int .i64 (x.hot+b)) (by decide) rfl,h.v,fun e=> by cases e⟩)
   all_goals
    intro bsE vsE W hlb hlv hnd h
    obtain⟨b0,b1,rfl⟩:=cd hlb
    obtain⟨v0,v1,rfl⟩:=cd hlv
    replace h:kq (fun q W=> aQ T B off name w w.heap.size (2,t,a,b,nm,ot) (bif q then {x with n:=x.n+1,at_:=t,thr:=x.thr+a,hot:=x.hot+b} else {x with n:=x.n+1,at_:=t,thr:=x.thr+a}) vm vo W) (.int .i64 (x.hot)) b0 b1 v0 W:=h
    clear hnd
    have HST:=aa h
    have lB:=h.s.lt;obtain⟨e0,e1,e2,e3,e4,e5,el⟩:=h.s.ev
    intro K Q hK
    simp only [az,updAll,Act.put,aU,aV,aW,aX] at hK ⊢
    go_wp2_with (fail)
    all_goals(first | exact hK _ (by first | exact h | exact h.step (by repeat' (first | exact Below.refl _ _ | apply aI | apply bg))) | exact(by first | exact h | exact h.step (by repeat' (first | exact Below.refl _ _ | apply aI | apply bg))))
  case done=>
   intro vsE W hlv h
   obtain⟨v0,v1,rfl⟩:=cd hlv
   replace h:kq (fun q W=> aQ T B off name w w.heap.size (2,t,a,b,nm,ot) (bif q then {x with n:=x.n+1,at_:=t,thr:=x.thr+a,hot:=x.hot+b} else {x with n:=x.n+1,at_:=t,thr:=x.thr+a}) vm vo W) (.int .i64 (x.hot)) true true v0 W:=h
   have HST:=aa h
   have A4:Hid (aQ T B off name w w.heap.size (2,t,a,b,nm,ot) {x with n:=x.n+1,at_:=t,thr:=x.thr+a,hot:=x.hot+b} vm vo W):=h.s
   clear h HST A3 e0 e1 e2 e3 e4 e5 el lB
   simp only [az,updAll,Act.put,aU,aV,aW,aX]
   go_wp2_with fail
   refine bodyPost_end (results_none rfl _ _ _) rfl ?_
   first | exact⟨rfl,⟨vm,vo,⟨A4.out.done (HR.out.1.only A4.out.only hT) (HR.out.2.only A4.out.only hT),ax rfl,ax rfl⟩⟩,A4.out.only⟩ | exact⟨rfl,vm,vo,⟨A4.out.done (HR.out.1.only A4.out.only hT) (HR.out.2.only A4.out.only hT),ax rfl,ax rfl⟩,A4.out.only⟩
theorem tV {T:TypeId} {B off:Nat} {name:ByteArray} {x:LifeS} {vm vo:Value} {w:World} (hT:T≠9)(h:bw T B off name x vm vo w)(hB:fE x)(t a b:Int)(nm ot:ByteArray):
  Calls Tryz.prog 46 #[.pointer (some ⟨B,off,none⟩),.agg #[.int .i64 3,.int .i64 t,.int .i64 a,.int .i64 b,.string nm,.string ot]] w fun en w'=> en=.returned (.tuple #[])∧∃ vm' vo',jo w T B off name (x.add name (3,t,a,b,nm,ot)) vm vo vm' vo' w'∧bO T B off 18 w w':=by
 have A0:=aa (ed h 3 t a b nm ot)
 have HR:=aa (ba h.ms h.os)
 have HB:=aa hB
 have hn:=hB.n
 have hw1:IntKind.i64.wrap ((x.n:Int)+1)=(x.n:Int)+1:=cC _ ⟨by omega,by omega⟩
 clear h hB hn
 go_enter Tryz.func46,Tryz.ntmps46
 go_upto_region 1 with fail
 generalize(w.alloc _)=W0 at*
 have c1:=A0.out.cell (j:=1) rfl
 have f1:=A0.out.free 1
 have lB:=A0.out.lt
 go_upto_region 2 with fail
 have A1:Hid (aQ T B off name w w.heap.size (3,t,a,b,nm,ot) {x with n:=x.n+1} vm vo (W0.setCell ⟨B,off+1,none⟩ (.int .i64 ((x.n:Int)+1)))):=A0.out.set (j:=1) (.int .i64 ((x.n:Int)+1)) (by decide) rfl
 generalize(W0.setCell ⟨B,off+1,none⟩ _)=W1 at*
 clear A0 c1 f1 lB hw1
 obtain⟨e0,e1,e2,e3,e4,e5,el⟩:=A1.out.ev
 have c2:=A1.out.cell (j:=2) rfl
 have f2:=A1.out.free 2
 have lB:=A1.out.lt
 go_upto_region 3 with fail
 have A2:Hid (aQ T B off name w w.heap.size (3,t,a,b,nm,ot) {x with n:=x.n+1,at_:=t} vm vo (W1.setCell ⟨B,off+2,none⟩ (.int .i64 t))):=A1.out.set (j:=2) (.int .i64 t) (by decide) rfl
 generalize(W1.setCell ⟨B,off+2,none⟩ _)=W2 at*
 clear A1 c2 f2 lB e0 e1 e2 e3 e4 e5 el
 obtain⟨e0,e1,e2,e3,e4,e5,el⟩:=A2.out.ev
 have lB:=A2.out.lt
 go_upto_region 15 with fail
 refine bo 10 14 158 [(6,158),(9,159)] [(none,[]),(none,[]),(none,[]),(none,[]),(none,[]),(none,[]),(some 0,[]),(none,[]),(none,[]),(some 1,[])] [(70,(.pointer (some ⟨B,off,none⟩))),(71,(.pointer (some ⟨B,off,none⟩))),(72,(.pointer (some ⟨w.heap.size,2,none⟩))),(73,(.int .i64 (a))),(74,(.pointer (some ⟨B,off,none⟩))),(75,(.pointer (some ⟨B,off+13,none⟩))),(76,(.pointer (some ⟨B,off,none⟩))),(77,(.pointer (some ⟨B,off+14,none⟩)))] (fun bsE vsE W=> aQ T B off name w w.heap.size (3,t,a,b,nm,ot) {x with n:=x.n+1,at_:=t,tst:=bif (bsE.getD 0 false)then true else x.tst,tes:=bif (bsE.getD 1 false)then a else x.tes} vm vo W) (by kernel_rfl) (by kernel_rfl) rfl rfl (by kernel_rfl) (by rfl) ?h0 ?each ?done
 case h0=>
  intro vsE hlv
  obtain⟨v0,v1,rfl⟩:=cd hlv
  exact A2.out.step (Below.refl _ _).drew
 case each=>
  simp only [dp]
  refine⟨⟨70,(.pointer (some ⟨B,off,none⟩)),rfl,by kernel_rfl,?_⟩,⟨71,(.pointer (some ⟨B,off,none⟩)),rfl,by kernel_rfl,?_⟩,⟨72,(.pointer (some ⟨w.heap.size,2,none⟩)),rfl,by kernel_rfl,?_⟩,⟨73,(.int .i64 (a)),rfl,by kernel_rfl,?_⟩,⟨74,(.pointer (some ⟨B,off,none⟩)),rfl,by kernel_rfl,?_⟩,⟨75,(.pointer (some ⟨B,off+13,none⟩)),rfl,by kernel_rfl,?_⟩,ay ⟨rfl,?q3_6⟩,⟨76,(.pointer (some ⟨B,off,none⟩)),rfl,by kernel_rfl,?_⟩,⟨77,(.pointer (some ⟨B,off+14,none⟩)),rfl,by kernel_rfl,?_⟩,ay ⟨rfl,?q3_9⟩,trivial⟩
  case q3_6=>
   intro bsE vsE W hlb hlv hnd hbk h
   obtain⟨b0,b1,rfl⟩:=cd hlb
   obtain⟨v0,v1,rfl⟩:=cd hlv
   obtain rfl:b0=false:=hbk
   replace h:aQ T B off name w w.heap.size (3,t,a,b,nm,ot) {x with n:=x.n+1,at_:=t,tst:=bif false then true else x.tst,tes:=bif b1 then a else x.tes} vm vo W:=h
   clear hnd
   have HST:=aa h
   have c:=h.cell (j:=13) rfl;have f:=h.free 13;have lB:=h.lt
   intro K Q hK
   simp only [az,updAll,Act.put,aU,aV,aW,aX] at hK ⊢
   go_wp2_with fail
   all_goals(first | exact hK _ (h.set (j:=13) (.bool true) (by decide) rfl) | exact(h.set (j:=13) (.bool true) (by decide) rfl))
  case q3_9=>
   intro bsE vsE W hlb hlv hnd hbk h
   obtain⟨b0,b1,rfl⟩:=cd hlb
   obtain⟨v0,v1,rfl⟩:=cd hlv
   obtain rfl:b1=false:=hbk
   replace h:aQ T B off name w w.heap.size (3,t,a,b,nm,ot) {x with n:=x.n+1,at_:=t,tst:=bif b0 then true else x.tst,tes:=bif false then a else x.tes} vm vo W:=h
   clear hnd
   have HST:=aa h
   have c:=h.cell (j:=14) rfl;have f:=h.free 14;have lB:=h.lt
   intro K Q hK
   simp only [az,updAll,Act.put,aU,aV,aW,aX] at hK ⊢
   go_wp2_with fail
   all_goals(first | exact hK _ (h.set (j:=14) (.int .i64 (a)) (by decide) rfl) | exact(h.set (j:=14) (.int .i64 (a)) (by decide) rfl))
  all_goals
   intro bsE vsE W hlb hlv hnd h
   obtain⟨b0,b1,rfl⟩:=cd hlb
   obtain⟨v0,v1,rfl⟩:=cd hlv
   replace h:aQ T B off name w w.heap.size (3,t,a,b,nm,ot) {x with n:=x.n+1,at_:=t,tst:=bif b0 then true else x.tst,tes:=bif b1 then a else x.tes} vm vo W:=h
   clear hnd
   have HST:=aa h
   have lB:=h.lt;obtain⟨e0,e1,e2,e3,e4,e5,el⟩:=h.ev
   intro K Q hK
   simp only [az,updAll,Act.put,aU,aV,aW,aX] at hK ⊢
   go_wp2_with (fail)
   all_goals(first | exact hK _ (by first | exact h | exact h.step (by repeat' (first | exact Below.refl _ _ | apply aI | apply bg))) | exact(by first | exact h | exact h.step (by repeat' (first | exact Below.refl _ _ | apply aI | apply bg))))
 case done=>
  intro vsE W hlv h
  obtain⟨v0,v1,rfl⟩:=cd hlv
  replace h:aQ T B off name w w.heap.size (3,t,a,b,nm,ot) {x with n:=x.n+1,at_:=t,tst:=bif true then true else x.tst,tes:=bif true then a else x.tes} vm vo W:=h
  have HST:=aa h
  have A3:Hid (aQ T B off name w w.heap.size (3,t,a,b,nm,ot) {x with n:=x.n+1,at_:=t,tst:=true,tes:=a} vm vo W):=h
  clear h HST A2 e0 e1 e2 e3 e4 e5 el lB
  simp only [az,updAll,Act.put,aU,aV,aW,aX]
  go_wp2_with fail
  refine bodyPost_end (results_none rfl _ _ _) rfl ?_
  first | exact⟨rfl,⟨vm,vo,⟨A3.out.done (HR.out.1.only A3.out.only hT) (HR.out.2.only A3.out.only hT),ax rfl,ax rfl⟩⟩,A3.out.only⟩ | exact⟨rfl,vm,vo,⟨A3.out.done (HR.out.1.only A3.out.only hT) (HR.out.2.only A3.out.only hT),ax rfl,ax rfl⟩,A3.out.only⟩
end
section
open Go.RowKit Mr
theorem dA {W:World} {base sz n k:Nat} {E:TypeId} {v:Value} {xs:List Value} (h:W.ownsRow base E sz v n xs)(hk:v.ownBlock=some k):base≤k∧∃ cs,W.heap[k]? =some (.cells cs E (0,0)):=by
 obtain⟨h1,h2⟩:=h
 rcases h2 with⟨h2,h3⟩ | ⟨g,cap,cur,q1,q2,q3,-⟩
 ·rw [h2] at hk;cases hk
 ·rw [q1] at hk
  obtain rfl:g=k:=by simpa [Value.ownBlock] using hk
  exact⟨q2,cur,q3⟩
theorem aQ.grownS {T:TypeId} {B off:Nat} {name:ByteArray} {w W w2:World} {e:bQ} {x:LifeS} {vm vo u:Value} (h:aQ T B off name w w.heap.size e x vm vo W)(hg:W.grownBy w2 u.ownBlock)(hu:∀ k,u.ownBlock=some k→w.heap.size≤k∧∃ cs,W.heap[k]? =some (.cells cs 9 (0,0))):aQ T B off name w w.heap.size e x vm vo w2:=
 h.grown hg fun k hk=> ⟨(hu k hk).1,fun c=> by
  obtain⟨cs,q⟩:=(hu k hk).2
  have:=h.box
  rw [← c,q] at this
  simp at this⟩
structure eI(C:Bool→Value→World→Prop)(base:Nat)(vr:Value)(l:List ByteArray)(t:ByteArray)(b0 b1 b2 b3 b4:Bool)(v0 v1 v2 v3:Value)(W:World):Prop where
 s:C b4 v3 W
 r0:b0=true→v0=vr
 r1:b1=true→b3=false→W.ownsRow base 9 1 v1 l.length (l.map Value.string)
 r2:b2=true→∃ g,v2=.slice (some ⟨g,0,none⟩) 1 1∧(b3=false→W.heap[g]? =some (.cells #[.string t] 9 (0,0)))
 r3:b3=true→W.ownsRow base 9 1 v3 (l++[t]).length ((l++[t]).map Value.string)
 n1:b0=false→b1=false
 n2:b1=false→b3=false
 n3:b2=false→b3=false
 n4:b3=false→b4=false
 hb:base≤W.heap.size
section
variable {C:Bool→Value→World→Prop} {base:Nat} {vr:Value} {l:List ByteArray} {t:ByteArray} {b0 b1 b2 b3 b4:Bool} {v0 v1 v2 v3 v7:Value} {W w2:World}
theorem eI.clone(h:eI C base vr l t true false b2 false false v0 v1 v2 v3 W)(hC:∀ q v W w2,C q v W→Below W.heap.size W w2→C q v w2)(ho:w2.ownsRow W.heap.size 9 1 v7 l.length (l.map Value.string))(hb:Below W.heap.size W w2):
  eI C base vr l t true true b2 false false v0 v7 v2 v3 w2:=
 ⟨hC _ _ _ _ h.s hb,h.r0,fun _ _=> own_base ho h.hb,(fun e=> by obtain⟨g,q1,q2⟩:=h.r2 e;exact⟨g,q1,fun e2=> an (q2 e2) hb⟩),(fun e=> by cases e),(fun e=> by cases e),(fun e=> by cases e),fun _=> rfl,fun _=> rfl,Nat.le_trans h.hb hb.size⟩
theorem eI.mk2(h:eI C base vr l t b0 b1 false false false v0 v1 v2 v3 W)(hC:∀ q v W w2,C q v W→Below W.heap.size W w2→C q v w2):
  eI C base vr l t b0 b1 true false false v0 v1 (.slice (some ⟨W.heap.size,0,none⟩) 1 1) v3 (W.alloc (.cells #[.string t] 9)):=
 ⟨hC _ _ _ _ h.s bU,h.r0,fun e1 e2=> aD (h.r1 e1 e2) bU,fun _=> ⟨_,rfl,fun _=> au W _⟩,(fun e=> by cases e),h.n1,fun _=> rfl,(fun e=> by cases e),fun _=> rfl,Nat.le_trans h.hb bU.size⟩
theorem lu(t:ByteArray):∀ u∈[Value.string t],u.oneCell'=true:=by
 intro u hu
 rw [List.mem_singleton.1 hu];rfl
theorem eI.app {o:Oper} {a:Act} {K:Act→World→Prop} {Q:Exit→Act→World→Prop}
  (h:eI C base vr l t b0 true true false false v0 v1 v2 v3 W) (hC:∀ (v:Value) (W w2:World) (u:Value),C false v W→W.grownBy w2 u.ownBlock→(∀ k,u.ownBlock=some k→base≤k∧∃ cs,W.heap[k]? =some (.cells cs 9 (0,0)))→∀ v',C false v' w2) (hl:l.length≤1000000)
  (s p:Operand) (ho:o.op=.call { callee:=.builtin .append,args:=#[s,p],argTypes:=#[47,47] }) (hs:a.eval s=v1) (hp:a.eval p=v2)
  (hK:∀ v' W',eI C base vr l t b0 true true true false v0 v1 v2 v' W'→K (a.put o.dst v') W'):o.wp Tryz.prog a W K Q:=by
 obtain⟨i0,hi,hz0,hz1,hz2⟩:=info_parts ia
 obtain⟨g,rfl,hg⟩:=h.r2 rfl
 have hg2:=hg rfl
 have hown:=h.r1 rfl rfl
 refine fc (P:=Tryz.prog) W s p 47 ho base 9 i0 (.string ⟨#[]⟩) 1 16 Tryz.underlying47 hi hz0 hz1 hz2 rfl (by decide) v1 l.length (l.map Value.string) hs hown (some ⟨g,0,none⟩) 1 1 [.string t] hp rfl (fun _=> ⟨g,0,rfl,fun j u hu=> ?_⟩) (lu t) (by unfold maxLen;omega) (by omega) h.hb fun v' W' q1 q2 q3=> hK v' W' ?_
 ·have hj:j=0:=by
   have:=(aB hu).1
   simpa using this
  subst hj
  simp at hu
  rw [← hu]
  exact ah hg2 rfl
 ·refine⟨hC _ _ _ _ h.s q2 (fun k hk=> dA hown hk) _,h.r0,(fun _ e=> by cases e),(fun _=> ⟨g,rfl,(fun e=> by cases e)⟩),(fun _=> ?_),h.n1,(fun e=> by cases e),(fun e=> by cases e),(fun e=> by cases e),Nat.le_trans h.hb q2.size⟩
  rw [cY,List.map_append]
  exact q1
end
theorem bH.setB {T:TypeId} {B o:Nat} {v u:Value} {l:List ByteArray} {W:World} {cs:Array Value} (h:bH v l W)(hc:W.heap[B]? =some (.cells cs T (0,0)))(hT:T≠9):bH v l (W.setCell ⟨B,o,none⟩ u):=h.keep fun b cs2 fr e=> by
 have hne:b≠B:=fun c=> by
  subst c
  rw [hc] at e
  simp at e
  exact hT e.2.1
 exact Below.heap_setCell _ _ _ _ hne
theorem aQ.rowSet {T:TypeId} {B off o:Nat} {name:ByteArray} {w W:World} {be:Nat} {e:bQ} {x:LifeS} {vm vo v u:Value} {l:List ByteArray} (h:aQ T B off name w be e x vm vo W)(hT:T≠9)(hr:bH v l W):bH v l (W.setCell ⟨B,o,none⟩ u):=by
 obtain⟨cs,h1,-⟩:=h.blk
 exact hr.setB h1 hT
structure iw(C:Bool→Value→World→Prop)(N:Nat)(vr:Value)(l:List ByteArray)(b0 b1 b2:Bool)(v0 v1:Value)(W:World):Prop where
 s:C b2 v1 W
 r0:b0=true→v0=vr
 r1:b1=true→qW N v1 l W
 n1:b0=false→b1=false
 n2:b1=false→b2=false
theorem tW {T:TypeId} {B off:Nat} {name:ByteArray} {x:LifeS} {vm vo:Value} {w:World} (hT:T≠9)(h:bw T B off name x vm vo w)(hB:fE x)(t a b:Int)(nm ot:ByteArray)(hl:x.ms.length≤100000∧x.os.length≤100000):
  Calls Tryz.prog 46 #[.pointer (some ⟨B,off,none⟩),.agg #[.int .i64 7,.int .i64 t,.int .i64 a,.int .i64 b,.string nm,.string ot]] w fun en w'=> en=.returned (.tuple #[])∧∃ vm' vo',jo w T B off name (x.add name (7,t,a,b,nm,ot)) vm vo vm' vo' w'∧bO T B off 18 w w':=by
 have HL:Hid (x.ms.length≤1000000∧x.os.length≤1000000):=⟨by omega,by omega⟩
 clear hl
 have A0:=aa (ed h 7 t a b nm ot)
 have HR:=aa (ba h.ms h.os)
 have HB:=aa hB
 have hn:=hB.n
 have hw1:IntKind.i64.wrap ((x.n:Int)+1)=(x.n:Int)+1:=cC _ ⟨by omega,by omega⟩
 clear h hB hn
 go_enter Tryz.func46,Tryz.ntmps46
 go_upto_region 1 with fail
 generalize(w.alloc _)=W0 at*
 have c1:=A0.out.cell (j:=1) rfl
 have f1:=A0.out.free 1
 have lB:=A0.out.lt
 go_upto_region 2 with fail
 have A1:Hid (aQ T B off name w w.heap.size (7,t,a,b,nm,ot) {x with n:=x.n+1} vm vo (W0.setCell ⟨B,off+1,none⟩ (.int .i64 ((x.n:Int)+1)))):=A0.out.set (j:=1) (.int .i64 ((x.n:Int)+1)) (by decide) rfl
 generalize(W0.setCell ⟨B,off+1,none⟩ _)=W1 at*
 clear A0 c1 f1 lB hw1
 obtain⟨e0,e1,e2,e3,e4,e5,el⟩:=A1.out.ev
 have c2:=A1.out.cell (j:=2) rfl
 have f2:=A1.out.free 2
 have lB:=A1.out.lt
 go_upto_region 3 with fail
 have A2:Hid (aQ T B off name w w.heap.size (7,t,a,b,nm,ot) {x with n:=x.n+1,at_:=t} vm vo (W1.setCell ⟨B,off+2,none⟩ (.int .i64 t))):=A1.out.set (j:=2) (.int .i64 t) (by decide) rfl
 generalize(W1.setCell ⟨B,off+2,none⟩ _)=W2 at*
 clear A1 c2 f2 lB e0 e1 e2 e3 e4 e5 el
 obtain⟨e0,e1,e2,e3,e4,e5,el⟩:=A2.out.ev
 have lB:=A2.out.lt
 go_upto_region 25 with fail
 refine bo 13 14 158 [(4,133),(5,134),(8,137),(9,138),(12,162)] [(none,[]),(none,[]),(none,[]),(none,[]),(some 0,[]),(some 1,[0]),(none,[]),(none,[]),(some 2,[]),(some 3,[1,2]),(none,[]),(none,[]),(some 4,[3])] [(129,(.pointer (some ⟨B,off,none⟩))),(130,(.pointer (some ⟨B,off,none⟩))),(131,(.pointer (some ⟨B,off,none⟩))),(132,(.pointer (some ⟨B,off+10,none⟩))),(135,(.pointer (some ⟨w.heap.size,4,none⟩))),(136,(.string nm)),(139,(.pointer (some ⟨B,off,none⟩))),(140,(.pointer (some ⟨B,off+10,none⟩)))] (fun bsE vsE W=> eI (fun q v W=> aQ T B off name w w.heap.size (7,t,a,b,nm,ot) (bif q then {x with n:=x.n+1,at_:=t,os:=x.os++[nm]} else {x with n:=x.n+1,at_:=t}) vm (bif q then v else vo) W) w.heap.size vo x.os nm (bsE.getD 0 false) (bsE.getD 1 false) (bsE.getD 2 false) (bsE.getD 3 false) (bsE.getD 4 false) (vsE.getD 0 undef) (vsE.getD 1 undef) (vsE.getD 2 undef) (vsE.getD 3 undef) W) (by kernel_rfl) (by kernel_rfl) rfl rfl (by kernel_rfl) (by rfl) ?h0 ?each ?done
 case h0=>
  intro vsE hlv
  obtain⟨v0,v1,v2,v3,v4,rfl⟩:=gk hlv
  exact⟨A2.out.step (Below.refl _ _).drew,(fun e=> by cases e),(fun e=> by cases e),(fun e=> by cases e),(fun e=> by cases e),(fun _=> rfl),(fun _=> rfl),(fun _=> rfl),(fun _=> rfl),A2.out.only.size⟩
 case each=>
  simp only [dp]
  refine⟨⟨129,(.pointer (some ⟨B,off,none⟩)),rfl,by kernel_rfl,?_⟩,⟨130,(.pointer (some ⟨B,off,none⟩)),rfl,by kernel_rfl,?_⟩,⟨131,(.pointer (some ⟨B,off,none⟩)),rfl,by kernel_rfl,?_⟩,⟨132,(.pointer (some ⟨B,off+10,none⟩)),rfl,by kernel_rfl,?_⟩,ax ⟨133,rfl,?q1_4⟩,ax ⟨134,rfl,?q1_5⟩,⟨135,(.pointer (some ⟨w.heap.size,4,none⟩)),rfl,by kernel_rfl,?_⟩,⟨136,(.string nm),rfl,by kernel_rfl,?_⟩,ax ⟨137,rfl,?q1_8⟩,ax ⟨138,rfl,?q1_9⟩,⟨139,(.pointer (some ⟨B,off,none⟩)),rfl,by kernel_rfl,?_⟩,⟨140,(.pointer (some ⟨B,off+10,none⟩)),rfl,by kernel_rfl,?_⟩,ay ⟨rfl,?q1_12⟩,trivial⟩
  case q1_4=>
   intro bsE vsE W hlb hlv hnd hbk h
   obtain⟨b0,b1,b2,b3,b4,rfl⟩:=gk hlb
   obtain⟨v0,v1,v2,v3,v4,rfl⟩:=gk hlv
   obtain rfl:b0=false:=hbk
   replace h:eI (fun q v W=> aQ T B off name w w.heap.size (7,t,a,b,nm,ot) (bif q then {x with n:=x.n+1,at_:=t,os:=x.os++[nm]} else {x with n:=x.n+1,at_:=t}) vm (bif q then v else vo) W) w.heap.size vo x.os nm false b1 b2 b3 b4 v0 v1 v2 v3 W:=h
   clear hnd
   have HST:=aa h
   obtain rfl:=h.n1 rfl;obtain rfl:=h.n2 rfl;obtain rfl:=h.n4 rfl;have c:=h.s.cell (j:=10) rfl;have lB:=h.s.lt
   intro K Q hK
   simp only [az,updAll,Act.put,aU,aV,aW,aX] at hK ⊢
   go_wp2_with fail
   all_goals(have hN:eI (fun q v W=> aQ T B off name w w.heap.size (7,t,a,b,nm,ot) (bif q then {x with n:=x.n+1,at_:=t,os:=x.os++[nm]} else {x with n:=x.n+1,at_:=t}) vm (bif q then v else vo) W) w.heap.size vo x.os nm true false b2 false false vo v1 v2 v3 W:=⟨h.s,fun _=> rfl,h.r1,h.r2,h.r3,(fun e=> by cases e),h.n2,h.n3,h.n4,h.hb⟩)
   all_goals(first | exact hK _ _ hN | exact hN)
  case q1_5=>
   intro bsE vsE W hlb hlv hnd hbk h
   obtain⟨b0,b1,b2,b3,b4,rfl⟩:=gk hlb
   obtain⟨v0,v1,v2,v3,v4,rfl⟩:=gk hlv
   obtain rfl:b0=true:=hnd 0 (by simp)
   obtain rfl:b1=false:=hbk
   replace h:eI (fun q v W=> aQ T B off name w w.heap.size (7,t,a,b,nm,ot) (bif q then {x with n:=x.n+1,at_:=t,os:=x.os++[nm]} else {x with n:=x.n+1,at_:=t}) vm (bif q then v else vo) W) w.heap.size vo x.os nm true false b2 b3 b4 v0 v1 v2 v3 W:=h
   clear hnd
   have HST:=aa h
   obtain rfl:=h.n2 rfl;obtain rfl:=h.n4 rfl;obtain rfl:=h.r0 rfl;have CC:=aa (clone_any (HR.out.2.only h.s.only hT) HL.out.2)
   intro K Q hK
   simp only [az,updAll,Act.put,aU,aV,aW,aX] at hK ⊢
   go_wp2_with (go_at_call 71;refine CC.out.mono ?_;rintro e w7 ⟨v7,rfl,ho7,hb7⟩;have hN:=h.clone (fun q v W w2 h hb=> aQ.step h hb) ho7 hb7)
   all_goals(first | exact hK _ _ hN | exact hN)
  case q1_8=>
   intro bsE vsE W hlb hlv hnd hbk h
   obtain⟨b0,b1,b2,b3,b4,rfl⟩:=gk hlb
   obtain⟨v0,v1,v2,v3,v4,rfl⟩:=gk hlv
   obtain rfl:b2=false:=hbk
   replace h:eI (fun q v W=> aQ T B off name w w.heap.size (7,t,a,b,nm,ot) (bif q then {x with n:=x.n+1,at_:=t,os:=x.os++[nm]} else {x with n:=x.n+1,at_:=t}) vm (bif q then v else vo) W) w.heap.size vo x.os nm b0 b1 false b3 b4 v0 v1 v2 v3 W:=h
   clear hnd
   have HST:=aa h
   obtain rfl:=h.n3 rfl;obtain rfl:=h.n4 rfl
   intro K Q hK
   simp only [az,updAll,Act.put,aU,aV,aW,aX] at hK ⊢
   go_wp2_with fail
   all_goals(have hN:=h.mk2 (fun q v W w2 h hb=> aQ.step h hb))
   all_goals(first | exact hK _ _ hN | exact hN)
  case q1_9=>
   intro bsE vsE W hlb hlv hnd hbk h
   obtain⟨b0,b1,b2,b3,b4,rfl⟩:=gk hlb
   obtain⟨v0,v1,v2,v3,v4,rfl⟩:=gk hlv
   obtain rfl:b1=true:=hnd 1 (by simp)
   obtain rfl:b2=true:=hnd 2 (by simp)
   obtain rfl:b3=false:=hbk
   replace h:eI (fun q v W=> aQ T B off name w w.heap.size (7,t,a,b,nm,ot) (bif q then {x with n:=x.n+1,at_:=t,os:=x.os++[nm]} else {x with n:=x.n+1,at_:=t}) vm (bif q then v else vo) W) w.heap.size vo x.os nm b0 true true false b4 v0 v1 v2 v3 W:=h
   clear hnd
   have HST:=aa h
   obtain rfl:=h.n4 rfl
   intro K Q hK
   simp only [az,updAll,Act.put,aU,aV,aW,aX] at hK ⊢
   exact h.app (fun v W w2 u h hg hu v'=> aQ.grownS h hg hu) HL.out.2 (.tmp 134) (.tmp 137) rfl rfl rfl hK
  case q1_12=>
   intro bsE vsE W hlb hlv hnd hbk h
   obtain⟨b0,b1,b2,b3,b4,rfl⟩:=gk hlb
   obtain⟨v0,v1,v2,v3,v4,rfl⟩:=gk hlv
   obtain rfl:b3=true:=hnd 3 (by simp)
   obtain rfl:b4=false:=hbk
   replace h:eI (fun q v W=> aQ T B off name w w.heap.size (7,t,a,b,nm,ot) (bif q then {x with n:=x.n+1,at_:=t,os:=x.os++[nm]} else {x with n:=x.n+1,at_:=t}) vm (bif q then v else vo) W) w.heap.size vo x.os nm b0 b1 b2 true false v0 v1 v2 v3 W:=h
   clear hnd
   have HST:=aa h
   obtain⟨a9,c9,e9,-⟩:=Rw.Own.get (r:=⟨9,1,_,(x.os++[nm]).length,(x.os++[nm]).map Value.string⟩) (h.r3 rfl);dsimp only at e9;rw [cY,List.length_singleton] at e9;subst e9;have c:=h.s.cell (j:=10) rfl;have f:=h.s.free 10;have lB:=h.s.lt
   intro K Q hK
   simp only [az,updAll,Act.put,aU,aV,aW,aX] at hK ⊢
   go_wp2_with fail
   all_goals(have hN:eI (fun q v W=> aQ T B off name w w.heap.size (7,t,a,b,nm,ot) (bif q then {x with n:=x.n+1,at_:=t,os:=x.os++[nm]} else {x with n:=x.n+1,at_:=t}) vm (bif q then v else vo) W) w.heap.size vo x.os nm b0 b1 b2 true true v0 v1 v2 (.slice a9 (x.os.length+1) c9) (W.setCell ⟨B,off+10,none⟩ (.slice a9 (x.os.length+1) c9)):=⟨aQ.set h.s (j:=10) (.slice a9 _ c9) (by decide) rfl,h.r0,(fun _ e=> by cases e),(fun e=> by obtain⟨g,q1,q2⟩:=h.r2 e;exact⟨g,q1,(fun e=> by cases e)⟩),(fun e=> ownsRow_setCell_below (h.r3 rfl) (show B < w.heap.size from h.s.only.lt) _),h.n1,(fun e=> absurd (h.n2 e) (by decide)),(fun e=> absurd (h.n3 e) (by decide)),(fun e=> by cases e),(by simpa using h.hb)⟩)
   all_goals(first | exact hK _ hN | exact hN)
  all_goals
   intro bsE vsE W hlb hlv hnd h
   obtain⟨b0,b1,b2,b3,b4,rfl⟩:=gk hlb
   obtain⟨v0,v1,v2,v3,v4,rfl⟩:=gk hlv
   replace h:eI (fun q v W=> aQ T B off name w w.heap.size (7,t,a,b,nm,ot) (bif q then {x with n:=x.n+1,at_:=t,os:=x.os++[nm]} else {x with n:=x.n+1,at_:=t}) vm (bif q then v else vo) W) w.heap.size vo x.os nm b0 b1 b2 b3 b4 v0 v1 v2 v3 W:=h
   clear hnd
   have HST:=aa h
   have lB:=h.s.lt;obtain⟨e0,e1,e2,e3,e4,e5,el⟩:=h.s.ev
   intro K Q hK
   simp only [az,updAll,Act.put,aU,aV,aW,aX] at hK ⊢
   go_wp2_with (fail)
   all_goals(first | exact hK _ (by first | exact h | exact h.step (by repeat' (first | exact Below.refl _ _ | apply aI | apply bg))) | exact(by first | exact h | exact h.step (by repeat' (first | exact Below.refl _ _ | apply aI | apply bg))))
 case done=>
  intro vsE W hlv h
  obtain⟨v0,v1,v2,v3,v4,rfl⟩:=gk hlv
  replace h:eI (fun q v W=> aQ T B off name w w.heap.size (7,t,a,b,nm,ot) (bif q then {x with n:=x.n+1,at_:=t,os:=x.os++[nm]} else {x with n:=x.n+1,at_:=t}) vm (bif q then v else vo) W) w.heap.size vo x.os nm true true true true true v0 v1 v2 v3 W:=h
  have HST:=aa h
  have A3:Hid (aQ T B off name w w.heap.size (7,t,a,b,nm,ot) {x with n:=x.n+1,at_:=t,os:=x.os++[nm]} vm v3 W):=h.s
  have HO:=aa (h.r3 rfl)
  clear h HST A2 e0 e1 e2 e3 e4 e5 el lB
  simp only [az,updAll,Act.put,aU,aV,aW,aX]
  go_wp2_with fail
  refine bodyPost_end (results_none rfl _ _ _) rfl ?_
  first | exact⟨rfl,⟨vm,v3,⟨A3.out.done (HR.out.1.only A3.out.only hT) (bH.of_own HO.out),ax rfl,iv.of_own HO.out⟩⟩,A3.out.only⟩ | exact⟨rfl,vm,v3,⟨A3.out.done (HR.out.1.only A3.out.only hT) (bH.of_own HO.out),ax rfl,iv.of_own HO.out⟩,A3.out.only⟩
theorem tX {T:TypeId} {B off:Nat} {name:ByteArray} {x:LifeS} {vm vo:Value} {w:World} (hT:T≠9)(h:bw T B off name x vm vo w)(hB:fE x)(t a b:Int)(nm ot:ByteArray)(hl:x.ms.length≤100000∧x.os.length≤100000):
  Calls Tryz.prog 46 #[.pointer (some ⟨B,off,none⟩),.agg #[.int .i64 5,.int .i64 t,.int .i64 a,.int .i64 b,.string nm,.string ot]] w fun en w'=> en=.returned (.tuple #[])∧∃ vm' vo',jo w T B off name (x.add name (5,t,a,b,nm,ot)) vm vo vm' vo' w'∧bO T B off 18 w w':=by
 have HL:Hid (x.ms.length≤1000000∧x.os.length≤1000000):=⟨by omega,by omega⟩
 clear hl
 have A0:=aa (ed h 5 t a b nm ot)
 have HR:=aa (ba h.ms h.os)
 have HB:=aa hB
 have hn:=hB.n
 have hw1:IntKind.i64.wrap ((x.n:Int)+1)=(x.n:Int)+1:=cC _ ⟨by omega,by omega⟩
 clear h hB hn
 go_enter Tryz.func46,Tryz.ntmps46
 go_upto_region 1 with fail
 generalize(w.alloc _)=W0 at*
 have c1:=A0.out.cell (j:=1) rfl
 have f1:=A0.out.free 1
 have lB:=A0.out.lt
 go_upto_region 2 with fail
 have A1:Hid (aQ T B off name w w.heap.size (5,t,a,b,nm,ot) {x with n:=x.n+1} vm vo (W0.setCell ⟨B,off+1,none⟩ (.int .i64 ((x.n:Int)+1)))):=A0.out.set (j:=1) (.int .i64 ((x.n:Int)+1)) (by decide) rfl
 generalize(W0.setCell ⟨B,off+1,none⟩ _)=W1 at*
 clear A0 c1 f1 lB hw1
 obtain⟨e0,e1,e2,e3,e4,e5,el⟩:=A1.out.ev
 have c2:=A1.out.cell (j:=2) rfl
 have f2:=A1.out.free 2
 have lB:=A1.out.lt
 go_upto_region 3 with fail
 have A2:Hid (aQ T B off name w w.heap.size (5,t,a,b,nm,ot) {x with n:=x.n+1,at_:=t} vm vo (W1.setCell ⟨B,off+2,none⟩ (.int .i64 t))):=A1.out.set (j:=2) (.int .i64 t) (by decide) rfl
 generalize(W1.setCell ⟨B,off+2,none⟩ _)=W2 at*
 clear A1 c2 f2 lB e0 e1 e2 e3 e4 e5 el
 obtain⟨e0,e1,e2,e3,e4,e5,el⟩:=A2.out.ev
 have lB:=A2.out.lt
 go_upto_region 19 with fail
 refine bo 13 14 158 [(4,93),(5,94),(8,97),(9,98),(12,162)] [(none,[]),(none,[]),(none,[]),(none,[]),(some 0,[]),(some 1,[0]),(none,[]),(none,[]),(some 2,[]),(some 3,[1,2]),(none,[]),(none,[]),(some 4,[3])] [(89,(.pointer (some ⟨B,off,none⟩))),(90,(.pointer (some ⟨B,off,none⟩))),(91,(.pointer (some ⟨B,off,none⟩))),(92,(.pointer (some ⟨B,off+9,none⟩))),(95,(.pointer (some ⟨w.heap.size,4,none⟩))),(96,(.string nm)),(99,(.pointer (some ⟨B,off,none⟩))),(100,(.pointer (some ⟨B,off+9,none⟩)))] (fun bsE vsE W=> eI (fun q v W=> aQ T B off name w w.heap.size (5,t,a,b,nm,ot) (bif q then {x with n:=x.n+1,at_:=t,ms:=x.ms++[nm]} else {x with n:=x.n+1,at_:=t}) (bif q then v else vm) vo W) w.heap.size vm x.ms nm (bsE.getD 0 false) (bsE.getD 1 false) (bsE.getD 2 false) (bsE.getD 3 false) (bsE.getD 4 false) (vsE.getD 0 undef) (vsE.getD 1 undef) (vsE.getD 2 undef) (vsE.getD 3 undef) W) (by kernel_rfl) (by kernel_rfl) rfl rfl (by kernel_rfl) (by rfl) ?h0 ?each ?done
 case h0=>
  intro vsE hlv
  obtain⟨v0,v1,v2,v3,v4,rfl⟩:=gk hlv
  exact⟨A2.out.step (Below.refl _ _).drew,(fun e=> by cases e),(fun e=> by cases e),(fun e=> by cases e),(fun e=> by cases e),(fun _=> rfl),(fun _=> rfl),(fun _=> rfl),(fun _=> rfl),A2.out.only.size⟩
 case each=>
  simp only [dp]
  refine⟨⟨89,(.pointer (some ⟨B,off,none⟩)),rfl,by kernel_rfl,?_⟩,⟨90,(.pointer (some ⟨B,off,none⟩)),rfl,by kernel_rfl,?_⟩,⟨91,(.pointer (some ⟨B,off,none⟩)),rfl,by kernel_rfl,?_⟩,⟨92,(.pointer (some ⟨B,off+9,none⟩)),rfl,by kernel_rfl,?_⟩,ax ⟨93,rfl,?q2_4⟩,ax ⟨94,rfl,?q2_5⟩,⟨95,(.pointer (some ⟨w.heap.size,4,none⟩)),rfl,by kernel_rfl,?_⟩,⟨96,(.string nm),rfl,by kernel_rfl,?_⟩,ax ⟨97,rfl,?q2_8⟩,ax ⟨98,rfl,?q2_9⟩,⟨99,(.pointer (some ⟨B,off,none⟩)),rfl,by kernel_rfl,?_⟩,⟨100,(.pointer (some ⟨B,off+9,none⟩)),rfl,by kernel_rfl,?_⟩,ay ⟨rfl,?q2_12⟩,trivial⟩
  case q2_4=>
   intro bsE vsE W hlb hlv hnd hbk h
   obtain⟨b0,b1,b2,b3,b4,rfl⟩:=gk hlb
   obtain⟨v0,v1,v2,v3,v4,rfl⟩:=gk hlv
   obtain rfl:b0=false:=hbk
   replace h:eI (fun q v W=> aQ T B off name w w.heap.size (5,t,a,b,nm,ot) (bif q then {x with n:=x.n+1,at_:=t,ms:=x.ms++[nm]} else {x with n:=x.n+1,at_:=t}) (bif q then v else vm) vo W) w.heap.size vm x.ms nm false b1 b2 b3 b4 v0 v1 v2 v3 W:=h
   clear hnd
   have HST:=aa h
   obtain rfl:=h.n1 rfl;obtain rfl:=h.n2 rfl;obtain rfl:=h.n4 rfl;have c:=h.s.cell (j:=9) rfl;have lB:=h.s.lt
   intro K Q hK
   simp only [az,updAll,Act.put,aU,aV,aW,aX] at hK ⊢
   go_wp2_with fail
   all_goals(have hN:eI (fun q v W=> aQ T B off name w w.heap.size (5,t,a,b,nm,ot) (bif q then {x with n:=x.n+1,at_:=t,ms:=x.ms++[nm]} else {x with n:=x.n+1,at_:=t}) (bif q then v else vm) vo W) w.heap.size vm x.ms nm true false b2 false false vm v1 v2 v3 W:=⟨h.s,fun _=> rfl,h.r1,h.r2,h.r3,(fun e=> by cases e),h.n2,h.n3,h.n4,h.hb⟩)
   all_goals(first | exact hK _ _ hN | exact hN)
  case q2_5=>
   intro bsE vsE W hlb hlv hnd hbk h
   obtain⟨b0,b1,b2,b3,b4,rfl⟩:=gk hlb
   obtain⟨v0,v1,v2,v3,v4,rfl⟩:=gk hlv
   obtain rfl:b0=true:=hnd 0 (by simp)
   obtain rfl:b1=false:=hbk
   replace h:eI (fun q v W=> aQ T B off name w w.heap.size (5,t,a,b,nm,ot) (bif q then {x with n:=x.n+1,at_:=t,ms:=x.ms++[nm]} else {x with n:=x.n+1,at_:=t}) (bif q then v else vm) vo W) w.heap.size vm x.ms nm true false b2 b3 b4 v0 v1 v2 v3 W:=h
   clear hnd
   have HST:=aa h
   obtain rfl:=h.n2 rfl;obtain rfl:=h.n4 rfl;obtain rfl:=h.r0 rfl;have CC:=aa (clone_any (HR.out.1.only h.s.only hT) HL.out.1)
   intro K Q hK
   simp only [az,updAll,Act.put,aU,aV,aW,aX] at hK ⊢
   go_wp2_with (go_at_call 71;refine CC.out.mono ?_;rintro e w7 ⟨v7,rfl,ho7,hb7⟩;have hN:=h.clone (fun q v W w2 h hb=> aQ.step h hb) ho7 hb7)
   all_goals(first | exact hK _ _ hN | exact hN)
  case q2_8=>
   intro bsE vsE W hlb hlv hnd hbk h
   obtain⟨b0,b1,b2,b3,b4,rfl⟩:=gk hlb
   obtain⟨v0,v1,v2,v3,v4,rfl⟩:=gk hlv
   obtain rfl:b2=false:=hbk
   replace h:eI (fun q v W=> aQ T B off name w w.heap.size (5,t,a,b,nm,ot) (bif q then {x with n:=x.n+1,at_:=t,ms:=x.ms++[nm]} else {x with n:=x.n+1,at_:=t}) (bif q then v else vm) vo W) w.heap.size vm x.ms nm b0 b1 false b3 b4 v0 v1 v2 v3 W:=h
   clear hnd
   have HST:=aa h
   obtain rfl:=h.n3 rfl;obtain rfl:=h.n4 rfl
   intro K Q hK
   simp only [az,updAll,Act.put,aU,aV,aW,aX] at hK ⊢
   go_wp2_with fail
   all_goals(have hN:=h.mk2 (fun q v W w2 h hb=> aQ.step h hb))
   all_goals(first | exact hK _ _ hN | exact hN)
  case q2_9=>
   intro bsE vsE W hlb hlv hnd hbk h
   obtain⟨b0,b1,b2,b3,b4,rfl⟩:=gk hlb
   obtain⟨v0,v1,v2,v3,v4,rfl⟩:=gk hlv
   obtain rfl:b1=true:=hnd 1 (by simp)
   obtain rfl:b2=true:=hnd 2 (by simp)
   obtain rfl:b3=false:=hbk
   replace h:eI (fun q v W=> aQ T B off name w w.heap.size (5,t,a,b,nm,ot) (bif q then {x with n:=x.n+1,at_:=t,ms:=x.ms++[nm]} else {x with n:=x.n+1,at_:=t}) (bif q then v else vm) vo W) w.heap.size vm x.ms nm b0 true true false b4 v0 v1 v2 v3 W:=h
   clear hnd
   have HST:=aa h
   obtain rfl:=h.n4 rfl
   intro K Q hK
   simp only [az,updAll,Act.put,aU,aV,aW,aX] at hK ⊢
   exact h.app (fun v W w2 u h hg hu v'=> aQ.grownS h hg hu) HL.out.1 (.tmp 94) (.tmp 97) rfl rfl rfl hK
  case q2_12=>
   intro bsE vsE W hlb hlv hnd hbk h
   obtain⟨b0,b1,b2,b3,b4,rfl⟩:=gk hlb
   obtain⟨v0,v1,v2,v3,v4,rfl⟩:=gk hlv
   obtain rfl:b3=true:=hnd 3 (by simp)
   obtain rfl:b4=false:=hbk
   replace h:eI (fun q v W=> aQ T B off name w w.heap.size (5,t,a,b,nm,ot) (bif q then {x with n:=x.n+1,at_:=t,ms:=x.ms++[nm]} else {x with n:=x.n+1,at_:=t}) (bif q then v else vm) vo W) w.heap.size vm x.ms nm b0 b1 b2 true false v0 v1 v2 v3 W:=h
   clear hnd
   have HST:=aa h
   obtain⟨a9,c9,e9,-⟩:=Rw.Own.get (r:=⟨9,1,_,(x.ms++[nm]).length,(x.ms++[nm]).map Value.string⟩) (h.r3 rfl);dsimp only at e9;rw [cY,List.length_singleton] at e9;subst e9;have c:=h.s.cell (j:=9) rfl;have f:=h.s.free 9;have lB:=h.s.lt
   intro K Q hK
   simp only [az,updAll,Act.put,aU,aV,aW,aX] at hK ⊢
   go_wp2_with fail
   all_goals(have hN:eI (fun q v W=> aQ T B off name w w.heap.size (5,t,a,b,nm,ot) (bif q then {x with n:=x.n+1,at_:=t,ms:=x.ms++[nm]} else {x with n:=x.n+1,at_:=t}) (bif q then v else vm) vo W) w.heap.size vm x.ms nm b0 b1 b2 true true v0 v1 v2 (.slice a9 (x.ms.length+1) c9) (W.setCell ⟨B,off+9,none⟩ (.slice a9 (x.ms.length+1) c9)):=⟨aQ.set h.s (j:=9) (.slice a9 _ c9) (by decide) rfl,h.r0,(fun _ e=> by cases e),(fun e=> by obtain⟨g,q1,q2⟩:=h.r2 e;exact⟨g,q1,(fun e=> by cases e)⟩),(fun e=> ownsRow_setCell_below (h.r3 rfl) (show B < w.heap.size from h.s.only.lt) _),h.n1,(fun e=> absurd (h.n2 e) (by decide)),(fun e=> absurd (h.n3 e) (by decide)),(fun e=> by cases e),(by simpa using h.hb)⟩)
   all_goals(first | exact hK _ hN | exact hN)
  all_goals
   intro bsE vsE W hlb hlv hnd h
   obtain⟨b0,b1,b2,b3,b4,rfl⟩:=gk hlb
   obtain⟨v0,v1,v2,v3,v4,rfl⟩:=gk hlv
   replace h:eI (fun q v W=> aQ T B off name w w.heap.size (5,t,a,b,nm,ot) (bif q then {x with n:=x.n+1,at_:=t,ms:=x.ms++[nm]} else {x with n:=x.n+1,at_:=t}) (bif q then v else vm) vo W) w.heap.size vm x.ms nm b0 b1 b2 b3 b4 v0 v1 v2 v3 W:=h
   clear hnd
   have HST:=aa h
   have lB:=h.s.lt;obtain⟨e0,e1,e2,e3,e4,e5,el⟩:=h.s.ev
   intro K Q hK
   simp only [az,updAll,Act.put,aU,aV,aW,aX] at hK ⊢
   go_wp2_with (fail)
   all_goals(first | exact hK _ (by first | exact h | exact h.step (by repeat' (first | exact Below.refl _ _ | apply aI | apply bg))) | exact(by first | exact h | exact h.step (by repeat' (first | exact Below.refl _ _ | apply aI | apply bg))))
 case done=>
  intro vsE W hlv h
  obtain⟨v0,v1,v2,v3,v4,rfl⟩:=gk hlv
  replace h:eI (fun q v W=> aQ T B off name w w.heap.size (5,t,a,b,nm,ot) (bif q then {x with n:=x.n+1,at_:=t,ms:=x.ms++[nm]} else {x with n:=x.n+1,at_:=t}) (bif q then v else vm) vo W) w.heap.size vm x.ms nm true true true true true v0 v1 v2 v3 W:=h
  have HST:=aa h
  have A3:Hid (aQ T B off name w w.heap.size (5,t,a,b,nm,ot) {x with n:=x.n+1,at_:=t,ms:=x.ms++[nm]} v3 vo W):=h.s
  have HO:=aa (h.r3 rfl)
  clear h HST A2 e0 e1 e2 e3 e4 e5 el lB
  simp only [az,updAll,Act.put,aU,aV,aW,aX]
  go_upto_region 20 with fail
  have c:=A3.out.cell (j:=16) rfl
  have f:=A3.out.free 16
  have lB:=A3.out.lt
  have hmo:=HB.out.mov
  have hw2:IntKind.i64.wrap (x.mov+1)=x.mov+1:=cC _ ⟨by omega,by omega⟩
  clear hmo
  go_wp2_with fail
  have A4:=aa (aQ.set (x':={x with n:=x.n+1,at_:=t,ms:=x.ms++[nm],mov:=x.mov+1}) (vm':=v3) (vo':=vo) A3.out (j:=16) (.int .i64 (x.mov+1)) (by decide) rfl)
  have HO4:=aa (ownsRow_setCell_below (a:=⟨B,off+16,none⟩) HO.out (show B < w.heap.size from A3.out.only.lt) (.int .i64 (x.mov+1)))
  refine bodyPost_end (results_none rfl _ _ _) rfl ?_
  first | exact⟨rfl,⟨v3,vo,⟨A4.out.done (bH.of_own HO4.out) (HR.out.2.only A4.out.only hT),iv.of_own HO4.out,ax rfl⟩⟩,A4.out.only⟩ | exact⟨rfl,v3,vo,⟨A4.out.done (bH.of_own HO4.out) (HR.out.2.only A4.out.only hT),iv.of_own HO4.out,ax rfl⟩,A4.out.only⟩
theorem tY {T:TypeId} {B off:Nat} {name:ByteArray} {x:LifeS} {vm vo:Value} {w:World} (hT:T≠9)(h:bw T B off name x vm vo w)(hB:fE x)(t a b:Int)(nm ot:ByteArray)(hl:x.ms.length≤100000∧x.os.length≤100000)(hne:x.ms≠[]):
  Calls Tryz.prog 46 #[.pointer (some ⟨B,off,none⟩),.agg #[.int .i64 6,.int .i64 t,.int .i64 a,.int .i64 b,.string nm,.string ot]] w fun en w'=> en=.returned (.tuple #[])∧∃ vm' vo',jo w T B off name (x.add name (6,t,a,b,nm,ot)) vm vo vm' vo' w'∧bO T B off 18 w w':=by
 have HL:Hid (x.ms.length≤1000000∧x.os.length≤1000000):=⟨by omega,by omega⟩
 have HNE:=aa hne
 clear hl hne
 have A0:=aa (ed h 6 t a b nm ot)
 have HR:=aa (ba h.ms h.os)
 have HB:=aa hB
 have hn:=hB.n
 have hw1:IntKind.i64.wrap ((x.n:Int)+1)=(x.n:Int)+1:=cC _ ⟨by omega,by omega⟩
 clear h hB hn
 go_enter Tryz.func46,Tryz.ntmps46
 go_upto_region 1 with fail
 generalize(w.alloc _)=W0 at*
 have c1:=A0.out.cell (j:=1) rfl
 have f1:=A0.out.free 1
 have lB:=A0.out.lt
 go_upto_region 2 with fail
 have A1:Hid (aQ T B off name w w.heap.size (6,t,a,b,nm,ot) {x with n:=x.n+1} vm vo (W0.setCell ⟨B,off+1,none⟩ (.int .i64 ((x.n:Int)+1)))):=A0.out.set (j:=1) (.int .i64 ((x.n:Int)+1)) (by decide) rfl
 generalize(W0.setCell ⟨B,off+1,none⟩ _)=W1 at*
 clear A0 c1 f1 lB hw1
 obtain⟨e0,e1,e2,e3,e4,e5,el⟩:=A1.out.ev
 have c2:=A1.out.cell (j:=2) rfl
 have f2:=A1.out.free 2
 have lB:=A1.out.lt
 go_upto_region 3 with fail
 have A2:Hid (aQ T B off name w w.heap.size (6,t,a,b,nm,ot) {x with n:=x.n+1,at_:=t} vm vo (W1.setCell ⟨B,off+2,none⟩ (.int .i64 t))):=A1.out.set (j:=2) (.int .i64 t) (by decide) rfl
 generalize(W1.setCell ⟨B,off+2,none⟩ _)=W2 at*
 clear A1 c2 f2 lB e0 e1 e2 e3 e4 e5 el
 obtain⟨e0,e1,e2,e3,e4,e5,el⟩:=A2.out.ev
 have lB:=A2.out.lt
 go_upto_region 22 with fail
 refine bo 11 14 158 [(4,114),(7,117),(10,160)] [(none,[]),(none,[]),(none,[]),(none,[]),(some 0,[]),(none,[]),(none,[]),(some 1,[0]),(none,[]),(none,[]),(some 2,[1])] [(110,(.pointer (some ⟨B,off,none⟩))),(111,(.pointer (some ⟨B,off,none⟩))),(112,(.pointer (some ⟨B,off,none⟩))),(113,(.pointer (some ⟨B,off+9,none⟩))),(115,(.pointer (some ⟨w.heap.size,4,none⟩))),(116,(.string nm)),(118,(.pointer (some ⟨B,off,none⟩))),(119,(.pointer (some ⟨B,off+9,none⟩)))] (fun bsE vsE W=> iw (fun q v W=> aQ T B off name w w.heap.size (6,t,a,b,nm,ot) (bif q then {x with n:=x.n+1,at_:=t,ms:=dropT x.ms nm} else {x with n:=x.n+1,at_:=t}) (bif q then v else vm) vo W) w.heap.size vm (dropT x.ms nm) (bsE.getD 0 false) (bsE.getD 1 false) (bsE.getD 2 false) (vsE.getD 0 undef) (vsE.getD 1 undef) W) (by kernel_rfl) (by kernel_rfl) rfl rfl (by kernel_rfl) (by rfl) ?h0 ?each ?done
 case h0=>
  intro vsE hlv
  obtain⟨v0,v1,v2,rfl⟩:=fe hlv
  exact⟨A2.out.step (Below.refl _ _).drew,(fun e=> by cases e),(fun e=> by cases e),(fun _=> rfl),(fun _=> rfl)⟩
 case each=>
  simp only [dp]
  refine⟨⟨110,(.pointer (some ⟨B,off,none⟩)),rfl,by kernel_rfl,?_⟩,⟨111,(.pointer (some ⟨B,off,none⟩)),rfl,by kernel_rfl,?_⟩,⟨112,(.pointer (some ⟨B,off,none⟩)),rfl,by kernel_rfl,?_⟩,⟨113,(.pointer (some ⟨B,off+9,none⟩)),rfl,by kernel_rfl,?_⟩,ax ⟨114,rfl,?q3_4⟩,⟨115,(.pointer (some ⟨w.heap.size,4,none⟩)),rfl,by kernel_rfl,?_⟩,⟨116,(.string nm),rfl,by kernel_rfl,?_⟩,ax ⟨117,rfl,?q3_7⟩,⟨118,(.pointer (some ⟨B,off,none⟩)),rfl,by kernel_rfl,?_⟩,⟨119,(.pointer (some ⟨B,off+9,none⟩)),rfl,by kernel_rfl,?_⟩,ay ⟨rfl,?q3_10⟩,trivial⟩
  case q3_4=>
   intro bsE vsE W hlb hlv hnd hbk h
   obtain⟨b0,b1,b2,rfl⟩:=fe hlb
   obtain⟨v0,v1,v2,rfl⟩:=fe hlv
   obtain rfl:b0=false:=hbk
   replace h:iw (fun q v W=> aQ T B off name w w.heap.size (6,t,a,b,nm,ot) (bif q then {x with n:=x.n+1,at_:=t,ms:=dropT x.ms nm} else {x with n:=x.n+1,at_:=t}) (bif q then v else vm) vo W) w.heap.size vm (dropT x.ms nm) false b1 b2 v0 v1 W:=h
   clear hnd
   have HST:=aa h
   obtain rfl:=h.n1 rfl;obtain rfl:=h.n2 rfl;have c:=h.s.cell (j:=9) rfl;have lB:=h.s.lt
   intro K Q hK
   simp only [az,updAll,Act.put,aU,aV,aW,aX] at hK ⊢
   go_wp2_with fail
   all_goals(have hN:iw (fun q v W=> aQ T B off name w w.heap.size (6,t,a,b,nm,ot) (bif q then {x with n:=x.n+1,at_:=t,ms:=dropT x.ms nm} else {x with n:=x.n+1,at_:=t}) (bif q then v else vm) vo W) w.heap.size vm (dropT x.ms nm) true false false vm v1 W:=⟨h.s,fun _=> rfl,h.r1,(fun e=> by cases e),h.n2⟩)
   all_goals(first | exact hK _ _ hN | exact hN)
  case q3_7=>
   intro bsE vsE W hlb hlv hnd hbk h
   obtain⟨b0,b1,b2,rfl⟩:=fe hlb
   obtain⟨v0,v1,v2,rfl⟩:=fe hlv
   obtain rfl:b0=true:=hnd 0 (by simp)
   obtain rfl:b1=false:=hbk
   replace h:iw (fun q v W=> aQ T B off name w w.heap.size (6,t,a,b,nm,ot) (bif q then {x with n:=x.n+1,at_:=t,ms:=dropT x.ms nm} else {x with n:=x.n+1,at_:=t}) (bif q then v else vm) vo W) w.heap.size vm (dropT x.ms nm) true false b2 v0 v1 W:=h
   clear hnd
   have HST:=aa h
   obtain rfl:=h.n2 rfl;have e9:=(h.r0 rfl).symm;subst e9;have CC:=aa (kN (HR.out.1.only h.s.only hT) HNE.out HL.out.1 nm)
   intro K Q hK
   simp only [az,updAll,Act.put,aU,aV,aW,aX] at hK ⊢
   go_wp2_with (go_at_call 107;refine CC.out.mono ?_;rintro e w7 ⟨v7,rfl,ho7,hb7⟩;have hN:iw (fun q v W=> aQ T B off name w w.heap.size (6,t,a,b,nm,ot) (bif q then {x with n:=x.n+1,at_:=t,ms:=dropT x.ms nm} else {x with n:=x.n+1,at_:=t}) (bif q then v else vm) vo W) w.heap.size vm (dropT x.ms nm) true true false vm v7 w7:=⟨aQ.step h.s hb7,fun _=> rfl,fun _=> ⟨ho7.r,fun k hk=> Nat.le_trans h.s.only.size (ho7.f k hk)⟩,(fun e=> by cases e),(fun e=> by cases e)⟩)
   all_goals(first | exact hK _ _ hN | exact hN)
  case q3_10=>
   intro bsE vsE W hlb hlv hnd hbk h
   obtain⟨b0,b1,b2,rfl⟩:=fe hlb
   obtain⟨v0,v1,v2,rfl⟩:=fe hlv
   obtain rfl:b1=true:=hnd 1 (by simp)
   obtain rfl:b2=false:=hbk
   replace h:iw (fun q v W=> aQ T B off name w w.heap.size (6,t,a,b,nm,ot) (bif q then {x with n:=x.n+1,at_:=t,ms:=dropT x.ms nm} else {x with n:=x.n+1,at_:=t}) (bif q then v else vm) vo W) w.heap.size vm (dropT x.ms nm) b0 true false v0 v1 W:=h
   clear hnd
   have HST:=aa h
   have hrow:=h.r1 rfl;obtain⟨a9,c9,e9,-⟩:=(h.r1 rfl).r;subst e9;have c:=h.s.cell (j:=9) rfl;have f:=h.s.free 9;have lB:=h.s.lt
   intro K Q hK
   simp only [az,updAll,Act.put,aU,aV,aW,aX] at hK ⊢
   go_wp2_with fail
   all_goals(have hN:iw (fun q v W=> aQ T B off name w w.heap.size (6,t,a,b,nm,ot) (bif q then {x with n:=x.n+1,at_:=t,ms:=dropT x.ms nm} else {x with n:=x.n+1,at_:=t}) (bif q then v else vm) vo W) w.heap.size vm (dropT x.ms nm) b0 true true v0 (.slice a9 (dropT x.ms nm).length c9) (W.setCell ⟨B,off+9,none⟩ (.slice a9 (dropT x.ms nm).length c9)):=⟨aQ.set h.s (j:=9) (.slice a9 _ c9) (by decide) rfl,h.r0,(fun _=> ⟨aQ.rowSet h.s hT hrow.r,hrow.f⟩),h.n1,(fun e=> by cases e)⟩)
   all_goals(first | exact hK _ hN | exact hN)
  all_goals
   intro bsE vsE W hlb hlv hnd h
   obtain⟨b0,b1,b2,rfl⟩:=fe hlb
   obtain⟨v0,v1,v2,rfl⟩:=fe hlv
   replace h:iw (fun q v W=> aQ T B off name w w.heap.size (6,t,a,b,nm,ot) (bif q then {x with n:=x.n+1,at_:=t,ms:=dropT x.ms nm} else {x with n:=x.n+1,at_:=t}) (bif q then v else vm) vo W) w.heap.size vm (dropT x.ms nm) b0 b1 b2 v0 v1 W:=h
   clear hnd
   have HST:=aa h
   have lB:=h.s.lt;obtain⟨e0,e1,e2,e3,e4,e5,el⟩:=h.s.ev
   intro K Q hK
   simp only [az,updAll,Act.put,aU,aV,aW,aX] at hK ⊢
   go_wp2_with (fail)
   all_goals(first | exact hK _ (by first | exact h | exact h.step (by repeat' (first | exact Below.refl _ _ | apply aI | apply bg))) | exact(by first | exact h | exact h.step (by repeat' (first | exact Below.refl _ _ | apply aI | apply bg))))
 case done=>
  intro vsE W hlv h
  obtain⟨v0,v1,v2,rfl⟩:=fe hlv
  replace h:iw (fun q v W=> aQ T B off name w w.heap.size (6,t,a,b,nm,ot) (bif q then {x with n:=x.n+1,at_:=t,ms:=dropT x.ms nm} else {x with n:=x.n+1,at_:=t}) (bif q then v else vm) vo W) w.heap.size vm (dropT x.ms nm) true true true v0 v1 W:=h
  have HST:=aa h
  have A3:Hid (aQ T B off name w w.heap.size (6,t,a,b,nm,ot) {x with n:=x.n+1,at_:=t,ms:=dropT x.ms nm} v1 vo W):=h.s
  have HO:=aa (h.r1 rfl)
  clear h HST A2 e0 e1 e2 e3 e4 e5 el lB
  simp only [az,updAll,Act.put,aU,aV,aW,aX]
  go_upto_region 23 with fail
  have c:=A3.out.cell (j:=16) rfl
  have f:=A3.out.free 16
  have lB:=A3.out.lt
  have hmo:=HB.out.mov
  have hw2:IntKind.i64.wrap (x.mov+1)=x.mov+1:=cC _ ⟨by omega,by omega⟩
  clear hmo
  go_wp2_with fail
  have A4:=aa (aQ.set (x':={x with n:=x.n+1,at_:=t,ms:=dropT x.ms nm,mov:=x.mov+1}) (vm':=v1) (vo':=vo) A3.out (j:=16) (.int .i64 (x.mov+1)) (by decide) rfl)
  have HO4:=aa (qW.mk (aQ.rowSet (o:=off+16) (u:=.int .i64 (x.mov+1)) A3.out hT HO.out.r) HO.out.f)
  refine bodyPost_end (results_none rfl _ _ _) rfl ?_
  first | exact⟨rfl,⟨v1,vo,⟨A4.out.done HO4.out.r (HR.out.2.only A4.out.only hT),ay HO4.out.f,ax rfl⟩⟩,A4.out.only⟩ | exact⟨rfl,v1,vo,⟨A4.out.done HO4.out.r (HR.out.2.only A4.out.only hT),ay HO4.out.f,ax rfl⟩,A4.out.only⟩
theorem tZ {T:TypeId} {B off:Nat} {name:ByteArray} {x:LifeS} {vm vo:Value} {w:World} (hT:T≠9)(h:bw T B off name x vm vo w)(hB:fE x)(t a b:Int)(nm ot:ByteArray)(hl:x.ms.length≤100000∧x.os.length≤100000)(hne:x.os≠[]):
  Calls Tryz.prog 46 #[.pointer (some ⟨B,off,none⟩),.agg #[.int .i64 8,.int .i64 t,.int .i64 a,.int .i64 b,.string nm,.string ot]] w fun en w'=> en=.returned (.tuple #[])∧∃ vm' vo',jo w T B off name (x.add name (8,t,a,b,nm,ot)) vm vo vm' vo' w'∧bO T B off 18 w w':=by
 have HL:Hid (x.ms.length≤1000000∧x.os.length≤1000000):=⟨by omega,by omega⟩
 have HNE:=aa hne
 clear hl hne
 have A0:=aa (ed h 8 t a b nm ot)
 have HR:=aa (ba h.ms h.os)
 have HB:=aa hB
 have hn:=hB.n
 have hw1:IntKind.i64.wrap ((x.n:Int)+1)=(x.n:Int)+1:=cC _ ⟨by omega,by omega⟩
 clear h hB hn
 go_enter Tryz.func46,Tryz.ntmps46
 go_upto_region 1 with fail
 generalize(w.alloc _)=W0 at*
 have c1:=A0.out.cell (j:=1) rfl
 have f1:=A0.out.free 1
 have lB:=A0.out.lt
 go_upto_region 2 with fail
 have A1:Hid (aQ T B off name w w.heap.size (8,t,a,b,nm,ot) {x with n:=x.n+1} vm vo (W0.setCell ⟨B,off+1,none⟩ (.int .i64 ((x.n:Int)+1)))):=A0.out.set (j:=1) (.int .i64 ((x.n:Int)+1)) (by decide) rfl
 generalize(W0.setCell ⟨B,off+1,none⟩ _)=W1 at*
 clear A0 c1 f1 lB hw1
 obtain⟨e0,e1,e2,e3,e4,e5,el⟩:=A1.out.ev
 have c2:=A1.out.cell (j:=2) rfl
 have f2:=A1.out.free 2
 have lB:=A1.out.lt
 go_upto_region 3 with fail
 have A2:Hid (aQ T B off name w w.heap.size (8,t,a,b,nm,ot) {x with n:=x.n+1,at_:=t} vm vo (W1.setCell ⟨B,off+2,none⟩ (.int .i64 t))):=A1.out.set (j:=2) (.int .i64 t) (by decide) rfl
 generalize(W1.setCell ⟨B,off+2,none⟩ _)=W2 at*
 clear A1 c2 f2 lB e0 e1 e2 e3 e4 e5 el
 obtain⟨e0,e1,e2,e3,e4,e5,el⟩:=A2.out.ev
 have lB:=A2.out.lt
 go_upto_region 27 with fail
 refine bo 11 14 158 [(4,147),(7,150),(10,160)] [(none,[]),(none,[]),(none,[]),(none,[]),(some 0,[]),(none,[]),(none,[]),(some 1,[0]),(none,[]),(none,[]),(some 2,[1])] [(143,(.pointer (some ⟨B,off,none⟩))),(144,(.pointer (some ⟨B,off,none⟩))),(145,(.pointer (some ⟨B,off,none⟩))),(146,(.pointer (some ⟨B,off+10,none⟩))),(148,(.pointer (some ⟨w.heap.size,4,none⟩))),(149,(.string nm)),(151,(.pointer (some ⟨B,off,none⟩))),(152,(.pointer (some ⟨B,off+10,none⟩)))] (fun bsE vsE W=> iw (fun q v W=> aQ T B off name w w.heap.size (8,t,a,b,nm,ot) (bif q then {x with n:=x.n+1,at_:=t,os:=dropT x.os nm} else {x with n:=x.n+1,at_:=t}) vm (bif q then v else vo) W) w.heap.size vo (dropT x.os nm) (bsE.getD 0 false) (bsE.getD 1 false) (bsE.getD 2 false) (vsE.getD 0 undef) (vsE.getD 1 undef) W) (by kernel_rfl) (by kernel_rfl) rfl rfl (by kernel_rfl) (by rfl) ?h0 ?each ?done
 case h0=>
  intro vsE hlv
  obtain⟨v0,v1,v2,rfl⟩:=fe hlv
  exact⟨A2.out.step (Below.refl _ _).drew,(fun e=> by cases e),(fun e=> by cases e),(fun _=> rfl),(fun _=> rfl)⟩
 case each=>
  simp only [dp]
  refine⟨⟨143,(.pointer (some ⟨B,off,none⟩)),rfl,by kernel_rfl,?_⟩,⟨144,(.pointer (some ⟨B,off,none⟩)),rfl,by kernel_rfl,?_⟩,⟨145,(.pointer (some ⟨B,off,none⟩)),rfl,by kernel_rfl,?_⟩,⟨146,(.pointer (some ⟨B,off+10,none⟩)),rfl,by kernel_rfl,?_⟩,ax ⟨147,rfl,?q4_4⟩,⟨148,(.pointer (some ⟨w.heap.size,4,none⟩)),rfl,by kernel_rfl,?_⟩,⟨149,(.string nm),rfl,by kernel_rfl,?_⟩,ax ⟨150,rfl,?q4_7⟩,⟨151,(.pointer (some ⟨B,off,none⟩)),rfl,by kernel_rfl,?_⟩,⟨152,(.pointer (some ⟨B,off+10,none⟩)),rfl,by kernel_rfl,?_⟩,ay ⟨rfl,?q4_10⟩,trivial⟩
  case q4_4=>
   intro bsE vsE W hlb hlv hnd hbk h
   obtain⟨b0,b1,b2,rfl⟩:=fe hlb
   obtain⟨v0,v1,v2,rfl⟩:=fe hlv
   obtain rfl:b0=false:=hbk
   replace h:iw (fun q v W=> aQ T B off name w w.heap.size (8,t,a,b,nm,ot) (bif q then {x with n:=x.n+1,at_:=t,os:=dropT x.os nm} else {x with n:=x.n+1,at_:=t}) vm (bif q then v else vo) W) w.heap.size vo (dropT x.os nm) false b1 b2 v0 v1 W:=h
   clear hnd
   have HST:=aa h
   obtain rfl:=h.n1 rfl;obtain rfl:=h.n2 rfl;have c:=h.s.cell (j:=10) rfl;have lB:=h.s.lt
   intro K Q hK
   simp only [az,updAll,Act.put,aU,aV,aW,aX] at hK ⊢
   go_wp2_with fail
   all_goals(have hN:iw (fun q v W=> aQ T B off name w w.heap.size (8,t,a,b,nm,ot) (bif q then {x with n:=x.n+1,at_:=t,os:=dropT x.os nm} else {x with n:=x.n+1,at_:=t}) vm (bif q then v else vo) W) w.heap.size vo (dropT x.os nm) true false false vo v1 W:=⟨h.s,fun _=> rfl,h.r1,(fun e=> by cases e),h.n2⟩)
   all_goals(first | exact hK _ _ hN | exact hN)
  case q4_7=>
   intro bsE vsE W hlb hlv hnd hbk h
   obtain⟨b0,b1,b2,rfl⟩:=fe hlb
   obtain⟨v0,v1,v2,rfl⟩:=fe hlv
   obtain rfl:b0=true:=hnd 0 (by simp)
   obtain rfl:b1=false:=hbk
   replace h:iw (fun q v W=> aQ T B off name w w.heap.size (8,t,a,b,nm,ot) (bif q then {x with n:=x.n+1,at_:=t,os:=dropT x.os nm} else {x with n:=x.n+1,at_:=t}) vm (bif q then v else vo) W) w.heap.size vo (dropT x.os nm) true false b2 v0 v1 W:=h
   clear hnd
   have HST:=aa h
   obtain rfl:=h.n2 rfl;have e9:=(h.r0 rfl).symm;subst e9;have CC:=aa (kN (HR.out.2.only h.s.only hT) HNE.out HL.out.2 nm)
   intro K Q hK
   simp only [az,updAll,Act.put,aU,aV,aW,aX] at hK ⊢
   go_wp2_with (go_at_call 107;refine CC.out.mono ?_;rintro e w7 ⟨v7,rfl,ho7,hb7⟩;have hN:iw (fun q v W=> aQ T B off name w w.heap.size (8,t,a,b,nm,ot) (bif q then {x with n:=x.n+1,at_:=t,os:=dropT x.os nm} else {x with n:=x.n+1,at_:=t}) vm (bif q then v else vo) W) w.heap.size vo (dropT x.os nm) true true false vo v7 w7:=⟨aQ.step h.s hb7,fun _=> rfl,fun _=> ⟨ho7.r,fun k hk=> Nat.le_trans h.s.only.size (ho7.f k hk)⟩,(fun e=> by cases e),(fun e=> by cases e)⟩)
   all_goals(first | exact hK _ _ hN | exact hN)
  case q4_10=>
   intro bsE vsE W hlb hlv hnd hbk h
   obtain⟨b0,b1,b2,rfl⟩:=fe hlb
   obtain⟨v0,v1,v2,rfl⟩:=fe hlv
   obtain rfl:b1=true:=hnd 1 (by simp)
   obtain rfl:b2=false:=hbk
   replace h:iw (fun q v W=> aQ T B off name w w.heap.size (8,t,a,b,nm,ot) (bif q then {x with n:=x.n+1,at_:=t,os:=dropT x.os nm} else {x with n:=x.n+1,at_:=t}) vm (bif q then v else vo) W) w.heap.size vo (dropT x.os nm) b0 true false v0 v1 W:=h
   clear hnd
   have HST:=aa h
   have hrow:=h.r1 rfl;obtain⟨a9,c9,e9,-⟩:=(h.r1 rfl).r;subst e9;have c:=h.s.cell (j:=10) rfl;have f:=h.s.free 10;have lB:=h.s.lt
   intro K Q hK
   simp only [az,updAll,Act.put,aU,aV,aW,aX] at hK ⊢
   go_wp2_with fail
   all_goals(have hN:iw (fun q v W=> aQ T B off name w w.heap.size (8,t,a,b,nm,ot) (bif q then {x with n:=x.n+1,at_:=t,os:=dropT x.os nm} else {x with n:=x.n+1,at_:=t}) vm (bif q then v else vo) W) w.heap.size vo (dropT x.os nm) b0 true true v0 (.slice a9 (dropT x.os nm).length c9) (W.setCell ⟨B,off+10,none⟩ (.slice a9 (dropT x.os nm).length c9)):=⟨aQ.set h.s (j:=10) (.slice a9 _ c9) (by decide) rfl,h.r0,(fun _=> ⟨aQ.rowSet h.s hT hrow.r,hrow.f⟩),h.n1,(fun e=> by cases e)⟩)
   all_goals(first | exact hK _ hN | exact hN)
  all_goals
   intro bsE vsE W hlb hlv hnd h
   obtain⟨b0,b1,b2,rfl⟩:=fe hlb
   obtain⟨v0,v1,v2,rfl⟩:=fe hlv
   replace h:iw (fun q v W=> aQ T B off name w w.heap.size (8,t,a,b,nm,ot) (bif q then {x with n:=x.n+1,at_:=t,os:=dropT x.os nm} else {x with n:=x.n+1,at_:=t}) vm (bif q then v else vo) W) w.heap.size vo (dropT x.os nm) b0 b1 b2 v0 v1 W:=h
   clear hnd
   have HST:=aa h
   have lB:=h.s.lt;obtain⟨e0,e1,e2,e3,e4,e5,el⟩:=h.s.ev
   intro K Q hK
   simp only [az,updAll,Act.put,aU,aV,aW,aX] at hK ⊢
   go_wp2_with (fail)
   all_goals(first | exact hK _ (by first | exact h | exact h.step (by repeat' (first | exact Below.refl _ _ | apply aI | apply bg))) | exact(by first | exact h | exact h.step (by repeat' (first | exact Below.refl _ _ | apply aI | apply bg))))
 case done=>
  intro vsE W hlv h
  obtain⟨v0,v1,v2,rfl⟩:=fe hlv
  replace h:iw (fun q v W=> aQ T B off name w w.heap.size (8,t,a,b,nm,ot) (bif q then {x with n:=x.n+1,at_:=t,os:=dropT x.os nm} else {x with n:=x.n+1,at_:=t}) vm (bif q then v else vo) W) w.heap.size vo (dropT x.os nm) true true true v0 v1 W:=h
  have HST:=aa h
  have A3:Hid (aQ T B off name w w.heap.size (8,t,a,b,nm,ot) {x with n:=x.n+1,at_:=t,os:=dropT x.os nm} vm v1 W):=h.s
  have HO:=aa (h.r1 rfl)
  clear h HST A2 e0 e1 e2 e3 e4 e5 el lB
  simp only [az,updAll,Act.put,aU,aV,aW,aX]
  go_wp2_with fail
  refine bodyPost_end (results_none rfl _ _ _) rfl ?_
  first | exact⟨rfl,⟨vm,v1,⟨A3.out.done (HR.out.1.only A3.out.only hT) HO.out.r,ax rfl,ay HO.out.f⟩⟩,A3.out.only⟩ | exact⟨rfl,vm,v1,⟨A3.out.done (HR.out.1.only A3.out.only hT) HO.out.r,ax rfl,ay HO.out.f⟩,A3.out.only⟩
end
section
open Go.Shelf
def lays171_ren:Go.Shelf.Ren:=⟨fun | 171=> 106 | 243=> 139 | 246=> 127 | 283=> 150 | 284=> 151 | 285=> 152 | 286=> 153 | 129=> 166 | 317=> 165 | 318=> 167 | 319=> 168 | 320=> 169 | 337=> 182 | 338=> 183 | n=> n,fun | 3=> 3 | 9=> 9 | 2=> 2 | 4=> 4 | 171=> 220 | 0=> 0 | 53=> 22 | 37=> 88 | 5=> 5 | 173=> 223 | 212=> 238 | 51=> 239 | 20=> 20 | 213=> 240 | 46=> 167 | 232=> 260 | 233=> 261 | n=> n,fun | 17=> 0 | 18=> 5 | 19=> 6 | n=> n⟩
theorem wF:Go.Proofs.Lays.n171 Tryz.prog lays171_ren:={
 mixed:=by kernel_rfl
 f129:=Tryz.func166.trans (congrArg some (by kernel_rfl))
 f171:=Tryz.func106.trans (congrArg some (by kernel_rfl))
 f243:=Tryz.func139.trans (congrArg some (by kernel_rfl))
 f246:=Tryz.func127.trans (congrArg some (by kernel_rfl))
 f283:=Tryz.func150.trans (congrArg some (by kernel_rfl))
 f284:=Tryz.func151.trans (congrArg some (by kernel_rfl))
 f285:=Tryz.func152.trans (congrArg some (by kernel_rfl))
 f286:=Tryz.func153.trans (congrArg some (by kernel_rfl))
 f317:=Tryz.func165.trans (congrArg some (by kernel_rfl))
 f318:=Tryz.func167.trans (congrArg some (by kernel_rfl))
 f319:=Tryz.func168.trans (congrArg some (by kernel_rfl))
 f320:=Tryz.func169.trans (congrArg some (by kernel_rfl))
 f337:=Tryz.func182.trans (congrArg some (by kernel_rfl))
 f338:=Tryz.func183.trans (congrArg some (by kernel_rfl))
 t0:=Tryz.underlying0
 a0:=Tryz.isAgg0
 z0:=Tryz.sizeOf0
 v0:=Tryz.zeroValue0
 t2:=Tryz.underlying2
 a2:=Tryz.isAgg2
 z2:=Tryz.sizeOf2
 v2:=Tryz.zeroValue2
 t3:=Tryz.underlying3
 a3:=Tryz.isAgg3
 z3:=Tryz.sizeOf3
 v3:=Tryz.zeroValue3
 t4:=Tryz.underlying4
 a4:=Tryz.isAgg4
 z4:=Tryz.sizeOf4
 v4:=Tryz.zeroValue4
 t5:=Tryz.underlying5
 a5:=Tryz.isAgg5
 z5:=Tryz.sizeOf5
 v5:=Tryz.zeroValue5
 t9:=Tryz.underlying9
 a9:=Tryz.isAgg9
 z9:=Tryz.sizeOf9
 v9:=Tryz.zeroValue9
 t20:=Tryz.underlying20
 a20:=Tryz.isAgg20
 z20:=Tryz.sizeOf20
 v20:=Tryz.zeroValue20
 t37:=Tryz.underlying88
 a37:=Tryz.isAgg88
 z37:=Tryz.sizeOf88
 v37:=Tryz.zeroValue88
 t46:=Tryz.underlying167
 a46:=Tryz.isAgg167
 z46:=Tryz.sizeOf167
 v46:=Tryz.zeroValue167
 t51:=Tryz.underlying239
 a51:=Tryz.isAgg239
 z51:=Tryz.sizeOf239
 v51:=Tryz.zeroValue239
 t53:=Tryz.underlying22
 a53:=Tryz.isAgg22
 z53:=Tryz.sizeOf22
 v53:=Tryz.zeroValue22
 t171:=Tryz.underlying220
 a171:=Tryz.isAgg220
 z171:=Tryz.sizeOf220
 v171:=Tryz.zeroValue220
 t173:=Tryz.underlying223
 a173:=Tryz.isAgg223
 z173:=Tryz.sizeOf223
 v173:=Tryz.zeroValue223
 t212:=Tryz.underlying238
 a212:=Tryz.isAgg238
 z212:=Tryz.sizeOf238
 v212:=Tryz.zeroValue238
 t213:=Tryz.underlying240
 a213:=Tryz.isAgg240
 z213:=Tryz.sizeOf240
 t232:=Tryz.underlying260
 a232:=Tryz.isAgg260
 z232:=Tryz.sizeOf260
 v232:=Tryz.zeroValue260
 t233:=Tryz.underlying261
 a233:=Tryz.isAgg261
 z233:=Tryz.sizeOf261
 v233:=Tryz.zeroValue261
 g17:=by kernel_rfl
 g18:=by kernel_rfl
 g19:=by kernel_rfl }
end
end Go.Proofs.YtmpilgkfbibhlaaGreatDoor
