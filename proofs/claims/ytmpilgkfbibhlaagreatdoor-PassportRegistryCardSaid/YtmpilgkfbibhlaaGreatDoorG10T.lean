/-
 G10T
-/
import Derived.Test.YtmpilgkfbibhlaaGreatDoorG9T
set_option linter.unusedSimpArgs false
set_option linter.unusedVariables false
set_option maxRecDepth 100000
set_option maxHeartbeats 20000000
namespace Go.Proofs.YtmpilgkfbibhlaaGreatDoor
section
open Go.RowKit Mr
theorem yG(e:bQ)(w:World)(hok:eC e=true)(h1:e.2.2.2.2.1.size≤100∧e.2.2.2.2.2.size≤100):
  Calls Tryz.prog 105 #[kZ e] w fun en w'=> ∃ p c,en=.returned (.slice p (jw e).length c)∧ew p (jw e) w'∧Below w.heap.size w w':=by
 obtain⟨k,t,a,b,nm,ot⟩:=e
 change gy k t a b nm ot=true at hok
 obtain⟨he,-,-⟩:=jv hok
 have q1:=he.k;have q2:=he.t;have q3:=he.a;have q4:=he.b
 unfold tq at q1 q2 q3 q4
 dsimp only at q1 q2 q3 q4 h1
 obtain⟨k,rfl⟩:=Int.eq_ofNat_of_zero_le (show 0≤k by omega)
 obtain⟨t,rfl⟩:=Int.eq_ofNat_of_zero_le (show 0≤t by omega)
 obtain⟨a,rfl⟩:=Int.eq_ofNat_of_zero_le (show 0≤a by omega)
 obtain⟨b,rfl⟩:=Int.eq_ofNat_of_zero_le (show 0≤b by omega)
 refine(wT k t a b nm ot w ⟨by omega,by omega⟩ (by omega) (by omega) (by omega) h1.1 h1.2).mono fun e w' h=> ?_
 obtain⟨v,rfl,hv,hb⟩:=h
 rw [sf] at hv
 obtain⟨p,c,rfl,hB⟩:=rk hv
 exact⟨p,c,rfl,hB,hb⟩
theorem lF(e:bQ)(hok:eC e=true)(h1:e.2.2.2.2.1.size≤100∧e.2.2.2.2.2.size≤100):mG (jw e):=by
 obtain⟨k,t,a,b,nm,ot⟩:=e
 change gy k t a b nm ot=true at hok
 have O1:=jv hok
 exact pM (e:=tq k t a b nm ot) O1.1.k.2 (by have:=h1.1;rw [Lib.size_eq] at this;exact this) (by have:=h1.2;rw [Lib.size_eq] at this;exact this)
theorem uF {p:Option Addr} {m:List Nat} {W:World} (h:ew p m W):m.length*1≠0→∃ q off,p=some ⟨q,off,none⟩∧∀ (j:Nat) (u:Value),(dw m)[j]? =some u→W.cell? ⟨q,off+j,none⟩=some u:=fun hm=> by
 obtain⟨b,off,rfl,-,h2⟩:=h (by rintro rfl;simp at hm)
 refine⟨b,off,rfl,fun j u hj=> ?_⟩
 unfold dw at hj
 rw [bX] at hj
 cases hq:m[j]? with
 | none=> rw [hq] at hj;cases hj
 | some n=>
  rw [hq] at hj
  simp at hj
  rw [h2 j (aB hq).1,di,hq,← hj]
  rfl
theorem kx(n:Nat):IntKind.u8.wrap (n:Int)=((n % 256:Nat):Int):=by
 show(n:Int) % 256=_
 omega
structure wW(W0:World)(m:List Nat)(b0 b1:Bool)(v0 v1:Value)(W:World):Prop where
 bel:Below W0.heap.size W0 W
 r0:b0=true→W.ownsRow W0.heap.size 5 1 v0 m.length (dw m)
 r1:b1=true→v1=v0
 n:b0=false→b1=false
end
section
open Go.RowKit Mr
def zeroE:Array Value:=#[.int .i64 0,.int .i64 0,.int .i64 0,.int .i64 0,.string ⟨#[]⟩,.string ⟨#[]⟩,.int .i64 0,.int .i64 0,.int .u64 0,.int .u64 0]
def bV:bR→List Value
 | ((k,t,a,b,nm,ot),by_,pad,head,tag)=> [.int .i64 k,.int .i64 t,.int .i64 a,.int .i64 b,.string nm,.string ot,.int .i64 by_,.int .i64 pad,.int .u64 (head:Int),.int .u64 (tag:Int)]
def dU(y:bR):Value:=.agg (bV y).toArray
theorem AB(head:Nat):[Value.int .u8 (IntKind.u8.wrap ((head:Int) / 16777216)),.int .u8 (IntKind.u8.wrap ((head:Int) / 65536)),.int .u8 (IntKind.u8.wrap ((head:Int) / 256)),.int .u8 (IntKind.u8.wrap (head:Int))]=dw (cG head 4):=by
 have e1:(head:Int) / 16777216=((head / 16777216:Nat):Int):=by omega
 have e2:(head:Int) / 65536=((head / 65536:Nat):Int):=by omega
 have e3:(head:Int) / 256=((head / 256:Nat):Int):=by omega
 rw [e1,e2,e3,kx,kx,kx,kx]
 simp [cG,dw,List.range_succ]
theorem yH(W:World)(head:Nat):(W.alloc (.cells #[.int .u8 (IntKind.u8.wrap ((head:Int) / 16777216)),.int .u8 (IntKind.u8.wrap ((head:Int) / 65536)),.int .u8 (IntKind.u8.wrap ((head:Int) / 256)),.int .u8 (IntKind.u8.wrap (head:Int))] 5)).ownsRow W.heap.size 5 1 (.slice (some ⟨W.heap.size,0,none⟩) 4 4) (cG head 4).length (dw (cG head 4)):=by
 have h:=Mr.rR (W:=W) (cs:=#[.int .u8 (IntKind.u8.wrap ((head:Int) / 16777216)),.int .u8 (IntKind.u8.wrap ((head:Int) / 65536)),.int .u8 (IntKind.u8.wrap ((head:Int) / 256)),.int .u8 (IntKind.u8.wrap (head:Int))]) (E:=5) (sz:=1) (n:=4) (cap:=4) (by unfold maxLen;omega) (bz _) rfl
 have e:(#[Value.int .u8 (IntKind.u8.wrap ((head:Int) / 16777216)),.int .u8 (IntKind.u8.wrap ((head:Int) / 65536)),.int .u8 (IntKind.u8.wrap ((head:Int) / 256)),.int .u8 (IntKind.u8.wrap (head:Int))].toList.take (4*1))=dw (cG head 4):=AB head
 rw [e] at h
 rw [dq]
 exact h
theorem wW.put {W0 W:World} {v0 v1:Value} {head:Nat} (h:wW W0 (cG head 4) false false v0 v1 W):
  wW W0 (cG head 4) true false (.slice (some ⟨W.heap.size,0,none⟩) 4 4) v1 (W.alloc (.cells #[.int .u8 (IntKind.u8.wrap ((head:Int) / 16777216)),.int .u8 (IntKind.u8.wrap ((head:Int) / 65536)),.int .u8 (IntKind.u8.wrap ((head:Int) / 256)),.int .u8 (IntKind.u8.wrap (head:Int))] 5)):=
 ⟨ai h.bel bU,fun _=> Mr.own_base (yH W head) h.bel.size,(fun e=> by cases e),(fun e=> by cases e)⟩
theorem jU(e:bQ)(hok:eC e=true)(h1:e.2.2.2.2.1.size≤100∧e.2.2.2.2.2.size≤100):(jw e).length≤300:=by
 obtain⟨k,t,a,b,nm,ot⟩:=e
 dsimp only at h1
 show(fH (tq k t a b nm ot)).length≤300
 unfold fH tq b8
 simp
 omega
theorem uG(k t a b:Int)(nm ot:ByteArray)(w:World):
  ((w.alloc (.cells #[.int .i64 k,.int .i64 t,.int .i64 a,.int .i64 b,.string nm,.string ot] 29)).alloc (.cells zeroE 31)).heap[w.heap.size]? =some (.cells #[.int .i64 k,.int .i64 t,.int .i64 a,.int .i64 b,.string nm,.string ot] 29 (0,0))∧
  ((w.alloc (.cells #[.int .i64 k,.int .i64 t,.int .i64 a,.int .i64 b,.string nm,.string ot] 29)).alloc (.cells zeroE 31)).heap[w.heap.size+1]? =some (.cells zeroE 31 (0,0))∧
  Below w.heap.size w ((w.alloc (.cells #[.int .i64 k,.int .i64 t,.int .i64 a,.int .i64 b,.string nm,.string ot] 29)).alloc (.cells zeroE 31)):=by
 refine⟨an (au w _) bU,?_,aK bU _⟩
 have h:=au (w.alloc (.cells #[.int .i64 k,.int .i64 t,.int .i64 a,.int .i64 b,.string nm,.string ot] 29)) (.cells zeroE 31)
 rw [show(w.alloc (.cells #[.int .i64 k,.int .i64 t,.int .i64 a,.int .i64 b,.string nm,.string ot] 29)).heap.size=w.heap.size+1 by simp] at h
 exact h
theorem dr {W:World} {cs:List Value} {t:TypeId} {n:Nat}:n*1≠0→∃ p off,(some (⟨W.heap.size,0,none⟩:Addr))=some ⟨p,off,none⟩∧∀ (j:Nat) (u:Value),cs[j]? =some u→(W.alloc (.cells cs.toArray t)).cell? ⟨p,off+j,none⟩=some u:=fun _=>
 ⟨_,0,rfl,fun j u hu=> ah (au W _) (by rw [Nat.zero_add];simpa using hu)⟩
theorem yI:(Tryz.prog.info? 5).map (fun i=> (i.zero,i.size,i.bytes))=some (some (.int .u8 0),1,1):=by kernel_rfl
theorem oO(l m:List Nat):dw (l++m)=dw l++dw m:=by unfold dw;rw [List.map_append]
theorem uH(m:List Nat):(dw m).length=m.length:=by unfold dw;rw [List.length_map]
theorem ky {W0 W w2:World} {u:Value} {n:Nat} {xs:List Value} (hb:Below W0.heap.size W0 W)(ho:W.ownsRow W0.heap.size 5 1 u n xs)(hg:W.grownBy w2 u.ownBlock):Below W0.heap.size W0 w2:=
 hb.grown hg hb.size fun k hk=> by
  obtain⟨h1,h2⟩:=ho
  rcases h2 with⟨h2,h3⟩ | ⟨g,cap,cur,q1,q2,-⟩
  ·rw [h2] at hk;cases hk
  ·rw [q1] at hk
   obtain rfl:g=k:=by simpa [Value.ownBlock] using hk
   exact q2
theorem yJ {W0 w7:World} {v7:Value} {head by_:Nat} {m:List Nat} (h:w7.ownsRow W0.heap.size 5 1 v7 ((cG head 4).length+m.length+1) (dw (cG head 4)++dw m++[.int .u8 ((by_ % 256:Nat):Int)])):
  ∃ g c,v7=.slice (some ⟨g,0,none⟩) (cG head 4++m++[by_ % 256]).length c∧W0.heap.size≤g∧g < w7.heap.size∧ew (some ⟨g,0,none⟩) (cG head 4++m++[by_ % 256]) w7:=by
 have e:dw (cG head 4)++dw m++[.int .u8 ((by_ % 256:Nat):Int)]=dw (cG head 4++m++[by_ % 256]):=by rw [oO,oO];rfl
 have en:(cG head 4).length+m.length+1=(cG head 4++m++[by_ % 256]).length:=by rw [cY,cY];rfl
 rw [e,en] at h
 obtain⟨h1,h2⟩:=h
 rcases h2 with⟨h2,h3⟩ | ⟨g,cap,cur,q1,q2,q3,q4,q5,q6,q7⟩
 ·rw [cY] at h3;simp at h3
 ·refine⟨g,cap,q1,q2,ak q3,fun _=> ⟨g,0,rfl,ak q3,fun k hk=> ?_⟩⟩
  have hj:(dw (cG head 4++m++[by_ % 256]))[k]? =some (.int .u8 (((cG head 4++m++[by_ % 256]).getD k 0:Nat):Int)):=by
   unfold dw
   rw [bX,di,bh hk];rfl
  rw [← q7,List.getElem?_take_of_lt (by omega)] at hj
  exact ah q3 (by simpa using hj)
theorem pP {head by_:Nat} {m:List Nat} (h:mG m):mG (cG head 4++m++[by_ % 256]):=by
 intro k
 have key:∀ x∈cG head 4++m++[by_ % 256],x < 256:=by
  intro x hx
  simp only [List.mem_append,List.mem_singleton] at hx
  rcases hx with(hx | hx) | hx
  ·unfold cG at hx
   obtain⟨j,-,rfl⟩:=List.mem_map.1 hx
   exact Nat.mod_lt _ (by decide)
  ·obtain⟨j,hj⟩:=List.getElem?_of_mem hx
   have:=h j
   rw [di,hj] at this
   exact this
  ·rw [hx];exact Nat.mod_lt _ (by decide)
 by_cases hk:k < (cG head 4++m++[by_ % 256]).length
 ·rw [di,bh hk]
  exact key _ (List.getElem_mem hk)
 ·rw [di,List.getElem?_eq_none (by omega)]
  decide
theorem bO.cell {T:TypeId} {B off n:Nat} {w W:World} (h:bO T B off n w W){p o:Nat} {u:Value} (hp:p≠B)(hc:w.cell? ⟨p,o,none⟩=some u):W.cell? ⟨p,o,none⟩=some u:=by
 have hlt:p < w.heap.size:=World.block_lt_of_cell? _ _ hc
 exact(World.cell?_of_block (w:=w) (a:=⟨p,o,none⟩) (h.block p hlt hp)).trans hc
theorem ew.only {T:TypeId} {B off n g:Nat} {w W:World} {m:List Nat} (h:ew (some ⟨g,0,none⟩) m w)(ho:bO T B off n w W)(hg:g≠B):ew (some ⟨g,0,none⟩) m W:=fun hn=> by
 obtain⟨b,o2,e,h1,h2⟩:=h hn
 cases e
 exact⟨g,0,rfl,ar h1 ho.size,fun k hk=> ho.cell hg (h2 k hk)⟩
structure mH(w w8:World)(cs:Array Value)(b0:Bool)(W:World):Prop where
 only:bO 31 (w.heap.size+1) 0 10 w8 W
 bel:Below w.heap.size w W
 blk:W.heap[w.heap.size+1]? =some (.cells (bif b0 then cs else zeroE) 31 (0,0))
theorem mH.step {w w8 W w2:World} {cs:Array Value} {b0:Bool} (h:mH w w8 cs b0 W)(hb:Below W.heap.size W w2):mH w w8 cs b0 w2:=⟨h.only.step hb,ai h.bel hb,an h.blk hb⟩
theorem kz {P:Program} {fn:Func} {tmps:Array Value} {W:World} {a:Nat} {t:TypeId} {p:Addr} {v:Value} (hr:fn.results=#[.cell a t])(ha:tmps.getD a undef=.pointer (some p))(hl:(loadVar t p).run P W=.ok v W):(results fn tmps).run P W=.ok v W:=by
 unfold results
 rw [hr]
 simp only [List.mapM_toArray,List.mapM_cons,List.mapM_nil,ha,asAddr,Sem.run_bind,Sem.run_pure,Result.andThen_ok,hl,map_eq_pure_bind,bind_assoc,pure_bind]
 rfl
theorem gG:(Tryz.prog.info? 31).map (·.size)=some 10:=by kernel_rfl
theorem lG {W:World} {b:Nat} {y:bR} (h:W.heap[b]? =some (.cells (bV y).toArray 31 (0,0))):(loadVar 31 ⟨b,0,none⟩).run Tryz.prog W=.ok (dU y) W:=
 run_loadVar_mid W b 0 31 (bV y) _ (fun j v hv=> ah h (by rw [Nat.zero_add];simpa using hv)) Tryz.underlying31 rfl gG
theorem mH.fin {w w8 W:World} {y:bR} (h:mH w w8 (bV y).toArray false W):mH w w8 (bV y).toArray true
  ((((((((((W.setCell ⟨w.heap.size+1,0,none⟩ (.int .i64 y.1.1)).setCell ⟨w.heap.size+1,1,none⟩ (.int .i64 y.1.2.1)).setCell ⟨w.heap.size+1,2,none⟩ (.int .i64 y.1.2.2.1)).setCell ⟨w.heap.size+1,3,none⟩ (.int .i64 y.1.2.2.2.1)).setCell ⟨w.heap.size+1,4,none⟩ (.string y.1.2.2.2.2.1)).setCell ⟨w.heap.size+1,5,none⟩ (.string y.1.2.2.2.2.2)).setCell ⟨w.heap.size+1,6,none⟩ (.int .i64 y.2.1)).setCell ⟨w.heap.size+1,7,none⟩ (.int .i64 y.2.2.1)).setCell ⟨w.heap.size+1,8,none⟩ (.int .u64 (y.2.2.2.1:Int))).setCell ⟨w.heap.size+1,9,none⟩ (.int .u64 (y.2.2.2.2:Int))):=by
 obtain⟨⟨k,t,a,b,nm,ot⟩,by_,pad,head,tag⟩:=y
 have hw:w.heap.size≤w.heap.size+1:=by omega
 have hz:W.heap[w.heap.size+1]? =some (.cells #[.int .i64 0,.int .i64 0,.int .i64 0,.int .i64 0,.string ⟨#[]⟩,.string ⟨#[]⟩,.int .i64 0,.int .i64 0,.int .u64 0,.int .u64 0] 31 (0,0)):=h.blk
 refine⟨?_,?_,?_⟩
 ·have q0:=h.only.set (j:=0) (by decide) (.int .i64 k)
  have q1:=q0.set (j:=1) (by decide) (.int .i64 t)
  have q2:=q1.set (j:=2) (by decide) (.int .i64 a)
  have q3:=q2.set (j:=3) (by decide) (.int .i64 b)
  have q4:=q3.set (j:=4) (by decide) (.string nm)
  have q5:=q4.set (j:=5) (by decide) (.string ot)
  have q6:=q5.set (j:=6) (by decide) (.int .i64 by_)
  have q7:=q6.set (j:=7) (by decide) (.int .i64 pad)
  have q8:=q7.set (j:=8) (by decide) (.int .u64 (head:Int))
  exact q8.set (j:=9) (by decide) (.int .u64 (tag:Int))
 ·exact(((((((((h.bel.setCell hw _).setCell hw _).setCell hw _).setCell hw _).setCell hw _).setCell hw _).setCell hw _).setCell hw _).setCell hw _).setCell hw _
 ·have z0:(W.setCell ⟨w.heap.size+1,0,none⟩ (.int .i64 k)).heap[w.heap.size+1]? =some (.cells #[(.int .i64 k),(.int .i64 0),(.int .i64 0),(.int .i64 0),(.string ⟨#[]⟩),(.string ⟨#[]⟩),(.int .i64 0),(.int .i64 0),(.int .u64 0),(.int .u64 0)] 31 (0,0)):=bn hz
  have z1:((W.setCell ⟨w.heap.size+1,0,none⟩ (.int .i64 k)).setCell ⟨w.heap.size+1,1,none⟩ (.int .i64 t)).heap[w.heap.size+1]? =some (.cells #[(.int .i64 k),(.int .i64 t),(.int .i64 0),(.int .i64 0),(.string ⟨#[]⟩),(.string ⟨#[]⟩),(.int .i64 0),(.int .i64 0),(.int .u64 0),(.int .u64 0)] 31 (0,0)):=bn z0
  have z2:(((W.setCell ⟨w.heap.size+1,0,none⟩ (.int .i64 k)).setCell ⟨w.heap.size+1,1,none⟩ (.int .i64 t)).setCell ⟨w.heap.size+1,2,none⟩ (.int .i64 a)).heap[w.heap.size+1]? =some (.cells #[(.int .i64 k),(.int .i64 t),(.int .i64 a),(.int .i64 0),(.string ⟨#[]⟩),(.string ⟨#[]⟩),(.int .i64 0),(.int .i64 0),(.int .u64 0),(.int .u64 0)] 31 (0,0)):=bn z1
  have z3:((((W.setCell ⟨w.heap.size+1,0,none⟩ (.int .i64 k)).setCell ⟨w.heap.size+1,1,none⟩ (.int .i64 t)).setCell ⟨w.heap.size+1,2,none⟩ (.int .i64 a)).setCell ⟨w.heap.size+1,3,none⟩ (.int .i64 b)).heap[w.heap.size+1]? =some (.cells #[(.int .i64 k),(.int .i64 t),(.int .i64 a),(.int .i64 b),(.string ⟨#[]⟩),(.string ⟨#[]⟩),(.int .i64 0),(.int .i64 0),(.int .u64 0),(.int .u64 0)] 31 (0,0)):=bn z2
  have z4:(((((W.setCell ⟨w.heap.size+1,0,none⟩ (.int .i64 k)).setCell ⟨w.heap.size+1,1,none⟩ (.int .i64 t)).setCell ⟨w.heap.size+1,2,none⟩ (.int .i64 a)).setCell ⟨w.heap.size+1,3,none⟩ (.int .i64 b)).setCell ⟨w.heap.size+1,4,none⟩ (.string nm)).heap[w.heap.size+1]? =some (.cells #[(.int .i64 k),(.int .i64 t),(.int .i64 a),(.int .i64 b),(.string nm),(.string ⟨#[]⟩),(.int .i64 0),(.int .i64 0),(.int .u64 0),(.int .u64 0)] 31 (0,0)):=bn z3
  have z5:((((((W.setCell ⟨w.heap.size+1,0,none⟩ (.int .i64 k)).setCell ⟨w.heap.size+1,1,none⟩ (.int .i64 t)).setCell ⟨w.heap.size+1,2,none⟩ (.int .i64 a)).setCell ⟨w.heap.size+1,3,none⟩ (.int .i64 b)).setCell ⟨w.heap.size+1,4,none⟩ (.string nm)).setCell ⟨w.heap.size+1,5,none⟩ (.string ot)).heap[w.heap.size+1]? =some (.cells #[(.int .i64 k),(.int .i64 t),(.int .i64 a),(.int .i64 b),(.string nm),(.string ot),(.int .i64 0),(.int .i64 0),(.int .u64 0),(.int .u64 0)] 31 (0,0)):=bn z4
  have z6:(((((((W.setCell ⟨w.heap.size+1,0,none⟩ (.int .i64 k)).setCell ⟨w.heap.size+1,1,none⟩ (.int .i64 t)).setCell ⟨w.heap.size+1,2,none⟩ (.int .i64 a)).setCell ⟨w.heap.size+1,3,none⟩ (.int .i64 b)).setCell ⟨w.heap.size+1,4,none⟩ (.string nm)).setCell ⟨w.heap.size+1,5,none⟩ (.string ot)).setCell ⟨w.heap.size+1,6,none⟩ (.int .i64 by_)).heap[w.heap.size+1]? =some (.cells #[(.int .i64 k),(.int .i64 t),(.int .i64 a),(.int .i64 b),(.string nm),(.string ot),(.int .i64 by_),(.int .i64 0),(.int .u64 0),(.int .u64 0)] 31 (0,0)):=bn z5
  have z7:((((((((W.setCell ⟨w.heap.size+1,0,none⟩ (.int .i64 k)).setCell ⟨w.heap.size+1,1,none⟩ (.int .i64 t)).setCell ⟨w.heap.size+1,2,none⟩ (.int .i64 a)).setCell ⟨w.heap.size+1,3,none⟩ (.int .i64 b)).setCell ⟨w.heap.size+1,4,none⟩ (.string nm)).setCell ⟨w.heap.size+1,5,none⟩ (.string ot)).setCell ⟨w.heap.size+1,6,none⟩ (.int .i64 by_)).setCell ⟨w.heap.size+1,7,none⟩ (.int .i64 pad)).heap[w.heap.size+1]? =some (.cells #[(.int .i64 k),(.int .i64 t),(.int .i64 a),(.int .i64 b),(.string nm),(.string ot),(.int .i64 by_),(.int .i64 pad),(.int .u64 0),(.int .u64 0)] 31 (0,0)):=bn z6
  have z8:(((((((((W.setCell ⟨w.heap.size+1,0,none⟩ (.int .i64 k)).setCell ⟨w.heap.size+1,1,none⟩ (.int .i64 t)).setCell ⟨w.heap.size+1,2,none⟩ (.int .i64 a)).setCell ⟨w.heap.size+1,3,none⟩ (.int .i64 b)).setCell ⟨w.heap.size+1,4,none⟩ (.string nm)).setCell ⟨w.heap.size+1,5,none⟩ (.string ot)).setCell ⟨w.heap.size+1,6,none⟩ (.int .i64 by_)).setCell ⟨w.heap.size+1,7,none⟩ (.int .i64 pad)).setCell ⟨w.heap.size+1,8,none⟩ (.int .u64 (head:Int))).heap[w.heap.size+1]? =some (.cells #[(.int .i64 k),(.int .i64 t),(.int .i64 a),(.int .i64 b),(.string nm),(.string ot),(.int .i64 by_),(.int .i64 pad),(.int .u64 (head:Int)),(.int .u64 0)] 31 (0,0)):=bn z7
  have z9:((((((((((W.setCell ⟨w.heap.size+1,0,none⟩ (.int .i64 k)).setCell ⟨w.heap.size+1,1,none⟩ (.int .i64 t)).setCell ⟨w.heap.size+1,2,none⟩ (.int .i64 a)).setCell ⟨w.heap.size+1,3,none⟩ (.int .i64 b)).setCell ⟨w.heap.size+1,4,none⟩ (.string nm)).setCell ⟨w.heap.size+1,5,none⟩ (.string ot)).setCell ⟨w.heap.size+1,6,none⟩ (.int .i64 by_)).setCell ⟨w.heap.size+1,7,none⟩ (.int .i64 pad)).setCell ⟨w.heap.size+1,8,none⟩ (.int .u64 (head:Int))).setCell ⟨w.heap.size+1,9,none⟩ (.int .u64 (tag:Int))).heap[w.heap.size+1]? =some (.cells #[(.int .i64 k),(.int .i64 t),(.int .i64 a),(.int .i64 b),(.string nm),(.string ot),(.int .i64 by_),(.int .i64 pad),(.int .u64 (head:Int)),(.int .u64 (tag:Int))] 31 (0,0)):=bn z8
  exact z9
theorem uI {a:Option Addr} {bks:List Bk} {w:World} (pt c Bc oc head by_ pad pd:Nat)(bk:Bk)(e:bQ)(hok:eC e=true)(hsz:e.2.2.2.2.1.size≤100∧e.2.2.2.2.2.size≤100)(h:dS a bks w)(hh:w.cell? ⟨Bc,oc,none⟩=some (.int .u64 (head:Int)))(hlt:Bc < w.heap.size)
  (hk:bks[by_]? =some bk) (hl8:bks.length≤8) (hpd:bk.2[pad]? =some pd) (hpl:bk.2.length≤1000000) (hpt:pt < 2147483648) (hbp:bk.1 < 2147483648) (hp31:pd < 2147483648):
  Calls Tryz.prog 45 #[.pointer (some ⟨Bc,oc,none⟩),.int .u64 (pt:Int),.slice a bks.length c,kZ e,.int .i64 (by_:Int),.int .i64 (pad:Int)] w fun en w'=> en=.returned (dU (fg pt bks head e by_ pad))∧Below w.heap.size w w':=by
 have HR:=aa (fun W=> yG e W hok hsz)
 have HBY:=aa (lF e hok hsz)
 have HML:=aa (jU e hok hsz)
 obtain⟨i0,hi,hz0,hz1,hz2⟩:=info_parts yI
 obtain⟨k,t,a1,b1,nm,ot⟩:=e
 replace HR:Hid (∀ W,Calls Tryz.prog 105 #[.agg #[.int .i64 k,.int .i64 t,.int .i64 a1,.int .i64 b1,.string nm,.string ot]] W fun en w'=> ∃ p c,en=.returned (.slice p (jw (k,t,a1,b1,nm,ot)).length c)∧ew p (jw (k,t,a1,b1,nm,ot)) w'∧Below W.heap.size W w'):=HR
 have hF:=uG k t a1 b1 nm ot w
 change Calls Tryz.prog 45 #[.pointer (some ⟨Bc,oc,none⟩),.int .u64 (pt:Int),.slice a bks.length c,.agg #[.int .i64 k,.int .i64 t,.int .i64 a1,.int .i64 b1,.string nm,.string ot],.int .i64 (by_:Int),.int .i64 (pad:Int)] w _
 go_enter Tryz.func45,Tryz.ntmps45
 go_upto_region 1 with fail
 unfold zeroE at hF
 have c0:((w.alloc (.cells #[.int .i64 k,.int .i64 t,.int .i64 a1,.int .i64 b1,.string nm,.string ot] 29)).alloc (.cells #[.int .i64 0,.int .i64 0,.int .i64 0,.int .i64 0,.string ⟨#[]⟩,.string ⟨#[]⟩,.int .i64 0,.int .i64 0,.int .u64 0,.int .u64 0] 31)).cell? ⟨Bc,oc,none⟩=some (.int .u64 (head:Int)):=ag hh hF.2.2
 have HF:=aa hF
 have HBw:=aa h
 have hlt0:Bc < ((w.alloc (.cells #[.int .i64 k,.int .i64 t,.int .i64 a1,.int .i64 b1,.string nm,.string ot] 29)).alloc (.cells #[.int .i64 0,.int .i64 0,.int .i64 0,.int .i64 0,.string ⟨#[]⟩,.string ⟨#[]⟩,.int .i64 0,.int .i64 0,.int .u64 0,.int .u64 0] 31)).heap.size:=ar hlt hF.2.2.size
 have HC0:=aa (ba c0 hlt0)
 clear hF c0 hlt0 h hh hlt hok hsz
 generalize((w.alloc _).alloc _)=W0 at*
 refine bo 25 14 80 [(23,39),(24,13)] [(none,[]),(none,[]),(none,[]),(none,[]),(none,[]),(none,[]),(none,[]),(none,[]),(none,[]),(none,[]),(none,[]),(none,[]),(none,[]),(none,[]),(none,[]),(none,[]),(none,[]),(none,[]),(none,[]),(none,[]),(none,[]),(none,[]),(none,[]),(some 0,[]),(some 1,[0])] [(16,(.pointer (some ⟨Bc,oc,none⟩))),(17,(.pointer (some ⟨Bc,oc,none⟩))),(18,(.pointer (some ⟨Bc,oc,none⟩))),(19,(.int .u64 (head:Int))),(20,(.int .u64 ((head:Int) / 16777216))),(21,(.int .u8 (IntKind.u8.wrap ((head:Int) / 16777216)))),(22,(.pointer (some ⟨Bc,oc,none⟩))),(23,(.pointer (some ⟨Bc,oc,none⟩))),(24,(.pointer (some ⟨Bc,oc,none⟩))),(25,(.int .u64 (head:Int))),(26,(.int .u64 ((head:Int) / 65536))),(27,(.int .u8 (IntKind.u8.wrap ((head:Int) / 65536)))),(28,(.pointer (some ⟨Bc,oc,none⟩))),(29,(.pointer (some ⟨Bc,oc,none⟩))),(30,(.pointer (some ⟨Bc,oc,none⟩))),(31,(.int .u64 (head:Int))),(32,(.int .u64 ((head:Int) / 256))),(33,(.int .u8 (IntKind.u8.wrap ((head:Int) / 256)))),(34,(.pointer (some ⟨Bc,oc,none⟩))),(35,(.pointer (some ⟨Bc,oc,none⟩))),(36,(.pointer (some ⟨Bc,oc,none⟩))),(37,(.int .u64 (head:Int))),(38,(.int .u8 (IntKind.u8.wrap (head:Int))))] (fun bsE vsE W=> wW W0 (cG head 4) (bsE.getD 0 false) (bsE.getD 1 false) ((vsE.getD 0 undef)) ((vsE.getD 1 undef)) W) (by kernel_rfl) (by kernel_rfl) rfl rfl (by kernel_rfl) (by rfl) ?h0 ?each ?done
 case h0=>
  intro vsE hlv
  obtain⟨v0,v1,rfl⟩:=cd hlv
  exact⟨(Below.refl _ _).drew,(fun e=> by cases e),(fun e=> by cases e),(fun _=> rfl)⟩
 case each=>
  simp only [dp]
  refine⟨⟨16,(.pointer (some ⟨Bc,oc,none⟩)),rfl,by kernel_rfl,?_⟩,⟨17,(.pointer (some ⟨Bc,oc,none⟩)),rfl,by kernel_rfl,?_⟩,⟨18,(.pointer (some ⟨Bc,oc,none⟩)),rfl,by kernel_rfl,?_⟩,⟨19,(.int .u64 (head:Int)),rfl,by kernel_rfl,?_⟩,⟨20,(.int .u64 ((head:Int) / 16777216)),rfl,by kernel_rfl,?_⟩,⟨21,(.int .u8 (IntKind.u8.wrap ((head:Int) / 16777216))),rfl,by kernel_rfl,?_⟩,⟨22,(.pointer (some ⟨Bc,oc,none⟩)),rfl,by kernel_rfl,?_⟩,⟨23,(.pointer (some ⟨Bc,oc,none⟩)),rfl,by kernel_rfl,?_⟩,⟨24,(.pointer (some ⟨Bc,oc,none⟩)),rfl,by kernel_rfl,?_⟩,⟨25,(.int .u64 (head:Int)),rfl,by kernel_rfl,?_⟩,⟨26,(.int .u64 ((head:Int) / 65536)),rfl,by kernel_rfl,?_⟩,⟨27,(.int .u8 (IntKind.u8.wrap ((head:Int) / 65536))),rfl,by kernel_rfl,?_⟩,⟨28,(.pointer (some ⟨Bc,oc,none⟩)),rfl,by kernel_rfl,?_⟩,⟨29,(.pointer (some ⟨Bc,oc,none⟩)),rfl,by kernel_rfl,?_⟩,⟨30,(.pointer (some ⟨Bc,oc,none⟩)),rfl,by kernel_rfl,?_⟩,⟨31,(.int .u64 (head:Int)),rfl,by kernel_rfl,?_⟩,⟨32,(.int .u64 ((head:Int) / 256)),rfl,by kernel_rfl,?_⟩,⟨33,(.int .u8 (IntKind.u8.wrap ((head:Int) / 256))),rfl,by kernel_rfl,?_⟩,⟨34,(.pointer (some ⟨Bc,oc,none⟩)),rfl,by kernel_rfl,?_⟩,⟨35,(.pointer (some ⟨Bc,oc,none⟩)),rfl,by kernel_rfl,?_⟩,⟨36,(.pointer (some ⟨Bc,oc,none⟩)),rfl,by kernel_rfl,?_⟩,⟨37,(.int .u64 (head:Int)),rfl,by kernel_rfl,?_⟩,⟨38,(.int .u8 (IntKind.u8.wrap (head:Int))),rfl,by kernel_rfl,?_⟩,ax ⟨39,rfl,?q2_23⟩,ax ⟨13,rfl,?q2_24⟩,trivial⟩
  case q2_23=>
   intro bsE vsE W hlb hlv hnd hbk h
   obtain⟨b0,b1,rfl⟩:=cd hlb
   obtain⟨v0,v1,rfl⟩:=cd hlv
   obtain rfl:b0=false:=hbk
   replace h:wW W0 (cG head 4) false b1 (v0) (v1) W:=h
   clear hnd
   have HST:=aa h
   obtain rfl:=h.n rfl
   intro K Q hK
   simp only [az,updAll,Act.put,aU,aV,aW,aX] at hK ⊢
   go_wp2_with fail
   all_goals(have hN:=h.put)
   all_goals(first | exact hK _ _ hN | exact hN)
  case q2_24=>
   intro bsE vsE W hlb hlv hnd hbk h
   obtain⟨b0,b1,rfl⟩:=cd hlb
   obtain⟨v0,v1,rfl⟩:=cd hlv
   obtain rfl:b0=true:=hnd 0 (by simp)
   obtain rfl:b1=false:=hbk
   replace h:wW W0 (cG head 4) true false (v0) (v1) W:=h
   clear hnd
   have HST:=aa h
   skip
   intro K Q hK
   simp only [az,updAll,Act.put,aU,aV,aW,aX] at hK ⊢
   go_wp2_with fail
   all_goals(have hN:wW W0 (cG head 4) true true (v0) (v0) W:=⟨h.bel,h.r0,fun _=> rfl,(fun e=> by cases e)⟩)
   all_goals(first | exact hK _ _ hN | exact hN)
  all_goals
   intro bsE vsE W hlb hlv hnd h
   obtain⟨b0,b1,rfl⟩:=cd hlb
   obtain⟨v0,v1,rfl⟩:=cd hlv
   replace h:wW W0 (cG head 4) b0 b1 (v0) (v1) W:=h
   clear hnd
   have HST:=aa h
   have c0:=ag HC0.out.1 h.bel;have lB:Bc < W.heap.size:=ar HC0.out.2 h.bel.size
   intro K Q hK
   simp only [az,updAll,Act.put,aU,aV,aW,aX] at hK ⊢
   go_wp2_with (fail)
   all_goals(first | exact hK _ h | exact h)
 case done=>
  intro vsE W hlv h
  obtain⟨v0,v1,rfl⟩:=cd hlv
  replace h:wW W0 (cG head 4) true true (v0) (v1) W:=h
  have HST:=aa h
  have hv:=(h.r1 rfl).symm
  subst hv
  have HO1:=aa (h.r0 rfl)
  have HB1:=aa h.bel
  clear h HST
  obtain⟨m,hm⟩:∃ m,jw (k,t,a1,b1,nm,ot)=m:=⟨_,rfl⟩
  rw [hm] at HR HBY HML
  have HME:Hid (eP head (k,t,a1,b1,nm,ot) by_=cG head 4++m++[by_ % 256]):=by unfold Hid eP;rw [hm]
  clear hm
  have HE1:=aa (an HF.out.1 HB1.out)
  obtain⟨v0_,v1_,v2_,v3_,v4_,v5_⟩:=bG HE1.out
  have vl_:=ak HE1.out
  have hw8:=kx by_
  simp only [az,updAll,Act.put,aU,aV,aW,aX]
  go_upto_region 2 with fail
  go_upto_region 3 with(first | (go_at_call 105;refine(HR.out _).mono ?_;rintro e w5 ⟨p5,c5,rfl,hB5,hb5⟩;have HV:=aa hB5;have HO2:=aa (aD HO1.out hb5);have HW5:=aa (HB1.out.trans (hb5.mono HB1.out.size));clear hB5 hb5 HO1 HB1) | (at_builtin;refine bM _ rfl (.tmp 40) (.tmp 42) 88 rfl W0.heap.size 5 i0 (.int .u8 0) 1 1 Tryz.underlying88 hi hz0 hz1 hz2 rfl (by decide) _ (cG head 4).length (dw (cG head 4)) rfl HO2.out p5 m.length c5 (dw m) rfl (by rw [uH];omega) (uF HV.out) (jT _) (by rw [dq];have:=HML.out;unfold maxLen;omega) (by rw [dq];have:=HML.out;omega) HW5.out.size ?_;intro v6 w6 q1 q2 q3;have HO3:=aa (aD q1 (bU (o:=.cells #[.int .u8 ((by_ % 256:Nat):Int)] 5)));have HW6:=aa ((ky HW5.out HO2.out q2).trans (Below.mono (bU (o:=.cells #[.int .u8 ((by_ % 256:Nat):Int)] 5)) (ky HW5.out HO2.out q2).size));clear q1 q2 q3 HO2 HW5 HV) | (at_builtin;refine bM _ rfl (.tmp 43) (.tmp 46) 88 rfl W0.heap.size 5 i0 (.int .u8 0) 1 1 Tryz.underlying88 hi hz0 hz1 hz2 rfl (by decide) _ ((cG head 4).length+m.length) (dw (cG head 4)++dw m) rfl HO3.out (some ⟨w6.heap.size,0,none⟩) 1 1 [.int .u8 ((by_ % 256:Nat):Int)] rfl rfl dr (by intro u hu;rw [List.mem_singleton.1 hu];rfl) (by rw [dq];have:=HML.out;unfold maxLen;omega) (by rw [dq];have:=HML.out;omega) HW6.out.size ?_;intro v7 w7 q1 q2 q3;have HO4:=aa q1;have HW7:=aa (ky HW6.out HO3.out q2);clear q1 q2 q3 HO3 HW6))
  obtain⟨g7,c7,rfl,hg7,hg8,hB7⟩:=yJ HO4.out
  have HMB:=aa (pP (head:=head) (by_:=by_) HBY.out)
  have HMN:Hid ((cG head 4++m++[by_ % 256]).length≤2000):=by have:=HML.out;unfold Hid;rw [cY,cY,dq];simp;omega
  rw [← HME.out] at hB7 HMB HMN ⊢
  obtain⟨M,hMq⟩:∃ M,eP head (k,t,a1,b1,nm,ot) by_=M:=⟨_,rfl⟩
  have HMEq:=aa hMq
  rw [hMq] at hB7 HMB HMN ⊢
  clear hMq HME
  have HBT:=aa hB7
  have HG7:=aa (ba hg7 hg8)
  clear hB7 hg7 hg8 HO4 HBY HML HR HE1 v0_ v1_ v2_ v3_ v4_ v5_ vl_ hw8
  go_upto_region 4 with(go_at_call 40;refine(ku _).mono ?_;rintro e w8 ⟨BL,oL,rfl,L1,L2,L3,L4,hb8⟩)
  have HW8:=aa (HW7.out.trans (hb8.mono HW7.out.size))
  replace HBT:=aa (HBT.out.step hb8)
  have HL:=aa (ba (ba L1 L2) (ba L3 L4))
  have hg9:=ar HG7.out.2 hb8.size
  have HG9:=aa hg9
  clear L1 L2 L3 L4 hb8 HW7 hg9
  obtain⟨bb,ob,rfl,hbb,hcs⟩:=HBw.out (by rintro rfl;cases hk)
  obtain⟨s0,vp,s1,hpv⟩:=hcs by_ bk hk
  obtain⟨ap,cp,rfl,hpc⟩:=hpv
  obtain⟨bp,op,rfl,hbp2,hpd2⟩:=hpc (by intro e;rw [e] at hpd;cases hpd)
  have s2:=hpd2 pad pd hpd
  have k1:(by_:Int) < bks.length:=by have:=(aB hk).1;omega
  have HS:=aa (ba s0 (ba s1 s2))
  have HN:=aa (show fg pt bks head (k,t,a1,b1,nm,ot) by_ pad=((k,t,a1,b1,nm,ot),(by_:Int),(pad:Int),headD pt M,(headD bk.1 M+pd) % P31)from by unfold fg;rw [HMEq.out,di,hk];simp only [Option.getD_some];rw [di,hpd];rfl)
  have k2:(pad:Int) < bk.2.length:=by have:=(aB hpd).1;omega
  have k3:(0:Int)≤pad:=by omega
  have hD1:headD pt M < 2147483647:=fw (by decide) _ _
  have hD2:headD bk.1 M < 2147483647:=fw (by decide) _ _
  have CD1:=aa (fun W hb hP hQ hA=> ig 2147483647 3 pt BL oL c7 (some ⟨g7,0,none⟩) M W (by decide) (by decide) hpt (by decide) (by decide) HMB.out HMN.out hb hP hQ hA)
  have CD2:=aa (fun W hb hP hQ hA=> ig 2147483647 3 bk.1 BL oL c7 (some ⟨g7,0,none⟩) M W (by decide) (by decide) hbp (by decide) (by decide) HMB.out HMN.out hb hP hQ hA)
  have hDe1:dig 2147483647 3 pt M=headD pt M:=rfl
  have hDe2:dig 2147483647 3 bk.1 M=headD bk.1 M:=rfl
  rw [hDe1] at CD1
  rw [hDe2] at CD2
  have hwS:IntKind.u64.wrap ((headD bk.1 M:Int)+pd)=((headD bk.1 M+pd:Nat):Int):=by rw [show((headD bk.1 M:Int)+pd)=((headD bk.1 M+pd:Nat):Int) by push_cast;rfl];exact Go.IntWalk.u64_in _ ⟨by omega,by omega⟩
  have hwM:((headD bk.1 M+pd:Nat):Int).tmod 2147483647=(((headD bk.1 M+pd) % P31:Nat):Int):=by rw [Int.tmod_eq_emod_of_nonneg (by omega)];rfl
  have hwD:((headD bk.1 M:Int)+pd) % 2147483647=(((headD bk.1 M+pd) % P31:Nat):Int):=by rw [show P31=2147483647 from rfl];omega
  have hwT:((headD bk.1 M:Int)+pd).tmod 2147483647=(((headD bk.1 M+pd) % P31:Nat):Int):=by rw [Int.tmod_eq_emod_of_nonneg (by omega)];exact hwD
  have HEV:=aa (an HF.out.1 HW8.out)
  have HZ8:=aa (an HF.out.2.1 HW8.out)
  have HX8:=aa (ai HF.out.2.2 HW8.out)
  have HGN:Hid (g7≠w.heap.size+1∧BL≠w.heap.size+1∧w.heap.size≠w.heap.size+1):=⟨by have:=HG7.out.1;have:=ak HF.out.2.1;omega,by have:=HL.out.1.1;have:=HG7.out;have:=ak HF.out.2.1;omega,by omega⟩
  generalize hq1:headD pt M=D1 at*
  generalize hq2:headD bk.1 M=D2 at*
  generalize hq3:(D2+pd) % P31=D3 at*
  clear hq1 hq2 hq3 hD1 hD2 hDe1 hDe2 s0 s1 s2 hcs hpc hpd2 hpd hk hpl hl8 hbb hbp2 hpt hbp hp31
  have k9:=0
  have k0:(0:Int)≤by_:=by omega
  go_upto_region 5 with fail
  refine bo 29 14 80 [(28,80)] [(none,[]),(none,[]),(none,[]),(none,[]),(none,[]),(none,[]),(none,[]),(none,[]),(none,[]),(none,[]),(none,[]),(none,[]),(none,[]),(none,[]),(none,[]),(none,[]),(none,[]),(none,[]),(none,[]),(none,[]),(none,[]),(none,[]),(none,[]),(none,[]),(none,[]),(none,[]),(none,[]),(none,[]),(some 0,[])] [(52,(.agg #[.int .i64 k,.int .i64 t,.int .i64 a1,.int .i64 b1,.string nm,.string ot])),(53,(.int .i64 (by_:Int))),(54,(.int .i64 (pad:Int))),(55,(.pointer (some ⟨BL,oL,none⟩))),(56,(.int .u64 (pt:Int))),(57,(.slice (some ⟨g7,0,none⟩) M.length c7)),(58,(.int .u64 (D1:Int))),(59,(.pointer (some ⟨BL,oL,none⟩))),(60,(.pointer (some ⟨bb,ob+by_*2,none⟩))),(61,(.pointer (some ⟨bb,ob+by_*2,none⟩))),(62,(.pointer (some ⟨bb,ob+by_*2,none⟩))),(63,(.int .u64 (bk.1:Int))),(64,(.slice (some ⟨g7,0,none⟩) M.length c7)),(65,(.int .u64 (D2:Int))),(66,(.pointer (some ⟨bb,ob+by_*2,none⟩))),(67,(.pointer (some ⟨bb,ob+by_*2,none⟩))),(68,(.pointer (some ⟨bb,ob+by_*2+1,none⟩))),(69,(.slice (some ⟨bp,op,none⟩) bk.2.length cp)),(70,(.int .i64 (pad:Int))),(71,(.pointer (some ⟨bp,op+pad,none⟩))),(72,(.int .u64 (pd:Int))),(73,(.int .u64 ((D2+pd:Nat):Int))),(74,(.pointer (some ⟨BL,oL,none⟩))),(75,(.pointer (some ⟨BL,oL,none⟩))),(76,(.pointer (some ⟨BL,oL,none⟩))),(77,(.int .u64 2147483647)),(78,(.int .u64 (D3:Int))),(79,(dU ((k,t,a1,b1,nm,ot),(by_:Int),(pad:Int),D1,D3)))] (fun bsE vsE W=> mH w w8 (bV ((k,t,a1,b1,nm,ot),(by_:Int),(pad:Int),D1,D3)).toArray (bsE.getD 0 false) W) (by kernel_rfl) (by kernel_rfl) rfl rfl (by kernel_rfl) (by rfl) ?h0 ?each ?done
  case h0=>
   intro vsE hlv
   obtain⟨v0,rfl⟩:=jk hlv
   exact⟨(bO.start HZ8.out).step (Below.refl _ _).drew,HX8.out.drew,HZ8.out⟩
  case each=>
   simp only [dp]
   refine⟨⟨52,(.agg #[.int .i64 k,.int .i64 t,.int .i64 a1,.int .i64 b1,.string nm,.string ot]),rfl,by kernel_rfl,?_⟩,⟨53,(.int .i64 (by_:Int)),rfl,by kernel_rfl,?_⟩,⟨54,(.int .i64 (pad:Int)),rfl,by kernel_rfl,?_⟩,⟨55,(.pointer (some ⟨BL,oL,none⟩)),rfl,by kernel_rfl,?_⟩,⟨56,(.int .u64 (pt:Int)),rfl,by kernel_rfl,?_⟩,⟨57,(.slice (some ⟨g7,0,none⟩) M.length c7),rfl,by kernel_rfl,?_⟩,⟨58,(.int .u64 (D1:Int)),rfl,by kernel_rfl,?q1_6⟩,⟨59,(.pointer (some ⟨BL,oL,none⟩)),rfl,by kernel_rfl,?_⟩,⟨60,(.pointer (some ⟨bb,ob+by_*2,none⟩)),rfl,by kernel_rfl,?_⟩,⟨61,(.pointer (some ⟨bb,ob+by_*2,none⟩)),rfl,by kernel_rfl,?_⟩,⟨62,(.pointer (some ⟨bb,ob+by_*2,none⟩)),rfl,by kernel_rfl,?_⟩,⟨63,(.int .u64 (bk.1:Int)),rfl,by kernel_rfl,?_⟩,⟨64,(.slice (some ⟨g7,0,none⟩) M.length c7),rfl,by kernel_rfl,?_⟩,⟨65,(.int .u64 (D2:Int)),rfl,by kernel_rfl,?q1_13⟩,⟨66,(.pointer (some ⟨bb,ob+by_*2,none⟩)),rfl,by kernel_rfl,?_⟩,⟨67,(.pointer (some ⟨bb,ob+by_*2,none⟩)),rfl,by kernel_rfl,?_⟩,⟨68,(.pointer (some ⟨bb,ob+by_*2+1,none⟩)),rfl,by kernel_rfl,?_⟩,⟨69,(.slice (some ⟨bp,op,none⟩) bk.2.length cp),rfl,by kernel_rfl,?_⟩,⟨70,(.int .i64 (pad:Int)),rfl,by kernel_rfl,?_⟩,⟨71,(.pointer (some ⟨bp,op+pad,none⟩)),rfl,by kernel_rfl,?_⟩,⟨72,(.int .u64 (pd:Int)),rfl,by kernel_rfl,?_⟩,⟨73,(.int .u64 ((D2+pd:Nat):Int)),rfl,by kernel_rfl,?_⟩,⟨74,(.pointer (some ⟨BL,oL,none⟩)),rfl,by kernel_rfl,?_⟩,⟨75,(.pointer (some ⟨BL,oL,none⟩)),rfl,by kernel_rfl,?_⟩,⟨76,(.pointer (some ⟨BL,oL,none⟩)),rfl,by kernel_rfl,?_⟩,⟨77,(.int .u64 2147483647),rfl,by kernel_rfl,?_⟩,⟨78,(.int .u64 (D3:Int)),rfl,by kernel_rfl,?_⟩,⟨79,(dU ((k,t,a1,b1,nm,ot),(by_:Int),(pad:Int),D1,D3)),rfl,by kernel_rfl,?_⟩,ay ⟨rfl,?q1_28⟩,trivial⟩
   case q1_6=>
    intro bsE vsE W hlb hlv hnd h
    obtain⟨b0,rfl⟩:=jk hlb
    obtain⟨v0,rfl⟩:=jk hlv
    replace h:mH w w8 (bV ((k,t,a1,b1,nm,ot),(by_:Int),(pad:Int),D1,D3)).toArray b0 W:=h
    clear hnd
    have HST:=aa h
    have u0:=h.only.cell HGN.out.2.2 (ah (o:=0) HEV.out rfl);have u1:=h.only.cell HGN.out.2.2 (ah (o:=1) HEV.out rfl);have u2:=h.only.cell HGN.out.2.2 (ah (o:=2) HEV.out rfl);have u3:=h.only.cell HGN.out.2.2 (ah (o:=3) HEV.out rfl);have u4:=h.only.cell HGN.out.2.2 (ah (o:=4) HEV.out rfl);have u5:=h.only.cell HGN.out.2.2 (ah (o:=5) HEV.out rfl);have s0:=ag HS.out.1 h.bel;have s1:=ag HS.out.2.1 h.bel;have s2:=ag HS.out.2.2 h.bel;have l0:=h.only.cell HGN.out.2.1 HL.out.2.1;have lx:=ar HL.out.1.2 h.only.size
    intro K Q hK
    simp only [az,updAll,Act.put,aU,aV,aW,aX] at hK ⊢
    go_wp2_with (go_at_call 41;refine(CD1.out _ (ar HL.out.1.2 h.only.size) (h.only.cell HGN.out.2.1 HL.out.2.1) (h.only.cell HGN.out.2.1 HL.out.2.2) (ew.only HBT.out h.only HGN.out.1)).mono ?_;rintro e w9 ⟨rfl,hb9⟩)
    all_goals(first | exact hK _ (h.step hb9) | exact(h.step hb9))
   case q1_13=>
    intro bsE vsE W hlb hlv hnd h
    obtain⟨b0,rfl⟩:=jk hlb
    obtain⟨v0,rfl⟩:=jk hlv
    replace h:mH w w8 (bV ((k,t,a1,b1,nm,ot),(by_:Int),(pad:Int),D1,D3)).toArray b0 W:=h
    clear hnd
    have HST:=aa h
    have u0:=h.only.cell HGN.out.2.2 (ah (o:=0) HEV.out rfl);have u1:=h.only.cell HGN.out.2.2 (ah (o:=1) HEV.out rfl);have u2:=h.only.cell HGN.out.2.2 (ah (o:=2) HEV.out rfl);have u3:=h.only.cell HGN.out.2.2 (ah (o:=3) HEV.out rfl);have u4:=h.only.cell HGN.out.2.2 (ah (o:=4) HEV.out rfl);have u5:=h.only.cell HGN.out.2.2 (ah (o:=5) HEV.out rfl);have s0:=ag HS.out.1 h.bel;have s1:=ag HS.out.2.1 h.bel;have s2:=ag HS.out.2.2 h.bel;have l0:=h.only.cell HGN.out.2.1 HL.out.2.1;have lx:=ar HL.out.1.2 h.only.size
    intro K Q hK
    simp only [az,updAll,Act.put,aU,aV,aW,aX] at hK ⊢
    go_wp2_with (go_at_call 41;refine(CD2.out _ (ar HL.out.1.2 h.only.size) (h.only.cell HGN.out.2.1 HL.out.2.1) (h.only.cell HGN.out.2.1 HL.out.2.2) (ew.only HBT.out h.only HGN.out.1)).mono ?_;rintro e w9 ⟨rfl,hb9⟩)
    all_goals(first | exact hK _ (h.step hb9) | exact(h.step hb9))
   case q1_28=>
    intro bsE vsE W hlb hlv hnd hbk h
    obtain⟨b0,rfl⟩:=jk hlb
    obtain⟨v0,rfl⟩:=jk hlv
    obtain rfl:b0=false:=hbk
    replace h:mH w w8 (bV ((k,t,a1,b1,nm,ot),(by_:Int),(pad:Int),D1,D3)).toArray false W:=h
    clear hnd
    have HST:=aa h
    have hz:W.heap[w.heap.size+1]? =some (.cells #[.int .i64 0,.int .i64 0,.int .i64 0,.int .i64 0,.string ⟨#[]⟩,.string ⟨#[]⟩,.int .i64 0,.int .i64 0,.int .u64 0,.int .u64 0] 31 (0,0)):=h.blk;have z0:=ah (o:=0) hz rfl;have f0:=aR (o:=0) hz;have z1:=ah (o:=1) hz rfl;have f1:=aR (o:=1) hz;have z2:=ah (o:=2) hz rfl;have f2:=aR (o:=2) hz;have z3:=ah (o:=3) hz rfl;have f3:=aR (o:=3) hz;have z4:=ah (o:=4) hz rfl;have f4:=aR (o:=4) hz;have z5:=ah (o:=5) hz rfl;have f5:=aR (o:=5) hz;have z6:=ah (o:=6) hz rfl;have f6:=aR (o:=6) hz;have z7:=ah (o:=7) hz rfl;have f7:=aR (o:=7) hz;have z8:=ah (o:=8) hz rfl;have f8:=aR (o:=8) hz;have z9:=ah (o:=9) hz rfl;have f9:=aR (o:=9) hz;have zl:=ak hz;clear hz
    intro K Q hK
    simp only [az,updAll,Act.put,aU,aV,aW,aX] at hK ⊢
    unfold dU bV
    go_wp2_with fail
    all_goals(first | exact hK _ h.fin | exact h.fin)
   all_goals
    intro bsE vsE W hlb hlv hnd h
    obtain⟨b0,rfl⟩:=jk hlb
    obtain⟨v0,rfl⟩:=jk hlv
    replace h:mH w w8 (bV ((k,t,a1,b1,nm,ot),(by_:Int),(pad:Int),D1,D3)).toArray b0 W:=h
    clear hnd
    have HST:=aa h
    have u0:=h.only.cell HGN.out.2.2 (ah (o:=0) HEV.out rfl);have u1:=h.only.cell HGN.out.2.2 (ah (o:=1) HEV.out rfl);have u2:=h.only.cell HGN.out.2.2 (ah (o:=2) HEV.out rfl);have u3:=h.only.cell HGN.out.2.2 (ah (o:=3) HEV.out rfl);have u4:=h.only.cell HGN.out.2.2 (ah (o:=4) HEV.out rfl);have u5:=h.only.cell HGN.out.2.2 (ah (o:=5) HEV.out rfl);have s0:=ag HS.out.1 h.bel;have s1:=ag HS.out.2.1 h.bel;have s2:=ag HS.out.2.2 h.bel;have l0:=h.only.cell HGN.out.2.1 HL.out.2.1;have lx:=ar HL.out.1.2 h.only.size
    intro K Q hK
    simp only [az,updAll,Act.put,aU,aV,aW,aX] at hK ⊢
    go_wp2_with (fail)
    all_goals(first | exact hK _ h | exact h)
  case done=>
   intro vsE W hlv h
   obtain⟨v0,rfl⟩:=jk hlv
   replace h:mH w w8 (bV ((k,t,a1,b1,nm,ot),(by_:Int),(pad:Int),D1,D3)).toArray true W:=h
   have HST:=aa h
   have H5:=aa h.blk
   have H6:=aa h.bel
   clear h HST
   simp only [az,updAll,Act.put,aU,aV,aW,aX]
   go_wp2_with fail
   refine bc (v:=dU ((k,t,a1,b1,nm,ot),(by_:Int),(pad:Int),D1,D3)) (kz Tryz.results45 rfl (lG H5.out)) rfl ⟨by rw [HN.out],H6.out⟩
end
section
open Go.RowKit
theorem si {l:List ByteArray} {i:Nat} {t s:ByteArray} (h:hasT (l.take i) s=false)(hk:l[i]? =some t)(hb:fS t s=false):hasT (l.take (i+1)) s=false:=by
 unfold hasT at*
 rw [List.take_add_one,hk,List.any_append,h]
 simpa using hb
theorem iM {v:Value} {l:List ByteArray} {w:World} (h:bH v l w)(hl:l.length≤1000000)(s:ByteArray):Calls Tryz.prog 111 #[v,.string s] w fun e w'=> e=.returned (.bool (hasT l s))∧Below w.heap.size w w':=by
 obtain⟨a,c,rfl,h2⟩:=h.cells
 have H:=aa h2
 clear h h2
 go_enter Tryz.func111,Tryz.ntmps111
 go_wp2_with fail
 go_loopw [5] (fun ix wr=> ∃ i:Nat,i≤l.length∧ix=.int .i64 i∧Hid (hasT (l.take i) s=false)∧Hid (Below w.heap.size w wr)) (fun ix _=> l.length - (intOf ix).toNat)
 case atStart=> exact⟨0,by omega,rfl,rfl,Below.refl _ _⟩
 case round=>
  obtain⟨i,hi,rfl,HT,HW⟩:=hrel
  by_cases hc:i < l.length
  ·have c1:(i:Int) < l.length:=by omega
   have c0:(0:Int)≤i:=by omega
   obtain⟨t,hk⟩:∃ t,l[i]? =some t:=⟨l[i],bh hc⟩
   obtain⟨b,off,rfl,hb0,hcs⟩:=H.out (by rintro rfl;simp at hc)
   have g0:=ag (hcs i t hk) HW.out
   have HKK:=aa hk
   clear hcs hk hc
   by_cases he:(t.toList==s.toList)=true
   ·have HR:Hid (hasT l s=true):=List.any_eq_true.2 ⟨t,aJ HKK.out,he⟩
    go_wp2_with fail
    exact aH (v:=.bool true) rfl rfl rfl ⟨by rw [HR.out],HW.out⟩
   ·have he2:(t.toList==s.toList)=false:=by simpa using he
    have HE:=aa (si HT.out HKK.out he2)
    clear he
    go_wp2_with fail
    exact⟨⟨i+1,by omega,by push_cast;rfl,HE,HW⟩,by simp [intOf];omega⟩
  ·obtain rfl:i=l.length:=by omega
   have HR:Hid (hasT l s=false):=by have q:=HT.out;rw [List.take_of_length_le (bz _)] at q;exact q
   clear hc
   go_wp2_with fail
   exact aH (v:=.bool false) rfl rfl rfl ⟨by rw [HR.out],HW.out⟩
end
section
open Go
structure jV(x:LifeS):Prop where
 thr:0≤x.thr∧x.thr≤(x.n:Int)*1099511627776
 hot:0≤x.hot∧x.hot≤(x.n:Int)*1099511627776
 fau:0≤x.fau∧x.fau≤(x.n:Int)
 mov:0≤x.mov∧x.mov≤(x.n:Int)
 ms:x.ms.length≤32*x.n
 os:x.os.length≤x.n
theorem jV.zero:jV life0:=⟨⟨by decide,by decide⟩,⟨by decide,by decide⟩,⟨by decide,by decide⟩,⟨by decide,by decide⟩,by decide,by decide⟩
theorem nf(l:List ByteArray)(s:ByteArray):(dropT l s).length≤l.length:=List.length_filter_le _ l
theorem jV.add {x:LifeS} (h:jV x)(name:ByteArray){e:bQ} (hok:eC e=true):jV (x.add name e):=by
 obtain⟨k,t,a,b,nm,ot⟩:=e
 obtain⟨he,-,-⟩:=jv hok
 have hk:=he.k
 have ha:=he.a
 have hb:=he.b
 change 1≤k∧k≤9 at hk
 change 0≤a∧a≤1099511627776 at ha
 change 0≤b∧b≤1099511627776 at hb
 have hm:k=1→b≤32:=fun e1=> by subst e1;exact(lD hok).2
 clear he
 obtain⟨h1,h2,h3,h4,h5,h6⟩:=h
 have ht:((x.add name (k,t,a,b,nm,ot)).n:Int)=(x.n:Int)+1:=by simp [LifeS.add]
 have hn:(x.add name (k,t,a,b,nm,ot)).n=x.n+1:=rfl
 refine⟨?_,?_,?_,?_,?_,?_⟩
 ·rw [ht];show 0≤(if k=2 then x.thr+a else x.thr)∧(if k=2 then x.thr+a else x.thr)≤_;split <;> omega
 ·rw [ht];show 0≤(if k=2 then x.hot+b else x.hot)∧(if k=2 then x.hot+b else x.hot)≤_;split <;> omega
 ·rw [ht];show 0≤(if k=4 then x.fau+1 else x.fau)∧(if k=4 then x.fau+1 else x.fau)≤_;split <;> omega
 ·rw [ht];show 0≤(if k=5 then x.mov+1 else if k=6 then x.mov+1 else x.mov)∧(if k=5 then x.mov+1 else if k=6 then x.mov+1 else x.mov)≤_
  split
  ·omega
  ·split <;> omega
 ·rw [hn]
  show(dj name x.ms (k,t,a,b,nm,ot)).length≤_
  unfold dj
  dsimp only
  split
  ·rename_i c
   have:=hm c
   simp only [cY,List.length_map,List.length_range];omega
  ·split
   ·simp only [cY,List.length_singleton];omega
   ·split
    ·have:=nf x.ms nm;omega
    ·omega
 ·rw [hn]
  show(eG x.os (k,t,a,b,nm,ot)).length≤_
  unfold eG
  dsimp only
  split
  ·simp only [cY,List.length_singleton];omega
  ·split
   ·have:=nf x.os nm;omega
   ·omega
theorem iO(name:ByteArray):∀ h:List bQ,(∀ e∈h,eC e=true)→jV (lifeOf name h):=by
 refine eH (fun _=> jV.zero) fun h e ih hh=> ?_
 rw [bZ]
 exact(ih fun e' he'=> hh e' (List.mem_append_left _ he')).add name (hh e (by simp))
theorem jV.lifeB {x:LifeS} (h:jV x)(hn:x.n≤1000):fE x∧x.ms.length≤100000∧x.os.length≤100000:=by
 obtain⟨h1,h2,h3,h4,h5,h6⟩:=h
 refine⟨⟨by omega,⟨h1.1,by omega⟩,⟨h2.1,by omega⟩,⟨h3.1,by omega⟩,⟨h4.1,by omega⟩⟩,by omega,by omega⟩
section
variable {pt:Nat} {bks:List Bk} {name:ByteArray} {l:List bR} {n:Nat}
end
theorem fW {pt:Nat} {bks:List Bk} (h:secR pt bks=0):(1≤pt∧pt < P31)∧(1≤bks.length∧bks.length≤8)∧∀ bk∈bks,(1≤bk.1∧bk.1 < P31)∧bk.2.length≤5000∧∀ n∈bk.2,n < P31:=by
 unfold secR at h
 split at h
 ·cases h
 ·rename_i c1
  split at h
  ·cases h
  ·rename_i c2
   refine⟨by omega,by omega,fun bk hbk=> ?_⟩
   have hb:dR bk=false:=by
    cases hq:dR bk with
    | false=> rfl
    | true=> exact absurd (ay (ay (List.any_eq_true.2 ⟨bk,hbk,hq⟩))) c2
   obtain⟨p,ps⟩:=bk
   unfold dR at hb
   simp only [Bool.or_eq_false_iff,decide_eq_false_iff_not,List.any_eq_false,decide_eq_true_eq] at hb
   obtain⟨⟨⟨b1,b2⟩,b3⟩,b4⟩:=hb
   exact⟨⟨by show 1≤p;omega,by show p < P31;omega⟩,by show ps.length≤5000;omega,fun n hn=> by have:=b4 n hn;omega⟩
theorem oP(pt:Nat)(name:ByteArray)(pre:List bR)(y:bR):headOf pt name (pre++[y])=y.2.2.2.1:=by unfold headOf;simp
end
section
open Go.RowKit Mr
def iP(a:Option Addr)(es:List bR)(W:World):Prop:=es≠[]→∃ b off,a=some ⟨b,off,none⟩∧b < W.heap.size∧∀ (k:Nat) (y:bR),es[k]? =some y→∀ (j:Nat) (u:Value),(bV y)[j]? =some u→W.cell? ⟨b,off+k*10+j,none⟩=some u
theorem iP.step {a:Option Addr} {es:List bR} {W w2:World} (h:iP a es W)(hb:Below W.heap.size W w2):iP a es w2:=by
 intro hn
 obtain⟨b,off,e1,e2,e3⟩:=h hn
 exact⟨b,off,e1,ar e2 hb.size,fun k y hk j u hj=> ag (e3 k y hk j u hj) hb⟩
def gg:bQ→List Value
 | (k,t,a,b,nm,ot)=> [.int .i64 k,.int .i64 t,.int .i64 a,.int .i64 b,.string nm,.string ot]
theorem jW(e:bQ):(gg e).length=6:=by obtain⟨k,t,a,b,nm,ot⟩:=e;rfl
def eK(a:Option Addr)(h:List bQ)(W:World):Prop:=h≠[]→∃ b off,a=some ⟨b,off,none⟩∧b < W.heap.size∧∀ (k:Nat) (e:bQ),h[k]? =some e→∀ (j:Nat) (u:Value),(gg e)[j]? =some u→W.cell? ⟨b,off+k*6+j,none⟩=some u
theorem eK.step {a:Option Addr} {h:List bQ} {W w2:World} (hh:eK a h W)(hb:Below W.heap.size W w2):eK a h w2:=by
 intro hn
 obtain⟨b,off,e1,e2,e3⟩:=hh hn
 exact⟨b,off,e1,ar e2 hb.size,fun k y hk j u hj=> ag (e3 k y hk j u hj) hb⟩
end
section
open Go.RowKit Mr
theorem yK:(Tryz.prog.info? 29).map (fun i=> (i.zero,i.size,i.bytes))=some (some (.agg #[.int .i64 0,.int .i64 0,.int .i64 0,.int .i64 0,.string ⟨#[]⟩,.string ⟨#[]⟩]),6,64):=by kernel_rfl
def eh(h:List bQ):List Value:=h.flatMap gg
theorem pQ(h:List bQ)(e:bQ):eh (h++[e])=eh h++gg e:=by unfold eh;simp
theorem uJ {h:List bQ} {k j:Nat} {e:bQ} {u:Value} (hk:h[k]? =some e)(hj:(gg e)[j]? =some u):(eh h)[k*6+j]? =some u:=by
 induction h generalizing k with
 | nil=> cases hk
 | cons e0 h ih=>
  unfold eh
  rw [List.flatMap_cons]
  have hj6:j < 6:=by have:=(aB hj).1;rwa [jW] at this
  cases k with
  | zero=>
   have:e0=e:=by simpa using hk
   subst this
   rw [Nat.zero_mul,Nat.zero_add,List.getElem?_append_left (by rw [jW];exact hj6)]
   exact hj
  | succ k=>
   rw [List.getElem?_append_right (by rw [jW];omega),jW]
   have:=ih (k:=k) (by simpa using hk)
   unfold eh at this
   rw [show(k+1)*6+j - 6=k*6+j by omega]
   exact this
theorem uK(e:bQ):∀ u∈gg e,u.oneCell'=true:=by
 obtain⟨k,t,a,b,nm,ot⟩:=e
 intro u hu
 simp only [gg,List.mem_cons,List.not_mem_nil,or_false] at hu
 rcases hu with rfl | rfl | rfl | rfl | rfl | rfl <;> rfl
theorem pR {W:World} {cs:List Value} {t:TypeId} {n:Nat}:n*6≠0→∃ p off,(some (⟨W.heap.size,0,none⟩:Addr))=some ⟨p,off,none⟩∧∀ (j:Nat) (u:Value),cs[j]? =some u→(W.alloc (.cells cs.toArray t)).cell? ⟨p,off+j,none⟩=some u:=fun _=>
 ⟨_,0,rfl,fun j u hu=> ah (au W _) (by rw [Nat.zero_add];simpa using hu)⟩
theorem dI {a:Option Addr} {es:List bR} {w:World} (c:Nat)(h:iP a es w)(hl:es.length≤100000):Calls Tryz.prog 51 #[.slice a es.length c] w fun en w'=> ∃ v,en=.returned v∧w'.ownsRow w.heap.size 29 6 v es.length (eh (br es))∧Below w.heap.size w w':=by
 obtain⟨i0,hi,hz0,hz1,hz2⟩:=info_parts yK
 have H:=aa h
 clear h
 go_enter Tryz.func51,Tryz.ntmps51
 go_wp2_with fail
 go_loopw [3,4] (fun v ix wr=> ∃ i:Nat,i≤es.length∧ix=.int .i64 i∧Hid (wr.ownsRow w.heap.size 29 6 v i (eh (br (es.take i))))∧Hid (Below w.heap.size w wr)) (fun _ ix _=> es.length - (intOf ix).toNat)
 case atStart=> exact⟨0,by omega,rfl,⟨rfl,ax ⟨rfl,rfl⟩⟩,Below.refl _ _⟩
 case round=>
  obtain⟨i,hi2,rfl,HO,HW⟩:=hrel
  by_cases hc:i < es.length
  ·have c1:(i:Int) < es.length:=by omega
   have c0:(0:Int)≤i:=by omega
   obtain⟨y,hk⟩:∃ y,es[i]? =some y:=⟨es[i],bh hc⟩
   obtain⟨b,off,rfl,hb0,hcs⟩:=H.out (by rintro rfl;simp at hc)
   have HS:Hid (es.take (i+1)=es.take i++[y]):=by unfold Hid;rw [List.take_add_one,hk];rfl
   obtain⟨⟨k,t,a1,b1,nm,ot⟩,by_,pad,head,tag⟩:=y
   have g0:wr.cell? ⟨b,off+i*10,none⟩=some (.int .i64 k):=ag (hcs i _ hk 0 _ rfl) HW.out
   have g1:wr.cell? ⟨b,off+i*10+1,none⟩=some (.int .i64 t):=ag (hcs i _ hk 1 _ rfl) HW.out
   have g2:wr.cell? ⟨b,off+i*10+2,none⟩=some (.int .i64 a1):=ag (hcs i _ hk 2 _ rfl) HW.out
   have g3:wr.cell? ⟨b,off+i*10+3,none⟩=some (.int .i64 b1):=ag (hcs i _ hk 3 _ rfl) HW.out
   have g4:wr.cell? ⟨b,off+i*10+4,none⟩=some (.string nm):=ag (hcs i _ hk 4 _ rfl) HW.out
   have g5:wr.cell? ⟨b,off+i*10+5,none⟩=some (.string ot):=ag (hcs i _ hk 5 _ rfl) HW.out
   clear hcs hk hc
   go_wp2_with (at_builtin;refine bM _ rfl (.tmp 11) (.tmp 17) 61 rfl w.heap.size 29 i0 _ 6 64 Tryz.underlying61 hi hz0 hz1 hz2 rfl (by decide) _ i (eh (br (es.take i))) rfl (aD HO.out (bU (o:=.cells (gg (k,t,a1,b1,nm,ot)).toArray 29))) (some ⟨wr.heap.size,0,none⟩) 1 1 (gg (k,t,a1,b1,nm,ot)) rfl rfl pR (uK _) (by unfold maxLen;omega) (by omega) (by have:=HW.out.size;simp;omega) ?_;intro v' w5 hown hgrow hat;have hO2:Hid (w5.ownsRow w.heap.size 29 6 v' (i+1) (eh (br (es.take (i+1))))):=(by unfold Hid;rw [HS.out];unfold br;rw [List.map_append];exact(pQ _ _) ▸ hown);have hB2:Hid (Below w.heap.size w w5):=(aK HW.out _).grown hgrow (by have:=HW.out.size;simp;omega) (fun k hk=> (World.ownsRow.lt HO.out k hk).1);clear hown hgrow hat)
   exact⟨⟨i+1,by omega,by push_cast;rfl,hO2,hB2⟩,by simp [intOf];omega⟩
  ·obtain rfl:i=es.length:=by omega
   have hO:Hid (wr.ownsRow w.heap.size 29 6 u3 es.length (eh (br es))):=by have q:=HO.out;rw [List.take_of_length_le (bz _)] at q;exact q
   obtain⟨a9,c9,e9,-⟩:=Rw.Own.get (r:=⟨29,6,u3,es.length,eh (br es)⟩) hO.out
   dsimp only at e9
   subst e9
   clear hc
   go_wp2_with fail
   exact bc (v:=.slice a9 es.length c9) (by simp only [results,Tryz.results51];go_simp) rfl ⟨_,rfl,hO.out,HW.out⟩
end
end Go.Proofs.YtmpilgkfbibhlaaGreatDoor
