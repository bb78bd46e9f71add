/-
 G11T
-/
import Derived.Test.YtmpilgkfbibhlaaGreatDoorG10T
set_option linter.unusedSimpArgs false
set_option linter.unusedVariables false
set_option maxRecDepth 100000
set_option maxHeartbeats 20000000
namespace Go.Proofs.YtmpilgkfbibhlaaGreatDoor
section
open Sx Go.RowKit Mr
theorem uL(a b:ByteArray):(a==b)=decide (a=b):=by
 obtain⟨a⟩:=a
 obtain⟨b⟩:=b
 rw [show((⟨a⟩:ByteArray)==⟨b⟩)=(a==b)from rfl,Bool.eq_iff_iff]
 simp
def zY:bQ→bQ→Bool
 | (k,t,a,b,nm,ot),(k',t',a',b',nm',ot')=> (k==k') && ((t==t') && ((a==a') && ((b==b') && ((nm==nm') && (ot==ot')))))
def uM:bR→bR→Bool
 | (e,by_,pad,head,tag),(e',by',pad',head',tag')=> zY e e' && ((by_==by') && ((pad==pad') && (((head:Int)==(head':Int)) && ((tag:Int)==(tag':Int)))))
theorem uN(y z:bR):uM y z=decide (y=z):=by
 obtain⟨⟨k,t,a,b,nm,ot⟩,by_,pad,head,tag⟩:=y
 obtain⟨⟨k',t',a',b',nm',ot'⟩,by',pad',head',tag'⟩:=z
 unfold uM zY
 dsimp only
 rw [uL nm,uL ot,Bool.eq_iff_iff]
 simp only [Bool.and_eq_true,beq_iff_eq,decide_eq_true_eq,Prod.mk.injEq]
 constructor
 ·rintro⟨⟨h1,h2,h3,h4,h5,h6⟩,h7,h8,h9,h10⟩
  exact⟨⟨h1,h2,h3,h4,h5,h6⟩,h7,h8,by omega,by omega⟩
 ·rintro⟨⟨h1,h2,h3,h4,h5,h6⟩,h7,h8,h9,h10⟩
  exact⟨⟨h1,h2,h3,h4,h5,h6⟩,h7,h8,by omega,by omega⟩
theorem wX(y z:bR)(W:World):(Op.equalIn 10000 31 (dU y) (dU z)).run Tryz.prog W=.ok (uM y z) W:=by
 obtain⟨⟨k,t,a,b,nm,ot⟩,by_,pad,head,tag⟩:=y
 obtain⟨⟨k',t',a',b',nm',ot'⟩,by',pad',head',tag'⟩:=z
 exact tA k t a b nm ot by_ pad (head:Int) (tag:Int) k' t' a' b' nm' ot' by' pad' (head':Int) (tag':Int) W
theorem uO:Tryz.prog.eqGuardType Tryz.prog.depth 31=false:=by kernel_rfl
theorem sj {o:Oper} {a:Act} {C:World→Prop} {w:World} (y z:bR)(x u:Operand)(ty:TypeId)(ho:o.op=.binOp .neq 31 x u ty)(hx:a.eval x=dU y)(hy:a.eval u=dU z){r:Bool} (hb:(!(uM y z))=r):o.quietAt Tryz.prog a C w (.bool r):=by
 subst hb
 have hr:=wX y z w
 unfold dU at hr hx hy
 unfold Oper.quietAt execOp
 simp only [ho,hx,hy,Sem.run_bind,Sem.run_pure,run_eqGuard_agg _ _ _ _ _ _ _ uO,Result.andThen_ok,run_neq_struct,hr]
 exact⟨rfl,rfl⟩
theorem lH {o:Oper} {a:Act} {C:World→Prop} {w:World} (y:bR)(x:Operand)(b off:Nat)(ho:o.op=.load 31 x)(hx:a.eval x=.pointer (some ⟨b,off,none⟩))
  (hc:∀ (j:Nat) (u:Value),(bV y)[j]? =some u→w.cell? ⟨b,off+j,none⟩=some u):o.quietAt Tryz.prog a C w (dU y):=by
 unfold Oper.quietAt execOp
 simp only [ho,hx,Instr.loadAt,Instr.sureAddr,Sem.run_bind,Sem.run_pure,Result.andThen_ok,run_loadVar_mid w b off 31 (bV y) _ (fun j v hv=> hc j v hv) Tryz.underlying31 rfl gG]
 exact⟨rfl,rfl⟩
theorem jz {N b:Nat} {w:World}:∀ (vs:List Value) (o:Nat) {W:World},Below N w W→N≤b→Below N w (W.setCells b o vs)
 | [],_,_,h,_=> h
 | v::vs,o,_,h,hb=> jz vs (o+1) (h.setCell (p:=⟨b,o,none⟩) hb v) hb
theorem AC(W:World)(y:bR):((W.alloc (.cells zeroE 31)).setCells W.heap.size 0 (bV y)).heap[W.heap.size]? =some (.cells (bV y).toArray 31 (0,0))∧
  Below W.heap.size W ((W.alloc (.cells zeroE 31)).setCells W.heap.size 0 (bV y)):=by
 refine⟨?_,?_⟩
 ·obtain⟨⟨k,t,a,b,nm,ot⟩,by_,pad,head,tag⟩:=y
  have hz:(W.alloc (.cells zeroE 31)).heap[W.heap.size]? =some (.cells zeroE 31 (0,0)):=au W (.cells zeroE 31)
  unfold zeroE at hz ⊢
  have z0:((W.alloc (.cells #[.int .i64 0,.int .i64 0,.int .i64 0,.int .i64 0,.string ⟨#[]⟩,.string ⟨#[]⟩,.int .i64 0,.int .i64 0,.int .u64 0,.int .u64 0] 31)).setCell ⟨W.heap.size,0,none⟩ (.int .i64 k)).heap[W.heap.size]? =some (.cells #[(.int .i64 k),(.int .i64 0),(.int .i64 0),(.int .i64 0),(.string ⟨#[]⟩),(.string ⟨#[]⟩),(.int .i64 0),(.int .i64 0),(.int .u64 0),(.int .u64 0)] 31 (0,0)):=bn hz
  have z1:(((W.alloc (.cells #[.int .i64 0,.int .i64 0,.int .i64 0,.int .i64 0,.string ⟨#[]⟩,.string ⟨#[]⟩,.int .i64 0,.int .i64 0,.int .u64 0,.int .u64 0] 31)).setCell ⟨W.heap.size,0,none⟩ (.int .i64 k)).setCell ⟨W.heap.size,1,none⟩ (.int .i64 t)).heap[W.heap.size]? =some (.cells #[(.int .i64 k),(.int .i64 t),(.int .i64 0),(.int .i64 0),(.string ⟨#[]⟩),(.string ⟨#[]⟩),(.int .i64 0),(.int .i64 0),(.int .u64 0),(.int .u64 0)] 31 (0,0)):=bn z0
  have z2:((((W.alloc (.cells #[.int .i64 0,.int .i64 0,.int .i64 0,.int .i64 0,.string ⟨#[]⟩,.string ⟨#[]⟩,.int .i64 0,.int .i64 0,.int .u64 0,.int .u64 0] 31)).setCell ⟨W.heap.size,0,none⟩ (.int .i64 k)).setCell ⟨W.heap.size,1,none⟩ (.int .i64 t)).setCell ⟨W.heap.size,2,none⟩ (.int .i64 a)).heap[W.heap.size]? =some (.cells #[(.int .i64 k),(.int .i64 t),(.int .i64 a),(.int .i64 0),(.string ⟨#[]⟩),(.string ⟨#[]⟩),(.int .i64 0),(.int .i64 0),(.int .u64 0),(.int .u64 0)] 31 (0,0)):=bn z1
  have z3:(((((W.alloc (.cells #[.int .i64 0,.int .i64 0,.int .i64 0,.int .i64 0,.string ⟨#[]⟩,.string ⟨#[]⟩,.int .i64 0,.int .i64 0,.int .u64 0,.int .u64 0] 31)).setCell ⟨W.heap.size,0,none⟩ (.int .i64 k)).setCell ⟨W.heap.size,1,none⟩ (.int .i64 t)).setCell ⟨W.heap.size,2,none⟩ (.int .i64 a)).setCell ⟨W.heap.size,3,none⟩ (.int .i64 b)).heap[W.heap.size]? =some (.cells #[(.int .i64 k),(.int .i64 t),(.int .i64 a),(.int .i64 b),(.string ⟨#[]⟩),(.string ⟨#[]⟩),(.int .i64 0),(.int .i64 0),(.int .u64 0),(.int .u64 0)] 31 (0,0)):=bn z2
  have z4:((((((W.alloc (.cells #[.int .i64 0,.int .i64 0,.int .i64 0,.int .i64 0,.string ⟨#[]⟩,.string ⟨#[]⟩,.int .i64 0,.int .i64 0,.int .u64 0,.int .u64 0] 31)).setCell ⟨W.heap.size,0,none⟩ (.int .i64 k)).setCell ⟨W.heap.size,1,none⟩ (.int .i64 t)).setCell ⟨W.heap.size,2,none⟩ (.int .i64 a)).setCell ⟨W.heap.size,3,none⟩ (.int .i64 b)).setCell ⟨W.heap.size,4,none⟩ (.string nm)).heap[W.heap.size]? =some (.cells #[(.int .i64 k),(.int .i64 t),(.int .i64 a),(.int .i64 b),(.string nm),(.string ⟨#[]⟩),(.int .i64 0),(.int .i64 0),(.int .u64 0),(.int .u64 0)] 31 (0,0)):=bn z3
  have z5:(((((((W.alloc (.cells #[.int .i64 0,.int .i64 0,.int .i64 0,.int .i64 0,.string ⟨#[]⟩,.string ⟨#[]⟩,.int .i64 0,.int .i64 0,.int .u64 0,.int .u64 0] 31)).setCell ⟨W.heap.size,0,none⟩ (.int .i64 k)).setCell ⟨W.heap.size,1,none⟩ (.int .i64 t)).setCell ⟨W.heap.size,2,none⟩ (.int .i64 a)).setCell ⟨W.heap.size,3,none⟩ (.int .i64 b)).setCell ⟨W.heap.size,4,none⟩ (.string nm)).setCell ⟨W.heap.size,5,none⟩ (.string ot)).heap[W.heap.size]? =some (.cells #[(.int .i64 k),(.int .i64 t),(.int .i64 a),(.int .i64 b),(.string nm),(.string ot),(.int .i64 0),(.int .i64 0),(.int .u64 0),(.int .u64 0)] 31 (0,0)):=bn z4
  have z6:((((((((W.alloc (.cells #[.int .i64 0,.int .i64 0,.int .i64 0,.int .i64 0,.string ⟨#[]⟩,.string ⟨#[]⟩,.int .i64 0,.int .i64 0,.int .u64 0,.int .u64 0] 31)).setCell ⟨W.heap.size,0,none⟩ (.int .i64 k)).setCell ⟨W.heap.size,1,none⟩ (.int .i64 t)).setCell ⟨W.heap.size,2,none⟩ (.int .i64 a)).setCell ⟨W.heap.size,3,none⟩ (.int .i64 b)).setCell ⟨W.heap.size,4,none⟩ (.string nm)).setCell ⟨W.heap.size,5,none⟩ (.string ot)).setCell ⟨W.heap.size,6,none⟩ (.int .i64 by_)).heap[W.heap.size]? =some (.cells #[(.int .i64 k),(.int .i64 t),(.int .i64 a),(.int .i64 b),(.string nm),(.string ot),(.int .i64 by_),(.int .i64 0),(.int .u64 0),(.int .u64 0)] 31 (0,0)):=bn z5
  have z7:(((((((((W.alloc (.cells #[.int .i64 0,.int .i64 0,.int .i64 0,.int .i64 0,.string ⟨#[]⟩,.string ⟨#[]⟩,.int .i64 0,.int .i64 0,.int .u64 0,.int .u64 0] 31)).setCell ⟨W.heap.size,0,none⟩ (.int .i64 k)).setCell ⟨W.heap.size,1,none⟩ (.int .i64 t)).setCell ⟨W.heap.size,2,none⟩ (.int .i64 a)).setCell ⟨W.heap.size,3,none⟩ (.int .i64 b)).setCell ⟨W.heap.size,4,none⟩ (.string nm)).setCell ⟨W.heap.size,5,none⟩ (.string ot)).setCell ⟨W.heap.size,6,none⟩ (.int .i64 by_)).setCell ⟨W.heap.size,7,none⟩ (.int .i64 pad)).heap[W.heap.size]? =some (.cells #[(.int .i64 k),(.int .i64 t),(.int .i64 a),(.int .i64 b),(.string nm),(.string ot),(.int .i64 by_),(.int .i64 pad),(.int .u64 0),(.int .u64 0)] 31 (0,0)):=bn z6
  have z8:((((((((((W.alloc (.cells #[.int .i64 0,.int .i64 0,.int .i64 0,.int .i64 0,.string ⟨#[]⟩,.string ⟨#[]⟩,.int .i64 0,.int .i64 0,.int .u64 0,.int .u64 0] 31)).setCell ⟨W.heap.size,0,none⟩ (.int .i64 k)).setCell ⟨W.heap.size,1,none⟩ (.int .i64 t)).setCell ⟨W.heap.size,2,none⟩ (.int .i64 a)).setCell ⟨W.heap.size,3,none⟩ (.int .i64 b)).setCell ⟨W.heap.size,4,none⟩ (.string nm)).setCell ⟨W.heap.size,5,none⟩ (.string ot)).setCell ⟨W.heap.size,6,none⟩ (.int .i64 by_)).setCell ⟨W.heap.size,7,none⟩ (.int .i64 pad)).setCell ⟨W.heap.size,8,none⟩ (.int .u64 (head:Int))).heap[W.heap.size]? =some (.cells #[(.int .i64 k),(.int .i64 t),(.int .i64 a),(.int .i64 b),(.string nm),(.string ot),(.int .i64 by_),(.int .i64 pad),(.int .u64 (head:Int)),(.int .u64 0)] 31 (0,0)):=bn z7
  have z9:(((((((((((W.alloc (.cells #[.int .i64 0,.int .i64 0,.int .i64 0,.int .i64 0,.string ⟨#[]⟩,.string ⟨#[]⟩,.int .i64 0,.int .i64 0,.int .u64 0,.int .u64 0] 31)).setCell ⟨W.heap.size,0,none⟩ (.int .i64 k)).setCell ⟨W.heap.size,1,none⟩ (.int .i64 t)).setCell ⟨W.heap.size,2,none⟩ (.int .i64 a)).setCell ⟨W.heap.size,3,none⟩ (.int .i64 b)).setCell ⟨W.heap.size,4,none⟩ (.string nm)).setCell ⟨W.heap.size,5,none⟩ (.string ot)).setCell ⟨W.heap.size,6,none⟩ (.int .i64 by_)).setCell ⟨W.heap.size,7,none⟩ (.int .i64 pad)).setCell ⟨W.heap.size,8,none⟩ (.int .u64 (head:Int))).setCell ⟨W.heap.size,9,none⟩ (.int .u64 (tag:Int))).heap[W.heap.size]? =some (.cells #[(.int .i64 k),(.int .i64 t),(.int .i64 a),(.int .i64 b),(.string nm),(.string ot),(.int .i64 by_),(.int .i64 pad),(.int .u64 (head:Int)),(.int .u64 (tag:Int))] 31 (0,0)):=bn z8
  exact z9
 ·exact jz _ _ bU (bz _)
theorem lI(y:bR):(bV y).toArray.all (·.oneCell')=true:=by
 obtain⟨⟨k,t,a,b,nm,ot⟩,by_,pad,head,tag⟩:=y
 refine all_oneCell_toArray fun v hv=> ?_
 simp only [bV,List.mem_cons,List.not_mem_nil,or_false] at hv
 rcases hv with rfl | rfl | rfl | rfl | rfl | rfl | rfl | rfl | rfl | rfl <;> rfl
end
section
open Go.RowKit Mr
theorem bw.grown {T:TypeId} {B off:Nat} {name:ByteArray} {x:LifeS} {vm vo:Value} {W w2:World} {g:Option Nat} (h:bw T B off name x vm vo W)(hg:W.grownBy w2 g)(hB:some B≠g)(hs:∀ k,g=some k→∃ cs E fr,W.heap[k]? =some (.cells cs E fr)∧E≠9):bw T B off name x vm vo w2:=by
 obtain⟨⟨cs,h1,h2⟩,h3,h4⟩:=h
 have key:∀ (b:Nat) (cs:Array Value) (fr:Nat×Nat),W.heap[b]? =some (Obj.cells cs 9 fr)→w2.heap[b]? =W.heap[b]?:=fun b cs fr e=> hg.block b (ak e) (fun c=> by
  obtain⟨cs2,E,fr2,e1,e2⟩:=hs b c.symm
  rw [e] at e1
  simp at e1
  exact e2 e1.2.1.symm)
 exact⟨⟨cs,(hg.block B (ak h1) hB).trans h1,h2⟩,h3.keep key,h4.keep key⟩
theorem bO.below {T:TypeId} {B off m N:Nat} {w W w2:World} (hb:Below N w W)(ho:bO T B off m W w2)(hB:N≤B)(hN:N≤W.heap.size):Below N w w2:=
 ⟨ho.os.trans hb.os,ho.tape.trans hb.tape,ho.output.trans hb.output,Nat.le_trans hb.size ho.size,fun k hk=> (ho.block k (by omega) (by omega)).trans (hb.block k hk)⟩
section
variable {w0 W w2:World} {X C N pt:Nat} {name:ByteArray} {pre:List bR} {v:Value}
end
theorem oQ {W w2:World} {base E E2 sz n b:Nat} {v:Value} {xs:List Value} {cs:Array Value} {fr:Nat×Nat} (ho:W.ownsRow base E sz v n xs)(hg:W.grownBy w2 v.ownBlock)(h:W.heap[b]? =some (.cells cs E2 fr))(hne:E2≠E):w2.heap[b]? =some (.cells cs E2 fr):=
 (hg.block b (ak h) (fun c=> by
  obtain⟨-,cs2,e⟩:=dA ho c.symm
  rw [h] at e
  simp at e
  exact hne e.2.1)).trans h
end
section
open Go.RowKit Mr
structure PkV where
 nm:ByteArray
 life:LifeS
 hd:Nat
 es:List bR
 vm:Value
 vo:Value
 ve:Value
def fK(q:PkV):List Value:=fD q.nm q.life q.vm q.vo++[.int .u64 (q.hd:Int),q.ve]
theorem eT(q:PkV):(fK q).length=20:=rfl
def flatK(qs:List PkV):List Value:=qs.flatMap fK
theorem kD(qs:List PkV):(flatK qs).length=qs.length*20:=by
 induction qs with
 | nil=> rfl
 | cons e h ih=> unfold flatK at*;rw [List.flatMap_cons,cY,ih,eT,List.length_cons];omega
theorem pS(qs:List PkV)(q:PkV):flatK (qs++[q])=flatK qs++fK q:=by unfold flatK;simp
theorem gI {qs:List PkV} {i:Nat} {q:PkV} (hq:qs[i]? =some q)(j:Nat)(hj:j < 20):(flatK qs)[i*20+j]? =(fK q)[j]?:=by
 induction qs generalizing i with
 | nil=> cases hq
 | cons e0 h ih=>
  unfold flatK
  rw [List.flatMap_cons]
  cases i with
  | zero=>
   have:e0=q:=by simpa using hq
   subst this
   rw [Nat.zero_mul,Nat.zero_add,List.getElem?_append_left (by rw [eT];exact hj)]
  | succ k=>
   rw [List.getElem?_append_right (by rw [eT];omega),eT]
   have:=ih (i:=k) (by simpa using hq)
   unfold flatK at this
   rw [show(k+1)*20+j - 20=k*20+j by omega]
   exact this
def bK(es:List bR):List Value:=es.flatMap bV
theorem dD(y:bR):(bV y).length=10:=by obtain⟨⟨k,t,a,b,nm,ot⟩,by_,pad,head,tag⟩:=y;rfl
theorem jc(es:List bR):(bK es).length=es.length*10:=by
 induction es with
 | nil=> rfl
 | cons e h ih=> unfold bK at*;rw [List.flatMap_cons,cY,ih,dD,List.length_cons];omega
theorem lJ(es:List bR)(y:bR):bK (es++[y])=bK es++bV y:=by unfold bK;simp
theorem lK {es:List bR} {k j:Nat} {y:bR} {u:Value} (hk:es[k]? =some y)(hj:(bV y)[j]? =some u):(bK es)[k*10+j]? =some u:=by
 induction es generalizing k with
 | nil=> cases hk
 | cons e0 h ih=>
  unfold bK
  rw [List.flatMap_cons]
  have hj10:j < 10:=by have:=(aB hj).1;rwa [dD] at this
  cases k with
  | zero=>
   have:e0=y:=by simpa using hk
   subst this
   rw [Nat.zero_mul,Nat.zero_add,List.getElem?_append_left (by rw [dD];exact hj10)]
   exact hj
  | succ k=>
   rw [List.getElem?_append_right (by rw [dD];omega),dD]
   have:=ih (k:=k) (by simpa using hk)
   unfold bK at this
   rw [show(k+1)*10+j - 10=k*10+j by omega]
   exact this
def mK(v:Value)(ns:List Nat)(W:World):Prop:=∃ a c,v=.slice a ns.length c∧(ns≠[]→∃ b off cs fr,a=some ⟨b,off,none⟩∧W.heap[b]? =some (.cells cs 22 fr)∧∀ (k n:Nat),ns[k]? =some n→cs[off+k]? =some (.int .u64 (n:Int)))
def nX(a:Option Addr)(bks:List Bk)(W:World):Prop:=bks≠[]→∃ b off cs fr,a=some ⟨b,off,none⟩∧W.heap[b]? =some (.cells cs 85 fr)∧∀ (k:Nat) (bk:Bk),bks[k]? =some bk→cs[off+k*2]? =some (.int .u64 (bk.1:Int))∧∃ vp,cs[off+k*2+1]? =some vp∧mK vp bk.2 W
theorem mK.padV {v:Value} {ns:List Nat} {W:World} (h:mK v ns W):jy v ns W:=by
 obtain⟨a,c,h1,h2⟩:=h
 refine⟨a,c,h1,fun hn=> ?_⟩
 obtain⟨b,off,cs,fr,e1,e2,e3⟩:=h2 hn
 exact⟨b,off,e1,ak e2,fun k n hk=> ah e2 (e3 k n hk)⟩
theorem nX.at_ {a:Option Addr} {bks:List Bk} {W:World} (h:nX a bks W):dS a bks W:=fun hn=> by
 obtain⟨b,off,cs,fr,e1,e2,e3⟩:=h hn
 refine⟨b,off,e1,ak e2,fun k bk hk=> ?_⟩
 obtain⟨q1,vp,q2,q3⟩:=e3 k bk hk
 exact⟨ah e2 q1,vp,ah e2 q2,q3.padV⟩
def dJ(W w2:World):Prop:=∀ (b:Nat) (cs:Array Value) (T:TypeId) (fr:Nat×Nat),W.heap[b]? =some (.cells cs T fr)→T≠121→T≠116→T≠31→w2.heap[b]? =some (.cells cs T fr)
theorem dJ.of_below {W w2:World} (h:Below W.heap.size W w2):dJ W w2:=fun b cs T fr e _ _ _=> an e h
theorem dJ.srow {v:Value} {l:List ByteArray} {W w2:World} (hk:dJ W w2)(h:bH v l W):bH v l w2:=h.keep fun b cs fr e=> (hk b cs _ fr e (by decide) (by decide) (by decide)).trans e.symm
theorem dJ.pads {v:Value} {ns:List Nat} {W w2:World} (hk:dJ W w2)(h:mK v ns W):mK v ns w2:=by
 obtain⟨a,c,h1,h2⟩:=h
 refine⟨a,c,h1,fun hn=> ?_⟩
 obtain⟨b,off,cs,fr,e1,e2,e3⟩:=h2 hn
 exact⟨b,off,cs,fr,e1,hk b cs _ fr e2 (by decide) (by decide) (by decide),e3⟩
theorem dJ.books {a:Option Addr} {bks:List Bk} {W w2:World} (hk:dJ W w2)(h:nX a bks W):nX a bks w2:=fun hn=> by
 obtain⟨b,off,cs,fr,e1,e2,e3⟩:=h hn
 refine⟨b,off,cs,fr,e1,hk b cs _ fr e2 (by decide) (by decide) (by decide),fun k bk hk2=> ?_⟩
 obtain⟨q1,vp,q2,q3⟩:=e3 k bk hk2
 exact⟨q1,vp,q2,hk.pads q3⟩
structure RegS where
 pt:Nat
 bks:List Bk
 used:List Nat
 qs:List PkV
def dW(g:RegS)(vb vp:Value):List Value:=[.int .u64 (g.pt:Int),vb]++g.used.map (fun n:Nat=> Value.int .i64 (n:Int))++[vp]
structure bj(B R:Nat)(g:RegS)(vb vp:Value)(W:World):Prop where
 reg:W.heap[R]? =some (.cells (dW g vb vp).toArray 121 (0,0))
 u8:g.used.length=8
 bk:∃ ab cb,vb=.slice ab g.bks.length cb∧nX ab g.bks W
 row:W.ownsRow B 116 20 vp g.qs.length (flatK g.qs)
 ms:∀ q∈g.qs,bH q.vm q.life.ms W∧bH q.vo q.life.os W∧(q.life.n=0→q.vm=.slice none 0 0∧q.life.ms=[])
 es:∀ q∈g.qs,W.ownsRow B 31 10 q.ve q.es.length (bK q.es)
 far:∀ (i j:Nat) (p q:PkV),i≠j→g.qs[i]? =some p→g.qs[j]? =some q→Far p.ve q.ve
 hB:B≤R
section
variable {B R:Nat} {g:RegS} {vb vp:Value} {W w2:World}
theorem bj.step(h:bj B R g vb vp W)(hb:Below W.heap.size W w2):bj B R g vb vp w2:=by
 obtain⟨h1,h2,⟨ab,cb,h3,h4⟩,h5,h6,h7,h8,h9⟩:=h
 exact⟨an h1 hb,h2,⟨ab,cb,h3,(dJ.of_below hb).books h4⟩,aD h5 hb,fun q hq=> ⟨(h6 q hq).1.step hb,(h6 q hq).2.1.step hb,(h6 q hq).2.2⟩,fun q hq=> aD (h7 q hq) hb,h8,h9⟩
theorem bj.packs(h:bj B R g vb vp W)(hn:g.qs≠[]):∃ PB cp cur,vp=.slice (some ⟨PB,0,none⟩) g.qs.length cp∧B≤PB∧W.heap[PB]? =some (.cells cur 116 (0,0))∧∀ (i:Nat) (q:PkV),g.qs[i]? =some q→∀ (j:Nat) (u:Value),(fK q)[j]? =some u→cur[i*20+j]? =some u:=by
 obtain⟨-,h2⟩:=h.row
 rcases h2 with⟨-,h3⟩ | ⟨PB,cp,cur,q1,q2,q3,q4,q5,q6,q7⟩
 ·exact absurd (eF h3) hn
 ·refine⟨PB,cp,cur,q1,q2,q3,fun i q hq j u hj=> ?_⟩
  have hj20:j < 20:=by have:=(aB hj).1;rwa [eT] at this
  have hi:=(aB hq).1
  have h9:=gI hq j hj20
  rw [hj,← q7,List.getElem?_take_of_lt (by omega)] at h9
  simpa using h9
theorem bj.life(h:bj B R g vb vp W){PB cp i:Nat} {q:PkV} (hvp:vp=.slice (some ⟨PB,0,none⟩) g.qs.length cp)(hq:g.qs[i]? =some q):bw 116 PB (i*20) q.nm q.life q.vm q.vo W∧W.cell? ⟨PB,i*20+18,none⟩=some (.int .u64 (q.hd:Int))∧W.cell? ⟨PB,i*20+19,none⟩=some q.ve:=by
 obtain⟨PB2,cp2,cur,e1,-,e2,e3⟩:=h.packs (by rintro e;rw [e] at hq;cases hq)
 rw [hvp] at e1
 cases e1
 obtain⟨m1,m2,-⟩:=h.ms q (aJ hq)
 refine⟨⟨⟨cur,e2,fun j u hj=> e3 i q hq j u ?_⟩,m1,m2⟩,ah e2 (e3 i q hq 18 _ rfl),ah e2 (e3 i q hq 19 _ rfl)⟩
 have h18:j < 18:=(aB hj).1
 unfold fK
 rw [List.getElem?_append_left (by exact h18)]
 exact hj
theorem nZ {n i PB:Nat} {q':PkV} {qs:List PkV} (h:W.ownsRow B 116 20 vp n (flatK qs))(hn:n=qs.length)(hvp:vp.ownBlock=some PB)(hi:i < qs.length)(ho:bO 116 PB (i*20) 20 W w2)(hc:∀ (j:Nat) (u:Value),(fK q')[j]? =some u→w2.cell? ⟨PB,i*20+j,none⟩=some u):
  w2.ownsRow B 116 20 vp n (flatK (qs.set i q')):=by
 subst hn
 obtain⟨h1,h2⟩:=h
 refine⟨by rw [kD,List.length_set],?_⟩
 rcases h2 with⟨e1,e2⟩ | ⟨g,cap,cur,q1,q2,q3,q4,q5,q6,q7⟩
 ·omega
 ·right
  obtain rfl:g=PB:=by rw [q1] at hvp;simpa [Value.ownBlock] using hvp
  obtain⟨cs,cs',c1,c2,c3,c4⟩:=ho.cells
  rw [q3] at c1
  simp at c1
  obtain rfl:=c1
  refine⟨g,cap,cs',q1,q2,c2,q4,q5,by rw [c3];exact q6,?_⟩
  refine List.ext_getElem? fun m=> ?_
  by_cases hm:m < qs.length*20
  ·rw [List.getElem?_take_of_lt hm]
   have ea:m=(m / 20)*20+m % 20:=by omega
   have hj:m % 20 < 20:=Nat.mod_lt _ (by decide)
   have ha:m / 20 < qs.length:=by omega
   obtain⟨q,hq⟩:∃ q,qs[m / 20]? =some q:=⟨qs[m / 20],bh ha⟩
   by_cases hai:m / 20=i
   ·have hs:(qs.set i q')[m / 20]? =some q':=by rw [hai,List.getElem?_set_self hi]
    have hg:=gI hs (m % 20) hj
    rw [← ea] at hg
    rw [hg]
    obtain⟨u,hu⟩:∃ u,(fK q')[m % 20]? =some u:=⟨(fK q')[m % 20]'(by rw [eT];exact hj),bh _⟩
    have hcc:=hc (m % 20) u hu
    rw [hu,← hcc]
    rw [← hai,← ea]
    simp [World.cell?,c2]
   ·have hs:(qs.set i q')[m / 20]? =some q:=by rw [List.getElem?_set_ne (fun e=> hai e.symm)];exact hq
    have hg:=gI hs (m % 20) hj
    have hg0:=gI hq (m % 20) hj
    rw [← ea] at hg hg0
    rw [hg,← hg0,← q7,List.getElem?_take_of_lt hm,Array.getElem?_toList,Array.getElem?_toList]
    exact c4 m (by omega)
  ·rw [List.getElem?_eq_none (by rw [List.length_take];omega),List.getElem?_eq_none (by rw [kD,List.length_set];omega)]
end
end
section
open Sx Go.RowKit Mr
def oS(nm:ByteArray)(qs:List PkV):Nat:=qs.findIdx fun q=> fS q.nm nm
def lL(m:ByteArray)(qs:List PkV):Nat:=qs.findIdx fun q=> hasT q.life.ms m
def kE(vp:Value)(n i:Nat):Value:=match vp with
 | .slice (some a) _ _=> if i < n then .pointer (some ⟨a.block,i*20,none⟩)else .pointer none
 | _=> .pointer none
theorem ng {p:PkV→Bool} {qs:List PkV} {i:Nat} {q:PkV} (h:∀ j,j < i→∀ q,qs[j]? =some q→p q=false)(hq:qs[i]? =some q)(hp:p q=true):qs.findIdx p=i:=by
 have hi:=(aB hq).1
 rw [List.findIdx_eq hi]
 refine⟨by rw [bh hi] at hq;rw [bD hq];exact hp,fun j hj=> ?_⟩
 have:=h j hj (qs[j]'(by omega)) (bh _)
 simpa using this
theorem nh {p:PkV→Bool} {qs:List PkV} (h:∀ j,j < qs.length→∀ q,qs[j]? =some q→p q=false):qs.findIdx p=qs.length:=by
 rw [List.findIdx_eq_length]
 intro q hq
 obtain⟨j,hj,rfl⟩:=List.getElem_of_mem hq
 simpa using h j hj _ (bh hj)
theorem fM {B R:Nat} {g:RegS} {vb vp:Value} {w:World} (h:bj B R g vb vp w)(nm:ByteArray)(hl:g.qs.length≤1000000):Calls Tryz.prog 57 #[.pointer (some ⟨R,0,none⟩),.string nm] w fun e w'=> e=.returned (kE vp g.qs.length (oS nm g.qs))∧Below w.heap.size w w':=by
 have H:=aa h
 have hvp:∃ pa cp,vp=.slice pa g.qs.length cp:=by
  obtain⟨-,h2⟩:=h.row
  rcases h2 with⟨e1,e2⟩ | ⟨PB,cp,cur,q1,-⟩
  ·exact⟨none,0,by rw [e1,e2]⟩
  ·exact⟨_,cp,q1⟩
 obtain⟨pa,cp,rfl⟩:=hvp
 have G10:Hid (w.cell? ⟨R,10,none⟩=some (.slice pa g.qs.length cp)):=by
  refine ah h.reg ?_
  have e8:=h.u8
  simp [dW,e8]
 have hR:=ak h.reg
 have g10:=G10.out
 clear h
 go_enter Tryz.func57,Tryz.ntmps57
 go_wp2_with fail
 clear g10 hR
 go_loopw [5,11] (fun _ ix wr=> ∃ i:Nat,i≤g.qs.length∧ix=.int .i64 i∧Hid (∀ j,j < i→∀ q,g.qs[j]? =some q→(fun q=> fS q.nm nm) q=false)∧Hid (Below w.heap.size w wr)) (fun _ ix _=> g.qs.length - (intOf ix).toNat)
 case atStart=> exact⟨0,by omega,rfl,(fun j hj=> absurd hj (Nat.not_lt_zero j)),Below.refl _ _⟩
 case round=>
  obtain⟨i,hi,rfl,HQ,HW⟩:=hrel
  have HG:=aa (H.out.step HW.out)
  have g10:wr.cell? ⟨R,10,none⟩=some (.slice pa g.qs.length cp):=ag G10.out HW.out
  have hR:=ak HG.out.reg
  by_cases hc:i < g.qs.length
  ·have c1:(i:Int) < g.qs.length:=by omega
   have c0:(0:Int)≤i:=by omega
   obtain⟨q,hk⟩:∃ q,g.qs[i]? =some q:=⟨g.qs[i],bh hc⟩
   obtain⟨PB,cp2,cur,ea,hPB,hb,-⟩:=HG.out.packs (by rintro e;rw [e] at hc;simp at hc)
   cases ea
   obtain⟨hL,-,-⟩:=HG.out.life rfl hk
   have HK:=aa hk
   have HL:=aa hL
   have hPl:=ak hb
   have n0:=HL.out.open1.1
   clear hk hL hb hPB
   by_cases he:(q.nm.toList==nm.toList)=true
   ·have HF:Hid (oS nm g.qs=i):=ng HQ.out HK.out he
    have HCI:=aa hc
    clear hc
    go_wp2_with fail
    exact bc (v:=.pointer (some ⟨PB,i*20,none⟩)) (by simp only [results,Tryz.results57];go_simp) rfl ⟨by rw [HF.out];unfold kE;dsimp only;rw [aG HCI.out],HW.out⟩
   ·have he2:(q.nm.toList==nm.toList)=false:=by simpa using he
    clear he
    have HQ2:Hid (∀ j,j < i+1→∀ q,g.qs[j]? =some q→(fun q=> fS q.nm nm) q=false):=fun j hj q9 hq9=> by
     by_cases c:j < i
     ·exact HQ.out j c q9 hq9
     ·obtain rfl:j=i:=by omega
      rw [HK.out] at hq9
      cases hq9
      exact he2
    clear hc
    go_wp2_with fail
    exact⟨⟨i+1,by omega,by push_cast;rfl,HQ2,HW⟩,by simp [intOf];omega⟩
  ·obtain rfl:i=g.qs.length:=by omega
   have HF:Hid (oS nm g.qs=g.qs.length):=nh HQ.out
   clear hc
   go_wp2_with fail
   exact aH (v:=.pointer none) rfl rfl rfl ⟨by rw [HF.out];unfold kE;split <;> simp,HW.out⟩
theorem kF {B R:Nat} {g:RegS} {vb vp:Value} {w:World} (h:bj B R g vb vp w)(nm:ByteArray)(hl:g.qs.length≤1000000)(hm:∀ q∈g.qs,q.life.ms.length≤1000000):Calls Tryz.prog 68 #[.pointer (some ⟨R,0,none⟩),.string nm] w fun e w'=> e=.returned (kE vp g.qs.length (lL nm g.qs))∧Below w.heap.size w w':=by
 have H:=aa h
 have hvp:∃ pa cp,vp=.slice pa g.qs.length cp:=by
  obtain⟨-,h2⟩:=h.row
  rcases h2 with⟨e1,e2⟩ | ⟨PB,cp,cur,q1,-⟩
  ·exact⟨none,0,by rw [e1,e2]⟩
  ·exact⟨_,cp,q1⟩
 obtain⟨pa,cp,rfl⟩:=hvp
 have G10:Hid (w.cell? ⟨R,10,none⟩=some (.slice pa g.qs.length cp)):=by
  refine ah h.reg ?_
  have e8:=h.u8
  simp [dW,e8]
 have hR:=ak h.reg
 have g10:=G10.out
 clear h
 go_enter Tryz.func68,Tryz.ntmps68
 go_wp2_with fail
 clear g10 hR
 go_loopw [5,11] (fun _ ix wr=> ∃ i:Nat,i≤g.qs.length∧ix=.int .i64 i∧Hid (∀ j,j < i→∀ q,g.qs[j]? =some q→(fun q=> hasT q.life.ms nm) q=false)∧Hid (Below w.heap.size w wr)) (fun _ ix _=> g.qs.length - (intOf ix).toNat)
 case atStart=> exact⟨0,by omega,rfl,(fun j hj=> absurd hj (Nat.not_lt_zero j)),Below.refl _ _⟩
 case round=>
  obtain⟨i,hi,rfl,HQ,HW⟩:=hrel
  have HG:=aa (H.out.step HW.out)
  have g10:wr.cell? ⟨R,10,none⟩=some (.slice pa g.qs.length cp):=ag G10.out HW.out
  have hR:=ak HG.out.reg
  by_cases hc:i < g.qs.length
  ·have c1:(i:Int) < g.qs.length:=by omega
   have c0:(0:Int)≤i:=by omega
   obtain⟨q,hk⟩:∃ q,g.qs[i]? =some q:=⟨g.qs[i],bh hc⟩
   obtain⟨PB,cp2,cur,ea,hPB,hb,-⟩:=HG.out.packs (by rintro e;rw [e] at hc;simp at hc)
   cases ea
   obtain⟨hL,-,-⟩:=HG.out.life rfl hk
   have HK:=aa hk
   have HL:=aa hL
   have hPl:=ak hb
   have n9:=HL.out.open1.2.2.2.1
   have CH:=aa (nP HL.out.ms (hm q (aJ hk)) nm)
   clear hk hL hb hPB
   cases he:hasT q.life.ms nm
   rotate_left
   ·rw [he] at CH
    have HF:Hid (lL nm g.qs=i):=ng HQ.out HK.out he
    have HCI:=aa hc
    clear hc
    go_wp2_with (go_at_call 99;refine CH.out.mono ?_;rintro e w5 ⟨rfl,rfl⟩)
    exact bc (v:=.pointer (some ⟨PB,i*20,none⟩)) (by simp only [results,Tryz.results68];go_simp) rfl ⟨by rw [HF.out];unfold kE;dsimp only;rw [aG HCI.out],HW.out⟩
   ·rw [he] at CH
    have HQ2:Hid (∀ j,j < i+1→∀ q,g.qs[j]? =some q→(fun q=> hasT q.life.ms nm) q=false):=fun j hj q9 hq9=> by
     by_cases c:j < i
     ·exact HQ.out j c q9 hq9
     ·obtain rfl:j=i:=by omega
      rw [HK.out] at hq9
      cases hq9
      exact he
    clear hc
    go_wp2_with (go_at_call 99;refine CH.out.mono ?_;rintro e w5 ⟨rfl,rfl⟩)
    exact⟨⟨i+1,by omega,by push_cast;rfl,HQ2,HW⟩,by simp [intOf];omega⟩
  ·obtain rfl:i=g.qs.length:=by omega
   have HF:Hid (lL nm g.qs=g.qs.length):=nh HQ.out
   clear hc
   go_wp2_with fail
   exact aH (v:=.pointer none) rfl rfl rfl ⟨by rw [HF.out];unfold kE;split <;> simp,HW.out⟩
end
section
open Sx Go.RowKit Mr
def lM(g:RegS)(b:Int):Int:=if 0≤b∧b < g.bks.length then((g.bks.getD b.toNat (0,[])).2.length:Int) - (g.used.getD b.toNat 0:Nat)else 0
structure rp(g:RegS):Prop where
 sec:secR g.pt g.bks=0
 us:∀ k,g.used.getD k 0≤5000
 np:g.qs.length≤100
 q:∀ q∈g.qs,q.es.length≤500∧fA q.nm (br q.es)∧(∀ e∈br q.es,eC e=true)∧q.nm.size≤20∧q.life=lifeOf q.nm (br q.es)∧q.hd=headOf g.pt q.nm q.es
theorem rp.pt {g:RegS} (h:rp g):1≤g.pt∧g.pt < P31:=(fW h.sec).1
section
variable {B R:Nat} {g:RegS} {vb vp:Value} {W:World}
theorem bj.cells(h:bj B R g vb vp W):W.cell? ⟨R,0,none⟩=some (.int .u64 (g.pt:Int))∧W.cell? ⟨R,1,none⟩=some vb∧W.cell? ⟨R,10,none⟩=some vp∧R < W.heap.size∧∀ k,k < 8→W.cell? ⟨R,2+k,none⟩=some (.int .i64 (g.used.getD k 0:Nat)):=by
 have e8:=h.u8
 refine⟨ah h.reg (by simp [dW]),ah h.reg (by simp [dW]),ah h.reg (by simp [dW,e8]),ak h.reg,fun k hk=> ah h.reg ?_⟩
 have h1:(dW g vb vp)[2+k]? =(g.used.map (fun n:Nat=> Value.int .i64 (n:Int))++[vp])[k]?:=by
  unfold dW
  rw [List.append_assoc,List.getElem?_append_right (by simp)]
  congr 1
  simp
 have hku:k < g.used.length:=by omega
 rw [List.getElem?_toArray,h1,List.getElem?_append_left (by simpa using hku),bX,di,bh hku]
 rfl
end
theorem dm {B R:Nat} {g:RegS} {vb vp:Value} {w:World} (h:bj B R g vb vp w)(hp:1≤g.pt):Calls Tryz.prog 56 #[.pointer (some ⟨R,0,none⟩)] w fun e w'=> e=.returned (.bool true)∧Below w.heap.size w w':=by
 obtain⟨c0,-,-,cl,-⟩:=h.cells
 have hn:((g.pt:Int)==0)=false:=by simp;omega
 have hn2:((g.pt:Int) !=0)=true:=by simp;omega
 clear h hp
 go_enter Tryz.func56,Tryz.ntmps56
 go_wp2_with fail
 exact aH (v:=.bool true) rfl rfl rfl ⟨rfl,(by repeat' (first | exact Below.refl _ _ | assumption | apply aI | apply bg | apply aK | (refine cB ?_ ?_ _) | (refine ai ?_ (by assumption)) | omega | (simp <;> omega)))⟩
theorem book_any {B R:Nat} {g:RegS} {vb vp:Value} {w:World} (h:bj B R g vb vp w)(b:Int):Calls Tryz.prog 59 #[.pointer (some ⟨R,0,none⟩),.int .i64 b] w fun e w'=> e=.returned (.bool (decide (0≤b∧b < g.bks.length)))∧Below w.heap.size w w':=by
 obtain⟨-,c1,-,cl,-⟩:=h.cells
 obtain⟨ab,cb,rfl,-⟩:=h.bk
 by_cases h0:0≤b
 ·by_cases h1:b < g.bks.length
  ·rw [bF ⟨h0,h1⟩]
   have h2:b≥0:=h0
   clear h
   go_enter Tryz.func59,Tryz.ntmps59
   go_wp2_with fail
   exact aH (v:=.bool true) rfl rfl rfl ⟨rfl,(by repeat' (first | exact Below.refl _ _ | assumption | apply aI | apply bg | apply aK | (refine cB ?_ ?_ _) | (refine ai ?_ (by assumption)) | omega | (simp <;> omega)))⟩
  ·rw [bv (fun e=> h1 e.2)]
   clear h
   go_enter Tryz.func59,Tryz.ntmps59
   go_wp2_with fail
   exact aH (v:=.bool false) rfl rfl rfl ⟨rfl,(by repeat' (first | exact Below.refl _ _ | assumption | apply aI | apply bg | apply aK | (refine cB ?_ ?_ _) | (refine ai ?_ (by assumption)) | omega | (simp <;> omega)))⟩
 ·rw [bv (fun e=> h0 e.1)]
  have h2:b < 0:=by omega
  clear h
  go_enter Tryz.func59,Tryz.ntmps59
  go_wp2_with fail
  exact aH (v:=.bool false) rfl rfl rfl ⟨rfl,(by repeat' (first | exact Below.refl _ _ | assumption | apply aI | apply bg | apply aK | (refine cB ?_ ?_ _) | (refine ai ?_ (by assumption)) | omega | (simp <;> omega)))⟩
theorem jX {B R:Nat} {g:RegS} {vb vp:Value} {w:World} (h:bj B R g vb vp w)(ho:rp g)(b:Int):Calls Tryz.prog 17 #[.pointer (some ⟨R,0,none⟩),.int .i64 b] w fun e w'=> e=.returned (.int .i64 (lM g b))∧Below w.heap.size w w':=by
 have CV:=aa (fun W (hW:Below w.heap.size w W)=> dm (h.step hW) ho.pt.1)
 have CB:=aa (fun W (hW:Below w.heap.size w W)=> book_any (h.step hW) b)
 obtain⟨hb1,hb8,hbk⟩:=fW ho.sec
 by_cases hin:0≤b∧b < g.bks.length
 ·unfold lM
  rw [aG hin]
  obtain⟨h0,h1⟩:=hin
  rw [bF ⟨h0,h1⟩] at CB
  obtain⟨n,rfl⟩:=Int.eq_ofNat_of_zero_le h0
  have h2:n < g.bks.length:=by omega
  have h8:n < 8:=by omega
  obtain⟨c0,c1,-,cl,cu⟩:=h.cells
  obtain⟨ab,cb,rfl,hB0⟩:=h.bk
  have hB:=hB0.at_
  obtain⟨bk,hk⟩:∃ bk,g.bks[n]? =some bk:=⟨g.bks[n],bh h2⟩
  obtain⟨bb,ob,rfl,hbb,hbc⟩:=hB (by rintro e;rw [e] at h2;simp at h2)
  obtain⟨-,vq,s1,ap,cp,rfl,-⟩:=hbc n bk hk
  have hu:=cu n h8
  have hus:=ho.us n
  have hpl:=(hbk bk (aJ hk)).2.1
  have HV:Hid (((g.bks.getD (n:Int).toNat (0,[])).2.length:Int) - (g.used.getD (n:Int).toNat 0:Nat)=(bk.2.length:Int) - (g.used.getD n 0:Nat)):=by
   unfold Hid
   rw [Int.toNat_natCast,di (l:=g.bks),hk]
   rfl
  rw [HV.out]
  generalize g.used.getD n 0=un at*
  have hw:IntKind.i64.wrap ((bk.2.length:Int) - (un:Int))=(bk.2.length:Int) - (un:Int):=cC _ ⟨by omega,by omega⟩
  have h8i:(n:Int) < 8:=by omega
  have HC:=aa (ba c1 (ba hu s1))
  clear h hB hB0 hbc cu c0 hb1 hb8 hbk ho hk hus hpl HV c1 hu s1
  go_enter Tryz.func17,Tryz.ntmps17
  go_upto_region 3 with(first | (go_at_call 56;refine(CV.out _ (Below.refl _ _)).mono ?_;rintro e w1 ⟨rfl,hb1⟩;have HB1:=aa hb1;clear hb1) | (go_at_call 59;refine(CB.out _ HB1.out).mono ?_;rintro e w2 ⟨rfl,hb2⟩;have HB2:=aa (ai HB1.out hb2);clear hb2))
  have d1:∀ s:aC w2,s.1.cell? ⟨R,1,none⟩=some (.slice (some ⟨bb,ob,none⟩) g.bks.length cb):=fun s=> ag HC.out.1 (ai HB2.out s.2)
  have d2:∀ s:aC w2,s.1.cell? ⟨R,2+n,none⟩=some (.int .i64 (un:Int)):=fun s=> ag HC.out.2.1 (ai HB2.out s.2)
  have d3:∀ s:aC w2,s.1.cell? ⟨bb,ob+n*2+1,none⟩=some (.slice ap bk.2.length cp):=fun s=> ag HC.out.2.2 (ai HB2.out s.2)
  have d4:∀ s:aC w2,R < s.1.heap.size:=fun s=> ar cl (ai HB2.out s.2).size
  refine aF (by kernel_rfl) (by kernel_rfl) ?_
  repeat(first | (refine WQ.skip rfl rfl rfl rfl ?_;simp only [Act.put,aU,aV,aW,aX]) | ((first | (apply WQ.val;(exact rfl)) | (apply WQ.valg;(exact rfl);(exact rfl);(exact rfl)));(intro w9 hw9;obtain⟨s9,rfl⟩:=hw9;simp [go_sem,d1,d2,d3,d4,h0,h1,h2,h8,h8i,hw];first | done | exact rfl);simp only [Act.put,aU,aV,aW,aX]))
  refine WQ.fin fun W4 hW4=> ?_
  go_wp2_with fail
  exact bc (v:=.int .i64 ((bk.2.length:Int) - (un:Int))) (by simp only [results,Tryz.results17];go_simp) rfl ⟨rfl,ai HB2.out hW4⟩
 ·unfold lM
  rw [aA hin]
  rw [bv hin] at CB
  clear h ho hin hb1 hb8 hbk
  go_enter Tryz.func17,Tryz.ntmps17
  go_wp2_with (first | (go_at_call 56;refine(CV.out _ (Below.refl _ _)).mono ?_;rintro e w1 ⟨rfl,hb1⟩;have HB1:=aa hb1;clear hb1) | (go_at_call 59;refine(CB.out _ HB1.out).mono ?_;rintro e w2 ⟨rfl,hb2⟩;have HB2:=aa (ai HB1.out hb2);clear hb2))
  exact aH (v:=.int .i64 0) rfl rfl rfl ⟨rfl,HB2.out⟩
end
section
open Sx Go.RowKit Mr
theorem dG {W:World} {B E sz n P o:Nat} {T:TypeId} {v u:Value} {xs:List Value} {cs:Array Value} {fr:Nat×Nat} (h:W.ownsRow B E sz v n xs)(hc:W.heap[P]? =some (.cells cs T fr))(hT:T≠E):(W.setCell ⟨P,o,none⟩ u).ownsRow B E sz v n xs:=by
 obtain⟨h1,h2⟩:=h
 refine⟨h1,?_⟩
 rcases h2 with h2 | ⟨g,cap,cur,q1,q2,q3,q4⟩
 ·exact ax h2
 ·refine ay ⟨g,cap,cur,q1,q2,bA q3 (fun e=> ?_),q4⟩
  have e2:g=P:=e
  subst e2
  rw [q3] at hc
  simp at hc
  exact hT hc.2.1.symm
theorem fx {T:TypeId} {PB off m:Nat} {W w2:World} {B E sz n:Nat} {v:Value} {xs:List Value} (h:W.ownsRow B E sz v n xs)(ho:bO T PB off m W w2)(hT:T≠E):w2.ownsRow B E sz v n xs:=by
 obtain⟨cs,cs',c1,-⟩:=ho.cells
 obtain⟨h1,h2⟩:=h
 refine⟨h1,?_⟩
 rcases h2 with h2 | ⟨g,cap,cur,q1,q2,q3,q4⟩
 ·exact ax h2
 ·refine ay ⟨g,cap,cur,q1,q2,(ho.block g (ak q3) (fun e=> ?_)).trans q3,q4⟩
  subst e
  rw [q3] at c1
  simp at c1
  exact hT c1.2.symm
section
variable {B R:Nat} {g:RegS} {vb vp:Value} {W w2:World}
theorem kG {P o:Nat} {T:TypeId} {u:Value} {cs:Array Value} {fr:Nat×Nat} (hc:W.heap[P]? =some (.cells cs T fr))(hT:T=121∨T=116∨T=31):dJ W (W.setCell ⟨P,o,none⟩ u):=fun b cs2 T2 fr2 e n1 n2 n3=> by
 refine bA e (fun c=> ?_)
 have c2:b=P:=c
 subst c2
 rw [hc] at e
 simp at e
 obtain⟨-,e2,-⟩:=e
 subst e2
 rcases hT with hT | hT | hT
 ·exact n1 hT
 ·exact n2 hT
 ·exact n3 hT
theorem pT {T:TypeId} {PB off m:Nat} (ho:bO T PB off m W w2)(hT:T=121∨T=116∨T=31):dJ W w2:=fun b cs2 T2 fr2 e n1 n2 n3=> by
 obtain⟨cs,cs',c1,-⟩:=ho.cells
 refine(ho.block b (ak e) (fun c=> ?_)).trans e
 subst c
 rw [c1] at e
 simp at e
 obtain⟨-,e2,-⟩:=e
 subst e2
 rcases hT with hT | hT | hT
 ·exact n1 hT
 ·exact n2 hT
 ·exact n3 hT
theorem sk {k u:Nat} (hk:k < g.used.length):(dW g vb vp).toArray.setIfInBounds (2+k) (.int .i64 (u:Int))=(dW { g with used:=g.used.set k u } vb vp).toArray:=by
 rw [List.setIfInBounds_toArray]
 congr 1
 unfold dW
 simp only [List.cons_append,List.nil_append]
 rw [show 2+k=k+1+1 by omega,List.set_cons_succ,List.set_cons_succ,List.set_append_left _ _ (by simpa using hk),List.map_set]
theorem bj.setUsed(h:bj B R g vb vp W){k u:Nat} (hk:k < 8):bj B R { g with used:=g.used.set k u } vb vp (W.setCell ⟨R,2+k,none⟩ (.int .i64 (u:Int))):=by
 have hK:=kG (o:=2+k) (u:=.int .i64 (u:Int)) h.reg (ax rfl)
 obtain⟨h1,h2,⟨ab,cb,h3,h4⟩,h5,h6,h7,h8,h9⟩:=h
 refine⟨?_,by show(g.used.set k u).length=8;rw [List.length_set];exact h2,⟨ab,cb,h3,hK.books h4⟩,dG h5 h1 (by decide),fun q hq=> ⟨hK.srow (h6 q hq).1,hK.srow (h6 q hq).2.1,(h6 q hq).2.2⟩,fun q hq=> dG (h7 q hq) h1 (by decide),h8,h9⟩
 rw [← sk (by omega)]
 exact bn h1
theorem ii {qs:List PkV} {i:Nat} {q' p:PkV} (h:p∈qs.set i q'):p=q'∨∃ j,j≠i∧qs[j]? =some p:=by
 obtain⟨j,hj⟩:=List.getElem?_of_mem h
 by_cases c:j=i
 ·subst c
  have hl:j < qs.length:=by have:=(aB hj).1;simpa using this
  rw [List.getElem?_set_self hl] at hj
  exact ax (bD hj).symm
 ·rw [List.getElem?_set_ne (fun e=> c e.symm)] at hj
  exact ay ⟨j,c,hj⟩
theorem bj.setPk(h:bj B R g vb vp W){i PB cp:Nat} {q q':PkV} (hvp:vp=.slice (some ⟨PB,0,none⟩) g.qs.length cp)(hq:g.qs[i]? =some q)(ho:bO 116 PB (i*20) 20 W w2)(hc:∀ (j:Nat) (u:Value),(fK q')[j]? =some u→w2.cell? ⟨PB,i*20+j,none⟩=some u)
  (hm:bH q'.vm q'.life.ms w2∧bH q'.vo q'.life.os w2∧(q'.life.n=0→q'.vm=.slice none 0 0∧q'.life.ms=[])) (he:q'.ve=q.ve∧q'.es=q.es):bj B R { g with qs:=g.qs.set i q' } vb vp w2:=by
 have hK:=pT ho (ay (ax rfl))
 have hi:=(aB hq).1
 obtain⟨cs,cs',c1,-⟩:=ho.cells
 obtain⟨h1,h2,⟨ab,cb,h3,h4⟩,h5,h6,h7,h8,h9⟩:=h
 have hRP:R≠PB:=fun e=> by
  subst e
  rw [h1] at c1
  exact absurd c1 (by simp)
 have hlen:(g.qs.set i q').length=g.qs.length:=List.length_set
 refine⟨(ho.block R (ak h1) hRP).trans h1,h2,⟨ab,cb,h3,hK.books h4⟩,?_,fun p hp=> ?_,fun p hp=> ?_,fun a b p p2 hab ha hb=> ?_,h9⟩
 ·show w2.ownsRow B 116 20 vp (g.qs.set i q').length (flatK (g.qs.set i q'))
  rw [hlen]
  exact nZ h5 rfl (by rw [hvp];rfl) hi ho hc
 ·rcases ii hp with rfl | ⟨j,-,hj⟩
  ·exact hm
  ·have:=h6 p (aJ hj)
   exact⟨hK.srow this.1,hK.srow this.2.1,this.2.2⟩
 ·rcases ii hp with rfl | ⟨j,-,hj⟩
  ·rw [he.1,he.2]
   exact fx (h7 q (aJ hq)) ho (by decide)
  ·exact fx (h7 p (aJ hj)) ho (by decide)
 ·have key:∀ (j:Nat) (x:PkV),(g.qs.set i q')[j]? =some x→∃ y,g.qs[j]? =some y∧y.ve=x.ve:=fun j x hx=> by
   by_cases c:j=i
   ·subst c
    rw [List.getElem?_set_self hi] at hx
    obtain rfl:=bD hx
    exact⟨q,hq,he.1.symm⟩
   ·rw [List.getElem?_set_ne (fun e=> c e.symm)] at hx
    exact⟨x,hx,rfl⟩
  obtain⟨y1,e1,e2⟩:=key a p ha
  obtain⟨y2,e3,e4⟩:=key b p2 hb
  rw [← e2,← e4]
  exact h8 a b y1 y2 hab e1 e3
end
end
end Go.Proofs.YtmpilgkfbibhlaaGreatDoor
