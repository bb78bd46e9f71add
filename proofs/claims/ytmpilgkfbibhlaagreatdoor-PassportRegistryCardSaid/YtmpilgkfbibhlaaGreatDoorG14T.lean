/-
 G14T
-/
import Derived.Test.YtmpilgkfbibhlaaGreatDoorG11T
set_option linter.unusedSimpArgs false
set_option linter.unusedVariables false
set_option maxRecDepth 100000
set_option maxHeartbeats 20000000
namespace Go.Proofs.YtmpilgkfbibhlaaGreatDoor
section
open Go.RowKit Mr
def yR(v:Value)(m:List Nat):Rw:=⟨5,1,v,m.length,dw m⟩
def yP(L:Nat→Option Obj)(v:Value)(m:List Nat):Prop:=yr L v m.length 1 (dw m)
theorem j5(m:List Nat):(dw m).length=m.length:=by simp [dw]
def o1(x:Option Rw):Nat→Option Rw:=fun s=> if s=0 then x else none
theorem uZ {x y:Option Rw} (s:Nat):gn (o1 x) 0 y s=o1 y s:=by
 unfold gn o1
 by_cases h:s=0
 ·rw [aG h,aG h]
 ·rw [aA h,aA h,aA h]
def ro(b:Bool)(r:Rw)(e:Option Rw):Option Rw:=bif b then some r else e
theorem u7 {w W:World} {B:Nat} {L:Nat→Option Obj} {v p:Value} {R A:List Nat} {x:Option Rw} {o:Oper} {a:Act} {K:Act→World→Prop} {Q:Exit→Act→World→Prop} (h:MR w B L (o1 (some (yR v R))) W)(hp:yP L p A)
  (s t:Operand) (ho:o.op=.call { callee:=.builtin .append,args:=#[s,t],argTypes:=#[88,88] }) (hs:a.eval s=v) (ht:a.eval t=p) (hl:R.length+A.length≤1000000)
  (hK:∀ v' W',MR w B L (o1 (some (yR v' (R++A)))) W'→K (a.put o.dst v') W'):o.wp Tryz.prog a W K Q:=by
 obtain⟨i0,hi,hz0,hz1,hz2⟩:=info_parts rc
 obtain⟨ad,c,rfl,hc⟩:=hp.cells h
 refine fc (P:=Tryz.prog) W s t 88 ho B 5 i0 (.int .u8 0) 1 1 Tryz.underlying88 hi hz0 hz1 hz2 rfl (by decide) v R.length (dw R) hs (h.own 0 _ rfl) ad A.length c (dw A) ht (by rw [j5];omega) hc (jT A) (by unfold maxLen;omega) (by omega) h.sz fun v' W' q1 q2 q3=> hK v' W' ?_
 refine(h.app 0 (r':=yR v' (R++A)) rfl ?_ q2 q3).congr fun s=> (uZ s).symm
 show W'.ownsRow B 5 1 v' (R++A).length (dw (R++A))
 rw [cY,lg]
 exact q1
structure cX(w:World)(B bx:Nat)(ob:Obj)(R A C:List Nat)(vr:Value)(b0 b1 b2 b3:Bool)(v0 v1 v2 v3:Value)(W:World):Prop where
 ex:∃ L,MR w B L (o1 (ro b3 (yR v3 (R++A++C)) (ro b1 (yR v1 (R++A)) (some (yR vr R))))) W∧L bx=some ob∧(b0=true→yP L v0 A)∧(b2=true→yP L v2 C)
 i1:b1=true→b0=true
 i3:b3=true→b1=true∧b2=true
structure ey(w:World)(B bx:Nat)(ob:Obj)(R A:List Nat)(b0 b1 b2:Bool)(v0 v1 v2:Value)(W:World):Prop where
 ex:∃ L,MR w B L (o1 (ro b2 (yR v2 (R++A)) (ro b0 (yR v0 R) none))) W∧L bx=some ob∧(b1=true→yP L v1 A)
 i2:b2=true→b0=true∧b1=true
def pX(w:World)(B bx:Nat)(ob:Obj)(R:List Nat)(v:Value)(W:World):Prop:=∃ L,MR w B L (o1 (some (yR v R))) W∧L bx=some ob
section
variable {w W w2:World} {B bx:Nat} {ob:Obj} {R A C:List Nat} {vr:Value} {b0 b1 b2 b3:Bool} {v0 v1 v2 v3:Value}
theorem lU {L:Nat→Option Obj} {f:Nat→Option Rw} {m:List Nat} {cs:Array Value} {t:TypeId} {fr:Nat×Nat} {c:Nat} (h:MR w B L f W)(hb:Below W.heap.size W w2)(hp:w2.heap[W.heap.size]? =some (.cells cs t fr))(hc:∀ (j:Nat) (u:Value),(dw m)[j]? =some u→cs[j]? =some u):
  ∃ L',MR w B L' f w2∧yP L' (.slice (some ⟨W.heap.size,0,none⟩) m.length c) m∧(∀ p o,L p=some o→L' p=some o)∧∀ v q,yP L v q→yP L' v q:=by
 have hn:L W.heap.size=none:=by
  cases e:L W.heap.size with
  | none=> rfl
  | some o=> have:=ak (h.sb _ o e);omega
 refine⟨_,h.got hb (bz _) hp,⟨by rw [j5];omega,_,c,rfl,fun _=> ⟨_,0,cs,t,fr,rfl,dK,fun j u hj=> by rw [Nat.zero_add];exact hc j u hj⟩⟩,fun p o e=> ?_,fun v q hq=> yr.upd hq hn⟩
 rw [cZ (fun c=> by rw [c,hn] at e;cases e)]
 exact e
theorem cX.start(h:pX w B bx ob R vr W):cX w B bx ob R A C vr false false false false v0 v1 v2 v3 W.drew:=by
 obtain⟨L,h1,h2⟩:=h
 exact⟨⟨L,h1.step ((Below.refl _ _).drew),h2,(fun e=> by cases e),(fun e=> by cases e)⟩,(fun e=> by cases e),(fun e=> by cases e)⟩
theorem cX.step(h:cX w B bx ob R A C vr b0 b1 b2 b3 v0 v1 v2 v3 W)(hb:Below W.heap.size W w2):cX w B bx ob R A C vr b0 b1 b2 b3 v0 v1 v2 v3 w2:=by
 obtain⟨⟨L,h1,h2,h3,h4⟩,h5,h6⟩:=h
 exact⟨⟨L,h1.step hb,h2,h3,h4⟩,h5,h6⟩
theorem cX.bel(h:cX w B bx ob R A C vr b0 b1 b2 b3 v0 v1 v2 v3 W):Below w.heap.size w W:=by
 obtain⟨⟨L,h1,-⟩,-⟩:=h
 exact h1.bel
theorem cX.box(h:cX w B bx ob R A C vr b0 b1 b2 b3 v0 v1 v2 v3 W):W.heap[bx]? =some ob:=by
 obtain⟨⟨L,h1,h2,-⟩,-⟩:=h
 exact h1.sb _ _ h2
theorem cX.n0(h:cX w B bx ob R A C vr false b1 b2 b3 v0 v1 v2 v3 W):b1=false∧b3=false:=by
 have h1:=h.i1
 have h3:=h.i3
 cases b1 with
 | true=> exact absurd (h1 rfl) (by decide)
 | false=>
  cases b3 with
  | true=> exact absurd (h3 rfl).1 (by decide)
  | false=> exact⟨rfl,rfl⟩
theorem cX.n1(h:cX w B bx ob R A C vr b0 false b2 b3 v0 v1 v2 v3 W):b3=false:=by
 cases b3 with
 | true=> exact absurd (h.i3 rfl).1 (by decide)
 | false=> rfl
theorem cX.n2(h:cX w B bx ob R A C vr b0 b1 false b3 v0 v1 v2 v3 W):b3=false:=by
 cases b3 with
 | true=> exact absurd (h.i3 rfl).2 (by decide)
 | false=> rfl
theorem cX.mk0 {cs:Array Value} {t:TypeId} {fr:Nat×Nat} {c n:Nat} (h:cX w B bx ob R A C vr false b1 b2 b3 v0 v1 v2 v3 W)(hb:Below W.heap.size W w2)(hp:w2.heap[W.heap.size]? =some (.cells cs t fr))(hn:n=A.length)(hc:∀ (j:Nat) (u:Value),(dw A)[j]? =some u→cs[j]? =some u):
  cX w B bx ob R A C vr true b1 b2 b3 (.slice (some ⟨W.heap.size,0,none⟩) n c) v1 v2 v3 w2:=by
 subst hn
 obtain⟨⟨L,h1,h2,h3,h4⟩,h5,h6⟩:=h
 obtain⟨L',k1,k2,k3,k4⟩:=lU (m:=A) (c:=c) h1 hb hp hc
 exact⟨⟨L',k1,k3 _ _ h2,fun _=> k2,fun e=> k4 _ _ (h4 e)⟩,fun _=> rfl,h6⟩
theorem cX.mk2 {cs:Array Value} {t:TypeId} {fr:Nat×Nat} {c n:Nat} (h:cX w B bx ob R A C vr b0 b1 false b3 v0 v1 v2 v3 W)(hb:Below W.heap.size W w2)(hp:w2.heap[W.heap.size]? =some (.cells cs t fr))(hn:n=C.length)(hc:∀ (j:Nat) (u:Value),(dw C)[j]? =some u→cs[j]? =some u):
  cX w B bx ob R A C vr b0 b1 true b3 v0 v1 (.slice (some ⟨W.heap.size,0,none⟩) n c) v3 w2:=by
 subst hn
 obtain⟨⟨L,h1,h2,h3,h4⟩,h5,h6⟩:=h
 obtain⟨L',k1,k2,k3,k4⟩:=lU (m:=C) (c:=c) h1 hb hp hc
 exact⟨⟨L',k1,k3 _ _ h2,fun e=> k4 _ _ (h3 e),fun _=> k2⟩,h5,fun e=> ⟨(h6 e).1,rfl⟩⟩
theorem cX.app1 {o:Oper} {a:Act} {K:Act→World→Prop} {Q:Exit→Act→World→Prop} (h:cX w B bx ob R A C vr true false b2 false v0 v1 v2 v3 W)
  (s t:Operand) (ho:o.op=.call { callee:=.builtin .append,args:=#[s,t],argTypes:=#[88,88] }) (hs:a.eval s=vr) (ht:a.eval t=v0) (hl:R.length+A.length≤1000000)
  (hK:∀ v' W',cX w B bx ob R A C vr true true b2 false v0 v' v2 v3 W'→K (a.put o.dst v') W'):o.wp Tryz.prog a W K Q:=by
 obtain⟨⟨L,h1,h2,h3,h4⟩,h5,h6⟩:=h
 exact u7 (x:=none) h1 (h3 rfl) s t ho hs ht hl fun v' W' k=> hK v' W' ⟨⟨L,k,h2,h3,h4⟩,fun _=> rfl,fun e=> by cases e⟩
theorem cX.app3 {o:Oper} {a:Act} {K:Act→World→Prop} {Q:Exit→Act→World→Prop} (h:cX w B bx ob R A C vr b0 true true false v0 v1 v2 v3 W)
  (s t:Operand) (ho:o.op=.call { callee:=.builtin .append,args:=#[s,t],argTypes:=#[88,88] }) (hs:a.eval s=v1) (ht:a.eval t=v2) (hl:R.length+A.length+C.length≤1000000)
  (hK:∀ v' W',cX w B bx ob R A C vr b0 true true true v0 v1 v2 v' W'→K (a.put o.dst v') W'):o.wp Tryz.prog a W K Q:=by
 obtain⟨⟨L,h1,h2,h3,h4⟩,h5,h6⟩:=h
 exact u7 (x:=none) h1 (h4 rfl) s t ho hs ht (by rw [cY];omega) fun v' W' k=> hK v' W' ⟨⟨L,k,h2,h3,h4⟩,h5,fun e=> ⟨rfl,rfl⟩⟩
theorem cX.fin(h:cX w B bx ob R A C vr b0 b1 b2 true v0 v1 v2 v3 W):pX w B bx ob (R++A++C) v3 W:=by
 obtain⟨⟨L,h1,h2,h3,h4⟩,h5,h6⟩:=h
 exact⟨L,h1,h2⟩
theorem ey.start {L:Nat→Option Obj} (h:MR w B L (fun _=> none) W)(h2:L bx=some ob):ey w B bx ob R A false false false v0 v1 v2 W.drew:=
 ⟨⟨L,(h.step ((Below.refl _ _).drew)).congr fun s=> by unfold o1 ro;split <;> rfl,h2,(fun e=> by cases e)⟩,(fun e=> by cases e)⟩
theorem ey.step(h:ey w B bx ob R A b0 b1 b2 v0 v1 v2 W)(hb:Below W.heap.size W w2):ey w B bx ob R A b0 b1 b2 v0 v1 v2 w2:=by
 obtain⟨⟨L,h1,h2,h3⟩,h4⟩:=h
 exact⟨⟨L,h1.step hb,h2,h3⟩,h4⟩
theorem ey.bel(h:ey w B bx ob R A b0 b1 b2 v0 v1 v2 W):Below w.heap.size w W:=by
 obtain⟨⟨L,h1,-⟩,-⟩:=h
 exact h1.bel
theorem ey.box(h:ey w B bx ob R A b0 b1 b2 v0 v1 v2 W):W.heap[bx]? =some ob:=by
 obtain⟨⟨L,h1,h2,-⟩,-⟩:=h
 exact h1.sb _ _ h2
theorem ey.n0(h:ey w B bx ob R A false b1 b2 v0 v1 v2 W):b2=false:=by
 cases b2 with
 | true=> exact absurd (h.i2 rfl).1 (by decide)
 | false=> rfl
theorem ey.n1(h:ey w B bx ob R A b0 false b2 v0 v1 v2 W):b2=false:=by
 cases b2 with
 | true=> exact absurd (h.i2 rfl).2 (by decide)
 | false=> rfl
theorem ey.mk0 {x:Nat} (h:ey w B bx ob [x] A false b1 b2 v0 v1 v2 W):ey w B bx ob [x] A true b1 b2 (.slice (some ⟨W.heap.size,0,none⟩) 1 1) v1 v2 (W.alloc (.cells #[.int .u8 (x:Int)] 5)):=by
 obtain rfl:=h.n0
 obtain⟨⟨L,h1,h2,h3⟩,h4⟩:=h
 exact⟨⟨L,(h1.fresh 0 #[.int .u8 (x:Int)] 5 1 1 (by decide) rfl).congr fun s=> (uZ s).symm,h2,h3⟩,fun e=> by cases e⟩
theorem ey.mk1 {cs:Array Value} {t:TypeId} {fr:Nat×Nat} {c n:Nat} (h:ey w B bx ob R A b0 false b2 v0 v1 v2 W)(hb:Below W.heap.size W w2)(hp:w2.heap[W.heap.size]? =some (.cells cs t fr))(hn:n=A.length)(hc:∀ (j:Nat) (u:Value),(dw A)[j]? =some u→cs[j]? =some u):
  ey w B bx ob R A b0 true b2 v0 (.slice (some ⟨W.heap.size,0,none⟩) n c) v2 w2:=by
 subst hn
 obtain⟨⟨L,h1,h2,h3⟩,h4⟩:=h
 obtain⟨L',k1,k2,k3,k4⟩:=lU (m:=A) (c:=c) h1 hb hp hc
 exact⟨⟨L',k1,k3 _ _ h2,fun _=> k2⟩,fun e=> ⟨(h4 e).1,rfl⟩⟩
theorem ey.app2 {o:Oper} {a:Act} {K:Act→World→Prop} {Q:Exit→Act→World→Prop} (h:ey w B bx ob R A true true false v0 v1 v2 W)
  (s t:Operand) (ho:o.op=.call { callee:=.builtin .append,args:=#[s,t],argTypes:=#[88,88] }) (hs:a.eval s=v0) (ht:a.eval t=v1) (hl:R.length+A.length≤1000000)
  (hK:∀ v' W',ey w B bx ob R A true true true v0 v1 v' W'→K (a.put o.dst v') W'):o.wp Tryz.prog a W K Q:=by
 obtain⟨⟨L,h1,h2,h3⟩,h4⟩:=h
 exact u7 (x:=none) h1 (h3 rfl) s t ho hs ht hl fun v' W' k=> hK v' W' ⟨⟨L,k,h2,h3⟩,fun _=> ⟨rfl,rfl⟩⟩
theorem ey.fin(h:ey w B bx ob R A b0 b1 true v0 v1 v2 W):pX w B bx ob (R++A) v2 W:=by
 obtain⟨⟨L,h1,h2,h3⟩,h4⟩:=h
 exact⟨L,h1,h2⟩
theorem pX.step(h:pX w B bx ob R vr W)(hb:Below W.heap.size W w2):pX w B bx ob R vr w2:=by
 obtain⟨L,h1,h2⟩:=h
 exact⟨L,h1.step hb,h2⟩
end
theorem dT {W:World} {bx:Nat} {k t a b:Int} {nm ot:ByteArray} (h:W.heap[bx]? =some (.cells #[.int .i64 k,.int .i64 t,.int .i64 a,.int .i64 b,.string nm,.string ot] 29)):
  W.cell? ⟨bx,0,none⟩=some (.int .i64 k)∧W.cell? ⟨bx,1,none⟩=some (.int .i64 t)∧W.cell? ⟨bx,2,none⟩=some (.int .i64 a)∧W.cell? ⟨bx,3,none⟩=some (.int .i64 b)∧W.cell? ⟨bx,4,none⟩=some (.string nm)∧W.cell? ⟨bx,5,none⟩=some (.string ot)∧bx < W.heap.size:=
 ⟨ah h rfl,ah h rfl,ah h rfl,ah h rfl,ah h rfl,ah h rfl,ak h⟩
theorem nj(s:ByteArray)(cap:Nat):∀ (j:Nat) (u:Value),(dw (s.data.toList.map UInt8.toNat))[j]? =some u→(bytesRow s cap)[j]? =some u:=by
 intro j u hj
 have hl:=(aB hj).1
 have hl2:j < s.data.size:=by simpa [dw] using hl
 rw [bytesRow_at s cap j hl2]
 rw [← hj]
 simp only [dw,List.map_map,bX,Array.getElem?_toList]
 rw [Array.getElem?_eq_getElem hl2]
 rfl
end
section
open Go.RowKit Mr
theorem yS(n:Nat)(hn:n≤1099511627776)(W:World):Calls Tryz.prog 141 #[.int .u64 n,.int .i64 8] W fun e w'=> e=.returned (.slice (some ⟨W.heap.size,0,none⟩) 8 8)∧w'.heap[W.heap.size]? =some (.cells (dw (b8 n)).toArray 5 (0,0))∧Below W.heap.size W w':=by
 have h:=rl n 8 (by omega) (by decide) (by decide) W
 rw [yF] at h
 exact h
theorem pY(l:List Value):∀ (j:Nat) (u:Value),l[j]? =some u→l.toArray[j]? =some u:=fun j u h=> by simpa using h
theorem vc(k t a b:Nat)(nm ot:ByteArray)(w:World)(hk:k≤9)(ht:t≤1099511627776)(ha:a≤1099511627776)(hb:b≤1099511627776)(hs1:nm.size≤100)(hs2:ot.size≤100):
  Calls Tryz.prog 142 #[.agg #[.int .i64 k,.int .i64 t,.int .i64 a,.int .i64 b,.string nm,.string ot]] w fun e w'=> ∃ v,e=.returned v∧pX w w.heap.size w.heap.size (.cells #[.int .i64 k,.int .i64 t,.int .i64 a,.int .i64 b,.string nm,.string ot] 29) (k::(b8 t++(b8 a++(b8 b++(nm.size::(nm.data.toList.map UInt8.toNat++(ot.size::ot.data.toList.map UInt8.toNat))))))) v w':=by
 have C1:=aa (yS t ht)
 have C2:=aa (yS a ha)
 have C3:=aa (yS b hb)
 have R0:Hid (∀ v0 v1 v2,ey w w.heap.size w.heap.size (.cells #[.int .i64 k,.int .i64 t,.int .i64 a,.int .i64 b,.string nm,.string ot] 29) [k] (b8 t) false false false v0 v1 v2 (w.alloc (.cells #[.int .i64 k,.int .i64 t,.int .i64 a,.int .i64 b,.string nm,.string ot] 29)).drew):=fun v0 v1 v2=>
  ey.start (L:=gn (fun _=> none) w.heap.size (some (.cells #[.int .i64 k,.int .i64 t,.int .i64 a,.int .i64 b,.string nm,.string ot] 29))) (MR.start (bz _) Mr.bU (by simp) (fun p o e=> by
   by_cases c:p=w.heap.size
   ·subst c;rw [dK] at e;cases e;exact au w _
   ·rw [cZ c] at e;cases e)) dK
 go_enter Tryz.func142,Tryz.ntmps142
 go_upto_region 1 with fail
 refine eA 9 12 [(3,7),(7,11),(8,12)] [(none,[]),(none,[]),(none,[]),(some 0,[]),(none,[]),(none,[]),(none,[]),(some 1,[]),(some 2,[0,1])] [(4,(.pointer (some ⟨w.heap.size,0,none⟩))),(5,(.int .i64 (k:Int))),(6,(.int .u8 (k:Int))),(8,(.pointer (some ⟨w.heap.size,1,none⟩))),(9,(.int .i64 (t:Int))),(10,(.int .u64 (t:Int)))] (fun bsE vsE W=> ey w w.heap.size w.heap.size (.cells #[.int .i64 k,.int .i64 t,.int .i64 a,.int .i64 b,.string nm,.string ot] 29) [k] (b8 t) (bsE.getD 0 false) (bsE.getD 1 false) (bsE.getD 2 false) (vsE.getD 0 undef) (vsE.getD 1 undef) (vsE.getD 2 undef) W) (by kernel_rfl) (by kernel_rfl) rfl (by kernel_rfl) (by kernel_rfl) (by simp) (by rfl) ?h0 ?each ?tail
 case h0=>
  intro vsE hlv
  obtain⟨v0,v1,v2,rfl⟩:=fe hlv
  exact R0.out v0 v1 v2
 case each=>
  simp only [List.take_succ_cons,List.take_zero,dp]
  refine⟨⟨4,(.pointer (some ⟨w.heap.size,0,none⟩)),rfl,by kernel_rfl,?_⟩,⟨5,(.int .i64 (k:Int)),rfl,by kernel_rfl,?_⟩,⟨6,(.int .u8 (k:Int)),rfl,by kernel_rfl,?_⟩,⟨7,rfl,?q4_3⟩,⟨8,(.pointer (some ⟨w.heap.size,1,none⟩)),rfl,by kernel_rfl,?_⟩,⟨9,(.int .i64 (t:Int)),rfl,by kernel_rfl,?_⟩,⟨10,(.int .u64 (t:Int)),rfl,by kernel_rfl,?_⟩,⟨11,rfl,?q4_7⟩,⟨12,rfl,?q4_8⟩,trivial⟩
  case q4_3=>
   intro bsE vsE W hlb hlv hnd hbk h
   obtain⟨b0,b1,b2,rfl⟩:=fe hlb
   obtain⟨v0,v1,v2,rfl⟩:=fe hlv
   obtain rfl:b0=false:=hbk
   replace h:ey w w.heap.size w.heap.size (.cells #[.int .i64 k,.int .i64 t,.int .i64 a,.int .i64 b,.string nm,.string ot] 29) [k] (b8 t) false b1 b2 v0 v1 v2 W:=h
   clear hnd
   have HST:=aa h
   have hb0:=h.bel.size;obtain⟨g0,g1,g2,g3,g4,g5,gl⟩:=dT h.box
   intro K Q hK
   simp only [az,updAll,Act.put,aU,aV,aW,aX] at hK ⊢
   go_wp2_with fail
   all_goals(first | exact hK _ _ h.mk0 | exact h.mk0)
  case q4_7=>
   intro bsE vsE W hlb hlv hnd hbk h
   obtain⟨b0,b1,b2,rfl⟩:=fe hlb
   obtain⟨v0,v1,v2,rfl⟩:=fe hlv
   obtain rfl:b1=false:=hbk
   replace h:ey w w.heap.size w.heap.size (.cells #[.int .i64 k,.int .i64 t,.int .i64 a,.int .i64 b,.string nm,.string ot] 29) [k] (b8 t) b0 false b2 v0 v1 v2 W:=h
   clear hnd
   have HST:=aa h
   have hb0:=h.bel.size;obtain⟨g0,g1,g2,g3,g4,g5,gl⟩:=dT h.box
   intro K Q hK
   simp only [az,updAll,Act.put,aU,aV,aW,aX] at hK ⊢
   go_wp2_with (go_at_call 141;refine(C1.out _).mono ?_;rintro e w1 ⟨rfl,hp,hb1⟩)
   all_goals(have hm:=h.mk1 (c:=8) hb1 hp rfl (pY _))
   all_goals(first | exact hK _ _ hm | exact hm)
  case q4_8=>
   intro bsE vsE W hlb hlv hnd hbk h
   obtain⟨b0,b1,b2,rfl⟩:=fe hlb
   obtain⟨v0,v1,v2,rfl⟩:=fe hlv
   obtain rfl:b0=true:=hnd 0 (by simp)
   obtain rfl:b1=true:=hnd 1 (by simp)
   obtain rfl:b2=false:=hbk
   replace h:ey w w.heap.size w.heap.size (.cells #[.int .i64 k,.int .i64 t,.int .i64 a,.int .i64 b,.string nm,.string ot] 29) [k] (b8 t) true true false v0 v1 v2 W:=h
   clear hnd
   have HST:=aa h
   skip
   intro K Q hK
   simp only [az,updAll,Act.put,aU,aV,aW,aX] at hK ⊢
   refine h.app2 (.tmp 7) (.tmp 11) rfl rfl rfl (by simp [b8]) ?_
   intro v' W' k
   first | exact hK _ _ k | exact k
  all_goals
   intro bsE vsE W hlb hlv hnd h
   obtain⟨b0,b1,b2,rfl⟩:=fe hlb
   obtain⟨v0,v1,v2,rfl⟩:=fe hlv
   replace h:ey w w.heap.size w.heap.size (.cells #[.int .i64 k,.int .i64 t,.int .i64 a,.int .i64 b,.string nm,.string ot] 29) [k] (b8 t) b0 b1 b2 v0 v1 v2 W:=h
   clear hnd
   have HST:=aa h
   have hb0:=h.bel.size;obtain⟨g0,g1,g2,g3,g4,g5,gl⟩:=dT h.box
   intro K Q hK
   simp only [az,updAll,Act.put,aU,aV,aW,aX] at hK ⊢
   go_wp2_with (fail)
   all_goals(first | exact hK _ (by first | exact h | exact h.step (by repeat' (first | exact Below.refl _ _ | apply aI | apply bg))) | exact(by first | exact h | exact h.step (by repeat' (first | exact Below.refl _ _ | apply aI | apply bg))))
 case tail=>
  intro vsE W hlv h
  obtain⟨v0,v1,v2,rfl⟩:=fe hlv
  replace h:ey w w.heap.size w.heap.size (.cells #[.int .i64 k,.int .i64 t,.int .i64 a,.int .i64 b,.string nm,.string ot] 29) [k] (b8 t) true true true v0 v1 v2 W:=h
  have HST:=aa h
  have P2:=aa h.fin
  refine eQ rfl rfl ?_
  simp only [az,updAll,Act.put,aU,aV,aW,aX]
  clear h HST R0
  generalize hR1:[k]++b8 t=R1 at*
  have HR1:=aa hR1
  clear hR1
  have HL1:=aa (show R1.length≤10 by rw [← HR1.out];simp [b8])
  generalize v2=vq1 at*
  go_upto_region 2 with fail
  refine eA 11 12 [(4,17),(5,18),(9,22),(10,23)] [(none,[]),(none,[]),(none,[]),(none,[]),(some 0,[]),(some 1,[0]),(none,[]),(none,[]),(none,[]),(some 2,[]),(some 3,[1,2])] [(13,vq1),(14,(.pointer (some ⟨w.heap.size,2,none⟩))),(15,(.int .i64 (a:Int))),(16,(.int .u64 (a:Int))),(19,(.pointer (some ⟨w.heap.size,3,none⟩))),(20,(.int .i64 (b:Int))),(21,(.int .u64 (b:Int)))] (fun bsE vsE W=> cX w w.heap.size w.heap.size (.cells #[.int .i64 k,.int .i64 t,.int .i64 a,.int .i64 b,.string nm,.string ot] 29) (R1) (b8 a) (b8 b) vq1 (bsE.getD 0 false) (bsE.getD 1 false) (bsE.getD 2 false) (bsE.getD 3 false) (vsE.getD 0 undef) (vsE.getD 1 undef) (vsE.getD 2 undef) (vsE.getD 3 undef) W) (by kernel_rfl) (by kernel_rfl) rfl (by kernel_rfl) (by kernel_rfl) (by simp) (by rfl) ?h0 ?each ?tail
  case h0=>
   intro vsE hlv
   obtain⟨v0,v1,v2,v3,rfl⟩:=cK hlv
   exact cX.start P2.out
  case each=>
   simp only [List.take_succ_cons,List.take_zero,dp]
   refine⟨⟨13,vq1,rfl,by kernel_rfl,?_⟩,⟨14,(.pointer (some ⟨w.heap.size,2,none⟩)),rfl,by kernel_rfl,?_⟩,⟨15,(.int .i64 (a:Int)),rfl,by kernel_rfl,?_⟩,⟨16,(.int .u64 (a:Int)),rfl,by kernel_rfl,?_⟩,⟨17,rfl,?q3_4⟩,⟨18,rfl,?q3_5⟩,⟨19,(.pointer (some ⟨w.heap.size,3,none⟩)),rfl,by kernel_rfl,?_⟩,⟨20,(.int .i64 (b:Int)),rfl,by kernel_rfl,?_⟩,⟨21,(.int .u64 (b:Int)),rfl,by kernel_rfl,?_⟩,⟨22,rfl,?q3_9⟩,⟨23,rfl,?q3_10⟩,trivial⟩
   case q3_4=>
    intro bsE vsE W hlb hlv hnd hbk h
    obtain⟨b0,b1,b2,b3,rfl⟩:=cK hlb
    obtain⟨v0,v1,v2,v3,rfl⟩:=cK hlv
    obtain rfl:b0=false:=hbk
    replace h:cX w w.heap.size w.heap.size (.cells #[.int .i64 k,.int .i64 t,.int .i64 a,.int .i64 b,.string nm,.string ot] 29) (R1) (b8 a) (b8 b) vq1 false b1 b2 b3 v0 v1 v2 v3 W:=h
    clear hnd
    have HST:=aa h
    have hb0:=h.bel.size;obtain⟨g0,g1,g2,g3,g4,g5,gl⟩:=dT h.box
    intro K Q hK
    simp only [az,updAll,Act.put,aU,aV,aW,aX] at hK ⊢
    go_wp2_with (go_at_call 141;refine(C2.out _).mono ?_;rintro e w1 ⟨rfl,hp,hb1⟩)
    all_goals(have hm:=h.mk0 (c:=8) hb1 hp rfl (pY _))
    all_goals(first | exact hK _ _ hm | exact hm)
   case q3_5=>
    intro bsE vsE W hlb hlv hnd hbk h
    obtain⟨b0,b1,b2,b3,rfl⟩:=cK hlb
    obtain⟨v0,v1,v2,v3,rfl⟩:=cK hlv
    obtain rfl:b0=true:=hnd 0 (by simp)
    obtain rfl:b1=false:=hbk
    replace h:cX w w.heap.size w.heap.size (.cells #[.int .i64 k,.int .i64 t,.int .i64 a,.int .i64 b,.string nm,.string ot] 29) (R1) (b8 a) (b8 b) vq1 true false b2 b3 v0 v1 v2 v3 W:=h
    clear hnd
    have HST:=aa h
    obtain rfl:=h.n1
    intro K Q hK
    simp only [az,updAll,Act.put,aU,aV,aW,aX] at hK ⊢
    refine h.app1 (.tmp 13) (.tmp 17) rfl rfl rfl (by have:=HL1.out;simp [b8];omega) ?_
    intro v' W' k
    first | exact hK _ _ k | exact k
   case q3_9=>
    intro bsE vsE W hlb hlv hnd hbk h
    obtain⟨b0,b1,b2,b3,rfl⟩:=cK hlb
    obtain⟨v0,v1,v2,v3,rfl⟩:=cK hlv
    obtain rfl:b2=false:=hbk
    replace h:cX w w.heap.size w.heap.size (.cells #[.int .i64 k,.int .i64 t,.int .i64 a,.int .i64 b,.string nm,.string ot] 29) (R1) (b8 a) (b8 b) vq1 b0 b1 false b3 v0 v1 v2 v3 W:=h
    clear hnd
    have HST:=aa h
    have hb0:=h.bel.size;obtain⟨g0,g1,g2,g3,g4,g5,gl⟩:=dT h.box
    intro K Q hK
    simp only [az,updAll,Act.put,aU,aV,aW,aX] at hK ⊢
    go_wp2_with (go_at_call 141;refine(C3.out _).mono ?_;rintro e w1 ⟨rfl,hp,hb1⟩)
    all_goals(have hm:=h.mk2 (c:=8) hb1 hp rfl (pY _))
    all_goals(first | exact hK _ _ hm | exact hm)
   case q3_10=>
    intro bsE vsE W hlb hlv hnd hbk h
    obtain⟨b0,b1,b2,b3,rfl⟩:=cK hlb
    obtain⟨v0,v1,v2,v3,rfl⟩:=cK hlv
    obtain rfl:b1=true:=hnd 1 (by simp)
    obtain rfl:b2=true:=hnd 2 (by simp)
    obtain rfl:b3=false:=hbk
    replace h:cX w w.heap.size w.heap.size (.cells #[.int .i64 k,.int .i64 t,.int .i64 a,.int .i64 b,.string nm,.string ot] 29) (R1) (b8 a) (b8 b) vq1 b0 true true false v0 v1 v2 v3 W:=h
    clear hnd
    have HST:=aa h
    skip
    intro K Q hK
    simp only [az,updAll,Act.put,aU,aV,aW,aX] at hK ⊢
    refine h.app3 (.tmp 18) (.tmp 22) rfl rfl rfl (by have:=HL1.out;simp [b8];omega) ?_
    intro v' W' k
    first | exact hK _ _ k | exact k
   all_goals
    intro bsE vsE W hlb hlv hnd h
    obtain⟨b0,b1,b2,b3,rfl⟩:=cK hlb
    obtain⟨v0,v1,v2,v3,rfl⟩:=cK hlv
    replace h:cX w w.heap.size w.heap.size (.cells #[.int .i64 k,.int .i64 t,.int .i64 a,.int .i64 b,.string nm,.string ot] 29) (R1) (b8 a) (b8 b) vq1 b0 b1 b2 b3 v0 v1 v2 v3 W:=h
    clear hnd
    have HST:=aa h
    have hb0:=h.bel.size;obtain⟨g0,g1,g2,g3,g4,g5,gl⟩:=dT h.box
    intro K Q hK
    simp only [az,updAll,Act.put,aU,aV,aW,aX] at hK ⊢
    go_wp2_with (fail)
    all_goals(first | exact hK _ (by first | exact h | exact h.step (by repeat' (first | exact Below.refl _ _ | apply aI | apply bg))) | exact(by first | exact h | exact h.step (by repeat' (first | exact Below.refl _ _ | apply aI | apply bg))))
  case tail=>
   intro vsE W hlv h
   obtain⟨v0,v1,v2,v3,rfl⟩:=cK hlv
   replace h:cX w w.heap.size w.heap.size (.cells #[.int .i64 k,.int .i64 t,.int .i64 a,.int .i64 b,.string nm,.string ot] 29) (R1) (b8 a) (b8 b) vq1 true true true true v0 v1 v2 v3 W:=h
   have HST:=aa h
   have P3:=aa h.fin
   refine eQ rfl rfl ?_
   simp only [az,updAll,Act.put,aU,aV,aW,aX]
   clear h HST P2
   generalize hR2:R1++b8 a++b8 b=R2 at*
   have HR2:=aa hR2
   clear hR2
   have HL2:=aa (show R2.length≤50 by rw [← HR2.out];simp [b8];have:=HL1.out;omega)
   generalize v3=vq2 at*
   go_upto_region 3 with fail
   refine eA 11 12 [(5,29),(6,30),(9,33),(10,34)] [(none,[]),(none,[]),(none,[]),(none,[]),(none,[]),(some 0,[]),(some 1,[0]),(none,[]),(none,[]),(some 2,[]),(some 3,[1,2])] [(24,vq2),(25,(.pointer (some ⟨w.heap.size,4,none⟩))),(26,(.string nm)),(27,(.int .i64 (nm.size:Int))),(28,(.int .u8 (nm.size:Int))),(31,(.pointer (some ⟨w.heap.size,4,none⟩))),(32,(.string nm))] (fun bsE vsE W=> cX w w.heap.size w.heap.size (.cells #[.int .i64 k,.int .i64 t,.int .i64 a,.int .i64 b,.string nm,.string ot] 29) (R2) ([nm.size]) (nm.data.toList.map UInt8.toNat) vq2 (bsE.getD 0 false) (bsE.getD 1 false) (bsE.getD 2 false) (bsE.getD 3 false) (vsE.getD 0 undef) (vsE.getD 1 undef) (vsE.getD 2 undef) (vsE.getD 3 undef) W) (by kernel_rfl) (by kernel_rfl) rfl (by kernel_rfl) (by kernel_rfl) (by simp) (by rfl) ?h0 ?each ?tail
   case h0=>
    intro vsE hlv
    obtain⟨v0,v1,v2,v3,rfl⟩:=cK hlv
    exact cX.start P3.out
   case each=>
    simp only [List.take_succ_cons,List.take_zero,dp]
    refine⟨⟨24,vq2,rfl,by kernel_rfl,?_⟩,⟨25,(.pointer (some ⟨w.heap.size,4,none⟩)),rfl,by kernel_rfl,?_⟩,⟨26,(.string nm),rfl,by kernel_rfl,?_⟩,⟨27,(.int .i64 (nm.size:Int)),rfl,by kernel_rfl,?_⟩,⟨28,(.int .u8 (nm.size:Int)),rfl,by kernel_rfl,?_⟩,⟨29,rfl,?q2_5⟩,⟨30,rfl,?q2_6⟩,⟨31,(.pointer (some ⟨w.heap.size,4,none⟩)),rfl,by kernel_rfl,?_⟩,⟨32,(.string nm),rfl,by kernel_rfl,?_⟩,⟨33,rfl,?q2_9⟩,⟨34,rfl,?q2_10⟩,trivial⟩
    case q2_5=>
     intro bsE vsE W hlb hlv hnd hbk h
     obtain⟨b0,b1,b2,b3,rfl⟩:=cK hlb
     obtain⟨v0,v1,v2,v3,rfl⟩:=cK hlv
     obtain rfl:b0=false:=hbk
     replace h:cX w w.heap.size w.heap.size (.cells #[.int .i64 k,.int .i64 t,.int .i64 a,.int .i64 b,.string nm,.string ot] 29) (R2) ([nm.size]) (nm.data.toList.map UInt8.toNat) vq2 false b1 b2 b3 v0 v1 v2 v3 W:=h
     clear hnd
     have HST:=aa h
     have hb0:=h.bel.size;obtain⟨g0,g1,g2,g3,g4,g5,gl⟩:=dT h.box
     intro K Q hK
     simp only [az,updAll,Act.put,aU,aV,aW,aX] at hK ⊢
     go_wp2_with fail
     all_goals(have hm:=h.mk0 (c:=1) Mr.bU (au W (.cells #[.int .u8 (nm.size:Int)] 5)) rfl (by intro j u hj;simpa [dw] using hj))
     all_goals(first | exact hK _ _ hm | exact hm)
    case q2_6=>
     intro bsE vsE W hlb hlv hnd hbk h
     obtain⟨b0,b1,b2,b3,rfl⟩:=cK hlb
     obtain⟨v0,v1,v2,v3,rfl⟩:=cK hlv
     obtain rfl:b0=true:=hnd 0 (by simp)
     obtain rfl:b1=false:=hbk
     replace h:cX w w.heap.size w.heap.size (.cells #[.int .i64 k,.int .i64 t,.int .i64 a,.int .i64 b,.string nm,.string ot] 29) (R2) ([nm.size]) (nm.data.toList.map UInt8.toNat) vq2 true false b2 b3 v0 v1 v2 v3 W:=h
     clear hnd
     have HST:=aa h
     obtain rfl:=h.n1
     intro K Q hK
     simp only [az,updAll,Act.put,aU,aV,aW,aX] at hK ⊢
     refine h.app1 (.tmp 24) (.tmp 29) rfl rfl rfl (by have:=HL2.out;simp [← Lib.size_eq];omega) ?_
     intro v' W' k
     first | exact hK _ _ k | exact k
    case q2_9=>
     intro bsE vsE W hlb hlv hnd hbk h
     obtain⟨b0,b1,b2,b3,rfl⟩:=cK hlb
     obtain⟨v0,v1,v2,v3,rfl⟩:=cK hlv
     obtain rfl:b2=false:=hbk
     replace h:cX w w.heap.size w.heap.size (.cells #[.int .i64 k,.int .i64 t,.int .i64 a,.int .i64 b,.string nm,.string ot] 29) (R2) ([nm.size]) (nm.data.toList.map UInt8.toNat) vq2 b0 b1 false b3 v0 v1 v2 v3 W:=h
     clear hnd
     have HST:=aa h
     have hb0:=h.bel.size;obtain⟨g0,g1,g2,g3,g4,g5,gl⟩:=dT h.box
     intro K Q hK
     simp only [az,updAll,Act.put,aU,aV,aW,aX] at hK ⊢
     have hcv:=run_bytes_of_string (P:=Tryz.prog) W 9 88 5 nm Tryz.underlying9 Tryz.underlying88 Tryz.underlying5
     have hm:=h.mk2 (c:=grownCap W nm.size 0 5) (w2:=W.drew.alloc (.cells (bytesRow nm (grownCap W nm.size 0 5)) 5 ((bytesRow nm (grownCap W nm.size 0 5)).size,(bytesRow nm (grownCap W nm.size 0 5)).size+1))) (((Below.refl _ _).drew).alloc (bz _) _) (au W.drew _) (show nm.size=(nm.data.toList.map UInt8.toNat).length by rw [List.length_map,← Lib.size_eq]) (nj nm _)
     generalize bytesRow nm (grownCap W nm.size 0 5)=C at*
     generalize grownCap W nm.size 0 5=cp at*
     go_wp2_with fail
     all_goals(first | exact hK _ _ hm | exact hm)
    case q2_10=>
     intro bsE vsE W hlb hlv hnd hbk h
     obtain⟨b0,b1,b2,b3,rfl⟩:=cK hlb
     obtain⟨v0,v1,v2,v3,rfl⟩:=cK hlv
     obtain rfl:b1=true:=hnd 1 (by simp)
     obtain rfl:b2=true:=hnd 2 (by simp)
     obtain rfl:b3=false:=hbk
     replace h:cX w w.heap.size w.heap.size (.cells #[.int .i64 k,.int .i64 t,.int .i64 a,.int .i64 b,.string nm,.string ot] 29) (R2) ([nm.size]) (nm.data.toList.map UInt8.toNat) vq2 b0 true true false v0 v1 v2 v3 W:=h
     clear hnd
     have HST:=aa h
     skip
     intro K Q hK
     simp only [az,updAll,Act.put,aU,aV,aW,aX] at hK ⊢
     refine h.app3 (.tmp 30) (.tmp 33) rfl rfl rfl (by have:=HL2.out;simp [← Lib.size_eq];omega) ?_
     intro v' W' k
     first | exact hK _ _ k | exact k
    all_goals
     intro bsE vsE W hlb hlv hnd h
     obtain⟨b0,b1,b2,b3,rfl⟩:=cK hlb
     obtain⟨v0,v1,v2,v3,rfl⟩:=cK hlv
     replace h:cX w w.heap.size w.heap.size (.cells #[.int .i64 k,.int .i64 t,.int .i64 a,.int .i64 b,.string nm,.string ot] 29) (R2) ([nm.size]) (nm.data.toList.map UInt8.toNat) vq2 b0 b1 b2 b3 v0 v1 v2 v3 W:=h
     clear hnd
     have HST:=aa h
     have hb0:=h.bel.size;obtain⟨g0,g1,g2,g3,g4,g5,gl⟩:=dT h.box
     intro K Q hK
     simp only [az,updAll,Act.put,aU,aV,aW,aX] at hK ⊢
     go_wp2_with (fail)
     all_goals(first | exact hK _ (by first | exact h | exact h.step (by repeat' (first | exact Below.refl _ _ | apply aI | apply bg))) | exact(by first | exact h | exact h.step (by repeat' (first | exact Below.refl _ _ | apply aI | apply bg))))
   case tail=>
    intro vsE W hlv h
    obtain⟨v0,v1,v2,v3,rfl⟩:=cK hlv
    replace h:cX w w.heap.size w.heap.size (.cells #[.int .i64 k,.int .i64 t,.int .i64 a,.int .i64 b,.string nm,.string ot] 29) (R2) ([nm.size]) (nm.data.toList.map UInt8.toNat) vq2 true true true true v0 v1 v2 v3 W:=h
    have HST:=aa h
    have P4:=aa h.fin
    refine eQ rfl rfl ?_
    simp only [az,updAll,Act.put,aU,aV,aW,aX]
    clear h HST P3
    generalize hR3:R2++[nm.size]++nm.data.toList.map UInt8.toNat=R3 at*
    have HR3:=aa hR3
    clear hR3
    have HL3:=aa (show R3.length≤200 by have:=HL2.out;rw [← HR3.out];simp [← Lib.size_eq];omega)
    generalize v3=vq3 at*
    go_upto_region 4 with fail
    refine eA 11 12 [(5,40),(6,41),(9,44),(10,45)] [(none,[]),(none,[]),(none,[]),(none,[]),(none,[]),(some 0,[]),(some 1,[0]),(none,[]),(none,[]),(some 2,[]),(some 3,[1,2])] [(35,vq3),(36,(.pointer (some ⟨w.heap.size,5,none⟩))),(37,(.string ot)),(38,(.int .i64 (ot.size:Int))),(39,(.int .u8 (ot.size:Int))),(42,(.pointer (some ⟨w.heap.size,5,none⟩))),(43,(.string ot))] (fun bsE vsE W=> cX w w.heap.size w.heap.size (.cells #[.int .i64 k,.int .i64 t,.int .i64 a,.int .i64 b,.string nm,.string ot] 29) (R3) ([ot.size]) (ot.data.toList.map UInt8.toNat) vq3 (bsE.getD 0 false) (bsE.getD 1 false) (bsE.getD 2 false) (bsE.getD 3 false) (vsE.getD 0 undef) (vsE.getD 1 undef) (vsE.getD 2 undef) (vsE.getD 3 undef) W) (by kernel_rfl) (by kernel_rfl) rfl (by kernel_rfl) (by kernel_rfl) (by simp) (by rfl) ?h0 ?each ?tail
    case h0=>
     intro vsE hlv
     obtain⟨v0,v1,v2,v3,rfl⟩:=cK hlv
     exact cX.start P4.out
    case each=>
     simp only [List.take_succ_cons,List.take_zero,dp]
     refine⟨⟨35,vq3,rfl,by kernel_rfl,?_⟩,⟨36,(.pointer (some ⟨w.heap.size,5,none⟩)),rfl,by kernel_rfl,?_⟩,⟨37,(.string ot),rfl,by kernel_rfl,?_⟩,⟨38,(.int .i64 (ot.size:Int)),rfl,by kernel_rfl,?_⟩,⟨39,(.int .u8 (ot.size:Int)),rfl,by kernel_rfl,?_⟩,⟨40,rfl,?q1_5⟩,⟨41,rfl,?q1_6⟩,⟨42,(.pointer (some ⟨w.heap.size,5,none⟩)),rfl,by kernel_rfl,?_⟩,⟨43,(.string ot),rfl,by kernel_rfl,?_⟩,⟨44,rfl,?q1_9⟩,⟨45,rfl,?q1_10⟩,trivial⟩
     case q1_5=>
      intro bsE vsE W hlb hlv hnd hbk h
      obtain⟨b0,b1,b2,b3,rfl⟩:=cK hlb
      obtain⟨v0,v1,v2,v3,rfl⟩:=cK hlv
      obtain rfl:b0=false:=hbk
      replace h:cX w w.heap.size w.heap.size (.cells #[.int .i64 k,.int .i64 t,.int .i64 a,.int .i64 b,.string nm,.string ot] 29) (R3) ([ot.size]) (ot.data.toList.map UInt8.toNat) vq3 false b1 b2 b3 v0 v1 v2 v3 W:=h
      clear hnd
      have HST:=aa h
      have hb0:=h.bel.size;obtain⟨g0,g1,g2,g3,g4,g5,gl⟩:=dT h.box
      intro K Q hK
      simp only [az,updAll,Act.put,aU,aV,aW,aX] at hK ⊢
      go_wp2_with fail
      all_goals(have hm:=h.mk0 (c:=1) Mr.bU (au W (.cells #[.int .u8 (ot.size:Int)] 5)) rfl (by intro j u hj;simpa [dw] using hj))
      all_goals(first | exact hK _ _ hm | exact hm)
     case q1_6=>
      intro bsE vsE W hlb hlv hnd hbk h
      obtain⟨b0,b1,b2,b3,rfl⟩:=cK hlb
      obtain⟨v0,v1,v2,v3,rfl⟩:=cK hlv
      obtain rfl:b0=true:=hnd 0 (by simp)
      obtain rfl:b1=false:=hbk
      replace h:cX w w.heap.size w.heap.size (.cells #[.int .i64 k,.int .i64 t,.int .i64 a,.int .i64 b,.string nm,.string ot] 29) (R3) ([ot.size]) (ot.data.toList.map UInt8.toNat) vq3 true false b2 b3 v0 v1 v2 v3 W:=h
      clear hnd
      have HST:=aa h
      obtain rfl:=h.n1
      intro K Q hK
      simp only [az,updAll,Act.put,aU,aV,aW,aX] at hK ⊢
      refine h.app1 (.tmp 35) (.tmp 40) rfl rfl rfl (by have:=HL3.out;simp [← Lib.size_eq];omega) ?_
      intro v' W' k
      first | exact hK _ _ k | exact k
     case q1_9=>
      intro bsE vsE W hlb hlv hnd hbk h
      obtain⟨b0,b1,b2,b3,rfl⟩:=cK hlb
      obtain⟨v0,v1,v2,v3,rfl⟩:=cK hlv
      obtain rfl:b2=false:=hbk
      replace h:cX w w.heap.size w.heap.size (.cells #[.int .i64 k,.int .i64 t,.int .i64 a,.int .i64 b,.string nm,.string ot] 29) (R3) ([ot.size]) (ot.data.toList.map UInt8.toNat) vq3 b0 b1 false b3 v0 v1 v2 v3 W:=h
      clear hnd
      have HST:=aa h
      have hb0:=h.bel.size;obtain⟨g0,g1,g2,g3,g4,g5,gl⟩:=dT h.box
      intro K Q hK
      simp only [az,updAll,Act.put,aU,aV,aW,aX] at hK ⊢
      have hcv:=run_bytes_of_string (P:=Tryz.prog) W 9 88 5 ot Tryz.underlying9 Tryz.underlying88 Tryz.underlying5
      have hm:=h.mk2 (c:=grownCap W ot.size 0 5) (w2:=W.drew.alloc (.cells (bytesRow ot (grownCap W ot.size 0 5)) 5 ((bytesRow ot (grownCap W ot.size 0 5)).size,(bytesRow ot (grownCap W ot.size 0 5)).size+1))) (((Below.refl _ _).drew).alloc (bz _) _) (au W.drew _) (show ot.size=(ot.data.toList.map UInt8.toNat).length by rw [List.length_map,← Lib.size_eq]) (nj ot _)
      generalize bytesRow ot (grownCap W ot.size 0 5)=C at*
      generalize grownCap W ot.size 0 5=cp at*
      go_wp2_with fail
      all_goals(first | exact hK _ _ hm | exact hm)
     case q1_10=>
      intro bsE vsE W hlb hlv hnd hbk h
      obtain⟨b0,b1,b2,b3,rfl⟩:=cK hlb
      obtain⟨v0,v1,v2,v3,rfl⟩:=cK hlv
      obtain rfl:b1=true:=hnd 1 (by simp)
      obtain rfl:b2=true:=hnd 2 (by simp)
      obtain rfl:b3=false:=hbk
      replace h:cX w w.heap.size w.heap.size (.cells #[.int .i64 k,.int .i64 t,.int .i64 a,.int .i64 b,.string nm,.string ot] 29) (R3) ([ot.size]) (ot.data.toList.map UInt8.toNat) vq3 b0 true true false v0 v1 v2 v3 W:=h
      clear hnd
      have HST:=aa h
      skip
      intro K Q hK
      simp only [az,updAll,Act.put,aU,aV,aW,aX] at hK ⊢
      refine h.app3 (.tmp 41) (.tmp 44) rfl rfl rfl (by have:=HL3.out;simp [← Lib.size_eq];omega) ?_
      intro v' W' k
      first | exact hK _ _ k | exact k
     all_goals
      intro bsE vsE W hlb hlv hnd h
      obtain⟨b0,b1,b2,b3,rfl⟩:=cK hlb
      obtain⟨v0,v1,v2,v3,rfl⟩:=cK hlv
      replace h:cX w w.heap.size w.heap.size (.cells #[.int .i64 k,.int .i64 t,.int .i64 a,.int .i64 b,.string nm,.string ot] 29) (R3) ([ot.size]) (ot.data.toList.map UInt8.toNat) vq3 b0 b1 b2 b3 v0 v1 v2 v3 W:=h
      clear hnd
      have HST:=aa h
      have hb0:=h.bel.size;obtain⟨g0,g1,g2,g3,g4,g5,gl⟩:=dT h.box
      intro K Q hK
      simp only [az,updAll,Act.put,aU,aV,aW,aX] at hK ⊢
      go_wp2_with (fail)
      all_goals(first | exact hK _ (by first | exact h | exact h.step (by repeat' (first | exact Below.refl _ _ | apply aI | apply bg))) | exact(by first | exact h | exact h.step (by repeat' (first | exact Below.refl _ _ | apply aI | apply bg))))
    case tail=>
     intro vsE W hlv h
     obtain⟨v0,v1,v2,v3,rfl⟩:=cK hlv
     replace h:cX w w.heap.size w.heap.size (.cells #[.int .i64 k,.int .i64 t,.int .i64 a,.int .i64 b,.string nm,.string ot] 29) (R3) ([ot.size]) (ot.data.toList.map UInt8.toNat) vq3 true true true true v0 v1 v2 v3 W:=h
     have HST:=aa h
     have P5:=aa h.fin
     refine eQ rfl rfl ?_
     simp only [az,updAll,Act.put,aU,aV,aW,aX]
     go_wp2_with fail
     exact bc (v:=v3) (by simp only [results,Tryz.results142];go_simp) rfl ⟨v3,rfl,by have h5:=P5.out;rw [← HR3.out,← HR2.out,← HR1.out] at h5;simpa only [List.append_assoc,List.cons_append,List.nil_append] using h5⟩
end
section
open Go.RowKit
theorem rA(n:Int)(i:Nat)(hf:fi n=some i)(x:Nat)(m:List Nat):(ge n x m).1 < prim i:=by
 have hp:=ja i
 unfold ge
 rw [hf]
 dsimp only
 split
 ·show 0 < _;omega
 ·split
  ·show 0 < _;omega
  ·exact fw (by omega) _ _
theorem xa(n:Int)(x:Nat)(m:List Nat):(ge n x m).1 < 2147483648:=by
 cases hf:fi n with
 | none=> unfold ge;rw [hf];show 0 < _;omega
 | some i=> have:=rA n i hf x m;have:=ja i;omega
theorem oU(n:Int)(x c:Nat)(a:Option Addr)(m:List Nat)(w:World)(hx:x < 18446744073709551616)(hB:mG m)(hlen:m.length≤2000)(hA:ew a m w):
  Calls Tryz.prog 143 #[.int .i64 n,.int .u64 x,.slice a m.length c] w fun e w'=> e=.returned (.tuple #[.int .u64 (ge n x m).1,.int .i64 (ge n x m).2])∧Below w.heap.size w w':=by
 unfold ge
 have CP:=aa (fun w=> jb n w)
 rcases jR n with⟨hn,hf⟩ | ⟨i,hi,rfl,hf⟩
 ·rw [hf] at CP ⊢
  dsimp only at CP ⊢
  clear hn hf
  go_enter Tryz.func143,Tryz.ntmps143
  go_wp2_with (go_at_call 108;refine(CP.out _).mono ?_;rintro e w1 ⟨rfl,rfl⟩)
  exact dP (v:=.tuple #[.int .u64 0,.int .i64 2]) rfl rfl rfl ⟨rfl,(by repeat' (first | exact Below.refl _ _ | assumption | apply aI | apply bg | apply aK | (refine cB ?_ ?_ _) | (refine ai ?_ (by assumption)) | omega | (simp <;> omega)))⟩
 ·rw [hf] at CP ⊢
  dsimp only at CP ⊢
  have hp:=ja i
  have HA:=aa hA
  have HD:=aa (fun(h4:x < prim i)=> sum_any i hi x c a m w h4 hB hlen hA)
  clear hA hf hi
  generalize dig (prim i) (i+1) x m=D at*
  generalize prim i=P at*
  have hpz:(P:Int)≠0:=by omega
  by_cases h1:1000 < m.length
  ·rw [aG h1]
   have h1':1000 < (m.length:Int):=by omega
   clear HD
   generalize m.length=L at*
   go_enter Tryz.func143,Tryz.ntmps143
   go_wp2_with (go_at_call 108;refine(CP.out _).mono ?_;rintro e w1 ⟨rfl,rfl⟩)
   exact dP (v:=.tuple #[.int .u64 0,.int .i64 7]) rfl rfl rfl ⟨rfl,(by repeat' (first | exact Below.refl _ _ | assumption | apply aI | apply bg | apply aK | (refine cB ?_ ?_ _) | (refine ai ?_ (by assumption)) | omega | (simp <;> omega)))⟩
  ·rw [aA h1]
   have h1':(m.length:Int)≤1000:=by omega
   by_cases h2:x < 1∨P≤x
   ·rw [aG h2]
    have h2':(x:Int) < 1∨(1≤(x:Int)∧(P:Int)≤x):=by omega
    clear h2 h1 HD
    rcases h2' with h2 | ⟨h2,h3⟩
    all_goals
     go_enter Tryz.func143,Tryz.ntmps143
     go_wp2_with (go_at_call 108;refine(CP.out _).mono ?_;rintro e w1 ⟨rfl,rfl⟩)
     exact dP (v:=.tuple #[.int .u64 0,.int .i64 3]) rfl rfl rfl ⟨rfl,(by repeat' (first | exact Below.refl _ _ | assumption | apply aI | apply bg | apply aK | (refine cB ?_ ?_ _) | (refine ai ?_ (by assumption)) | omega | (simp <;> omega)))⟩
   ·rw [aA h2]
    have h2':1≤(x:Int):=by omega
    have h3:(x:Int) < P:=by omega
    have h4:x < P:=by omega
    clear h2 h1
    go_enter Tryz.func143,Tryz.ntmps143
    go_wp2_with (first | (go_at_call 108;refine(CP.out _).mono ?_;rintro e w1 ⟨rfl,rfl⟩) | (go_at_call 116;refine(HD.out h4).mono ?_;rintro e w2 ⟨rfl,hb2⟩))
    exact bc (v:=.tuple #[.int .u64 D,.int .i64 0]) (by simp only [results,Tryz.results143];go_simp) rfl ⟨rfl,(by repeat' (first | exact Below.refl _ _ | assumption | apply aI | apply bg | apply aK | (refine cB ?_ ?_ _) | (refine ai ?_ (by assumption)) | omega | (simp <;> omega)))⟩
theorem oV(n:Int)(x pad c:Nat)(a:Option Addr)(m:List Nat)(w:World)(hx:x < 18446744073709551616)(hpad:pad < 18446744073709551616)(hB:mG m)(hlen:m.length≤2000)(hA:ew a m w):
  Calls Tryz.prog 115 #[.int .i64 n,.int .u64 x,.int .u64 pad,.slice a m.length c] w fun e w'=> e=.returned (.tuple #[.int .u64 (um n x pad m).1,.int .i64 (um n x pad m).2])∧Below w.heap.size w w':=by
 have CD:=aa (fun W hA=> oU n x c a m W hx hB hlen hA)
 have CP:=aa (fun w=> jb n w)
 have HA:=aa hA
 have hbd:=xa n x m
 have hlt:∀ i,fi n=some i→(ge n x m).1 < prim i:=fun i hf=> rA n i hf x m
 have hnone:fi n=none→ge n x m=(0,2):=fun h=> by unfold ge;rw [h]
 unfold um
 clear hA
 rcases jR n with⟨hn,hf⟩ | ⟨i,hi,rfl,hf⟩
 ·rw [hf] at CP ⊢
  rw [hnone hf] at CD
  dsimp only at CD CP ⊢
  clear hn hf hnone hlt hbd
  go_enter Tryz.func115,Tryz.ntmps115
  go_wp2_with (go_at_call 143;refine(CD.out _ HA.out).mono ?_;rintro e w1 ⟨rfl,hb⟩)
  exact dP (v:=.tuple #[.int .u64 0,.int .i64 2]) rfl rfl rfl ⟨rfl,(by repeat' (first | exact Below.refl _ _ | assumption | apply aI | apply bg | apply aK | (refine cB ?_ ?_ _) | (refine ai ?_ (by assumption)) | omega | (simp <;> omega)))⟩
 ·rw [hf] at CP ⊢
  dsimp only at CP ⊢
  have hl:=hlt i hf
  have hp:=ja i
  clear hlt hnone hf
  generalize(ge (i:Int) x m).1=D at*
  generalize(ge (i:Int) x m).2=E at*
  generalize prim i=P at*
  by_cases h1:E≠0
  ·rw [aG h1]
   go_enter Tryz.func115,Tryz.ntmps115
   go_wp2_with (go_at_call 143;refine(CD.out _ HA.out).mono ?_;rintro e w1 ⟨rfl,hb⟩)
   exact bc (v:=.tuple #[.int .u64 0,.int .i64 E]) (by simp only [results,Tryz.results115];go_simp) rfl ⟨rfl,(by repeat' (first | exact Below.refl _ _ | assumption | apply aI | apply bg | apply aK | (refine cB ?_ ?_ _) | (refine ai ?_ (by assumption)) | omega | (simp <;> omega)))⟩
  ·rw [aA h1]
   have h1':E=0:=by omega
   subst h1'
   by_cases h2:P≤pad
   ·rw [aG h2]
    have h2':(P:Int)≤pad:=by omega
    go_enter Tryz.func115,Tryz.ntmps115
    go_wp2_with (first | (go_at_call 143;refine(CD.out _ HA.out).mono ?_;rintro e w1 ⟨rfl,hb⟩) | (go_at_call 108;refine(CP.out _).mono ?_;rintro e w2 ⟨rfl,rfl⟩))
    exact dP (v:=.tuple #[.int .u64 0,.int .i64 3]) rfl rfl rfl ⟨rfl,(by repeat' (first | exact Below.refl _ _ | assumption | apply aI | apply bg | apply aK | (refine cB ?_ ?_ _) | (refine ai ?_ (by assumption)) | omega | (simp <;> omega)))⟩
   ·rw [aA h2]
    have h2':(pad:Int) < P:=by omega
    have hpz:(P:Int)≠0:=by omega
    go_enter Tryz.func115,Tryz.ntmps115
    go_wp2_with (first | (go_at_call 143;refine(CD.out _ HA.out).mono ?_;rintro e w1 ⟨rfl,hb⟩) | (go_at_call 108;refine(CP.out _).mono ?_;rintro e w2 ⟨rfl,rfl⟩))
    exact bc (v:=.tuple #[.int .u64 (((D:Int)+pad) % P),.int .i64 0]) (by simp only [results,Tryz.results115];go_simp) rfl ⟨rfl,(by repeat' (first | exact Below.refl _ _ | assumption | apply aI | apply bg | apply aK | (refine cB ?_ ?_ _) | (refine ai ?_ (by assumption)) | omega | (simp <;> omega)))⟩
end
section
open Go.RowKit Mr
theorem xc(e:bQ)(w:World)(hok:eC e=true)(h1:e.2.2.2.2.1.size≤100∧e.2.2.2.2.2.size≤100):
  Calls Tryz.prog 142 #[kZ e] w fun en w'=> ∃ v,en=.returned v∧w'.ownsRow w.heap.size 5 1 v (jw e).length (dw (jw e))∧Below w.heap.size w w':=by
 obtain⟨k,t,a,b,nm,ot⟩:=e
 change gy k t a b nm ot=true at hok
 obtain⟨he,-,-⟩:=jv hok
 have q1:=he.k;have q2:=he.t;have q3:=he.a;have q4:=he.b
 unfold tq at q1 q2 q3 q4
 dsimp only at q1 q2 q3 q4 h1
 obtain⟨k,rfl⟩:=Int.eq_ofNat_of_zero_le (show 0≤k by omega)
 obtain⟨t,rfl⟩:=Int.eq_ofNat_of_zero_le (show 0≤t by omega)
 obtain⟨a,rfl⟩:=Int.eq_ofNat_of_zero_le (show 0≤a by omega)
 obtain⟨b,rfl⟩:=Int.eq_ofNat_of_zero_le (show 0≤b by omega)
 refine(vc k t a b nm ot w (by omega) (by omega) (by omega) (by omega) h1.1 h1.2).mono fun en w' h=> ?_
 obtain⟨v,rfl,L,hm,-⟩:=h
 have ho:=hm.own 0 _ rfl
 have e:(k::(b8 t++(b8 a++(b8 b++(nm.size::(nm.data.toList.map UInt8.toNat++(ot.size::ot.data.toList.map UInt8.toNat)))))):List Nat)=jw ((k:Int),(t:Int),(a:Int),(b:Int),nm,ot):=by
  show _=fH (tq k t a b nm ot)
  unfold fH tq
  simp
  try exact⟨rfl,rfl⟩
 rw [e] at ho
 exact⟨v,rfl,ho,hm.bel⟩
def f3(x y z:Option Rw):Nat→Option Rw:=fun s=> if s=0 then x else if s=1 then y else if s=2 then z else none
theorem yT {x y z q:Option Rw} (s:Nat):f3 q y z s=gn (f3 x y z) 0 q s:=by
 unfold gn f3;by_cases h:s=0
 ·rw [aG h,aG h]
 ·rw [aA h,aA h,aA h]
theorem AE {x y z q:Option Rw} (s:Nat):f3 x q z s=gn (f3 x y z) 1 q s:=by
 unfold gn f3;by_cases h:s=1
 ·subst h;rfl
 ·rw [aA h,aA h,aA h]
theorem AG {x y z q:Option Rw} (s:Nat):f3 x y q s=gn (f3 x y z) 2 q s:=by
 unfold gn f3;by_cases h:s=2
 ·subst h;rfl
 ·rw [aA h,aA h,aA h]
structure dx(w:World)(R A:List Nat)(C:Nat)(b0 b1 b2 b3 b4 b5:Bool)(v0 v1 v2 v3 v4 v5:Value)(W:World):Prop where
 mr:MR w w.heap.size (fun _=> none) (f3 (ro b4 (yR v4 (R++A++[C])) (ro b2 (yR v2 (R++A)) (ro b0 (yR v0 R) none))) (ro b1 (yR v1 A) none) (ro b3 (yR v3 [C]) none)) W
 i2:b2=true→b0=true∧b1=true
 i4:b4=true→b2=true∧b3=true
 i5:b5=true→b4=true
 e5:b5=true→v5=v4
section
variable {w W w2:World} {R A:List Nat} {C:Nat} {b0 b1 b2 b3 b4 b5:Bool} {v0 v1 v2 v3 v4 v5 v:Value}
theorem fN {x:Bool} (h:x=true→False):x=false:=by cases x <;> simp at h ⊢
theorem dx.n0(h:dx w R A C false b1 b2 b3 b4 b5 v0 v1 v2 v3 v4 v5 W):b2=false∧b4=false∧b5=false:=by
 have h2:b2=false:=fN fun c=> by have:=(h.i2 c).1;cases this
 have h4:b4=false:=fN fun c=> by have:=(h.i4 c).1;rw [h2] at this;cases this
 exact⟨h2,h4,fN fun c=> by have:=h.i5 c;rw [h4] at this;cases this⟩
theorem dx.n1(h:dx w R A C b0 false b2 b3 b4 b5 v0 v1 v2 v3 v4 v5 W):b2=false∧b4=false∧b5=false:=by
 have h2:b2=false:=fN fun c=> by have:=(h.i2 c).2;cases this
 have h4:b4=false:=fN fun c=> by have:=(h.i4 c).1;rw [h2] at this;cases this
 exact⟨h2,h4,fN fun c=> by have:=h.i5 c;rw [h4] at this;cases this⟩
theorem dx.n2(h:dx w R A C b0 b1 false b3 b4 b5 v0 v1 v2 v3 v4 v5 W):b4=false∧b5=false:=by
 have h4:b4=false:=fN fun c=> by have:=(h.i4 c).1;cases this
 exact⟨h4,fN fun c=> by have:=h.i5 c;rw [h4] at this;cases this⟩
theorem dx.n3(h:dx w R A C b0 b1 b2 false b4 b5 v0 v1 v2 v3 v4 v5 W):b4=false∧b5=false:=by
 have h4:b4=false:=fN fun c=> by have:=(h.i4 c).2;cases this
 exact⟨h4,fN fun c=> by have:=h.i5 c;rw [h4] at this;cases this⟩
theorem dx.n4(h:dx w R A C b0 b1 b2 b3 false b5 v0 v1 v2 v3 v4 v5 W):b5=false:=fN fun c=> by have:=h.i5 c;cases this
theorem dx.step(h:dx w R A C b0 b1 b2 b3 b4 b5 v0 v1 v2 v3 v4 v5 W)(hb:Below W.heap.size W w2):dx w R A C b0 b1 b2 b3 b4 b5 v0 v1 v2 v3 v4 v5 w2:=⟨h.mr.step hb,h.i2,h.i4,h.i5,h.e5⟩
theorem xe {B g E sz n:Nat} {cs:List Value} (h:w2.heap[g]? =some (.cells cs.toArray E (0,0)))(hc:cs.length=n*sz)(hn:n≤maxLen)(hB:B≤g):w2.ownsRow B E sz (.slice (some ⟨g,0,none⟩) n n) n cs:=
 ⟨by rw [hc],ay ⟨g,n,cs.toArray,rfl,hB,h,bz _,hn,by simpa using hc,by rw [← hc];simp⟩⟩
theorem dx.mk0(h:dx w R A C false b1 false b3 false false v0 v1 v2 v3 v4 v5 W)(hb:Below W.heap.size W w2)(ho:w2.ownsRow W.heap.size 5 1 v R.length (dw R)):dx w R A C true b1 false b3 false false v v1 v2 v3 v4 v5 w2:=
 ⟨(h.mr.call (r:=yR v R) 0 hb ho).congr (yT (x:=none)),(fun e=> by cases e),h.i4,h.i5,h.e5⟩
theorem dx.mk1(h:dx w R A C b0 false false b3 false false v0 v1 v2 v3 v4 v5 W)(hb:Below W.heap.size W w2)(ho:w2.ownsRow W.heap.size 5 1 v A.length (dw A)):dx w R A C b0 true false b3 false false v0 v v2 v3 v4 v5 w2:=
 ⟨(h.mr.call (r:=yR v A) 1 hb ho).congr (AE (y:=none)),(fun e=> by cases e),h.i4,h.i5,h.e5⟩
theorem dx.mk3(h:dx w R A C b0 b1 b2 false false false v0 v1 v2 v3 v4 v5 W):dx w R A C b0 b1 b2 true false false v0 v1 v2 (.slice (some ⟨W.heap.size,0,none⟩) 1 1) v4 v5 (W.alloc (.cells #[.int .u8 (C:Int)] 5)):=
 ⟨(h.mr.fresh 2 #[.int .u8 (C:Int)] 5 1 1 (by unfold maxLen;omega) rfl).congr (AG (z:=none)),h.i2,(fun e=> by cases e),h.i5,h.e5⟩
theorem ye {B:Nat} {L:Nat→Option Obj} {f:Nat→Option Rw} {s t:Nat} {R A:List Nat} {v p:Value} {o:Oper} {a:Act} {K:Act→World→Prop} {Q:Exit→Act→World→Prop} (h:MR w B L f W)(hs:f s=some (yR v R))(hp:f t=some (yR p A))
  (x y:Operand) (ho:o.op=.call { callee:=.builtin .append,args:=#[x,y],argTypes:=#[88,88] }) (hx:a.eval x=v) (hy:a.eval y=p) (hl:R.length+A.length≤1000000)
  (hK:∀ v' W',MR w B L (gn f s (some (yR v' (R++A)))) W'→K (a.put o.dst v') W'):o.wp Tryz.prog a W K Q:=by
 obtain⟨i0,hi,hz0,hz1,hz2⟩:=info_parts rc
 obtain⟨ad,c,e1,e2⟩:=Rw.Own.get (h.own t _ hp)
 dsimp only [yR] at e1 e2
 subst e1
 refine fc (P:=Tryz.prog) W x y 88 ho B 5 i0 (.int .u8 0) 1 1 Tryz.underlying88 hi hz0 hz1 hz2 rfl (by decide) v R.length (dw R) hx (h.own s _ hs) ad A.length c (dw A) hy (by rw [j5];omega) (fun hn=> ?_) (jT A) (by unfold maxLen;omega) (by omega) h.sz fun v' W' q1 q2 q3=> hK v' W' ?_
 ·obtain⟨g,rfl,-,hc⟩:=e2 hn
  exact⟨g,0,rfl,fun j u hj=> by rw [Nat.zero_add];exact hc j u hj⟩
 ·refine h.app s (r:=yR v R) (r':=yR v' (R++A)) hs ?_ q2 q3
  show W'.ownsRow B 5 1 v' (R++A).length (dw (R++A))
  rw [cY,lg]
  exact q1
theorem dx.app2 {o:Oper} {a:Act} {K:Act→World→Prop} {Q:Exit→Act→World→Prop} (h:dx w R A C true true false b3 false false v0 v1 v2 v3 v4 v5 W)(hl:R.length+A.length≤1000000)
  (x y:Operand) (ho:o.op=.call { callee:=.builtin .append,args:=#[x,y],argTypes:=#[88,88] }) (hx:a.eval x=v0) (hy:a.eval y=v1)
  (hK:∀ v' W',dx w R A C true true true b3 false false v0 v1 v' v3 v4 v5 W'→K (a.put o.dst v') W'):o.wp Tryz.prog a W K Q:=
 ye (s:=0) (t:=1) h.mr rfl rfl x y ho hx hy hl fun v' W' k=> hK v' W' ⟨k.congr (yT (x:=some (yR v0 R))),(fun _=> ⟨rfl,rfl⟩),(fun e=> by cases e),h.i5,h.e5⟩
theorem dx.app4 {o:Oper} {a:Act} {K:Act→World→Prop} {Q:Exit→Act→World→Prop} (h:dx w R A C b0 b1 true true false false v0 v1 v2 v3 v4 v5 W)(hl:R.length+A.length≤100000)
  (x y:Operand) (ho:o.op=.call { callee:=.builtin .append,args:=#[x,y],argTypes:=#[88,88] }) (hx:a.eval x=v2) (hy:a.eval y=v3)
  (hK:∀ v' W',dx w R A C b0 b1 true true true false v0 v1 v2 v3 v' v5 W'→K (a.put o.dst v') W'):o.wp Tryz.prog a W K Q:=
 ye (s:=0) (t:=2) h.mr rfl rfl x y ho hx hy (by rw [cY,List.length_singleton];omega) fun v' W' k=> hK v' W' ⟨k.congr (yT (x:=some (yR v2 (R++A)))),h.i2,(fun _=> ⟨rfl,rfl⟩),(fun e=> by cases e),(fun e=> by cases e)⟩
theorem dx.mk5(h:dx w R A C b0 b1 b2 b3 true false v0 v1 v2 v3 v4 v5 W):dx w R A C b0 b1 b2 b3 true true v0 v1 v2 v3 v4 v4 W:=⟨h.mr,h.i2,h.i4,(fun _=> rfl),fun _=> rfl⟩
theorem dx.fin(h:dx w R A C b0 b1 b2 b3 true true v0 v1 v2 v3 v4 v5 W):v5=v4∧W.ownsRow w.heap.size 5 1 v4 (R++A++[C]).length (dw (R++A++[C]))∧Below w.heap.size w W:=⟨h.e5 rfl,h.mr.own 0 _ rfl,h.mr.bel⟩
theorem dx.start(h:Below w.heap.size w W):dx w R A C false false false false false false v0 v1 v2 v3 v4 v5 W:=
 ⟨(MR.start (bz _) h h.size (fun p o e=> by cases e)).congr fun s=> by unfold f3 ro;simp,(fun e=> by cases e),(fun e=> by cases e),(fun e=> by cases e),(fun e=> by cases e)⟩
end
theorem kR(head by_:Nat)(e:bQ)(w:World)(hh:head < 18446744073709551616)(hok:eC e=true)(h1:e.2.2.2.2.1.size≤100∧e.2.2.2.2.2.size≤100):
  Calls Tryz.prog 114 #[.int .u64 (head:Int),kZ e,.int .i64 (by_:Int)] w fun en w'=> ∃ v,en=.returned v∧w'.ownsRow w.heap.size 5 1 v (eP head e by_).length (dw (eP head e by_))∧Below w.heap.size w w':=by
 have CR:=aa (fun W=> xc e W hok h1)
 have CB:=aa (fun W=> rl head 4 hh (by decide) (by decide) W)
 have HML:=aa (jU e hok h1)
 obtain⟨k,t,a,b,nm,ot⟩:=e
 have HME:Hid (eP head (k,t,a,b,nm,ot) by_=cG head 4++jw (k,t,a,b,nm,ot)++[by_ % 256]):=rfl
 replace CR:Hid (∀ W,Calls Tryz.prog 142 #[.agg #[.int .i64 k,.int .i64 t,.int .i64 a,.int .i64 b,.string nm,.string ot]] W fun en w'=> ∃ v,en=.returned v∧w'.ownsRow W.heap.size 5 1 v (jw (k,t,a,b,nm,ot)).length (dw (jw (k,t,a,b,nm,ot)))∧Below W.heap.size W w'):=CR
 have HX:=aa (au w (.cells #[.int .i64 k,.int .i64 t,.int .i64 a,.int .i64 b,.string nm,.string ot] 29))
 have HB0:=aa (bU (W:=w) (o:=.cells #[.int .i64 k,.int .i64 t,.int .i64 a,.int .i64 b,.string nm,.string ot] 29))
 have hw8:=kx by_
 change Calls Tryz.prog 114 #[.int .u64 (head:Int),.agg #[.int .i64 k,.int .i64 t,.int .i64 a,.int .i64 b,.string nm,.string ot],.int .i64 (by_:Int)] w _
 generalize hA:jw (k,t,a,b,nm,ot)=A at*
 generalize hC:by_ % 256=C at*
 clear hA hC hok h1 hh
 go_enter Tryz.func114,Tryz.ntmps114
 go_upto_region 1 with fail
 generalize w.alloc (.cells #[.int .i64 k,.int .i64 t,.int .i64 a,.int .i64 b,.string nm,.string ot] 29)=w0 at*
 refine bo 10 7 16 [(1,8),(3,10),(4,11),(7,14),(8,15),(9,6)] [(none,[]),(some 0,[]),(none,[]),(some 1,[]),(some 2,[0,1]),(none,[]),(none,[]),(some 3,[]),(some 4,[2,3]),(some 5,[4])] [(7,(.int .u64 (head:Int))),(9,(.agg #[.int .i64 k,.int .i64 t,.int .i64 a,.int .i64 b,.string nm,.string ot])),(12,(.int .i64 (by_:Int))),(13,(.int .u8 (C:Int)))] (fun bsE vsE W=> dx w0 (cG head 4) A C (bsE.getD 0 false) (bsE.getD 1 false) (bsE.getD 2 false) (bsE.getD 3 false) (bsE.getD 4 false) (bsE.getD 5 false) ((vsE.getD 0 undef)) ((vsE.getD 1 undef)) ((vsE.getD 2 undef)) ((vsE.getD 3 undef)) ((vsE.getD 4 undef)) ((vsE.getD 5 undef)) W) (by kernel_rfl) (by kernel_rfl) rfl rfl (by kernel_rfl) (by rfl) ?h0 ?each ?done
 case h0=>
  intro vsE hlv
  obtain⟨v0,v1,v2,v3,v4,v5,rfl⟩:=jl hlv
  exact dx.start (Below.refl _ _).drew
 case each=>
  simp only [dp]
  refine⟨⟨7,(.int .u64 (head:Int)),rfl,by kernel_rfl,?_⟩,ax ⟨8,rfl,?q1_1⟩,⟨9,(.agg #[.int .i64 k,.int .i64 t,.int .i64 a,.int .i64 b,.string nm,.string ot]),rfl,by kernel_rfl,?_⟩,ax ⟨10,rfl,?q1_3⟩,ax ⟨11,rfl,?q1_4⟩,⟨12,(.int .i64 (by_:Int)),rfl,by kernel_rfl,?_⟩,⟨13,(.int .u8 (C:Int)),rfl,by kernel_rfl,?_⟩,ax ⟨14,rfl,?q1_7⟩,ax ⟨15,rfl,?q1_8⟩,ax ⟨6,rfl,?q1_9⟩,trivial⟩
  case q1_1=>
   intro bsE vsE W hlb hlv hnd hbk h
   obtain⟨b0,b1,b2,b3,b4,b5,rfl⟩:=jl hlb
   obtain⟨v0,v1,v2,v3,v4,v5,rfl⟩:=jl hlv
   obtain rfl:b0=false:=hbk
   replace h:dx w0 (cG head 4) A C false b1 b2 b3 b4 b5 (v0) (v1) (v2) (v3) (v4) (v5) W:=h
   clear hnd
   have HST:=aa h
   obtain⟨rfl,rfl,rfl⟩:=h.n0;skip
   intro K Q hK
   simp only [az,updAll,Act.put,aU,aV,aW,aX] at hK ⊢
   go_wp2_with (go_at_call 141;refine(CB.out _).mono ?_;rintro e w1 ⟨rfl,hp,hb1⟩)
   all_goals(have hm:=h.mk0 hb1 (by rw [dq];exact xe hp (by rw [j5,dq]) (by unfold maxLen;omega) (bz _)))
   all_goals(first | exact hK _ _ hm | exact hm)
  case q1_3=>
   intro bsE vsE W hlb hlv hnd hbk h
   obtain⟨b0,b1,b2,b3,b4,b5,rfl⟩:=jl hlb
   obtain⟨v0,v1,v2,v3,v4,v5,rfl⟩:=jl hlv
   obtain rfl:b1=false:=hbk
   replace h:dx w0 (cG head 4) A C b0 false b2 b3 b4 b5 (v0) (v1) (v2) (v3) (v4) (v5) W:=h
   clear hnd
   have HST:=aa h
   obtain⟨rfl,rfl,rfl⟩:=h.n1;skip
   intro K Q hK
   simp only [az,updAll,Act.put,aU,aV,aW,aX] at hK ⊢
   go_wp2_with (go_at_call 142;refine(CR.out _).mono ?_;rintro e w1 ⟨vq,rfl,hp,hb1⟩)
   all_goals(have hm:=h.mk1 hb1 hp)
   all_goals(first | exact hK _ _ hm | exact hm)
  case q1_4=>
   intro bsE vsE W hlb hlv hnd hbk h
   obtain⟨b0,b1,b2,b3,b4,b5,rfl⟩:=jl hlb
   obtain⟨v0,v1,v2,v3,v4,v5,rfl⟩:=jl hlv
   obtain rfl:b0=true:=hnd 0 (by simp)
   obtain rfl:b1=true:=hnd 1 (by simp)
   obtain rfl:b2=false:=hbk
   replace h:dx w0 (cG head 4) A C true true false b3 b4 b5 (v0) (v1) (v2) (v3) (v4) (v5) W:=h
   clear hnd
   have HST:=aa h
   obtain⟨rfl,rfl⟩:=h.n2
   intro K Q hK
   simp only [az,updAll,Act.put,aU,aV,aW,aX] at hK ⊢
   refine h.app2 (by rw [dq];have:=HML.out;omega) (.tmp 8) (.tmp 10) rfl rfl rfl ?_
   intro v' W' k9
   first | exact hK _ _ k9 | exact k9
  case q1_7=>
   intro bsE vsE W hlb hlv hnd hbk h
   obtain⟨b0,b1,b2,b3,b4,b5,rfl⟩:=jl hlb
   obtain⟨v0,v1,v2,v3,v4,v5,rfl⟩:=jl hlv
   obtain rfl:b3=false:=hbk
   replace h:dx w0 (cG head 4) A C b0 b1 b2 false b4 b5 (v0) (v1) (v2) (v3) (v4) (v5) W:=h
   clear hnd
   have HST:=aa h
   obtain⟨rfl,rfl⟩:=h.n3
   intro K Q hK
   simp only [az,updAll,Act.put,aU,aV,aW,aX] at hK ⊢
   go_wp2_with fail
   all_goals(have hm:=h.mk3)
   all_goals(first | exact hK _ _ hm | exact hm)
  case q1_8=>
   intro bsE vsE W hlb hlv hnd hbk h
   obtain⟨b0,b1,b2,b3,b4,b5,rfl⟩:=jl hlb
   obtain⟨v0,v1,v2,v3,v4,v5,rfl⟩:=jl hlv
   obtain rfl:b2=true:=hnd 2 (by simp)
   obtain rfl:b3=true:=hnd 3 (by simp)
   obtain rfl:b4=false:=hbk
   replace h:dx w0 (cG head 4) A C b0 b1 true true false b5 (v0) (v1) (v2) (v3) (v4) (v5) W:=h
   clear hnd
   have HST:=aa h
   obtain rfl:=h.n4
   intro K Q hK
   simp only [az,updAll,Act.put,aU,aV,aW,aX] at hK ⊢
   refine h.app4 (by rw [dq];have:=HML.out;omega) (.tmp 11) (.tmp 14) rfl rfl rfl ?_
   intro v' W' k9
   first | exact hK _ _ k9 | exact k9
  case q1_9=>
   intro bsE vsE W hlb hlv hnd hbk h
   obtain⟨b0,b1,b2,b3,b4,b5,rfl⟩:=jl hlb
   obtain⟨v0,v1,v2,v3,v4,v5,rfl⟩:=jl hlv
   obtain rfl:b4=true:=hnd 4 (by simp)
   obtain rfl:b5=false:=hbk
   replace h:dx w0 (cG head 4) A C b0 b1 b2 b3 true false (v0) (v1) (v2) (v3) (v4) (v5) W:=h
   clear hnd
   have HST:=aa h
   skip
   intro K Q hK
   simp only [az,updAll,Act.put,aU,aV,aW,aX] at hK ⊢
   go_wp2_with fail
   all_goals(have hm:=h.mk5)
   all_goals(first | exact hK _ _ hm | exact hm)
  all_goals
   intro bsE vsE W hlb hlv hnd h
   obtain⟨b0,b1,b2,b3,b4,b5,rfl⟩:=jl hlb
   obtain⟨v0,v1,v2,v3,v4,v5,rfl⟩:=jl hlv
   replace h:dx w0 (cG head 4) A C b0 b1 b2 b3 b4 b5 (v0) (v1) (v2) (v3) (v4) (v5) W:=h
   clear hnd
   have HST:=aa h
   have HBX:=aa (an HX.out h.mr.bel);obtain⟨x0,x1,x2,x3,x4,x5⟩:=bG HBX.out;have xl:=ak HBX.out
   intro K Q hK
   simp only [az,updAll,Act.put,aU,aV,aW,aX] at hK ⊢
   go_wp2_with (fail)
   all_goals(first | exact hK _ h | exact h)
 case done=>
  intro vsE W hlv h
  obtain⟨v0,v1,v2,v3,v4,v5,rfl⟩:=jl hlv
  replace h:dx w0 (cG head 4) A C true true true true true true (v0) (v1) (v2) (v3) (v4) (v5) W:=h
  have HST:=aa h
  obtain⟨e9,ho9,hb9⟩:=h.fin
  clear HST h
  subst e9
  have HF:=aa (ba ho9 hb9)
  clear ho9 hb9
  simp only [az,updAll,Act.put,aU,aV,aW,aX]
  go_wp2_with fail
  exact bc (v:=v5) (by simp only [results,Tryz.results114];go_simp) rfl ⟨v5,rfl,by rw [HME.out];exact own_base HF.out.1 HB0.out.size,ai HB0.out HF.out.2⟩
end
section
open Sx Go.RowKit Mr
theorem kS(name:ByteArray):mG (name.data.toList.map UInt8.toNat):=fun k=> by
 rw [di,bX]
 cases h:name.data.toList[k]? with
 | none=> decide
 | some b=> exact b.toNat_lt
theorem iR(name:ByteArray):(name.data.toList.map UInt8.toNat).length=name.size:=by rw [List.length_map,Array.length_toList];rfl
theorem nk(name:ByteArray)(cap:Nat)(W:World){fr:Nat×Nat}:ew (some ⟨W.heap.size,0,none⟩) (name.data.toList.map UInt8.toNat) (W.alloc (.cells (bytesRow name cap) 5 fr)):=fun _=> by
 refine⟨W.heap.size,0,rfl,by simp,fun k hk=> ?_⟩
 have hk2:k < name.data.size:=by rw [iR] at hk;exact hk
 rw [Nat.zero_add,World.cell?_alloc_mark,bytesRow_at _ _ _ hk2,di,bX,bh (by simpa using hk2)]
 simp
theorem vd {w4 w5:World} {o:Obj} (h:Below ((w4.alloc o).drew).heap.size ((w4.alloc o).drew) w5):Below w4.heap.size w4 w5:=ai (bU (W:=w4) (o:=o)).drew h
theorem vf {W:World} {a:Option Addr} {m:List Nat} (h:ew a m W):ew a m W.drew:=h.step (Below.refl _ _).drew
end
section
open Go.RowKit Mr
theorem vg {x pad:Nat} {M:List Nat} (h1:1≤x)(h2:x < P31)(h3:pad < P31)(h4:M.length≤1000):um 2 x pad M=((headD x M+pad) % P31,0):=by
 have hf:fi 2=some 2:=rfl
 have hp:prim 2=P31:=rfl
 have hd:ge 2 x M=(headD x M,0):=by
  unfold ge
  rw [hf]
  dsimp only
  rw [aA (by omega),hp,aA (by omega)]
  rfl
 unfold um
 rw [hf,hd]
 dsimp only
 rw [aA (by simp),hp,aA (by omega)]
theorem rB {B:Nat} {v:Value} {M:List Nat} {W:World} (h:W.ownsRow B 5 1 v M.length (dw M))(hn:0 < M.length):∃ g c,v=.slice (some ⟨g,0,none⟩) M.length c∧B≤g∧g < W.heap.size∧ew (some ⟨g,0,none⟩) M W:=by
 obtain⟨a,c,rfl,hB⟩:=rk (by rw [j5];exact h)
 obtain⟨h1,h2⟩:=h
 rcases h2 with⟨h2,h3⟩ | ⟨g,cap,cur,q1,q2,q3,q4⟩
 ·omega
 ·injection q1 with e1 e2 e3
  subst e1
  exact⟨g,c,rfl,q2,ak q3,hB⟩
theorem nn(pt:Nat)(name:ByteArray):beginE pt name < P31:=fw (by decide) _ _
theorem lV(pt:Nat)(name:ByteArray)(w:World)(hpt:pt < P31)(hnm:name.size≤1000):Calls Tryz.prog 113 #[.int .u64 (pt:Int),.string name] w fun e w'=> e=.returned (.int .u64 (beginE pt name:Int))∧Below w.heap.size w w':=by
 have hconv:=run_bytes_of_string (P:=Tryz.prog) w 9 88 5 name Tryz.underlying9 Tryz.underlying88 Tryz.underlying5
 have HV:=aa (fun cap fr=> nk (fr:=fr) name cap w)
 have CS:=aa (fun W a cap (hA:ew a (name.data.toList.map UInt8.toNat) W)=> sum_any 2 (by decide) pt cap a (name.data.toList.map UInt8.toNat) W hpt (kS name) (by rw [iR];omega) hA)
 have hBE:dig (prim 2) (2+1) pt (name.data.toList.map UInt8.toNat)=beginE pt name:=rfl
 rw [hBE] at CS
 simp only [iR] at CS
 clear hBE
 go_enter Tryz.func113,Tryz.ntmps113
 go_wp2_with (go_at_call 116;refine(CS.out _ _ _ (vf (HV.out _ _))).mono ?_;rintro e w5 ⟨rfl,hb5⟩;have HB5:=aa (vd hb5);clear hb5)
 exact bc (v:=.int .u64 (beginE pt name:Int)) (by simp only [results,Tryz.results113];go_simp) rfl ⟨rfl,HB5.out⟩
theorem vh {ae:Option Addr} {es:List bR} {bks:List Bk} {w:World} (pt bb ob c cb n m pd:Nat)(name:ByteArray)(bk:Bk)(e:bQ)(hE:iP ae es w)(hB:dS (some ⟨bb,ob,none⟩) bks w)(hok:eC e=true)(hsz:e.2.2.2.2.1.size≤100∧e.2.2.2.2.2.size≤100)
  (hk:bks[n]? =some bk) (hpd:bk.2[m]? =some pd) (hpt:pt < P31) (hbp:1≤bk.1∧bk.1 < P31) (hp31:pd < P31) (hl:es.length≤1000000∧bks.length≤1000000∧bk.2.length≤1000000) (hnm:name.size≤1000) (hhd:∀ y∈es,y.2.2.2.1 < 18446744073709551616) (hn:es=[]):
  Calls Tryz.prog 52 #[.int .u64 (pt:Int),.slice (some ⟨bb,ob,none⟩) bks.length cb,.string name,.slice ae es.length c,kZ e,.int .i64 (n:Int),.int .i64 (m:Int)] w fun en w'=> en=.returned (dU (fg pt bks (headOf pt name es) e n m))∧Below w.heap.size w w':=by
 have CB:=aa (fun W=> lV pt name W hpt hnm)
 have hH:headOf pt name es < 18446744073709551616:=by
  unfold headOf
  cases hg:es.getLast? with
  | none=> have:=nn pt name;unfold P31 at this;dsimp only;omega
  | some y=> exact hhd y (List.mem_of_getLast? hg)
 have CM:=aa (fun W=> kR (headOf pt name es) n e W hH hok hsz)
 have HML:=aa (jU e hok hsz)
 have HBYT:=aa (lF e hok hsz)
 obtain⟨bb2,ob2,ebb,hbb,hbc⟩:=hB (by rintro rfl;cases hk)
 cases ebb
 obtain⟨s0,vp,s1,hpv⟩:=hbc n bk hk
 obtain⟨ap,cp,rfl,hpc⟩:=hpv
 obtain⟨bp,op,rfl,hbp2,hpd2⟩:=hpc (by intro e;rw [e] at hpd;cases hpd)
 have s2:=hpd2 m pd hpd
 have HSB:=aa (ba s0 (ba s1 s2))
 have hN:fg pt bks (headOf pt name es) e n m=(e,(n:Int),(m:Int),headD pt (eP (headOf pt name es) e n),(headD bk.1 (eP (headOf pt name es) e n)+pd) % P31):=by
  unfold fg
  rw [di,hk]
  simp only [Option.getD_some]
  rw [di,hpd]
  rfl
 have HN:=aa hN
 have k0:(0:Int)≤n:=by omega
 have k1:(n:Int) < bks.length:=by have:=(aB hk).1;omega
 have k1n:n < bks.length:=by have:=(aB hk).1;omega
 have k2:(0:Int)≤m:=by omega
 have k3:(m:Int) < bk.2.length:=by have:=(aB hpd).1;omega
 have k3n:m < bk.2.length:=by have:=(aB hpd).1;omega
 have HBP:=aa (ba hbp (ba hp31 hpt))
 obtain⟨k,t,a1,b1,nm,ot⟩:=e
 have HX:=aa (an (au w (.cells #[.int .i64 k,.int .i64 t,.int .i64 a1,.int .i64 b1,.string nm,.string ot] 29)) (bU (o:=(.cells #[.int .i64 0,.int .i64 0,.int .i64 0,.int .i64 0,.string ⟨#[]⟩,.string ⟨#[]⟩,.int .i64 0,.int .i64 0,.int .u64 0,.int .u64 0] 31))))
 have HZ:Hid (((w.alloc (.cells #[.int .i64 k,.int .i64 t,.int .i64 a1,.int .i64 b1,.string nm,.string ot] 29)).alloc (.cells #[.int .i64 0,.int .i64 0,.int .i64 0,.int .i64 0,.string ⟨#[]⟩,.string ⟨#[]⟩,.int .i64 0,.int .i64 0,.int .u64 0,.int .u64 0] 31)).heap[w.heap.size+1]? =some (.cells #[.int .i64 0,.int .i64 0,.int .i64 0,.int .i64 0,.string ⟨#[]⟩,.string ⟨#[]⟩,.int .i64 0,.int .i64 0,.int .u64 0,.int .u64 0] 31 (0,0))):=by
  have h:=au (w.alloc (.cells #[.int .i64 k,.int .i64 t,.int .i64 a1,.int .i64 b1,.string nm,.string ot] 29)) (.cells #[.int .i64 0,.int .i64 0,.int .i64 0,.int .i64 0,.string ⟨#[]⟩,.string ⟨#[]⟩,.int .i64 0,.int .i64 0,.int .u64 0,.int .u64 0] 31)
  rw [show(w.alloc (.cells #[.int .i64 k,.int .i64 t,.int .i64 a1,.int .i64 b1,.string nm,.string ot] 29)).heap.size=w.heap.size+1 by simp] at h
  exact h
 have HB0:Hid (Below w.heap.size w ((w.alloc (.cells #[.int .i64 k,.int .i64 t,.int .i64 a1,.int .i64 b1,.string nm,.string ot] 29)).alloc (.cells #[.int .i64 0,.int .i64 0,.int .i64 0,.int .i64 0,.string ⟨#[]⟩,.string ⟨#[]⟩,.int .i64 0,.int .i64 0,.int .u64 0,.int .u64 0] 31))):=aK bU _
 subst hn
 have HHD:Hid (headOf pt name []=beginE pt name):=rfl
 change Calls Tryz.prog 52 #[.int .u64 (pt:Int),.slice (some ⟨bb,ob,none⟩) bks.length cb,.string name,.slice ae ([]:List bR).length c,.agg #[.int .i64 k,.int .i64 t,.int .i64 a1,.int .i64 b1,.string nm,.string ot],.int .i64 (n:Int),.int .i64 (m:Int)] w _
 replace CM:Hid (∀ W,Calls Tryz.prog 114 #[.int .u64 (headOf pt name []:Int),.agg #[.int .i64 k,.int .i64 t,.int .i64 a1,.int .i64 b1,.string nm,.string ot],.int .i64 (n:Int)] W fun en w'=> ∃ v,en=.returned v∧w'.ownsRow W.heap.size 5 1 v (eP (headOf pt name []) (k,t,a1,b1,nm,ot) n).length (dw (eP (headOf pt name []) (k,t,a1,b1,nm,ot) n))∧Below W.heap.size W w'):=CM
 have HMN:Hid (mG (eP (headOf pt name []) (k,t,a1,b1,nm,ot) n)∧(eP (headOf pt name []) (k,t,a1,b1,nm,ot) n).length≤1000∧0 < (eP (headOf pt name []) (k,t,a1,b1,nm,ot) n).length):=⟨pP HBYT.out,by unfold eP;have:=HML.out;rw [cY,cY,dq];simp;omega,by unfold eP;rw [cY,cY,dq];omega⟩
 clear hN hbp hp31 hpt hhd hH hE hB hok hsz hk hpd s0 s1 s2 hbc hpc hpd2 hbb hbp2 hl hnm HBYT HML
 generalize hM:eP (headOf pt name []) (k,t,a1,b1,nm,ot) n=M at*
 clear hM
 go_enter Tryz.func52,Tryz.ntmps52
 rw [show beginE pt name=headOf pt name [] from rfl] at CB
 generalize headOf pt name []=H at*
 go_upto_region 4 with(go_at_call 113;refine(CB.out _).mono ?_;rintro e w1 ⟨rfl,hb1⟩;have HW1:=aa (ai HB0.out hb1);have HXS:=aa hb1;clear hb1)
 have HX1:=aa (an HX.out HXS.out)
 have HZ1:=aa (an HZ.out HXS.out)
 have HXG:=aa (ak HZ1.out)
 obtain⟨u0,u1,u2,u3,u4,u5⟩:=bG HX1.out
 have ul:=ak HX1.out
 clear HX HZ HXS
 go_upto_region 5 with(go_at_call 114;refine(CM.out _).mono ?_;rintro e w2 ⟨v2,rfl,ho2,hb2⟩;obtain⟨g7,c7,rfl,hg7,hg8,hB7⟩:=rB ho2 HMN.out.2.2;have HGG:=aa (ba hg7 hg8);have HBV:=aa hB7;have HXS:=aa hb2;clear ho2 hg7 hg8 hB7 hb2)
 have HX2:=aa (an HX1.out HXS.out)
 have HZ2:=aa (an HZ1.out HXS.out)
 have HW2:=aa (ai HW1.out HXS.out)
 clear u0 u1 u2 u3 u4 u5 ul HX1 HZ1
 have s0:∀ s:aC w2,s.1.cell? ⟨bb,ob+n*2,none⟩=some (.int .u64 (bk.1:Int)):=fun s=> ag HSB.out.1 (ai HW2.out s.2)
 have s1:∀ s:aC w2,s.1.cell? ⟨bb,ob+n*2+1,none⟩=some (.slice (some ⟨bp,op,none⟩) bk.2.length cp):=fun s=> ag HSB.out.2.1 (ai HW2.out s.2)
 have s2:∀ s:aC w2,s.1.cell? ⟨bp,op+m,none⟩=some (.int .u64 (pd:Int)):=fun s=> ag HSB.out.2.2 (ai HW2.out s.2)
 have CT:=aa (fun s:aC w2=> dy s (oV 2 bk.1 pd c7 (some ⟨g7,0,none⟩) M s.1 (by have:=HBP.out.1.2;unfold P31 at this;omega) (by have:=HBP.out.2.1;unfold P31 at this;omega) HMN.out.1 (by have:=HMN.out.2.1;omega) (HBV.out.step s.2)))
 rw [vg HBP.out.1.1 HBP.out.1.2 HBP.out.2.1 HMN.out.2.1] at CT
 dsimp only at CT
 have CS:=aa (fun W hA=> sum_any 2 (by decide) pt c7 (some ⟨g7,0,none⟩) M W HBP.out.2.2 HMN.out.1 (by have:=HMN.out.2.1;omega) hA)
 rw [show dig (prim 2) (2+1) pt M=headD pt M from rfl] at CS
 generalize(headD bk.1 M+pd) % P31=D3 at*
 generalize headD pt M=D1 at*
 refine aF (by kernel_rfl) (by kernel_rfl) ?_
 repeat(first | (refine WQ.skip rfl rfl rfl rfl ?_;simp only [Act.put,aU,aV,aW,aX]) | ((first | (apply WQ.val;(exact rfl)) | (apply WQ.valg;(exact rfl);(exact rfl);(exact rfl)));(intro w9 hw9;obtain⟨s9,rfl⟩:=hw9;simp [go_sem,s0,s1,s2,k0,k1,k1n,k2,k3,k3n];first | done | exact rfl | (with_reducible exact CT.out s9));simp only [Act.put,aU,aV,aW,aX]))
 refine WQ.fin fun w8 hw8=> ?_
 go_upto_region 6 with fail
 have HEV:=aa (an HX2.out hw8)
 have HZ8:=aa (an HZ2.out hw8)
 have HX8:=aa (ai HW2.out hw8)
 have HBT:=aa (HBV.out.step hw8)
 have HGN:Hid (g7≠w.heap.size+1∧w.heap.size≠w.heap.size+1):=⟨by have:=HGG.out.1;have:=HW1.out.size;have:=HB0.out.size;have h9:=ak HZ2.out;have:=HXG.out;omega,by omega⟩
 clear s0 s1 s2 CT k0 k1 k1n k2 k3 k3n hw8
 refine bo 9 20 62 [(8,62)] [(none,[]),(none,[]),(none,[]),(none,[]),(none,[]),(none,[]),(none,[]),(none,[]),(some 0,[])] [(54,(.agg #[.int .i64 k,.int .i64 t,.int .i64 a1,.int .i64 b1,.string nm,.string ot])),(55,(.int .i64 (n:Int))),(56,(.int .i64 (m:Int))),(57,(.int .u64 (pt:Int))),(58,(.slice (some ⟨g7,0,none⟩) M.length c7)),(59,(.int .u64 (D1:Int))),(60,(.int .u64 (D3:Int))),(61,(dU ((k,t,a1,b1,nm,ot),(n:Int),(m:Int),D1,D3)))] (fun bsE vsE W=> mH w w8 (bV ((k,t,a1,b1,nm,ot),(n:Int),(m:Int),D1,D3)).toArray (bsE.getD 0 false) W) (by kernel_rfl) (by kernel_rfl) rfl rfl (by kernel_rfl) (by rfl) ?h0 ?each ?done
 case h0=>
  intro vsE hlv
  obtain⟨v0,rfl⟩:=jk hlv
  exact⟨(bO.start HZ8.out).step (Below.refl _ _).drew,HX8.out.drew,HZ8.out⟩
 case each=>
  simp only [dp]
  refine⟨⟨54,(.agg #[.int .i64 k,.int .i64 t,.int .i64 a1,.int .i64 b1,.string nm,.string ot]),rfl,by kernel_rfl,?_⟩,⟨55,(.int .i64 (n:Int)),rfl,by kernel_rfl,?_⟩,⟨56,(.int .i64 (m:Int)),rfl,by kernel_rfl,?_⟩,⟨57,(.int .u64 (pt:Int)),rfl,by kernel_rfl,?_⟩,⟨58,(.slice (some ⟨g7,0,none⟩) M.length c7),rfl,by kernel_rfl,?_⟩,⟨59,(.int .u64 (D1:Int)),rfl,by kernel_rfl,?q1_5⟩,⟨60,(.int .u64 (D3:Int)),rfl,by kernel_rfl,?_⟩,⟨61,(dU ((k,t,a1,b1,nm,ot),(n:Int),(m:Int),D1,D3)),rfl,by kernel_rfl,?_⟩,ay ⟨rfl,?q1_8⟩,trivial⟩
  case q1_5=>
   intro bsE vsE W hlb hlv hnd h
   obtain⟨b0,rfl⟩:=jk hlb
   obtain⟨v0,rfl⟩:=jk hlv
   replace h:mH w w8 (bV ((k,t,a1,b1,nm,ot),(n:Int),(m:Int),D1,D3)).toArray b0 W:=h
   clear hnd
   have HST:=aa h
   have u0:=h.only.cell HGN.out.2 (ah (o:=0) HEV.out rfl);have u1:=h.only.cell HGN.out.2 (ah (o:=1) HEV.out rfl);have u2:=h.only.cell HGN.out.2 (ah (o:=2) HEV.out rfl);have u3:=h.only.cell HGN.out.2 (ah (o:=3) HEV.out rfl);have u4:=h.only.cell HGN.out.2 (ah (o:=4) HEV.out rfl);have u5:=h.only.cell HGN.out.2 (ah (o:=5) HEV.out rfl);have ul:=ar (ak HEV.out) h.only.size
   intro K Q hK
   simp only [az,updAll,Act.put,aU,aV,aW,aX] at hK ⊢
   go_wp2_with (go_at_call 116;refine(CS.out _ (ew.only HBT.out h.only HGN.out.1)).mono ?_;rintro e w9 ⟨rfl,hb9⟩)
   all_goals(first | exact hK _ (h.step hb9) | exact(h.step hb9))
  case q1_8=>
   intro bsE vsE W hlb hlv hnd hbk h
   obtain⟨b0,rfl⟩:=jk hlb
   obtain⟨v0,rfl⟩:=jk hlv
   obtain rfl:b0=false:=hbk
   replace h:mH w w8 (bV ((k,t,a1,b1,nm,ot),(n:Int),(m:Int),D1,D3)).toArray false W:=h
   clear hnd
   have HST:=aa h
   have hz:W.heap[w.heap.size+1]? =some (.cells #[.int .i64 0,.int .i64 0,.int .i64 0,.int .i64 0,.string ⟨#[]⟩,.string ⟨#[]⟩,.int .i64 0,.int .i64 0,.int .u64 0,.int .u64 0] 31 (0,0)):=h.blk;have z0:=ah (o:=0) hz rfl;have f0:=aR (o:=0) hz;have z1:=ah (o:=1) hz rfl;have f1:=aR (o:=1) hz;have z2:=ah (o:=2) hz rfl;have f2:=aR (o:=2) hz;have z3:=ah (o:=3) hz rfl;have f3:=aR (o:=3) hz;have z4:=ah (o:=4) hz rfl;have f4:=aR (o:=4) hz;have z5:=ah (o:=5) hz rfl;have f5:=aR (o:=5) hz;have z6:=ah (o:=6) hz rfl;have f6:=aR (o:=6) hz;have z7:=ah (o:=7) hz rfl;have f7:=aR (o:=7) hz;have z8:=ah (o:=8) hz rfl;have f8:=aR (o:=8) hz;have z9:=ah (o:=9) hz rfl;have f9:=aR (o:=9) hz;have zl:=ak hz;clear hz
   intro K Q hK
   simp only [az,updAll,Act.put,aU,aV,aW,aX] at hK ⊢
   unfold dU bV
   go_wp2_with fail
   all_goals(first | exact hK _ h.fin | exact h.fin)
  all_goals
   intro bsE vsE W hlb hlv hnd h
   obtain⟨b0,rfl⟩:=jk hlb
   obtain⟨v0,rfl⟩:=jk hlv
   replace h:mH w w8 (bV ((k,t,a1,b1,nm,ot),(n:Int),(m:Int),D1,D3)).toArray b0 W:=h
   clear hnd
   have HST:=aa h
   have u0:=h.only.cell HGN.out.2 (ah (o:=0) HEV.out rfl);have u1:=h.only.cell HGN.out.2 (ah (o:=1) HEV.out rfl);have u2:=h.only.cell HGN.out.2 (ah (o:=2) HEV.out rfl);have u3:=h.only.cell HGN.out.2 (ah (o:=3) HEV.out rfl);have u4:=h.only.cell HGN.out.2 (ah (o:=4) HEV.out rfl);have u5:=h.only.cell HGN.out.2 (ah (o:=5) HEV.out rfl);have ul:=ar (ak HEV.out) h.only.size
   intro K Q hK
   simp only [az,updAll,Act.put,aU,aV,aW,aX] at hK ⊢
   go_wp2_with (fail)
   all_goals(first | exact hK _ h | exact h)
 case done=>
  intro vsE W hlv h
  obtain⟨v0,rfl⟩:=jk hlv
  replace h:mH w w8 (bV ((k,t,a1,b1,nm,ot),(n:Int),(m:Int),D1,D3)).toArray true W:=h
  have HST:=aa h
  have H5:=aa h.blk
  have H6:=aa h.bel
  clear h HST
  simp only [az,updAll,Act.put,aU,aV,aW,aX]
  go_wp2_with fail
  refine bc (v:=dU ((k,t,a1,b1,nm,ot),(n:Int),(m:Int),D1,D3)) (kz Tryz.results52 rfl (lG H5.out)) rfl ⟨by rw [HN.out],H6.out⟩
theorem vi {ae:Option Addr} {es:List bR} {bks:List Bk} {w:World} (pt bb ob c cb n m pd:Nat)(name:ByteArray)(bk:Bk)(e:bQ)(hE:iP ae es w)(hB:dS (some ⟨bb,ob,none⟩) bks w)(hok:eC e=true)(hsz:e.2.2.2.2.1.size≤100∧e.2.2.2.2.2.size≤100)
  (hk:bks[n]? =some bk) (hpd:bk.2[m]? =some pd) (hpt:pt < P31) (hbp:1≤bk.1∧bk.1 < P31) (hp31:pd < P31) (hl:es.length≤1000000∧bks.length≤1000000∧bk.2.length≤1000000) (hnm:name.size≤1000) (hhd:∀ y∈es,y.2.2.2.1 < 18446744073709551616) (hn:es≠[]):
  Calls Tryz.prog 52 #[.int .u64 (pt:Int),.slice (some ⟨bb,ob,none⟩) bks.length cb,.string name,.slice ae es.length c,kZ e,.int .i64 (n:Int),.int .i64 (m:Int)] w fun en w'=> en=.returned (dU (fg pt bks (headOf pt name es) e n m))∧Below w.heap.size w w':=by
 have CB:=aa (fun W=> lV pt name W hpt hnm)
 have hH:headOf pt name es < 18446744073709551616:=by
  unfold headOf
  cases hg:es.getLast? with
  | none=> have:=nn pt name;unfold P31 at this;dsimp only;omega
  | some y=> exact hhd y (List.mem_of_getLast? hg)
 have CM:=aa (fun W=> kR (headOf pt name es) n e W hH hok hsz)
 have HML:=aa (jU e hok hsz)
 have HBYT:=aa (lF e hok hsz)
 obtain⟨bb2,ob2,ebb,hbb,hbc⟩:=hB (by rintro rfl;cases hk)
 cases ebb
 obtain⟨s0,vp,s1,hpv⟩:=hbc n bk hk
 obtain⟨ap,cp,rfl,hpc⟩:=hpv
 obtain⟨bp,op,rfl,hbp2,hpd2⟩:=hpc (by intro e;rw [e] at hpd;cases hpd)
 have s2:=hpd2 m pd hpd
 have HSB:=aa (ba s0 (ba s1 s2))
 have hN:fg pt bks (headOf pt name es) e n m=(e,(n:Int),(m:Int),headD pt (eP (headOf pt name es) e n),(headD bk.1 (eP (headOf pt name es) e n)+pd) % P31):=by
  unfold fg
  rw [di,hk]
  simp only [Option.getD_some]
  rw [di,hpd]
  rfl
 have HN:=aa hN
 have k0:(0:Int)≤n:=by omega
 have k1:(n:Int) < bks.length:=by have:=(aB hk).1;omega
 have k1n:n < bks.length:=by have:=(aB hk).1;omega
 have k2:(0:Int)≤m:=by omega
 have k3:(m:Int) < bk.2.length:=by have:=(aB hpd).1;omega
 have k3n:m < bk.2.length:=by have:=(aB hpd).1;omega
 have HBP:=aa (ba hbp (ba hp31 hpt))
 obtain⟨k,t,a1,b1,nm,ot⟩:=e
 have HX:=aa (an (au w (.cells #[.int .i64 k,.int .i64 t,.int .i64 a1,.int .i64 b1,.string nm,.string ot] 29)) (bU (o:=(.cells #[.int .i64 0,.int .i64 0,.int .i64 0,.int .i64 0,.string ⟨#[]⟩,.string ⟨#[]⟩,.int .i64 0,.int .i64 0,.int .u64 0,.int .u64 0] 31))))
 have HZ:Hid (((w.alloc (.cells #[.int .i64 k,.int .i64 t,.int .i64 a1,.int .i64 b1,.string nm,.string ot] 29)).alloc (.cells #[.int .i64 0,.int .i64 0,.int .i64 0,.int .i64 0,.string ⟨#[]⟩,.string ⟨#[]⟩,.int .i64 0,.int .i64 0,.int .u64 0,.int .u64 0] 31)).heap[w.heap.size+1]? =some (.cells #[.int .i64 0,.int .i64 0,.int .i64 0,.int .i64 0,.string ⟨#[]⟩,.string ⟨#[]⟩,.int .i64 0,.int .i64 0,.int .u64 0,.int .u64 0] 31 (0,0))):=by
  have h:=au (w.alloc (.cells #[.int .i64 k,.int .i64 t,.int .i64 a1,.int .i64 b1,.string nm,.string ot] 29)) (.cells #[.int .i64 0,.int .i64 0,.int .i64 0,.int .i64 0,.string ⟨#[]⟩,.string ⟨#[]⟩,.int .i64 0,.int .i64 0,.int .u64 0,.int .u64 0] 31)
  rw [show(w.alloc (.cells #[.int .i64 k,.int .i64 t,.int .i64 a1,.int .i64 b1,.string nm,.string ot] 29)).heap.size=w.heap.size+1 by simp] at h
  exact h
 have HB0:Hid (Below w.heap.size w ((w.alloc (.cells #[.int .i64 k,.int .i64 t,.int .i64 a1,.int .i64 b1,.string nm,.string ot] 29)).alloc (.cells #[.int .i64 0,.int .i64 0,.int .i64 0,.int .i64 0,.string ⟨#[]⟩,.string ⟨#[]⟩,.int .i64 0,.int .i64 0,.int .u64 0,.int .u64 0] 31))):=aK bU _
 obtain⟨j,hj⟩:∃ j,es.length=j+1:=⟨es.length - 1,by have:es.length≠0:=fun e=> hn (eF e);omega⟩
 obtain⟨y,hy⟩:∃ y,es[j]? =some y:=⟨es[j]'(by omega),bh (by omega)⟩
 obtain⟨b,off,rfl,hb0,hcs⟩:=hE hn
 have HHD:Hid (headOf pt name es=y.2.2.2.1):=by
  unfold Hid headOf
  have hg:es.getLast? =some y:=by rw [List.getLast?_eq_getElem?,hj];exact hy
  rw [hg]
 have hY8:w.cell? ⟨b,off+j*10+8,none⟩=some (.int .u64 (y.2.2.2.1:Int)):=by
  have:=hcs j y hy 8 (.int .u64 (y.2.2.2.1:Int)) (by obtain⟨⟨q1,q2,q3,q4,q5,q6⟩,q7,q8,q9,q10⟩:=y;rfl)
  exact this
 rw [← HHD.out] at hY8
 have HY8:=aa hY8
 have hj1:(es.length:Int) - 1=(j:Int):=by omega
 have hj2:(j:Int) < es.length:=by omega
 have hj0:(0:Int)≤j:=by omega
 have hj4:(0:Int) < es.length:=by omega
 have hjw:IntKind.i64.wrap (j:Int)=(j:Int):=cC _ ⟨by omega,by have:=hl.1;omega⟩
 clear hj hcs hb0 hY8 hy
 change Calls Tryz.prog 52 #[.int .u64 (pt:Int),.slice (some ⟨bb,ob,none⟩) bks.length cb,.string name,.slice (some ⟨b,off,none⟩) es.length c,.agg #[.int .i64 k,.int .i64 t,.int .i64 a1,.int .i64 b1,.string nm,.string ot],.int .i64 (n:Int),.int .i64 (m:Int)] w _
 replace CM:Hid (∀ W,Calls Tryz.prog 114 #[.int .u64 (headOf pt name es:Int),.agg #[.int .i64 k,.int .i64 t,.int .i64 a1,.int .i64 b1,.string nm,.string ot],.int .i64 (n:Int)] W fun en w'=> ∃ v,en=.returned v∧w'.ownsRow W.heap.size 5 1 v (eP (headOf pt name es) (k,t,a1,b1,nm,ot) n).length (dw (eP (headOf pt name es) (k,t,a1,b1,nm,ot) n))∧Below W.heap.size W w'):=CM
 have HMN:Hid (mG (eP (headOf pt name es) (k,t,a1,b1,nm,ot) n)∧(eP (headOf pt name es) (k,t,a1,b1,nm,ot) n).length≤1000∧0 < (eP (headOf pt name es) (k,t,a1,b1,nm,ot) n).length):=⟨pP HBYT.out,by unfold eP;have:=HML.out;rw [cY,cY,dq];simp;omega,by unfold eP;rw [cY,cY,dq];omega⟩
 clear hN hbp hp31 hpt hhd hH hE hB hok hsz hk hpd s0 s1 s2 hbc hpc hpd2 hbb hbp2 hl hnm HBYT HML hn
 generalize hM:eP (headOf pt name es) (k,t,a1,b1,nm,ot) n=M at*
 clear hM
 go_enter Tryz.func52,Tryz.ntmps52
 generalize headOf pt name es=H at*
 go_upto_region 3 with(go_at_call 113;refine(CB.out _).mono ?_;rintro e w1 ⟨rfl,hb1⟩;have HW1:=aa (ai HB0.out hb1);have HXS:=aa hb1;clear hb1)
 have y8:=ag HY8.out HW1.out
 have yl:=World.block_lt_of_cell? _ _ y8
 go_upto_region 4 with fail
 clear y8 yl hj1 hj2 hj0 hj4 hjw HY8
 have HX1:=aa (an HX.out HXS.out)
 have HZ1:=aa (an HZ.out HXS.out)
 have HXG:=aa (ak HZ1.out)
 obtain⟨u0,u1,u2,u3,u4,u5⟩:=bG HX1.out
 have ul:=ak HX1.out
 clear HX HZ HXS
 go_upto_region 5 with(go_at_call 114;refine(CM.out _).mono ?_;rintro e w2 ⟨v2,rfl,ho2,hb2⟩;obtain⟨g7,c7,rfl,hg7,hg8,hB7⟩:=rB ho2 HMN.out.2.2;have HGG:=aa (ba hg7 hg8);have HBV:=aa hB7;have HXS:=aa hb2;clear ho2 hg7 hg8 hB7 hb2)
 have HX2:=aa (an HX1.out HXS.out)
 have HZ2:=aa (an HZ1.out HXS.out)
 have HW2:=aa (ai HW1.out HXS.out)
 clear u0 u1 u2 u3 u4 u5 ul HX1 HZ1
 have s0:∀ s:aC w2,s.1.cell? ⟨bb,ob+n*2,none⟩=some (.int .u64 (bk.1:Int)):=fun s=> ag HSB.out.1 (ai HW2.out s.2)
 have s1:∀ s:aC w2,s.1.cell? ⟨bb,ob+n*2+1,none⟩=some (.slice (some ⟨bp,op,none⟩) bk.2.length cp):=fun s=> ag HSB.out.2.1 (ai HW2.out s.2)
 have s2:∀ s:aC w2,s.1.cell? ⟨bp,op+m,none⟩=some (.int .u64 (pd:Int)):=fun s=> ag HSB.out.2.2 (ai HW2.out s.2)
 have CT:=aa (fun s:aC w2=> dy s (oV 2 bk.1 pd c7 (some ⟨g7,0,none⟩) M s.1 (by have:=HBP.out.1.2;unfold P31 at this;omega) (by have:=HBP.out.2.1;unfold P31 at this;omega) HMN.out.1 (by have:=HMN.out.2.1;omega) (HBV.out.step s.2)))
 rw [vg HBP.out.1.1 HBP.out.1.2 HBP.out.2.1 HMN.out.2.1] at CT
 dsimp only at CT
 have CS:=aa (fun W hA=> sum_any 2 (by decide) pt c7 (some ⟨g7,0,none⟩) M W HBP.out.2.2 HMN.out.1 (by have:=HMN.out.2.1;omega) hA)
 rw [show dig (prim 2) (2+1) pt M=headD pt M from rfl] at CS
 generalize(headD bk.1 M+pd) % P31=D3 at*
 generalize headD pt M=D1 at*
 refine aF (by kernel_rfl) (by kernel_rfl) ?_
 repeat(first | (refine WQ.skip rfl rfl rfl rfl ?_;simp only [Act.put,aU,aV,aW,aX]) | ((first | (apply WQ.val;(exact rfl)) | (apply WQ.valg;(exact rfl);(exact rfl);(exact rfl)));(intro w9 hw9;obtain⟨s9,rfl⟩:=hw9;simp [go_sem,s0,s1,s2,k0,k1,k1n,k2,k3,k3n];first | done | exact rfl | (with_reducible exact CT.out s9));simp only [Act.put,aU,aV,aW,aX]))
 refine WQ.fin fun w8 hw8=> ?_
 go_upto_region 6 with fail
 have HEV:=aa (an HX2.out hw8)
 have HZ8:=aa (an HZ2.out hw8)
 have HX8:=aa (ai HW2.out hw8)
 have HBT:=aa (HBV.out.step hw8)
 have HGN:Hid (g7≠w.heap.size+1∧w.heap.size≠w.heap.size+1):=⟨by have:=HGG.out.1;have:=HW1.out.size;have:=HB0.out.size;have h9:=ak HZ2.out;have:=HXG.out;omega,by omega⟩
 clear s0 s1 s2 CT k0 k1 k1n k2 k3 k3n hw8
 refine bo 9 20 62 [(8,62)] [(none,[]),(none,[]),(none,[]),(none,[]),(none,[]),(none,[]),(none,[]),(none,[]),(some 0,[])] [(54,(.agg #[.int .i64 k,.int .i64 t,.int .i64 a1,.int .i64 b1,.string nm,.string ot])),(55,(.int .i64 (n:Int))),(56,(.int .i64 (m:Int))),(57,(.int .u64 (pt:Int))),(58,(.slice (some ⟨g7,0,none⟩) M.length c7)),(59,(.int .u64 (D1:Int))),(60,(.int .u64 (D3:Int))),(61,(dU ((k,t,a1,b1,nm,ot),(n:Int),(m:Int),D1,D3)))] (fun bsE vsE W=> mH w w8 (bV ((k,t,a1,b1,nm,ot),(n:Int),(m:Int),D1,D3)).toArray (bsE.getD 0 false) W) (by kernel_rfl) (by kernel_rfl) rfl rfl (by kernel_rfl) (by rfl) ?h0 ?each ?done
 case h0=>
  intro vsE hlv
  obtain⟨v0,rfl⟩:=jk hlv
  exact⟨(bO.start HZ8.out).step (Below.refl _ _).drew,HX8.out.drew,HZ8.out⟩
 case each=>
  simp only [dp]
  refine⟨⟨54,(.agg #[.int .i64 k,.int .i64 t,.int .i64 a1,.int .i64 b1,.string nm,.string ot]),rfl,by kernel_rfl,?_⟩,⟨55,(.int .i64 (n:Int)),rfl,by kernel_rfl,?_⟩,⟨56,(.int .i64 (m:Int)),rfl,by kernel_rfl,?_⟩,⟨57,(.int .u64 (pt:Int)),rfl,by kernel_rfl,?_⟩,⟨58,(.slice (some ⟨g7,0,none⟩) M.length c7),rfl,by kernel_rfl,?_⟩,⟨59,(.int .u64 (D1:Int)),rfl,by kernel_rfl,?q2_5⟩,⟨60,(.int .u64 (D3:Int)),rfl,by kernel_rfl,?_⟩,⟨61,(dU ((k,t,a1,b1,nm,ot),(n:Int),(m:Int),D1,D3)),rfl,by kernel_rfl,?_⟩,ay ⟨rfl,?q2_8⟩,trivial⟩
  case q2_5=>
   intro bsE vsE W hlb hlv hnd h
   obtain⟨b0,rfl⟩:=jk hlb
   obtain⟨v0,rfl⟩:=jk hlv
   replace h:mH w w8 (bV ((k,t,a1,b1,nm,ot),(n:Int),(m:Int),D1,D3)).toArray b0 W:=h
   clear hnd
   have HST:=aa h
   have u0:=h.only.cell HGN.out.2 (ah (o:=0) HEV.out rfl);have u1:=h.only.cell HGN.out.2 (ah (o:=1) HEV.out rfl);have u2:=h.only.cell HGN.out.2 (ah (o:=2) HEV.out rfl);have u3:=h.only.cell HGN.out.2 (ah (o:=3) HEV.out rfl);have u4:=h.only.cell HGN.out.2 (ah (o:=4) HEV.out rfl);have u5:=h.only.cell HGN.out.2 (ah (o:=5) HEV.out rfl);have ul:=ar (ak HEV.out) h.only.size
   intro K Q hK
   simp only [az,updAll,Act.put,aU,aV,aW,aX] at hK ⊢
   go_wp2_with (go_at_call 116;refine(CS.out _ (ew.only HBT.out h.only HGN.out.1)).mono ?_;rintro e w9 ⟨rfl,hb9⟩)
   all_goals(first | exact hK _ (h.step hb9) | exact(h.step hb9))
  case q2_8=>
   intro bsE vsE W hlb hlv hnd hbk h
   obtain⟨b0,rfl⟩:=jk hlb
   obtain⟨v0,rfl⟩:=jk hlv
   obtain rfl:b0=false:=hbk
   replace h:mH w w8 (bV ((k,t,a1,b1,nm,ot),(n:Int),(m:Int),D1,D3)).toArray false W:=h
   clear hnd
   have HST:=aa h
   have hz:W.heap[w.heap.size+1]? =some (.cells #[.int .i64 0,.int .i64 0,.int .i64 0,.int .i64 0,.string ⟨#[]⟩,.string ⟨#[]⟩,.int .i64 0,.int .i64 0,.int .u64 0,.int .u64 0] 31 (0,0)):=h.blk;have z0:=ah (o:=0) hz rfl;have f0:=aR (o:=0) hz;have z1:=ah (o:=1) hz rfl;have f1:=aR (o:=1) hz;have z2:=ah (o:=2) hz rfl;have f2:=aR (o:=2) hz;have z3:=ah (o:=3) hz rfl;have f3:=aR (o:=3) hz;have z4:=ah (o:=4) hz rfl;have f4:=aR (o:=4) hz;have z5:=ah (o:=5) hz rfl;have f5:=aR (o:=5) hz;have z6:=ah (o:=6) hz rfl;have f6:=aR (o:=6) hz;have z7:=ah (o:=7) hz rfl;have f7:=aR (o:=7) hz;have z8:=ah (o:=8) hz rfl;have f8:=aR (o:=8) hz;have z9:=ah (o:=9) hz rfl;have f9:=aR (o:=9) hz;have zl:=ak hz;clear hz
   intro K Q hK
   simp only [az,updAll,Act.put,aU,aV,aW,aX] at hK ⊢
   unfold dU bV
   go_wp2_with fail
   all_goals(first | exact hK _ h.fin | exact h.fin)
  all_goals
   intro bsE vsE W hlb hlv hnd h
   obtain⟨b0,rfl⟩:=jk hlb
   obtain⟨v0,rfl⟩:=jk hlv
   replace h:mH w w8 (bV ((k,t,a1,b1,nm,ot),(n:Int),(m:Int),D1,D3)).toArray b0 W:=h
   clear hnd
   have HST:=aa h
   have u0:=h.only.cell HGN.out.2 (ah (o:=0) HEV.out rfl);have u1:=h.only.cell HGN.out.2 (ah (o:=1) HEV.out rfl);have u2:=h.only.cell HGN.out.2 (ah (o:=2) HEV.out rfl);have u3:=h.only.cell HGN.out.2 (ah (o:=3) HEV.out rfl);have u4:=h.only.cell HGN.out.2 (ah (o:=4) HEV.out rfl);have u5:=h.only.cell HGN.out.2 (ah (o:=5) HEV.out rfl);have ul:=ar (ak HEV.out) h.only.size
   intro K Q hK
   simp only [az,updAll,Act.put,aU,aV,aW,aX] at hK ⊢
   go_wp2_with (fail)
   all_goals(first | exact hK _ h | exact h)
 case done=>
  intro vsE W hlv h
  obtain⟨v0,rfl⟩:=jk hlv
  replace h:mH w w8 (bV ((k,t,a1,b1,nm,ot),(n:Int),(m:Int),D1,D3)).toArray true W:=h
  have HST:=aa h
  have H5:=aa h.blk
  have H6:=aa h.bel
  clear h HST
  simp only [az,updAll,Act.put,aU,aV,aW,aX]
  go_wp2_with fail
  refine bc (v:=dU ((k,t,a1,b1,nm,ot),(n:Int),(m:Int),D1,D3)) (kz Tryz.results52 rfl (lG H5.out)) rfl ⟨by rw [HN.out],H6.out⟩
theorem pZ {ae:Option Addr} {es:List bR} {bks:List Bk} {w:World} (pt bb ob c cb n m pd:Nat)(name:ByteArray)(bk:Bk)(e:bQ)(hE:iP ae es w)(hB:dS (some ⟨bb,ob,none⟩) bks w)(hok:eC e=true)(hsz:e.2.2.2.2.1.size≤100∧e.2.2.2.2.2.size≤100)
  (hk:bks[n]? =some bk) (hpd:bk.2[m]? =some pd) (hpt:pt < P31) (hbp:1≤bk.1∧bk.1 < P31) (hp31:pd < P31) (hl:es.length≤1000000∧bks.length≤1000000∧bk.2.length≤1000000) (hnm:name.size≤1000) (hhd:∀ y∈es,y.2.2.2.1 < 18446744073709551616):
  Calls Tryz.prog 52 #[.int .u64 (pt:Int),.slice (some ⟨bb,ob,none⟩) bks.length cb,.string name,.slice ae es.length c,kZ e,.int .i64 (n:Int),.int .i64 (m:Int)] w fun en w'=> en=.returned (dU (fg pt bks (headOf pt name es) e n m))∧Below w.heap.size w w':=by
 by_cases hn:es=[]
 ·exact vh pt bb ob c cb n m pd name bk e hE hB hok hsz hk hpd hpt hbp hp31 hl hnm hhd hn
 ·exact vi pt bb ob c cb n m pd name bk e hE hB hok hsz hk hpd hpt hbp hp31 hl hnm hhd hn
end
end Go.Proofs.YtmpilgkfbibhlaaGreatDoor
