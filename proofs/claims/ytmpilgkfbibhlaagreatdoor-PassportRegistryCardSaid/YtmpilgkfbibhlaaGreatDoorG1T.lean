/-
 G1T
-/
import Derived.Test.YtmpilgkfbibhlaaGreatDoorG0T
import Derived.OrdersIn
set_option linter.unusedSimpArgs false
set_option linter.unusedVariables false
set_option maxRecDepth 100000
set_option maxHeartbeats 20000000
namespace Go.Proofs.YtmpilgkfbibhlaaGreatDoor
section
open Go.RowKit
namespace Mr
theorem bU {W:World} {o:Obj}:Below W.heap.size W (W.alloc o):=(Below.refl _ _).alloc (bz _) _
def gn {α:Type} (f:Nat→α)(s:Nat)(v:α):Nat→α:=fun t=> if t=s then v else f t
theorem dK {α:Type} {f:Nat→α} {s:Nat} {v:α}:gn f s v s=v:=aG rfl
theorem cZ {α:Type} {f:Nat→α} {s t:Nat} {v:α} (h:t≠s):gn f s v t=f t:=aA h
theorem rQ {W w':World} {row:Option Nat} {b:Nat} {x:Obj} (h:W.heap[b]? =some x)(hg:W.grownBy w' row)(hne:some b≠row):w'.heap[b]? =some x:=(hg.block b (ak h) hne).trans h
theorem own_base {W:World} {B B2 e s n:Nat} {v:Value} {xs:List Value} (h:W.ownsRow B e s v n xs)(hB:B2≤B):W.ownsRow B2 e s v n xs:=by
 obtain⟨h1,h2⟩:=h
 refine⟨h1,?_⟩
 rcases h2 with h2 | ⟨g,cap,cur,q1,q2,q3⟩
 ·exact ax h2
 ·exact ay ⟨g,cap,cur,q1,by omega,q3⟩
theorem aD {W w2:World} {B e s n:Nat} {v:Value} {xs:List Value} (h:W.ownsRow B e s v n xs)(hb:Below W.heap.size W w2):w2.ownsRow B e s v n xs:=by
 obtain⟨h1,h2⟩:=h
 refine⟨h1,?_⟩
 rcases h2 with h2 | ⟨g,cap,cur,q1,q2,q3,q4⟩
 ·exact ax h2
 ·exact ay ⟨g,cap,cur,q1,q2,an q3 hb,q4⟩
structure Rw where
 E:TypeId
 sz:Nat
 v:Value
 n:Nat
 xs:List Value
def Rw.Own(W:World)(B:Nat)(r:Rw):Prop:=W.ownsRow B r.E r.sz r.v r.n r.xs
theorem Rw.Own.step {W w2:World} {B:Nat} {r:Rw} (h:r.Own W B)(hb:Below W.heap.size W w2):r.Own w2 B:=aD h hb
theorem Rw.Own.lt {W:World} {B:Nat} {r:Rw} (h:r.Own W B):∀ k,r.v.ownBlock=some k→B≤k∧k < W.heap.size:=World.ownsRow.lt h
theorem Rw.Own.get {W:World} {B:Nat} {r:Rw} (h:r.Own W B):∃ a c,r.v=.slice a r.n c∧(r.n*r.sz≠0→∃ g,a=some ⟨g,0,none⟩∧g < W.heap.size∧∀ j u,r.xs[j]? =some u→W.cell? ⟨g,j,none⟩=some u):=by
 obtain⟨h1,h2⟩:=h
 rcases h2 with⟨h2,h3⟩ | ⟨g,cap,cur,q1,q2,q3,q4,q5,q6,q7⟩
 ·exact⟨none,0,by rw [h2,h3],fun h=> absurd (by rw [h3,Nat.zero_mul]) h⟩
 ·refine⟨_,cap,q1,fun _=> ⟨g,rfl,ak q3,fun j u hj=> ?_⟩⟩
  have hjl:=(aB hj).1
  rw [← q7,List.getElem?_take_of_lt (by omega)] at hj
  exact ah q3 (by simpa using hj)
def Far(u v:Value):Prop:=∀ k,u.ownBlock=some k→v.ownBlock=some k→False
theorem Far.symm {u v:Value} (h:Far u v):Far v u:=fun k h1 h2=> h k h2 h1
theorem Far.ne {u v:Value} (h:Far u v):u.ownBlock=none∨u.ownBlock≠v.ownBlock:=by
 cases hu:u.ownBlock with
 | none=> exact ax rfl
 | some k=> exact ay fun e=> h k hu e.symm
structure MR(w:World)(B:Nat)(L:Nat→Option Obj)(f:Nat→Option Rw)(W:World):Prop where
 hB:w.heap.size≤B
 bel:Below w.heap.size w W
 sz:B≤W.heap.size
 sb:∀ p o,L p=some o→W.heap[p]? =some o
 hL:∀ p o s r,L p=some o→f s=some r→r.v.ownBlock≠some p
 own:∀ s r,f s=some r→r.Own W B
 far:∀ s s' r r',s≠s'→f s=some r→f s'=some r'→Far r.v r'.v
section
variable {w W w2 w':World} {B:Nat} {L L':Nat→Option Obj} {f f':Nat→Option Rw} {s:Nat} {r r':Rw}
theorem MR.congr(h:MR w B L f W)(hf:∀ s,f' s=f s):MR w B L f' W:=by
 obtain rfl:f'=f:=funext hf
 exact h
theorem MR.less(h:MR w B L f W)(hf:∀ s p,f' s=some p→f s=some p):MR w B L f' W:=
 ⟨h.hB,h.bel,h.sz,h.sb,fun p o s r e e'=> h.hL p o s r e (hf s r e'),fun s r e=> h.own s r (hf s _ e),fun s s' r r' n e e'=> h.far s s' r r' n (hf s _ e) (hf s' _ e')⟩
theorem MR.drop(h:MR w B L f W)(s:Nat):MR w B L (gn f s none) W:=h.less fun t p e=> by
 by_cases c:t=s
 ·subst c;rw [dK] at e;cases e
 ·rwa [cZ c] at e
theorem MR.start(hB:w.heap.size≤B)(hb:Below w.heap.size w W)(hs:B≤W.heap.size)(hL:∀ p o,L p=some o→W.heap[p]? =some o):MR w B L (fun _=> none) W:=
 ⟨hB,hb,hs,hL,(fun p o s r _ e=> by cases e),(fun s r e=> by cases e),(fun s s' r r' n e=> by cases e)⟩
theorem MR.step(h:MR w B L f W)(hb:Below W.heap.size W w2):MR w B L f w2:=
 ⟨h.hB,ai h.bel hb,Nat.le_trans h.sz hb.size,fun p o e=> an (h.sb p o e) hb,h.hL,fun s r e=> (h.own s r e).step hb,h.far⟩
theorem MR.put(h:MR w B L f W)(s:Nat)(ho:r.Own W B)(hf:∀ s' r',s'≠s→f s'=some r'→Far r.v r'.v)(hl:∀ p o,L p=some o→r.v.ownBlock≠some p):MR w B L (gn f s (some r)) W:=by
 refine⟨h.hB,h.bel,h.sz,h.sb,fun p o t r' e e'=> ?_,fun t r' e=> ?_,fun t t' r1 r2 n e e'=> ?_⟩
 ·by_cases c:t=s
  ·subst c;rw [dK] at e';cases e';exact hl p o e
  ·rw [cZ c] at e';exact h.hL p o t r' e e'
 ·by_cases c:t=s
  ·subst c;rw [dK] at e;cases e;exact ho
  ·rw [cZ c] at e;exact h.own t r' e
 ·by_cases c:t=s
  ·subst c
   rw [dK] at e
   rw [cZ (Ne.symm n)] at e'
   cases e
   exact hf t' r2 (Ne.symm n) e'
  ·by_cases c':t'=s
   ·subst c'
    rw [dK] at e'
    rw [cZ c] at e
    cases e'
    exact(hf t r1 c e).symm
   ·rw [cZ c] at e
    rw [cZ c'] at e'
    exact h.far t t' r1 r2 n e e'
theorem MR.call(h:MR w B L f W)(s:Nat)(hb:Below W.heap.size W w2)(ho:r.Own w2 W.heap.size):MR w B L (gn f s (some r)) w2:=
 (h.step hb).put s (own_base ho h.sz) (fun s' r' _ e k e1 e2=> by
  have h1:=(ho.lt k e1).1
  have h2:=((h.own s' r' e).lt k e2).2
  omega) fun p o e c=> by
  have h1:=(ho.lt p c).1
  have h2:=ak (h.sb p o e)
  omega
theorem rR {cs:Array Value} {E sz n cap:Nat} (hl:cap≤maxLen)(hn:n≤cap)(hs:cs.size=cap*sz):(⟨E,sz,.slice (some ⟨W.heap.size,0,none⟩) n cap,n,cs.toList.take (n*sz)⟩:Rw).Own (W.alloc (.cells cs E)) W.heap.size:=by
 have hle:n*sz≤cs.size:=by rw [hs];exact Nat.mul_le_mul_right _ hn
 exact⟨by simp [hle],ay ⟨_,_,_,rfl,bz _,au W _,hn,hl,hs,rfl⟩⟩
theorem MR.fresh(h:MR w B L f W)(s:Nat)(cs:Array Value)(E sz n:Nat)(hl:n≤maxLen)(hs:cs.size=n*sz):MR w B L (gn f s (some ⟨E,sz,.slice (some ⟨W.heap.size,0,none⟩) n n,n,cs.toList⟩)) (W.alloc (.cells cs E)):=by
 have h2:=rR (W:=W) (E:=E) hl (bz _) hs
 rw [List.take_of_length_le (by simp [hs])] at h2
 exact h.call s bU h2
theorem MR.app(h:MR w B L f W)(s:Nat)(hs:f s=some r)(ho:r'.Own w' B)(hg:W.grownBy w' r.v.ownBlock)(hat:r'.v.ownBlock=r.v.ownBlock∨r'.v.ownBlock=some W.heap.size):MR w B L (gn f s (some r')) w':=by
 have hB:=h.hB
 have h0:=h.own s r hs
 have hr:∀ k,r.v.ownBlock=some k→B≤k:=fun k e=> (h0.lt k e).1
 have h1:MR w B L (gn f s none) w':=by
  refine⟨h.hB,h.bel.grown hg (by have:=h.bel.size;omega) fun k hk=> by have:=hr k hk;omega,Nat.le_trans h.sz hg.size,fun p o e=> ?_,fun p o t r1 e e'=> ?_,fun t r1 e=> ?_,fun t t' r1 r2 n e e'=> ?_⟩
  ·exact rQ (h.sb p o e) hg fun c=> h.hL p o s r e hs c.symm
  ·by_cases c:t=s
   ·subst c;rw [dK] at e';cases e'
   ·rw [cZ c] at e';exact h.hL p o t r1 e e'
  ·by_cases c:t=s
   ·subst c;rw [dK] at e;cases e
   ·rw [cZ c] at e
    exact World.ownsRow.kept (h.own t r1 e) hg (h.far t s r1 r c e hs).ne
  ·by_cases c:t=s
   ·subst c;rw [dK] at e;cases e
   ·by_cases c':t'=s
    ·subst c';rw [dK] at e';cases e'
    ·rw [cZ c] at e
     rw [cZ c'] at e'
     exact h.far t t' r1 r2 n e e'
 refine(h1.put s ho (fun s' r1 n e k e1 e2=> ?_) fun p o e c=> ?_).congr fun t=> ?_
 ·rw [cZ n] at e
  rcases hat with q | q
  ·exact h.far s s' r r1 (Ne.symm n) hs e k (q.symm.trans e1) e2
  ·have:=((h.own s' r1 e).lt k e2).2
   rw [q] at e1
   simp at e1
   omega
 ·rcases hat with q | q
  ·exact h.hL p o s r e hs (q.symm.trans c)
  ·rw [q] at c
   have:=ak (h.sb p o e)
   simp at c
   omega
 ·by_cases c:t=s
  ·subst c;rw [dK,dK]
  ·rw [cZ c,cZ c,cZ c]
theorem MR.got(h:MR w B L f W)(hb:Below W.heap.size W w2){p:Nat} {o:Obj} (hp:W.heap.size≤p)(ho:w2.heap[p]? =some o):MR w B (gn L p (some o)) f w2:=by
 have k:=h.step hb
 refine⟨k.hB,k.bel,k.sz,fun q o' e=> ?_,fun q o' s r e e'=> ?_,k.own,k.far⟩
 ·by_cases c:q=p
  ·subst c;rw [dK] at e;cases e;exact ho
  ·rw [cZ c] at e;exact k.sb q o' e
 ·by_cases c:q=p
  ·subst c
   intro c
   have:=((h.own s r e').lt _ c).2
   omega
  ·rw [cZ c] at e;exact h.hL q o' s r e e'
end
def yr(L:Nat→Option Obj)(v:Value)(n sz:Nat)(xs:List Value):Prop:=xs.length=n*sz∧∃ a c,v=.slice a n c∧(n*sz≠0→∃ p off cs t fr,a=some ⟨p,off,none⟩∧L p=some (.cells cs t fr)∧∀ j u,xs[j]? =some u→cs[off+j]? =some u)
theorem yr.upd {L:Nat→Option Obj} {v:Value} {n sz p:Nat} {xs:List Value} {o:Obj} (h:yr L v n sz xs)(hp:L p=none):yr (gn L p (some o)) v n sz xs:=by
 obtain⟨h0,a,c,h1,h2⟩:=h
 refine⟨h0,a,c,h1,fun hn=> ?_⟩
 obtain⟨q,off,cs,t,fr,e1,e2,e3⟩:=h2 hn
 refine⟨q,off,cs,t,fr,e1,?_,e3⟩
 rw [cZ (fun c=> by rw [c,hp] at e2;cases e2)]
 exact e2
theorem yr.cells {w W:World} {B:Nat} {L:Nat→Option Obj} {f:Nat→Option Rw} {v:Value} {n sz:Nat} {xs:List Value} (h:MR w B L f W)(hr:yr L v n sz xs):∃ a c,v=.slice a n c∧(n*sz≠0→∃ p off,a=some ⟨p,off,none⟩∧∀ j u,xs[j]? =some u→W.cell? ⟨p,off+j,none⟩=some u):=by
 obtain⟨h0,a,c,h1,h2⟩:=hr
 refine⟨a,c,h1,fun hn=> ?_⟩
 obtain⟨p,off,cs,t,fr,e1,e2,e3⟩:=h2 hn
 exact⟨p,off,e1,fun j u hj=> ah (h.sb p _ e2) (e3 j u hj)⟩
section
variable {P:Program}
theorem kU {x:Value} (h:∃ a n c,x=.slice a n c)(size:Nat)(w:World):(Builtin.firstCells size 0 x).run P w=.ok #[] w:=by
 obtain⟨a,n,c,rfl⟩:=h
 cases a with
 | none=> rfl
 | some a=>
  simp only [Builtin.firstCells,Nat.zero_mul]
  have:=run_firstCells_some (P:=P) w size 0 a n c [] (by simp) (fun j x hx=> by simp at hx)
  simpa [Builtin.firstCells] using this
theorem jH(w:World)(t ty e:TypeId)(i:TypeInfo)(ht:P.underlying t=some (.slice e))(hi:P.info? e=some i)(base:Option Addr)(n cap:Nat)(h:n≤cap)(a:Option Addr)(c:Nat):
  (Builtin.append_ #[t,t] ty #[.slice base n cap,.slice a 0 c]).run P w=.ok (.slice base n cap) w:=by
 have hfc:=kU (P:=P) ⟨a,0,c,rfl⟩ i.size w
 cases base with
 | none=> simp [Builtin.append_,run_underlying ht,sizeOf,typeInfo,hi,Builtin.lenOf,h,hfc]
 | some b=> simp [Builtin.append_,run_underlying ht,sizeOf,typeInfo,hi,Builtin.lenOf,h,hfc,storeCells]
theorem yu(p off j:Nat):(⟨p,off,none⟩:Addr).add j=⟨p,off+j,none⟩:=by
 unfold Addr.add
 split
 ·rename_i h;subst h;rfl
 ·rfl
theorem wA(w:World)(base:Nat)(t ty e:TypeId)(i:TypeInfo)(z:Value)(size bytes:Nat)(ht:P.underlying t=some (.slice e))(hi:P.info? e=some i)(hz:i.zero=some z)
  (hsize:i.size=size) (hby:i.bytes=bytes) (hzs:z.cells.size=size) (hsz:0 < size)
  (v:Value) (n:Nat) (xs:List Value) (hown:w.ownsRow base e size v n xs)
  (a:Option Addr) (m c:Nat) (news:List Value) (hl:news.length=m*size) (hnews:m*size≠0→∃ p off,a=some ⟨p,off,none⟩∧∀ j u,news[j]? =some u→w.cell? ⟨p,off+j,none⟩=some u) (h1:∀ u∈news,u.oneCell'=true)
  (h63:n+m≤maxLen) (hbytes:(n+m)*bytes≤140737488355328) (hbase:base≤w.heap.size):
  ∃ v' w',(Builtin.append_ #[t,t] ty #[v,.slice a m c]).run P w=.ok v' w'∧w'.ownsRow base e size v' (n+m) (xs++news)∧w.grownBy w' v.ownBlock∧(v'.ownBlock=v.ownBlock∨v'.ownBlock=some w.heap.size):=by
 by_cases hm:m=0
 ·subst hm
  obtain rfl:news=[]:=List.eq_nil_of_length_eq_zero (by simpa using hl)
  refine⟨v,w,?_,by simpa using hown,⟨rfl,rfl,rfl,bz _,fun _ _ _=> rfl⟩,ax rfl⟩
  rcases hown.2 with⟨rfl,h5⟩ | ⟨g,cap,cur,rfl,-,-,h4,-⟩
  ·subst h5;exact jH w _ _ _ _ ht hi _ _ _ (bz _) _ _
  ·exact jH w _ _ _ _ ht hi _ _ _ h4 _ _
 ·obtain⟨p,off,rfl,hc⟩:=hnews (Nat.mul_ne_zero hm (by omega))
  obtain⟨v',w',q1,q2,q3,-,q5⟩:=run_append_own_at (P:=P) w base t ty e i z size bytes ht hi hz hsize hby hzs hsz v n xs hown ⟨p,off,none⟩ m c news hl (fun j u hj=> by rw [yu];exact hc j u hj) h1 h63 hbytes hbase
  exact⟨v',w',q1,q2,q3,q5⟩
theorem fc(w:World){o:Oper} {a:Act} {K:Act→World→Prop} {Q:Exit→Act→World→Prop} (s x:Operand)(t:TypeId)(ho:o.op=.call { callee:=.builtin .append,args:=#[s,x],argTypes:=#[t,t] })
  (base:Nat) (e:TypeId) (i:TypeInfo) (z:Value) (size bytes:Nat) (ht:P.underlying t=some (.slice e)) (hi:P.info? e=some i) (hz:i.zero=some z)
  (hsize:i.size=size) (hby:i.bytes=bytes) (hzs:z.cells.size=size) (hsz:0 < size)
  (v:Value) (n:Nat) (xs:List Value) (hs:a.eval s=v) (hown:w.ownsRow base e size v n xs)
  (ad:Option Addr) (m c:Nat) (news:List Value) (hx:a.eval x=.slice ad m c) (hl:news.length=m*size) (hnews:m*size≠0→∃ p off,ad=some ⟨p,off,none⟩∧∀ j u,news[j]? =some u→w.cell? ⟨p,off+j,none⟩=some u) (h1:∀ u∈news,u.oneCell'=true)
  (h63:n+m≤maxLen) (hbytes:(n+m)*bytes≤140737488355328) (hbase:base≤w.heap.size)
  (h:∀ v' w',w'.ownsRow base e size v' (n+m) (xs++news)→w.grownBy w' v.ownBlock→(v'.ownBlock=v.ownBlock∨v'.ownBlock=some w.heap.size)→K (a.put o.dst v') w'):o.wp P a w K Q:=by
 obtain⟨v',w',hr,h2,h3,h5⟩:=wA (P:=P) w base t o.type e i z size bytes ht hi hz hsize hby hzs hsz v n xs hown ad m c news hl hnews h1 h63 hbytes hbase
 unfold Oper.wp execOp
 simp only [ho,resolve,invoke,builtin,Sem.run_bind,Sem.run_pure,Result.andThen_ok,List.map_toArray,List.map_cons,List.map_nil,hs,hx,hr]
 exact h v' w' h2 h3 h5
theorem bM {ops:Array Oper} {rest:List Oper} (w:World){o:Oper} {a:Act} {Q:Exit→Act→World→Prop} (hgd:o.guard=none)(s x:Operand)(t:TypeId)(ho:o.op=.call { callee:=.builtin .append,args:=#[s,x],argTypes:=#[t,t] })
  (base:Nat) (e:TypeId) (i:TypeInfo) (z:Value) (size bytes:Nat) (ht:P.underlying t=some (.slice e)) (hi:P.info? e=some i) (hz:i.zero=some z)
  (hsize:i.size=size) (hby:i.bytes=bytes) (hzs:z.cells.size=size) (hsz:0 < size)
  (v:Value) (n:Nat) (xs:List Value) (hs:a.eval s=v) (hown:w.ownsRow base e size v n xs)
  (ad:Option Addr) (m c:Nat) (news:List Value) (hx:a.eval x=.slice ad m c) (hl:news.length=m*size) (hnews:m*size≠0→∃ p off,ad=some ⟨p,off,none⟩∧∀ j u,news[j]? =some u→w.cell? ⟨p,off+j,none⟩=some u) (h1:∀ u∈news,u.oneCell'=true)
  (h63:n+m≤maxLen) (hbytes:(n+m)*bytes≤140737488355328) (hbase:base≤w.heap.size)
  (h:∀ v' w',w'.ownsRow base e size v' (n+m) (xs++news)→w.grownBy w' v.ownBlock→(v'.ownBlock=v.ownBlock∨v'.ownBlock=some w.heap.size)→wpList P ops Q rest (a.put o.dst v') w'):wpList P ops Q (o::rest) a w:=
 wpList_plain hgd fun _ hK=> fc w s x t ho base e i z size bytes ht hi hz hsize hby hzs hsz v n xs hs hown ad m c news hx hl hnews h1 h63 hbytes hbase fun v' w' h2 h3 h5=> hK _ _ (h v' w' h2 h3 h5)
end
end Mr
end
section
open Go.RowKit Mr
def bH(v:Value)(l:List ByteArray)(W:World):Prop:=
 ∃ a c,v=.slice a l.length c∧(l≠[]→∃ b off cs fr,a=some ⟨b,off,none⟩∧W.heap[b]? =some (.cells cs 9 fr)∧∀ (k:Nat) (t:ByteArray),l[k]? =some t→cs[off+k]? =some (.string t))
theorem bH.keep {v:Value} {l:List ByteArray} {W w2:World} (h:bH v l W)(hk:∀ (b:Nat) (cs:Array Value) (fr:Nat×Nat),W.heap[b]? =some (Obj.cells cs 9 fr)→w2.heap[b]? =W.heap[b]?):bH v l w2:=by
 obtain⟨a,c,h1,h2⟩:=h
 refine⟨a,c,h1,fun hn=> ?_⟩
 obtain⟨b,off,cs,fr,e1,e2,e3⟩:=h2 hn
 exact⟨b,off,cs,fr,e1,(hk _ _ _ e2).trans e2,e3⟩
theorem bH.step {v:Value} {l:List ByteArray} {W w2:World} (h:bH v l W)(hb:Below W.heap.size W w2):bH v l w2:=h.keep fun b _ _ e=> hb.block b (ak e)
theorem bH.nil(W:World):bH (.slice none 0 0) [] W:=⟨none,0,rfl,fun h=> absurd rfl h⟩
theorem bH.of_own {v:Value} {l:List ByteArray} {W:World} {B:Nat} (h:W.ownsRow B 9 1 v l.length (l.map Value.string)):bH v l W:=by
 obtain⟨h1,h2⟩:=h
 rcases h2 with⟨h2,h3⟩ | ⟨g,cap,cur,q1,q2,q3,q4,q5,q6,q7⟩
 ·exact⟨none,0,by rw [h2,h3],fun hn=> absurd (eF h3) hn⟩
 ·refine⟨_,cap,q1,fun _=> ⟨g,0,cur,(0,0),rfl,q3,fun k t hk=> ?_⟩⟩
  have hj:(l.map Value.string)[k]? =some (.string t):=by rw [bX,hk];rfl
  have hjl:=(aB hj).1
  rw [← q7,List.getElem?_take_of_lt (by simpa using hjl)] at hj
  simpa using hj
theorem bH.cells {v:Value} {l:List ByteArray} {W:World} (h:bH v l W):∃ a c,v=.slice a l.length c∧(l≠[]→∃ b off,a=some ⟨b,off,none⟩∧b < W.heap.size∧∀ (j:Nat) (t:ByteArray),l[j]? =some t→W.cell? ⟨b,off+j,none⟩=some (.string t)):=by
 obtain⟨a,c,h1,h2⟩:=h
 refine⟨a,c,h1,fun hn=> ?_⟩
 obtain⟨b,off,cs,fr,e1,e2,e3⟩:=h2 hn
 exact⟨b,off,e1,ak e2,fun j t hj=> ah e2 (e3 j t hj)⟩
theorem wB(l:List ByteArray)(x:ByteArray):Lib.containsS l x=hasT l x:=by
 rw [Bool.eq_iff_iff,Lib.containsS_iff]
 unfold hasT
 rw [List.any_eq_true]
 constructor
 ·intro h;exact⟨x,h,i6.2 rfl⟩
 ·rintro⟨y,h1,h2⟩;rw [← i6.1 h2];exact h1
theorem qV {l:List ByteArray} {x:ByteArray} (h:hasT l x=true):l≠[]:=by rintro rfl;cases h
theorem nP {v:Value} {l:List ByteArray} {W:World} (h:bH v l W)(hl:l.length≤1000000)(s:ByteArray):Calls Tryz.prog 99 #[v,.string s] W fun e w'=> e=.returned (.bool (hasT l s))∧w'=W:=by
 obtain⟨a,c,rfl,h2⟩:=h.cells
 by_cases hn:l=[]
 ·subst hn
  exact Any.slices_Contains_string_empty qU a c s W
 ·obtain⟨b,off,rfl,-,h3⟩:=h2 hn
  have h4:=Any.slices_Contains_string qU b off l.length c l s W (bz _) (by omega) (fun j hj=> h3 j _ (by rw [di,bh hj];rfl))
  rw [List.take_of_length_le (bz _),wB] at h4
  exact h4
structure qW(N:Nat)(v:Value)(l:List ByteArray)(W:World):Prop where
 r:bH v l W
 f:∀ k,v.ownBlock=some k→N≤k
theorem ia:(Tryz.prog.info? 9).map (fun i=> (i.zero,i.size,i.bytes))=some (some (.string ⟨#[]⟩),1,16):=by kernel_rfl
theorem clone_any {v:Value} {l:List ByteArray} {w:World} (h:bH v l w)(hl:l.length≤1000000):Calls Tryz.prog 71 #[v] w fun e w'=> ∃ v',e=.returned v'∧w'.ownsRow w.heap.size 9 1 v' l.length (l.map Value.string)∧Below w.heap.size w w':=by
 obtain⟨i0,hi,hz0,hz1,hz2⟩:=info_parts ia
 obtain⟨a,c,rfl,h2⟩:=h.cells
 cases a with
 | none=>
  have hn:l=[]:=Classical.byContradiction fun hn=> by obtain⟨b,off,e,-⟩:=h2 hn;cases e
  subst hn
  refine(AnyE.slices_Clone_nil iD 0 c w).mono fun e w' q=> ?_
  obtain⟨rfl,rfl⟩:=q
  exact⟨_,rfl,⟨rfl,ax ⟨rfl,rfl⟩⟩,Below.refl _ _⟩
 | some a=>
  by_cases hn:l=[]
  ·subst hn
   refine(Any.slices_Clone_string_zero rP a c w).mono fun e w' q=> ?_
   obtain⟨v',rfl,q1,q2⟩:=q
   exact⟨v',rfl,q1,q2.2⟩
  ·obtain⟨b,off,e,-,h3⟩:=h2 hn
   obtain rfl:=bD e
   refine(AnyE.slices_Clone iD i0 (.string ⟨#[]⟩) 1 16 hi hz0 hz1 hz2 rfl (by decide) (fun w=> Tryz.sizeOf9 w) b off l.length c (l.map Value.string) w (by simp) (by unfold maxLen;omega) (by omega) (fun j u hu=> ?_) (fun u hu=> ?_)).mono fun e w' q=> ?_
   ·rw [bX] at hu
    cases hj:l[j]? with
    | none=> rw [hj] at hu;cases hu
    | some t=> rw [hj] at hu;cases hu;exact h3 j t hj
   ·obtain⟨t,-,rfl⟩:=List.mem_map.1 hu;rfl
   ·obtain⟨v',rfl,q1,-,q2⟩:=q
    exact⟨v',rfl,q1,q2⟩
end
section
open Go.RowKit Mr
theorem mQ {α:Type} [Inhabited α]{enc:α→Value} {w:World} {b off:Nat} {d:Array α} {cs:Array Value} {t:TypeId} {fr:Nat×Nat} (h:w.heap[b]? =some (.cells cs t fr)):(Sort.putRow enc w b off d).heap[b]? =some (.cells (Sort.putCells enc off d cs) t fr):=by
 unfold Sort.putRow Sort.mapBlock
 simp [Array.getElem?_modify,h,Sort.onCells]
theorem jI {α:Type} [Inhabited α]{enc:α→Value} {w:World} {b off B:Nat} {d:Array α} (h:B≤b):Below B w (Sort.putRow enc w b off d):=by
 refine⟨rfl,rfl,rfl,?_,fun k hk=> ?_⟩
 ·unfold Sort.putRow Sort.mapBlock;simp
 ·unfold Sort.putRow Sort.mapBlock
  simp only [Array.getElem?_modify]
  rw [aA (by omega)]
theorem jJ(s x:ByteArray)(B:Nat)(W:World)(hc:W.cell? ⟨B,0,none⟩=some (.string s)):
  Calls Tryz.prog 140 #[.string x,.pointer (some ⟨B,0,none⟩)] W fun e w'=> e=.returned (.bool (fS x s))∧∃ q,w'=W.drewN q:=by
 unfold fS
 go_enter Tryz.func140,Tryz.ntmps140
 go_wp2_with fail
 go_ret
 exact⟨rfl,0,rfl⟩
theorem oD(l:List ByteArray)(p:ByteArray→Bool):(l.filter p).length≤l.length:=List.length_filter_le p l
theorem kN {v:Value} {l:List ByteArray} {w:World} (h:bH v l w)(hn:l≠[])(hl:l.length≤1000000)(s:ByteArray):
  Calls Tryz.prog 107 #[v,.string s] w fun e w'=> ∃ v',e=.returned v'∧qW w.heap.size v' (dropT l s) w'∧Below w.heap.size w w':=by
 have eg:∀ args w,(callFunc 140 args).run Tryz.prog w=.ok (.enter 140 args) w:=enters_of Tryz.func140 (by kernel_rfl) rfl
 have CC:=aa (clone_any (h.step (bU (W:=w) (o:=.cells #[.string s] 9))) hl)
 have CD:Hid (∀ (v':Value) (w2:World),w2.ownsRow (w.alloc (.cells #[.string s] 9)).heap.size 9 1 v' l.length (l.map Value.string)→Below (w.alloc (.cells #[.string s] 9)).heap.size (w.alloc (.cells #[.string s] 9)) w2→
   Calls Tryz.prog 90 #[v',.func (.func 140) #[] #[.pointer (some ⟨w.heap.size,0,none⟩)]] w2 fun e w'=> ∃ v'',e=.returned v''∧qW w.heap.size v'' (dropT l s) w'∧Below w.heap.size w w'):=by
  intro v' w2 ho hb
  have hsz:(w.alloc (.cells #[.string s] 9)).heap.size=w.heap.size+1:=by simp
  rw [hsz] at ho
  obtain⟨-,h2⟩:=ho
  have hnl:l.length≠0:=fun e=> hn (eF e)
  rcases h2 with⟨-,h3⟩ | ⟨g,cap,cur,rfl,q2,q3,q4,q5,q6,q7⟩
  ·exact absurd h3 hnl
  have hbox:∀ W,Below w2.heap.size w2 W→W.cell? ⟨w.heap.size,0,none⟩=some (.string s):=fun W hW=> by
   have e1:(w.alloc (.cells #[.string s] 9)).cell? ⟨w.heap.size,0,none⟩=some (.string s):=by go_simp
   have e2:w2.cell? ⟨w.heap.size,0,none⟩=some (.string s):=ag e1 hb
   exact ag e2 hW
  have hcur:∀ j,j < l.length→cur[j]? =some (.string (l.getD j ByteArray.empty)):=fun j hj=> by
   have hj2:(l.map Value.string)[j]? =some (.string (l.getD j ByteArray.empty)):=by
    rw [bX,di,bh hj];rfl
   rw [← q7,List.getElem?_take_of_lt (by simpa using hj)] at hj2
   simpa using hj2
  have hds:l.toArray.size=l.length:=by simp
  have hH:Sort.Holds Value.string w2 g 0 l.toArray:=fun j hj=> by
   rw [hds] at hj
   refine⟨?_,aR q3⟩
   rw [ah q3 (by rw [Nat.zero_add];exact hcur j hj)]
   simp [di,hj]
  have hp:PredAt Tryz.prog 140 #[.pointer (some ⟨w.heap.size,0,none⟩)] Value.string (fun t=> fS t s) w2:=fun W x hW=> jJ s x w.heap.size W (hbox W hW)
  have hpo:PredOver Tryz.prog 140 #[.pointer (some ⟨w.heap.size,0,none⟩)] Value.string (fun t=> fS t s) g 0 l.toArray.size w2:=fun n os dk x _=> jJ s x w.heap.size _ (by
   unfold sortWorld
   have hlt:w.heap.size < w2.heap.size:=by have:=hb.size;rw [hsz] at this;omega
   rw [Sort.cell?_grow _ _ _ (by show w.heap.size < (Sort.putRow _ _ _ _ _).heap.size;rw [Sort.size_putRow];exact hlt),Sort.cell?_putRow_other _ _ g 0 _ _ (ax (by show w.heap.size≠g;omega))]
   exact hbox w2 (Below.refl _ _))
  have hcon:=AnyE.slices_DeleteFunc jm Value.string (fun _=> rfl) (fun t=> fS t s) 140 #[.pointer (some ⟨w.heap.size,0,none⟩)] eg ⟨#[]⟩ (fun w=> Tryz.zeroValue9 w) g 0 cap l.toArray w2 hp hpo hH (by rw [hds];omega) (by rw [hds];omega)
  rw [hds] at hcon
  refine hcon.mono fun e w' q=> ?_
  obtain⟨rfl,q,rfl⟩:=q
  have hdr:(l.filter fun x=> !(fS x s))=dropT l s:=rfl
  rw [hdr]
  have hle:(dropT l s).length≤l.length:=oD _ _
  refine⟨_,rfl,⟨⟨_,cap,rfl,fun hne=> ⟨g,0,_,(0,0),rfl,mQ (w:=Sort.ahead w2 q) q3,fun k t hk=> ?_⟩⟩,fun k hk=> ?_⟩,?_⟩
  ·have hkl:k < (dropT l s).length:=(aB hk).1
   have hcl:k < cur.size:=by rw [q6];omega
   unfold Sort.putCells
   rw [Array.getElem?_mapIdx,Nat.zero_add,Array.getElem?_eq_getElem hcl]
   have hsz2:(dropT l s++List.replicate (l.length - (dropT l s).length) (⟨#[]⟩:ByteArray)).toArray.size=l.length:=by simp;omega
   simp only [Option.map_some]
   rw [aG ⟨Nat.zero_le _,by rw [hsz2];omega⟩,Nat.sub_zero]
   congr 2
   rw [getElem!_pos _ _ (by rw [hsz2];omega)]
   simp only [List.getElem_toArray]
   rw [List.getElem_append_left hkl]
   rw [bh hkl] at hk
   exact bD hk
  ·have:g=k:=by simpa [Value.ownBlock] using hk
   omega
  ·have b1:Below w.heap.size w w2:=ai bU hb
   exact b1.trans (Below.trans (b:=Sort.ahead w2 q) ⟨rfl,rfl,rfl,bz _,fun _ _=> rfl⟩ (jI (by omega)))
 clear h hn hl eg
 generalize dropT l s=r at*
 generalize l.map Value.string=xs at*
 generalize l.length=n at*
 go_enter Tryz.func107,Tryz.ntmps107
 go_wp2_with (first
  | (go_at_call 71;refine CC.out.mono ?_;rintro e w1 ⟨v',rfl,ho,hb⟩;have C2:=aa (CD.out v' w1 ho hb);clear ho hb)
  | (go_at_call 90;refine C2.out.mono ?_;rintro e w2 ⟨v2,rfl,hr,hb2⟩))
 go_ret
 exact⟨_,rfl,hr,hb2⟩
end
section
open Go.RowKit
section
variable {P:Program} {ops:Array Oper} {Q:Exit→Act→World→Prop}
def early(ops:Array Oper):Bool:=(List.range ops.size).all fun i=> ((ops[i]?).map (·.after.all fun e=> !Region.binds .any e || decide (e.on < i))).getD true
theorem ic {l:Array Bool} (hsz:l.size=ops.size)(he:early ops=true)(h:Region.ready .any ops l=[]):∀ i,i < ops.size→l.getD i true=true:=by
 intro i
 induction i using Nat.strongRecOn with
 | _ i ih=>
  intro hi
  cases hl:l.getD i true with
  | true=> rfl
  | false=>
   exfalso
   have hr:i∈Region.ready .any ops l:=by
    unfold Region.ready
    rw [List.mem_filter]
    refine⟨List.mem_range.2 hi,?_⟩
    have ho:ops[i]? =some ops[i]:=Array.getElem?_eq_getElem hi
    rw [hl,ho]
    simp only [Bool.not_false,Bool.true_and,Option.map_some,Option.getD_some]
    rw [Array.all_eq_true']
    intro e hem
    have h1:=List.all_eq_true.1 he i (List.mem_range.2 hi)
    rw [ho] at h1
    simp only [Option.map_some,Option.getD_some] at h1
    rw [Array.all_eq_true'] at h1
    have h2:=h1 e hem
    cases hb:Region.binds .any e with
    | false=> simp
    | true=>
     rw [hb] at h2
     simp at h2
     have h3:=ih e.on h2 (by omega)
     have:l.getD e.on false=true:=by
      rw [Array.getD_eq_getD_getElem?] at h3 ⊢
      cases hx:l[e.on]? with
      | some x=> rw [hx] at h3;simpa using h3
      | none=>
       exfalso
       rw [Array.getElem?_eq_none_iff] at hx
       omega
     simp [this]
   rw [h] at hr
   exact absurd hr (by simp)
def left(l:Array Bool):Nat:=l.toList.count false
theorem jK {l:Array Bool} {i:Nat} (hi:i < l.size)(h:l.getD i true=false):left (l.setIfInBounds i true)+1=left l:=by
 obtain⟨l⟩:=l
 simp only [left,List.setIfInBounds_toArray]
 have hi':i < l.length:=by simpa using hi
 have h':l[i]=false:=by
  rw [Array.getD_eq_getD_getElem?] at h
  simpa [hi'] using h
 rw [List.count_set hi']
 have hc:0 < List.count false l:=List.count_pos_iff.2 (h' ▸ List.getElem_mem hi')
 simp [h']
 omega
theorem i8 {md:Region.Mode} {l:Array Bool} {i:Nat} (h:i∈Region.ready md ops l):
  i < ops.size∧l.getD i true=false∧∀ o,ops[i]? =some o→(o.after.all fun e=> !Region.binds md e || l.getD e.on false)=true:=by
 unfold Region.ready at h
 rw [List.mem_filter] at h
 obtain⟨h1,h2⟩:=h
 rw [Bool.and_eq_true] at h2
 refine⟨List.mem_range.1 h1,by simpa using h2.1,fun o ho=> ?_⟩
 have h3:=h2.2
 rw [ho] at h3
 simpa using h3
theorem wC(he:early ops=true)(I:Array Bool→Act→World→Prop)(hsz:∀ l a w,I l a w→l.size=ops.size)
  (step:∀ i o,ops[i]? =some o→∀ l a w,I l a w→l.getD i true=false→(o.after.all fun e=> !Region.binds .any e || l.getD e.on false)=true→wpOp P ops Q i (I (l.setIfInBounds i true)) a w)
  (done:∀ l a w,I l a w→(∀ i,i < ops.size→l.getD i true=true)→Q .normal a w):
  ∀ fuel l a w,I l a w→left l≤fuel→wpAny P .any ops Q fuel l a w:=by
 intro fuel
 induction fuel with
 | zero=>
  intro l a w hI hf
  have hr:Region.ready .any ops l=[]:=by
   rw [List.eq_nil_iff_forall_not_mem]
   intro i hi
   obtain⟨h1,h2,_⟩:=i8 hi
   have:=jK (by rw [hsz l a w hI];exact h1) h2
   omega
  exact⟨hr,done l a w hI (ic (hsz l a w hI) he hr)⟩
 | succ n ih=>
  intro l a w hI hf
  refine⟨fun hr=> done l a w hI (ic (hsz l a w hI) he hr),fun i hi=> ?_⟩
  obtain⟨h1,h2,h3⟩:=i8 hi
  have ho:ops[i]? =some ops[i]:=Array.getElem?_eq_getElem h1
  have hl:=jK (by rw [hsz l a w hI];exact h1) h2
  exact wpOp_mono (fun a' w' h'=> ih _ a' w' h' (by omega)) (step i _ ho l a w hI h2 (h3 _ ho))
theorem lm(n:Nat):left (Array.replicate n false)=n:=by simp [left]
theorem jq {id:Nat} {a:Act} {w:World} (hm:P.follows .mixedOrders=true)(he:early ops=true)(I:Array Bool→Act→World→Prop)(h0:I (Array.replicate ops.size false) a w.drew)(hsz:∀ l a w,I l a w→l.size=ops.size)
  (step:∀ i o,ops[i]? =some o→∀ l a w,I l a w→l.getD i true=false→(o.after.all fun e=> !Region.binds .any e || l.getD e.on false)=true→wpOp P ops Q i (I (l.setIfInBounds i true)) a w)
  (done:∀ l a w,I l a w→(∀ i,i < ops.size→l.getD i true=true)→Q .normal a w):(Code.region id ops true).wp P Q a w:=
 wp_region_any hm (wC he I hsz step done ops.size _ _ _ h0 (by rw [lm];exact bz _))
theorem eQ {i:Nat} {o:Oper} {K:Act→World→Prop} {a:Act} {w:World} (hi:ops[i]? =some o)(hg:o.guard=none)(h:o.wp P a w K Q):wpOp P ops Q i K a w:=by
 unfold wpOp
 rw [hi]
 simp only [Region.wanted,hg,if_true]
 exact .inl h
end
end
section
open Go.RowKit
def updAll(a:Act):List (Nat×Value)→Act
 | []=> a
 | (d,v)::l=> (updAll a l).put (some d) v
section
variable {P:Program} {ops:Array Oper} {Q:Exit→Act→World→Prop}
end
end
section
open Go.RowKit
section
variable {F:Fence} {n:Nat} {P:Program} {ops:Array Oper} {Q:Exit→Act→World→Prop}
def waits(ops:Array Oper)(i:Nat):List Nat:=((ops[i]?).map fun o=> (o.after.toList.filter (Region.binds .any)).map (·.on)).getD []
def jg(ops:Array Oper):Nat→Nat→List Nat
 | 0,_=> []
 | f+1,i=> waits ops i++(waits ops i).flatMap (jg ops f)
def Shut(ops:Array Oper)(l:Array Bool):Prop:=∀ i,l.getD i false=true→∀ j∈waits ops i,l.getD j false=true
theorem Shut.anc {l:Array Bool} (h:Shut ops l):∀ f i,l.getD i false=true→∀ j∈jg ops f i,l.getD j false=true:=by
 intro f
 induction f with
 | zero=> intro i _ j hj;cases hj
 | succ f ih=>
  intro i hi j hj
  rcases List.mem_append.1 hj with hj | hj
  ·exact h i hi j hj
  ·obtain⟨k,hk,hkj⟩:=List.mem_flatMap.1 hj
   exact ih k (h i hi k hk) j hkj
theorem gp {l:Array Bool} {i:Nat} {o:Oper} (ho:ops[i]? =some o)(h:(o.after.all fun e=> !Region.binds .any e || l.getD e.on false)=true):∀ j∈waits ops i,l.getD j false=true:=by
 intro j hj
 unfold waits at hj
 rw [ho] at hj
 simp only [Option.map_some,Option.getD_some] at hj
 obtain⟨e,he,rfl⟩:=List.mem_map.1 hj
 obtain⟨he1,he2⟩:=List.mem_filter.1 he
 rw [Array.all_eq_true'] at h
 have:=h e (by simpa using he1)
 rw [he2] at this
 simpa using this
theorem ec {l:Array Bool} {i:Nat} (h:l.getD i true=false):l.getD i false=false:=by
 rw [Array.getD_eq_getD_getElem?] at h ⊢
 cases hx:l[i]? with
 | none=> rw [hx] at h;simp at h
 | some x=> rw [hx] at h;simpa using h
theorem wE {l:Array Bool} {i:Nat} (hi:i < l.size)(h:l.getD i false=true):l.getD i true=true:=by
 rw [Array.getD_eq_getD_getElem?] at h ⊢
 rw [Array.getElem?_eq_getElem hi] at h ⊢
 simpa using h
theorem kX {l:Array Bool} {i:Nat} (hi:i < l.size)(h:l.getD i true=true):l.getD i false=true:=by
 rw [Array.getD_eq_getD_getElem?] at h ⊢
 rw [Array.getElem?_eq_getElem hi] at h ⊢
 simpa using h
theorem aZ {l:Array Bool} {i j:Nat} {b:Bool} (hi:i < l.size):(l.setIfInBounds i true).getD j b=if i=j then true else l.getD j b:=by
 rw [Array.getD_eq_getD_getElem?,Array.getD_eq_getD_getElem?,Array.getElem?_setIfInBounds]
 split
 ·simp [hi]
 ·rfl
theorem Shut.set {l:Array Bool} {i:Nat} (h:Shut ops l)(hi:i < l.size)(hw:∀ j∈waits ops i,l.getD j false=true):Shut ops (l.setIfInBounds i true):=by
 intro k hk j hj
 rw [aZ hi] at hk ⊢
 split
 ·rfl
 ·by_cases e:i=k
  ·subst e;exact hw j hj
  ·rw [aA e] at hk
   exact h k hk j hj
theorem mR(he:early ops=true)(I:Array Bool→Act→World→Prop)(hsz:∀ l a w,I l a w→l.size=ops.size)
  (step:∀ i o,ops[i]? =some o→∀ l a w,I l a w→l.getD i true=false→(o.after.all fun e=> !Region.binds .any e || l.getD e.on false)=true→wpOpIn F n P ops Q i (I (l.setIfInBounds i true)) a w)
  (done:∀ l a w,I l a w→(∀ i,i < ops.size→l.getD i true=true)→Q .normal a w):
  ∀ fuel l a w,I l a w→left l≤fuel→wpAnyIn F n P .any ops Q fuel l a w:=by
 intro fuel
 induction fuel with
 | zero=>
  intro l a w hI hf
  have hr:Region.ready .any ops l=[]:=by
   rw [List.eq_nil_iff_forall_not_mem]
   intro i hi
   obtain⟨h1,h2,_⟩:=i8 hi
   have:=jK (by rw [hsz l a w hI];exact h1) h2
   omega
  exact⟨hr,done l a w hI (ic (hsz l a w hI) he hr)⟩
 | succ n ih=>
  intro l a w hI hf
  refine⟨fun hr=> done l a w hI (ic (hsz l a w hI) he hr),fun i hi=> ?_⟩
  obtain⟨h1,h2,h3⟩:=i8 hi
  have ho:ops[i]? =some ops[i]:=Array.getElem?_eq_getElem h1
  have hl:=jK (by rw [hsz l a w hI];exact h1) h2
  exact wpOpIn_mono (fun a' w' h'=> ih _ a' w' h' (by omega)) (step i _ ho l a w hI h2 (h3 _ ho))
theorem mI {id:Nat} {a:Act} {w:World} (N:Nat)(hm:P.follows .mixedOrders=true)(he:early ops=true)(hs0:ops.size=N+2)
  (hA:((List.range N).all fun j=> (jg ops 6 N).contains j)=true) (hB:(waits ops (N+1)).contains N=true) (I:Array Bool→Act→Prop) (h0:I (Array.replicate ops.size false) a)
  (step:∀ i o,i < N→ops[i]? =some o→∀ l a,I l a→l.size=ops.size→l.getD i true=false→(o.after.all fun e=> !Region.binds .any e || l.getD e.on false)=true→
   wpOpIn F n P ops Q i (fun a' w'=> w'=w.drew∧I (l.setIfInBounds i true) a') a w.drew)
  (tail:∀ l a,I l a→l.size=ops.size→(∀ j,j < N→l.getD j true=true)→wpOpIn F n P ops Q N (fun a1 w1=> wpOpIn F n P ops Q (N+1) (fun a2 w2=> Q .normal a2 w2) a1 w1) a w.drew):
  (Code.region id ops true).wpIn F n P Q a w:=by
 have hA':∀ j,j < N→j∈jg ops 6 N:=fun j hj=> by simpa using List.all_eq_true.1 hA j (List.mem_range.2 hj)
 have hB':N∈waits ops (N+1):=by simpa using hB
 refine wpIn_region_any hm (mR he (fun l a w'=> l.size=ops.size∧Shut ops l∧((l.getD N true=false∧l.getD (N+1) true=false∧w'=w.drew∧I l a)∨
  (l.getD N false=true∧l.getD (N+1) true=false∧wpOpIn F n P ops Q (N+1) (fun a2 w2=> Q .normal a2 w2) a w')∨(l.getD N false=true∧l.getD (N+1) false=true∧Q .normal a w'))) (fun l a w h=> h.1) ?_ ?_ ops.size _ _ _ ?_ (by rw [lm];exact bz _))
 ·rintro i o ho l a w' ⟨hs,hS,hJ⟩ hl hd
  have hio:i < ops.size:=(Array.getElem?_eq_some_iff.1 ho).1
  have hil:i < l.size:=by rw [hs];exact hio
  have hw:=gp ho hd
  have hS2:=hS.set hil hw
  have hs2:(l.setIfInBounds i true).size=ops.size:=by simpa using hs
  have hi3:i < N∨i=N∨i=N+1:=by omega
  rcases hi3 with hi | rfl | rfl
  ·rcases hJ with⟨j1,j2,rfl,j3⟩ | ⟨j1,_⟩ | ⟨j1,_⟩
   ·refine wpOpIn_mono ?_ (step i o hi ho l a j3 hs hl hd)
    rintro a' w'' ⟨rfl,h⟩
    refine⟨hs2,hS2,ax ⟨?_,?_,rfl,h⟩⟩
    ·rw [aZ hil,aA (by omega)];exact j1
    ·rw [aZ hil,aA (by omega)];exact j2
   ·exact absurd (hS.anc 6 N j1 i (hA' i hi)) (by rw [ec hl];decide)
   ·exact absurd (hS.anc 6 N j1 i (hA' i hi)) (by rw [ec hl];decide)
  ·rcases hJ with⟨j1,j2,rfl,j3⟩ | ⟨j1,_⟩ | ⟨j1,_⟩
   ·have hall:∀ j,j < i→l.getD j true=true:=by
     intro j hj
     have:=hS2.anc 6 i (by rw [aZ hil,aG rfl]) j (hA' j hj)
     rw [aZ hil,aA (by omega)] at this
     exact wE (by omega) this
    refine wpOpIn_mono ?_ (tail l a j3 hs hall)
    intro a' w'' h
    refine⟨hs2,hS2,ay (ax ⟨?_,?_,h⟩)⟩
    ·rw [aZ hil,aG rfl]
    ·rw [aZ hil,aA (by omega)];exact j2
   ·exact absurd j1 (by rw [ec hl];decide)
   ·exact absurd j1 (by rw [ec hl];decide)
  ·have hN:=hw N hB'
   rcases hJ with⟨j1,_⟩ | ⟨j1,j2,j3⟩ | ⟨_,j1,_⟩
   ·exact absurd hN (by rw [ec j1];decide)
   ·refine wpOpIn_mono ?_ j3
    intro a' w'' h
    refine⟨hs2,hS2,ay (ay ⟨?_,?_,h⟩)⟩
    ·rw [aZ hil,aA (by omega)];exact j1
    ·rw [aZ hil,aG rfl]
   ·exact absurd j1 (by rw [ec hl];decide)
 ·rintro l a w' ⟨hs,hS,hJ⟩ hall
  rcases hJ with⟨j1,_⟩ | ⟨_,j1,_⟩ | ⟨_,_,j⟩
  ·rw [hall N (by omega)] at j1;cases j1
  ·rw [hall (N+1) (by omega)] at j1;cases j1
  ·exact j
 ·refine⟨by simp,fun i hi=> ?_,ax ⟨?_,?_,rfl,h0⟩⟩
  ·rw [Array.getD_eq_getD_getElem?] at hi
   by_cases h:i < ops.size
   ·simp [h] at hi
   ·simp [h] at hi
  ·simp [Array.getD_eq_getD_getElem?,hs0]
  ·simp [Array.getD_eq_getD_getElem?,hs0]
theorem jL {i:Nat} {o:Oper} {K:Act→World→Prop} {a:Act} {w:World} (hi:ops[i]? =some o)(hg:o.guard=none)(h:o.wpIn F n P a w K Q):wpOpIn F n P ops Q i K a w:=by
 unfold wpOpIn
 rw [hi]
 simp only [Region.wanted,hg,if_true]
 exact h
end
end
end Go.Proofs.YtmpilgkfbibhlaaGreatDoor
