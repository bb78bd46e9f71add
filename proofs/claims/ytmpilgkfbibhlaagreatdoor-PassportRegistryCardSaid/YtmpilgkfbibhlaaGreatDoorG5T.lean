/-
 G5T
-/
import Derived.Test.YtmpilgkfbibhlaaGreatDoorG4T
set_option linter.unusedSimpArgs false
set_option linter.unusedVariables false
set_option maxRecDepth 100000
set_option maxHeartbeats 20000000
namespace Go.Proofs.YtmpilgkfbibhlaaGreatDoor
section
open Go.RowKit Go.Shelf
attribute [local go_sem] Oper.semAt_some
theorem zW {W:World} {o:Obj}:Below W.heap.size W (W.alloc o):=(Below.refl _ _).alloc (bz _) _
theorem yx {s n₀:Nat} {w:World} (hn:n₀≤w.heap.size)(W:World)(l:Nat)(o o':Obj)(hl:w.heap.size≤l)(h:W.heap[l]? =some o)(h1:o.isCells=false)(h2:o.isWalk=false):fF s n₀ W (W.putObj l o'):=fF.of_below (belowK_b hn W l o o' hl h h1 h2)
theorem rY(p b x bf off cap:Nat)(a:Option Addr)(m:List Nat)(w:World)(hp0:0 < p)(hp:p < 2147483648)(hx:x < 2147483648)(hb1:1≤b)(hb3:b≤3)(hB:mG m)(hlen:m.length≤2000)
  (hbf:bf < w.heap.size) (hP:w.cell? ⟨bf,off,none⟩=some (.int .u64 p)) (hQ:w.cell? ⟨bf,off+1,none⟩=some (.int .i64 b)) (hA:jp a m w.heap.size w.heap.size w):
  CallsIn Fence.wide 5 Tryz.prog 41 #[.pointer (some ⟨bf,off,none⟩),.int .u64 x,.slice a m.length cap] w fun e w'=> e=.returned (.int .u64 (dig p b x m))∧Below w.heap.size w w':=by
 refine callsIn_of_wp_marks Tryz.func41 rfl trivial ?_ rfl
 simp only [Tryz.ntmps41,List.size_toArray,List.length_cons,List.length_nil,Nat.reduceAdd,Nat.reduceSub,Array.replicate_succ,Array.replicate_zero,List.push_toArray,List.append_toArray,List.nil_append,List.cons_append]
 gi_wp2_with (refine⟨trivial,?_⟩;gi_at_call 96;refine(ug Fence.wide _ trivial rfl _ _ _ _ _).mono ?_;rintro e w' ⟨rfl,rfl⟩)
 have kW:Below w.heap.size w (((((w.alloc (Obj.cells #[(.pointer (some ⟨bf,off,none⟩))] 95)).alloc (Obj.cells #[(.int .u64 x)] 22)).alloc (Obj.cells #[.int .u64 0] 22)).alloc (Obj.cells #[(.pointer (some ⟨bf,off,none⟩))] 95)).alloc (Obj.cells #[(.slice a m.length cap)] 88)):=(((((Below.refl _ w).alloc (bz _) _).alloc (by simp) _).alloc (by simp;omega) _).alloc (by simp;omega) _).alloc (by simp;omega) _
 have e5:((((((w.alloc (Obj.cells #[(.pointer (some ⟨bf,off,none⟩))] 95)).alloc (Obj.cells #[(.int .u64 x)] 22)).alloc (Obj.cells #[.int .u64 0] 22)).alloc (Obj.cells #[(.pointer (some ⟨bf,off,none⟩))] 95)).alloc (Obj.cells #[(.slice a m.length cap)] 88))).heap.size=w.heap.size+5:=by simp
 have kA:jp a m (w.heap.size+1+1) (w.heap.size+5) (((((w.alloc (Obj.cells #[(.pointer (some ⟨bf,off,none⟩))] 95)).alloc (Obj.cells #[(.int .u64 x)] 22)).alloc (Obj.cells #[.int .u64 0] 22)).alloc (Obj.cells #[(.pointer (some ⟨bf,off,none⟩))] 95)).alloc (Obj.cells #[(.slice a m.length cap)] 88)):=fun hn=> by
  obtain⟨b',o',rfl,h1,h2⟩:=hA hn
  exact⟨b',o',rfl,⟨by omega,by omega⟩,fun k hk=> (kW.cell (p:=⟨b',o'+k,none⟩) h1.1).trans (h2 k hk)⟩
 refine wpIn_rangeFunc_ownH rfl (by omega) (gf:=134) (lb:=#[.pointer (some ⟨w.heap.size+1+1+1+1,0,none⟩),.pointer (some ⟨w.heap.size+1+1+1,0,none⟩)]) rfl trivial (enters_of Tryz.func134 (by kernel_rfl) rfl)
  (words_stops Fence.wide (5 - 1) trivial rfl (by omega) (w.heap.size+1+1+1+1) (w.heap.size+1+1+1) bf off (w.heap.size+1+1) (w.heap.size+5) cap b a m hb1 hb3 hB hlen ⟨by omega,by omega⟩ ⟨by omega,by omega⟩ ⟨by omega,by omega⟩ (((((w.alloc (Obj.cells #[(.pointer (some ⟨bf,off,none⟩))] 95)).alloc (Obj.cells #[(.int .u64 x)] 22)).alloc (Obj.cells #[.int .u64 0] 22)).alloc (Obj.cells #[(.pointer (some ⟨bf,off,none⟩))] 95)).alloc (Obj.cells #[(.slice a m.length cap)] 88)) (by simp) (by go_simp) (by go_simp) ((kW.cell (p:=⟨bf,off+1,none⟩) hbf).trans hQ) kA)
  fF.trans (yx (by simp)) (Below.refl _ _) (fun _=> rfl)
  (fun pre W=> (W.cell? ⟨w.heap.size+1+1,0,none⟩=some (.int .u64 (horner p x (pre.map (wx b m))))∧W.frozen? ⟨w.heap.size+1+1,0,none⟩=false∧W.cell? ⟨w.heap.size,0,none⟩=some (.pointer (some ⟨bf,off,none⟩))∧W.cell? ⟨w.heap.size+1,0,none⟩=some (.int .u64 x))∧Below w.heap.size w W)
  (fun c pre W=> False)
  (OwnFrom.and (Own.from (fun s A B row hs hg hr=> ⟨cell_kept hs.1 hg hr,(frozen_kept hs.1 hg hr).trans hs.2.1,cell_kept hs.2.2.1 hg hr,cell_kept hs.2.2.2 hg hr⟩) _) (ownFrom_below (bz _) (by simp;omega)))
  (fun c=> fun s A B row hs _ _=> hs)
  ⟨⟨by go_simp;rfl,by go_simp,by go_simp,by go_simp⟩,kW⟩
  (fun k a' W=> a'={ tmps:=#[(.pointer (some ⟨bf,off,none⟩)),(.int .u64 x),(.slice a m.length cap),(.pointer (some ⟨w.heap.size,0,none⟩)),(.pointer (some ⟨w.heap.size+1,0,none⟩)),undef,(.int .u64 0),(.pointer (some ⟨w.heap.size+1+1,0,none⟩)),(.int .u64 (wx b m k)),(.pointer (some ⟨bf,off,none⟩)),(.slice a m.length cap),(.func (.func 134) #[] #[.pointer (some ⟨w.heap.size+1+1+1+1,0,none⟩),.pointer (some ⟨w.heap.size+1+1+1,0,none⟩)]),(.int .u64 (wx b m k)),undef,undef,undef,undef,undef,undef,undef,undef,undef,undef,undef],defers:=[] })
  (fun k a' _ A B row hs hg hr=> hs) ?assign ?body ?done ?stop
 case assign=>
  rintro l pre k W K ⟨⟨i1,i2,i3,i5⟩,i4⟩ hK
  gi_wp2
  exact hK _ _ ((KeepsOthers.refl _).from _) (fF.refl _ _ _) ⟨⟨i1,i2,i3,i5⟩,i4⟩ rfl
 case body=>
  rintro l pre k a' W hl ⟨r',hr'⟩ ⟨⟨i1,i2,i3,i5⟩,i4⟩ rfl hlt
  have hs:w.heap.size+1+1 < W.heap.size:=cell_lt i1
  have hfp:=(i4.cell (p:=⟨bf,off,none⟩) hbf).trans hP
  have hnext:horner p x ((pre++[k]).map (wx b m))=(horner p x (pre.map (wx b m))+wx b m k)*x % p:=by rw [List.map_append];exact oI _ _ _ _
  have h1:=fw hp0 x (pre.map (wx b m))
  have h2:=yd hB hb3 k
  generalize horner p x (pre.map (wx b m))=S at*
  generalize wx b m k=V at*
  have h3:(S+V)*x≤2164260863*2147483648:=Nat.mul_le_mul (by omega) (by omega)
  have e1:((S:Int)+(V:Int))*(x:Int)=(((S+V)*x:Nat):Int):=by push_cast;rfl
  generalize(S+V)*x=T at*
  have e2:(T:Int).tmod p=((T % p:Nat):Int):=by rw [Int.tmod_eq_emod_of_nonneg (by omega)];rfl
  have hTp:T % p < p:=Nat.mod_lt _ hp0
  generalize hR:T % p=R at*
  gi_wp2
  refine lq 9 [(13,(.int .u64 S)),(14,(.int .u64 V)),(15,(.int .u64 (S+V))),(16,(.int .u64 x)),(17,(.int .u64 T)),(18,(.pointer (some ⟨bf,off,none⟩))),(19,(.pointer (some ⟨bf,off,none⟩))),(20,(.pointer (some ⟨bf,off,none⟩))),(21,(.int .u64 p))] (by kernel_rfl) (by kernel_rfl) rfl (by kernel_rfl) (by kernel_rfl) (by kernel_rfl) (by rfl) ?vals ?tail
  case vals=>
   simp only [updAll,Act.put,List.setIfInBounds_toArray,List.set_cons_zero,List.set_cons_succ,List.take_succ_cons,List.take_zero,fU]
   refine⟨?_,?_,?_,?_,?_,?_,?_,?_,?_,trivial⟩
   all_goals(refine⟨_,_,rfl,rfl,?_,?_⟩ <;> go_simp)
   all_goals(try exact Go.IntWalk.u64_in _ ⟨by omega,by omega⟩)
  case tail=>
   simp only [updAll,Act.put,List.setIfInBounds_toArray,List.set_cons_zero,List.set_cons_succ]
   refine jL rfl rfl ?_
   gi_wp2
   refine jL rfl rfl ?_
   gi_wp2
   have k1:=(KeepsOthers.setCell W ⟨w.heap.size+1+1,0,none⟩ (.int .u64 R)).from (w.heap.size+5)
   have k2:fF (w.heap.size+1+1) (w.heap.size+5) W (W.setCell ⟨w.heap.size+1+1,0,none⟩ (.int .u64 R)):=fun q hq hne=> Below.heap_setCell W _ _ _ hne
   have k3:=i4.setCell (p:=⟨w.heap.size+1+1,0,none⟩) (by simp;omega) (.int .u64 R)
   have k4:(W.setCell ⟨w.heap.size+1+1,0,none⟩ (.int .u64 R)).cell? ⟨w.heap.size+1+1,0,none⟩=some (.int .u64 R):=World.cell?_setCell_same' _ _ _ (by rw [i1];rfl)
   have k5:(W.setCell ⟨w.heap.size+1+1,0,none⟩ (.int .u64 R)).frozen? ⟨w.heap.size+1+1,0,none⟩=false:=by go_simp
   have k6:(W.setCell ⟨w.heap.size+1+1,0,none⟩ (.int .u64 R)).cell? ⟨w.heap.size,0,none⟩=some (.pointer (some ⟨bf,off,none⟩)):=(World.cell?_of_block (w:=W) (Below.heap_setCell W _ _ _ (show w.heap.size≠w.heap.size+1+1 by omega))).trans i3
   have k7:(W.setCell ⟨w.heap.size+1+1,0,none⟩ (.int .u64 R)).cell? ⟨w.heap.size+1,0,none⟩=some (.int .u64 x):=(World.cell?_of_block (w:=W) (Below.heap_setCell W _ _ _ (show w.heap.size+1≠w.heap.size+1+1 by omega))).trans i5
   exact⟨by rw [e5];exact⟨k1.size,k1.same⟩,k2,⟨k4.trans (by rw [hnext]),k5,k6,k7⟩,k3.drew⟩
 case done=>
  rintro D zs W hD rfl ⟨⟨i1,i2,i3,i5⟩,i4⟩ hK
  gi_wp2
  refine⟨by simp,.inl ⟨_,_,rfl,run_takeDeferred hK,?_⟩⟩
  refine⟨.int .u64 (dig p b x m),?_,rfl,i4.trans (belowK_b (w:=w) (bz _) _ D _ _ (by simp at hD;omega) hK rfl rfl)⟩
  simp [results,Tryz.f41,go_sem]
  rfl
 case stop=>
  rintro D c pre W hD hsp hf hK
  exact hf.elim
end
section
open Go.RowKit
theorem kV {P:Program} (w:World)(t ty e:TypeId)(i:TypeInfo)(ht:P.underlying t=some (.slice e))(hi:P.info? e=some i)(base:Option Addr)(n cap:Nat)(h:n≤cap)(a:Option Addr)(c:Nat):
  (Builtin.append_ #[t,t] ty #[.slice base n cap,.slice a 0 c]).run P w=.ok (.slice base n cap) w:=by
 have hfc:(Builtin.firstCells i.size 0 (.slice a 0 c)).run P w=.ok #[] w:=by
  cases a with
  | none=> simp [Builtin.firstCells]
  | some a=>
   simp only [Builtin.firstCells,Nat.zero_mul]
   have:=run_firstCells_some (P:=P) w i.size 0 a 0 c [] (by simp) (fun j x hx=> by simp at hx)
   simpa [Builtin.firstCells] using this
 cases base with
 | none=> simp [Builtin.append_,run_underlying ht,sizeOf,typeInfo,hi,Builtin.lenOf,h,hfc]
 | some b=> simp [Builtin.append_,run_underlying ht,sizeOf,typeInfo,hi,Builtin.lenOf,h,hfc,storeCells]
theorem jQ {P:Program} {w:World} {ops:Array Oper} {rest:List Oper} {o:Oper} {a:Act} {Q:Exit→Act→World→Prop} (hgd:o.guard=none)(s x:Operand)(t:TypeId)
  (ho:o.op=.call { callee:=.builtin .append,args:=#[s,x],argTypes:=#[t,t] })
  (base:Nat) (e:TypeId) (i:TypeInfo) (z:Value) (size bytes:Nat) (ht:P.underlying t=some (.slice e)) (hi:P.info? e=some i) (hz:i.zero=some z)
  (hsize:i.size=size) (hby:i.bytes=bytes) (hzs:z.cells.size=size) (hsz:0 < size)
  (v:Value) (n:Nat) (xs:List Value) (hs:a.eval s=v) (hown:w.ownsRow base e size v n xs)
  (ad:Option Addr) (m c:Nat) (news:List Value) (hx:a.eval x=.slice ad m c) (hl:news.length=m*size) (hnews:m≠0→∃ b,ad=some b∧∀ j u,news[j]? =some u→w.cell? (b.add j)=some u) (h1:∀ u∈news,u.oneCell'=true)
  (h63:n+m≤maxLen) (hbytes:(n+m)*bytes≤140737488355328) (hbase:base≤w.heap.size)
  (h:∀ v' w',w'.ownsRow base e size v' (n+m) (xs++news)→w.grownBy w' v.ownBlock→wpList P ops Q rest (a.put o.dst v') w'):wpList P ops Q (o::rest) a w:=by
 by_cases hm:m=0
 ·subst hm
  have hn:news=[]:=eF (by simpa using hl)
  subst hn
  have hv:∃ b cap,v=.slice b n cap∧n≤cap:=by
   rcases hown.2 with⟨rfl,rfl⟩ | ⟨g,cap,cur,rfl,-,-,h4,-⟩
   ·exact⟨none,0,rfl,bz _⟩
   ·exact⟨_,cap,rfl,h4⟩
  obtain⟨b,cap,hv,hc⟩:=hv
  have hr:=kV (P:=P) w t o.type e i ht hi b n cap hc ad c
  refine Go.wpList_plain hgd fun _ hK=> ?_
  unfold Oper.wp execOp
  simp only [ho,resolve,invoke,builtin,Sem.run_bind,Sem.run_pure,Result.andThen_ok,List.map_toArray,List.map_cons,List.map_nil,hs,hx,hv,hr]
  refine hK _ _ (h _ _ ?_ ?_)
  ·rw [← hv,Nat.add_zero,List.append_nil];exact hown
  ·exact⟨rfl,rfl,rfl,bz _,fun _ _ _=> rfl⟩
 ·obtain⟨b,rfl,hb⟩:=hnews hm
  exact wpList_append_own w hgd s x t ho base e i z size bytes ht hi hz hsize hby hzs hsz v n xs hs hown b m c news hx hl hb h1 h63 hbytes hbase fun v' w' k1 k2 _=> h v' w' k1 k2
def flatN(k:IntKind)(xs:List Nat):List Value:=xs.map fun n:Nat=> Value.int k (n:Int)
theorem mW(k:IntKind)(xs:List Nat):(flatN k xs).length=xs.length:=by simp [flatN]
theorem rZ {k:IntKind} {xs:List Nat}:∀ u∈flatN k xs,u.oneCell'=true:=fun u hu=> by
 obtain⟨n,_,rfl⟩:=List.mem_map.1 hu;rfl
theorem r6(k:IntKind)(xs ys:List Nat):flatN k (xs++ys)=flatN k xs++flatN k ys:=by simp [flatN]
def gw(W:World)(B:Nat)(e:TypeId)(k:IntKind)(v:Value)(xs:List Nat):Prop:=W.ownsRow B e 1 v xs.length (flatN k xs)
theorem r7 {W w2:World} {B e s:Nat} {v:Value} {n:Nat} {xs:List Value} (h:W.ownsRow B e s v n xs)(hb:Below W.heap.size W w2):w2.ownsRow B e s v n xs:=by
 obtain⟨h1,h2⟩:=h
 refine⟨h1,?_⟩
 rcases h2 with h2 | ⟨g,cap,cur,q1,q2,q3,q4⟩
 ·exact ax h2
 ·exact ay ⟨g,cap,cur,q1,q2,an q3 hb,q4⟩
theorem gw.at_ {W:World} {B e:Nat} {k:IntKind} {v:Value} {xs:List Nat} (h:gw W B e k v xs):∃ a c,v=.slice a xs.length c∧∀ j,j < xs.length→∃ b off,a=some ⟨b,off,none⟩∧W.cell? ⟨b,off+j,none⟩=some (.int k (xs.getD j 0:Nat)):=by
 obtain⟨h1,h2⟩:=h
 rcases h2 with⟨rfl,h2⟩ | ⟨g,cap,cur,rfl,q2,q3,q4,q5,q6,q7⟩
 ·exact⟨none,0,by rw [h2],fun j hj=> by omega⟩
 ·refine⟨_,_,rfl,fun j hj=> ⟨g,0,rfl,?_⟩⟩
  have hf:(flatN k xs)[j]? =some (.int k (xs.getD j 0:Nat)):=by simp [flatN,di,bh hj]
  rw [← q7,List.getElem?_take_of_lt (by omega)] at hf
  exact ah q3 (by simpa using hf)
theorem lc {W:World} {B e s:Nat} {v:Value} {n:Nat} {xs:List Value} (h:W.ownsRow B e s v n xs):∀ k,v.ownBlock=some k→B≤k:=fun k hk=> (h.lt k hk).1
theorem uh {W:World} {B e f s s':Nat} {v u:Value} {n m:Nat} {xs ys:List Value} (hne:e≠f)(h:W.ownsRow B e s v n xs)(g:W.ownsRow B f s' u m ys):v.ownBlock=none∨v.ownBlock≠u.ownBlock:=by
 rcases h.2 with⟨rfl,_⟩ | ⟨b1,cap,cur,rfl,q2,q3,_⟩
 ·exact ax rfl
 ·right
  rcases g.2 with⟨rfl,_⟩ | ⟨b2,cap2,cur2,rfl,r2,r3,_⟩
  ·intro e;cases e
  ·intro e
   simp only [Value.ownBlock,Option.some.injEq] at e
   rw [e,r3] at q3
   simp only [Option.some.injEq,Obj.cells.injEq] at q3
   exact hne q3.2.1.symm
theorem rc:(Tryz.prog.info? 5).map (fun i=> (i.zero,i.size,i.bytes))=some (some (.int .u8 0),1,1):=by kernel_rfl
theorem yz:(Tryz.prog.info? 22).map (fun i=> (i.zero,i.size,i.bytes))=some (some (.int .u64 0),1,8):=by kernel_rfl
theorem ju(W:World)(k:IntKind)(x:Int)(T:TypeId):∀ j u,[Value.int k x][j]? =some u→(W.alloc (.cells #[.int k x] T)).cell? ((⟨W.heap.size,0,none⟩:Addr).add j)=some u:=by
 intro j u hj
 match j,hj with
 | 0,hj=> simp at hj;subst hj;simp [Addr.add]
theorem lA(k:IntKind)(x:Int):∀ u∈[Value.int k x],u.oneCell'=true:=by
 intro u hu
 simp at hu
 rw [hu];rfl
theorem gw.more {W:World} {B e:Nat} {k:IntKind} {v:Value} {xs:List Nat} {x:Nat} (h:W.ownsRow B e 1 v (xs.length+1) (flatN k xs++[.int k x])):gw W B e k v (xs++[x]):=by
 unfold gw
 rw [r6,cY]
 show W.ownsRow B e 1 v (xs.length+1) (flatN k xs++[.int k x])
 exact h
/-! the reference's list of bytes -/
def pad(m:List Nat)(j:Nat):List Nat:=m++1::List.replicate j 0
theorem re(m:List Nat)(j:Nat):(pad m j).length=m.length+1+j:=by simp [pad];omega
theorem ui(m:List Nat)(j:Nat):pad m j++[0]=pad m (j+1):=by
 unfold pad
 rw [List.append_assoc,List.cons_append,← List.replicate_succ']
theorem wJ(m:List Nat)(j q:Nat):(pad m j).getD q 0=bt m q:=by
 unfold pad bt
 rw [di]
 by_cases h:q < m.length
 ·rw [aG h,List.getElem?_append_left h,di]
 ·rw [aA h,List.getElem?_append_right (by omega)]
  by_cases h2:q=m.length
  ·rw [aG h2,h2];simp
  ·rw [aA h2]
   obtain⟨r,hr⟩:∃ r,q - m.length=r+1:=⟨q - m.length - 1,by omega⟩
   rw [hr,List.getElem?_cons_succ]
   rw [List.getElem?_replicate]
   split <;> rfl
theorem uj {b len q:Nat} (hb:1≤b)(h1:len+1≤q)(h2:q < b*(len / b+1)):q % b≠0:=by
 intro h
 have e:=Nat.div_add_mod q b
 rw [h,Nat.add_zero] at e
 have e2:=Nat.div_add_mod len b
 have e3:=Nat.mod_lt len (show b > 0 by omega)
 have h3:q / b≤len / b:=by
  have:=(Nat.mul_lt_mul_left (show 0 < b by omega)).1 (show b*(q / b) < b*(len / b+1) by omega)
  omega
 have h4:b*(q / b)≤b*(len / b):=Nat.mul_le_mul_left b h3
 omega
theorem wK {b len:Nat} (hb:1≤b):len+1≤b*(len / b+1):=by
 have e2:=Nat.div_add_mod len b
 have e3:=Nat.mod_lt len (show b > 0 by omega)
 rw [Nat.mul_add];omega
theorem pG(b:Nat)(m:List Nat):words b m=1::(List.range (m.length / b+1)).map (wd b m):=by
 unfold words wn
 rw [List.range_succ_eq_map,List.map_cons,List.map_map]
 rfl
end
section
open Go.RowKit
def ew(a:Option Addr)(m:List Nat)(W:World):Prop:=m≠[]→∃ b off,a=some ⟨b,off,none⟩∧b < W.heap.size∧∀ k,k < m.length→W.cell? ⟨b,off+k,none⟩=some (.int .u8 (m.getD k 0:Nat))
theorem ew.step {a:Option Addr} {m:List Nat} {W w2:World} (h:ew a m W)(hb:Below W.heap.size W w2):ew a m w2:=fun hn=> by
 obtain⟨b,off,rfl,h1,h2⟩:=h hn
 exact⟨b,off,rfl,ar h1 hb.size,fun k hk=> ag (h2 k hk) hb⟩
theorem ew.src {a:Option Addr} {m:List Nat} {W:World} (h:ew a m W):m.length≠0→∃ b,a=some b∧∀ j u,(flatN .u8 m)[j]? =some u→W.cell? (b.add j)=some u:=fun hn=> by
 obtain⟨b,off,rfl,h1,h2⟩:=h (fun e=> hn (by rw [e];rfl))
 refine⟨_,rfl,fun j u hu=> ?_⟩
 have hj:j < m.length:=by rw [← mW .u8 m];exact(aB hu).1
 have e:(flatN .u8 m)[j]? =some (.int .u8 (m.getD j 0:Nat)):=by simp [flatN,di,bh hj]
 rw [e] at hu
 obtain rfl:=bD hu
 rw [show((⟨b,off,none⟩:Addr).add j)=⟨b,off+j,none⟩ by unfold Addr.add;split <;> simp_all]
 exact h2 j hj
theorem gw.read {W:World} {B e:Nat} {k:IntKind} {a:Option Addr} {n c:Nat} {xs:List Nat} (h:gw W B e k (.slice a n c) xs){j:Nat} (hj:j < xs.length):∃ b off,a=some ⟨b,off,none⟩∧W.cell? ⟨b,off+j,none⟩=some (.int k (xs.getD j 0:Nat)):=by
 obtain⟨a',c',h1,h2⟩:=h.at_
 cases h1
 exact h2 j hj
theorem gw.step {W w2:World} {B e:Nat} {k:IntKind} {v:Value} {xs:List Nat} (h:gw W B e k v xs)(hb:Below W.heap.size W w2):gw w2 B e k v xs:=r7 h hb
def A9:Value→Nat
 | .slice _ n _=> n
 | _=> 0
theorem uk(b:Nat)(f:Int)(hb1:1≤b)(hb3:b≤3)(hf:f+1=b)(a:Option Addr)(c:Nat)(m:List Nat)(w:World)(hB:mG m)(hlen:m.length≤2000)(hA:ew a m w):
  Calls Tryz.prog 144 #[.int .i64 f,.slice a m.length c] w fun e w'=> ∃ v,e=.returned v∧gw w' w.heap.size 22 .u64 v (words b m)∧Below w.heap.size w w':=by
 obtain⟨i0,hi,hz0,hz1,hz2⟩:=info_parts rc
 obtain⟨j0,hj',hy0,hy1,hy2⟩:=info_parts yz
 have HA:=aa hA
 clear hA
 have hbl:m.length+1≤b*(m.length / b+1):=wK hb1
 have hdl:m.length / b≤2000:=Nat.le_trans (Nat.div_le_self _ _) hlen
 have hL:b*(m.length / b+1)≤6003:=Nat.le_trans (Nat.mul_le_mul hb3 (show m.length / b+1≤2001 by omega)) (by decide)
 have hnf:∀ q,m.length+1≤q→q < b*(m.length / b+1)→q % b≠0:=fun q=> uj hb1
 have HW:=aa (pG b m)
 generalize hq:m.length / b+1=q0 at*
 have hLb:(b*q0) % b=0:=Nat.mul_mod_right b q0
 have hown:Hid ((w.alloc (.cells #[] 5)).ownsRow w.heap.size 5 1 (.slice (some ⟨w.heap.size,0,none⟩) 0 0) 0 []):=
  ⟨rfl,ay ⟨w.heap.size,0,#[],rfl,bz _,au _ _,by omega,by decide,rfl,rfl⟩⟩
 have hsrc:=aa ((HA.out.step ((Below.refl _ _).alloc (bz _) (.cells #[] 5))).src)
 have hFl:(flatN .u8 m).length=m.length*1:=by rw [mW];omega
 have hone:=rZ (k:=.u8) (xs:=m)
 have hP0:Hid (∀ (v:Value) (W:World),W.ownsRow w.heap.size 5 1 v (0+m.length+1) ([]++flatN .u8 m++[.int .u8 1])→gw W w.heap.size 5 .u8 v (pad m 0)):=fun v W h=> by
  have h2:W.ownsRow w.heap.size 5 1 v (m.length+1) (flatN .u8 m++[.int .u8 (1:Nat)]):=by simpa using h
  exact gw.more h2
 generalize flatN .u8 m=FF at*
 go_enter Tryz.func144,Tryz.ntmps144
 go_wp2_with (first | (at_builtin;refine jQ rfl (.tmp 13) (.tmp 14) 88 rfl (w.heap.size) 5 i0 (.int .u8 0) 1 1 Tryz.underlying88 hi hz0 hz1 hz2 rfl (by decide) _ _ _ rfl hown.out a m.length c FF rfl hFl hsrc.out hone (by unfold maxLen;omega) (by omega) (by simp) ?_;intro v1 w1 hO1 hg1;have kB1:Below w.heap.size w w1:=((Below.refl _ _).alloc (bz _) (.cells #[] 5)).grown hg1 (by simp) (lc hown.out)) | (at_builtin;refine wpList_append_own _ rfl (.tmp 15) (.tmp 16) 88 rfl (w.heap.size) 5 i0 (.int .u8 0) 1 1 Tryz.underlying88 hi hz0 hz1 hz2 rfl (by decide) _ _ _ rfl (World.ownsRow.alloc hO1 _) ⟨w1.heap.size,0,none⟩ 1 1 [.int .u8 1] rfl rfl (ju _ _ _ _) (lA _ _) (by unfold maxLen;omega) (by omega) (by have:=kB1.size;simp;omega) ?_;intro v2 w2 hO2 hg2 hnil2))
 have HO2:=aa (hP0.out _ _ hO2)
 have kB2:Below w.heap.size w w2:=(kB1.alloc kB1.size (.cells #[.int .u8 1] 5)).grown hg2 (by have:=kB1.size;simp;omega) (lc hO1)
 clear hO1 hO2 hg1 hg2 hnil2 hP0 hsrc hone hFl hown kB1
 have hbz:(b:Int)≠0:=by omega
 go_loopw [6] (fun v wr=> ∃ j:Nat,m.length+1+j≤b*q0∧Hid (gw wr w.heap.size 5 .u8 v (pad m j))∧Below w.heap.size w wr) (fun v _=> b*q0 - A9 v)
 case atStart=> exact⟨0,by omega,HO2,kB2⟩
 case round=>
  obtain⟨j,hj1,HO,kB⟩:=hrel
  obtain⟨a',c',rfl,hc'⟩:=HO.out.at_
  have hpl:=re m j
  have HM:=aa (ui m j)
  clear hc'
  by_cases hfull:m.length+1+j=b*q0
  ·have hmod:((pad m j).length:Int) % b=0:=by rw [hpl,hfull];exact_mod_cast hLb
   have hget:∀ q,(pad m j).getD q 0=bt m q:=wJ m j
   have hpl2:=aa (show(pad m j).length=b*q0 by omega)
   clear hpl hj1 hfull hbl hnf HM
   generalize hpj:pad m j=PJ at*
   go_wp2_with fail
   clear hmod
   go_loopw [7,8,9,10] (fun v i _ _ wr2=> ∃ t:Nat,t≤q0∧i=.int .i64 (b*t:Nat)∧Hid (gw wr2 w.heap.size 22 .u64 v (1::(List.range t).map (wd b m)))∧Hid (gw wr2 w.heap.size 5 .u8 (.slice a' PJ.length c') PJ)∧Below w.heap.size w wr2) (fun _ i _ _ _=> b*q0 - (intOf i).toNat)
   case atStart=> exact⟨0,Nat.zero_le _,by simp,⟨rfl,ay ⟨wr.heap.size,1,#[.int .u64 1],rfl,kB.size,au _ _,bz _,by decide,rfl,rfl⟩⟩,HO.out.step ((Below.refl _ _).alloc (bz _) _),kB.alloc kB.size _⟩
   case round=>
    obtain⟨t,ht,rfl,HV,HP,kC⟩:=hrel
    have hpl3:=hpl2.out
    by_cases hlt:t < q0
    ·have hbt:b*t+b≤b*q0:=by rw [← Nat.mul_succ];exact Nat.mul_le_mul_left b hlt
     have hlt':((b*t:Nat):Int) < (PJ.length:Int):=by omega
     have hb2:b*t≤6003:=by omega
     have hPle:PJ.length≤6003:=by omega
     have hnx2:∀ j,wdTo b m t (j+1)=256*wdTo b m t j+bt m (b*t+j):=fun j=> by rw [Nat.mul_comm b t];rfl
     have hend:wdTo b m t b=wd b m t:=rfl
     have HR:=aa (show b*t+b=b*(t+1)from(Nat.mul_succ b t).symm)
     have HT:=aa (List.range_succ (n:=t))
     generalize b*t=r at*
     clear hpl3
     go_wp2_with fail
     go_loopw [9,10] (fun v p w2=> ∃ j:Nat,j≤b∧v=.int .u64 (wdTo b m t j)∧p=.int .i64 j∧w2=wr) (fun _ p _=> b - (intOf p).toNat)
     case atStart=> exact⟨0,Nat.zero_le _,rfl,rfl,rfl⟩
     case round=>
      obtain⟨j,hj,rfl,rfl,rfl⟩:=hrel
      by_cases hjb:j < b
      ·have hs:=lw hB hb3 hjb t
       have hn2:=hnx2 j
       have hpl4:=hpl2.out
       obtain⟨bm,om,rfl,hcm⟩:=HP.out.read (j:=r+j) (by omega)
       rw [hget] at hcm
       have hbl2:=ua hB (r+j)
       have e3:((r:Int)+j)=((r+j:Nat):Int):=by push_cast;rfl
       generalize bt m (r+j)=cc at*
       generalize hv:wdTo b m t j=v at*
       generalize hv2:wdTo b m t (j+1)=v2 at*
       have hrj:r+j < PJ.length:=by omega
       generalize r+j=rj at*
       clear hpl4
       go_wp2_with fail
       go_roundw
       case rel=> exact⟨j+1,by omega,congrArg _ (by omega),congrArg _ (by omega),by first | trivial | rfl⟩
       case measure=> simp [intOf];omega
      ·obtain rfl:j=b:=by omega
       rw [hend]
       have hvl:(1::(List.range t).map (wd j m)).length=t+1:=by simp
       have hap:(1::(List.range t).map (wd j m))++[wd j m t]=1::(List.range (t+1)).map (wd j m):=by rw [HT.out,List.map_append,List.cons_append];rfl
       have hn3:(1::(List.range t).map (wd j m)).length≤10000:=by omega
       clear hvl hnx2 hget hend
       generalize(1::(List.range t).map (wd j m))=VS at*
       generalize wd j m t=vv at*
       go_wp2_with (at_builtin;refine wpList_append_own _ rfl (.tmp 49) (.tmp 51) 83 rfl (w.heap.size) 22 j0 (.int .u64 0) 1 8 Tryz.underlying83 hj' hy0 hy1 hy2 rfl (by decide) _ _ _ rfl (World.ownsRow.alloc HV.out _) ⟨wr.heap.size,0,none⟩ 1 1 [.int .u64 vv] rfl rfl (ju _ _ _ _) (lA _ _) (by unfold maxLen;omega) (by omega) (by have:=kC.size;simp;omega) ?_;intro v3 w3 hO3 hg3 hnil3)
       have HO3:=aa (gw.more hO3)
       rw [hap] at HO3
       have HP3:Hid (gw w3 w.heap.size 5 .u8 (.slice a' PJ.length c') PJ):=World.ownsRow.kept (World.ownsRow.alloc HP.out _) hg3 (uh (by decide) HP.out HV.out)
       have kB3:Below w.heap.size w w3:=(kC.alloc kC.size _).grown hg3 (by have:=kC.size;simp;omega) (lc HV.out)
       go_roundw
       case rel=> exact⟨t+1,by omega,by rw [← HR.out];go_num,HO3,HP3,kB3⟩
       case measure=> simp [intOf];omega
    ·obtain rfl:t=q0:=by omega
     have hge:(PJ.length:Int)=((b*t:Nat):Int):=by omega
     clear hpl3
     generalize b*t=r at*
     go_wp2_with fail
     go_ret
     exact⟨_,rfl,by rw [HW.out];exact HV.out,kC⟩
  ·have hmod:((pad m j).length:Int) % b≠0:=by
    rw [hpl]
    have:=hnf (m.length+1+j) (by omega) (by omega)
    exact_mod_cast this
   have hle:(pad m j).length≤10000:=by omega
   have hpl2:=aa hpl
   clear hpl
   generalize hpj:pad m j=PJ at*
   go_wp2_with (at_builtin;refine wpList_append_own _ rfl (.tmp 23) (.tmp 24) 88 rfl (w.heap.size) 5 i0 (.int .u8 0) 1 1 Tryz.underlying88 hi hz0 hz1 hz2 rfl (by decide) _ _ _ rfl (World.ownsRow.alloc HO.out _) ⟨wr.heap.size,0,none⟩ 1 1 [.int .u8 0] rfl rfl (ju _ _ _ _) (lA _ _) (by unfold maxLen;omega) (by omega) (by have:=kB.size;simp;omega) ?_;intro v3 w3 hO3 hg3 hnil3)
   have HO3:=aa (gw.more hO3)
   rw [HM.out] at HO3
   have kB3:Below w.heap.size w w3:=(kB.alloc kB.size _).grown hg3 (by have:=kB.size;simp;omega) (lc HO.out)
   have hpl3:=hpl2.out
   go_roundw
   case rel=> exact⟨j+1,by omega,HO3,kB3⟩
   case measure=>
    obtain⟨a3,c3,e3,-⟩:=HO3.out.at_
    rw [e3,re]
    show _ - (m.length+1+(j+1)) < _ - PJ.length
    omega
end
section
open Go.RowKit
def prim:Nat→Nat
 | 0=> 257
 | 1=> 65537
 | _=> 2147483647
theorem ja(i:Nat):257≤prim i∧prim i < 2147483648:=by
 unfold prim
 split <;> decide
def fi(n:Int):Option Nat:=if 0≤n∧n < 3 then some n.toNat else none
theorem jR(n:Int):((n < 0∨3≤n)∧fi n=none)∨∃ i:Nat,i < 3∧n=i∧fi n=some i:=by
 unfold fi
 by_cases h:0≤n∧n < 3
 ·right
  rw [aG h]
  exact⟨n.toNat,by omega,by omega,rfl⟩
 ·left
  rw [aA h]
  exact⟨by omega,rfl⟩
def ge(n:Int)(x:Nat)(m:List Nat):Nat×Int:=match fi n with
 | none=> (0,2)
 | some i=> if 1000 < m.length then(0,7)else if x < 1∨prim i≤x then(0,3)else(dig (prim i) (i+1) x m,0)
def um(n:Int)(x pad:Nat)(m:List Nat):Nat×Int:=match fi n with
 | none=> (0,2)
 | some i=> if(ge n x m).2≠0 then(0,(ge n x m).2)else if prim i≤pad then(0,3)else(((ge n x m).1+pad) % prim i,0)
theorem nT(n:Int)(hn:n < 0∨3≤n)(w:World):Calls Tryz.prog 86 #[.int .i64 n] w fun e w'=> e=.returned (.pointer none)∧Below w.heap.size w w':=by
 rcases hn with hn | hn
 all_goals
  go_enter Tryz.func86,Tryz.ntmps86
  go_wp2
  go_ret
  exact⟨rfl,(by repeat' (first | exact Below.refl _ _ | assumption | apply aI | apply bg | apply aK | (refine cB ?_ ?_ _) | (refine ai ?_ (by assumption)) | omega | (simp <;> omega)))⟩
theorem jS(i:Nat)(hi:i < 3)(w:World):Calls Tryz.prog 86 #[.int .i64 i] w fun e w'=> ∃ B off,e=.returned (.pointer (some ⟨B,off,none⟩))∧w.heap.size≤B∧B < w'.heap.size∧
  w'.cell? ⟨B,off,none⟩=some (.int .u64 (prim i))∧w'.cell? ⟨B,off+1,none⟩=some (.int .i64 (i+1:Nat))∧Below w.heap.size w w':=by
 have hc:i=0∨i=1∨i=2:=by omega
 rcases hc with rfl | rfl | rfl
 all_goals
  go_enter Tryz.func86,Tryz.ntmps86
  go_wp2
  go_ret
  refine⟨_,_,rfl,bz _,by simp,?_,?_,(by repeat' (first | exact Below.refl _ _ | assumption | apply aI | apply bg | apply aK | (refine cB ?_ ?_ _) | (refine ai ?_ (by assumption)) | omega | (simp <;> omega)))⟩ <;> (first | (go_simp;done) | (go_simp;rfl) | trace_state)
theorem jb(n:Int)(w:World):Calls Tryz.prog 108 #[.int .i64 n] w fun e w'=> e=.returned (.int .u64 (match fi n with | none=> 0 | some i=> prim i:Nat))∧w=w':=by
 rcases jR n with⟨hn,hf⟩ | ⟨i,hi,rfl,hf⟩
 ·rw [hf]
  have h0:n≠0:=by omega
  have h1:n≠1:=by omega
  have h2:n≠2:=by omega
  go_enter Tryz.func108,Tryz.ntmps108
  go_wp2
  go_ret
  exact⟨rfl,rfl⟩
 ·rw [hf]
  have hc:i=0∨i=1∨i=2:=by omega
  rcases hc with rfl | rfl | rfl
  all_goals
   go_enter Tryz.func108,Tryz.ntmps108
   go_wp2
   go_ret
   exact⟨rfl,rfl⟩
end
section
open Go.RowKit
def okc(c:UInt8):Bool:=decide (97≤c.toNat∧c.toNat≤122∨48≤c.toNat∧c.toNat≤57)
def nameB(s:ByteArray):Bool:=decide (1≤s.size∧s.size≤20) && s.data.toList.all okc
theorem eR(s:ByteArray)(w:World)(hs:s.size≤9223372036854775807):Calls Tryz.prog 39 #[.string s] w fun e w'=> e=.returned (.bool (nameB s))∧Below w.heap.size w w':=by
 by_cases h1:1≤s.size∧s.size≤20
 ·obtain⟨h1,h2⟩:=h1
  have h1':1≤(s.size:Int):=by omega
  have h2':(s.size:Int)≤20:=by omega
  have hnb:nameB s=s.data.toList.all okc:=by unfold nameB;rw [bF ⟨h1,h2⟩,Bool.true_and]
  obtain⟨R,hR⟩:∃ R,s.data.toList.all okc=R:=⟨_,rfl⟩
  rw [hnb,hR]
  have HR:=aa hR
  clear hR
  have hconv:=run_bytes_of_string (P:=Tryz.prog) w 9 88 5 s Tryz.underlying9 Tryz.underlying88 Tryz.underlying5
  generalize hcap:grownCap w s.size 0 5=cap at*
  have hcell:Hid (∀ j (hj:j < s.data.size),(w.alloc (.cells (bytesRow s cap) 5 ((bytesRow s cap).size,(bytesRow s cap).size+1))).cell? ⟨w.heap.size,j,none⟩=some (.int .u8 (s.data[j].toNat:Int))):=fun j hj=> by
   rw [World.cell?_alloc_mark,bytesRow_at _ _ _ hj]
  generalize bytesRow s cap=C at*
  have hsz:s.size=s.data.size:=rfl
  have hlen:s.data.toList.length=s.size:=by rw [hsz];exact Array.length_toList
  have HSZ:=aa hsz
  have HLEN:=aa hlen
  clear hnb hcap hsz hlen
  go_enter Tryz.func39,Tryz.ntmps39
  go_wp2
  go_loopw [4,16] (fun _ i wr=> ∃ k:Nat,k≤s.size∧i=.int .i64 k∧Hid ((s.data.toList.take k).all okc=true)∧wr=(w.alloc (.cells C 5 (C.size,C.size+1))).drew) (fun _ i _=> s.size - (intOf i).toNat)
  case atStart=> exact⟨0,Nat.zero_le _,rfl,by simp [Hid],rfl⟩
  case round=>
   obtain⟨k,hk,rfl,HQ,rfl⟩:=hrel
   by_cases hlt:k < s.size
   ·have hc:=hcell.out k hlt
    have hlt2:k < s.data.toList.length:=by rw [HLEN.out];exact hlt
    have hget:s.data.toList[k]=s.data[k]:=Array.getElem_toList _
    have HS:=aa (show okc s.data[k]=true→(s.data.toList.take (k+1)).all okc=true from fun h=> by
     rw [List.take_succ_eq_append_getElem hlt2,List.all_append,HQ.out,hget]
     simp [h])
    have HN:=aa (show okc s.data[k]=false→s.data.toList.all okc=false from fun h=> by
     rw [List.all_eq_false]
     exact⟨s.data[k],by rw [← hget];exact List.getElem_mem _,by simp [h]⟩)
    have hb:s.data[k].toNat < 256:=s.data[k].toNat_lt
    have hoc:okc s.data[k]=decide (97≤s.data[k].toNat∧s.data[k].toNat≤122∨48≤s.data[k].toNat∧s.data[k].toNat≤57):=rfl
    rw [hoc] at HS HN
    generalize s.data[k].toNat=c at*
    clear hoc hget HQ
    by_cases hok:97≤c∧c≤122∨48≤c∧c≤57
    ·have hnext:=HS.out (bF hok)
     have hok':(97≤(c:Int)∧(c:Int)≤122)∨((c:Int) < 97∧48≤(c:Int)∧(c:Int)≤57):=by omega
     have HX:=aa hnext
     clear hok HS HN hnext
     rcases hok' with⟨q1,q2⟩ | ⟨q0,q1,q2⟩
     all_goals
      go_wp2_with fail
      go_roundw
      case rel=> exact⟨k+1,by omega,by go_num,HX,by first | trivial | rfl⟩
      case measure=> simp [intOf];omega
    ·have hn:=HN.out (bv hok)
     have HN2:=aa (HR.out.symm.trans hn)
     have hok':(97≤(c:Int)∧122 < (c:Int)∧48≤(c:Int)∧57 < (c:Int))∨((c:Int) < 97∧48≤(c:Int)∧57 < (c:Int))∨((c:Int) < 97∧(c:Int) < 48):=by omega
     clear hok HS HN hn
     rcases hok' with⟨q1,q2,q3,q4⟩ | ⟨q1,q2,q3⟩ | ⟨q1,q2⟩
     all_goals
      go_wp2_with fail
      all_goals first
       | (go_ret;exact⟨by rw [HN2.out];rfl,(by repeat' (first | exact Below.refl _ _ | assumption | apply aI | apply bg | apply aK | (refine cB ?_ ?_ _) | (refine ai ?_ (by assumption)) | omega | (simp <;> omega)))⟩)
       | (exfalso;omega)
       | (exfalso;simp_all;omega)
   ·obtain rfl:k=s.size:=by omega
    have hall:s.data.toList.all okc=true:=by
     have:=HQ.out
     rwa [← HLEN.out,List.take_length] at this
    have HAL:=aa (HR.out.symm.trans hall)
    clear hcell hall
    go_wp2_with fail
    go_ret
    exact⟨by rw [HAL.out];rfl,(by repeat' (first | exact Below.refl _ _ | assumption | apply aI | apply bg | apply aK | (refine cB ?_ ?_ _) | (refine ai ?_ (by assumption)) | omega | (simp <;> omega)))⟩
 ·have hnb:nameB s=false:=by unfold nameB;rw [bv h1,Bool.false_and]
  rw [hnb]
  have h2:(s.size:Int) < 1∨(1≤(s.size:Int)∧20 < (s.size:Int)):=by omega
  rcases h2 with h2 | ⟨h2,h3⟩
  all_goals
   go_enter Tryz.func39,Tryz.ntmps39
   go_wp2
   go_ret
   exact⟨rfl,(by repeat' (first | exact Below.refl _ _ | assumption | apply aI | apply bg | apply aK | (refine cB ?_ ?_ _) | (refine ai ?_ (by assumption)) | omega | (simp <;> omega)))⟩
end
section
open Sx Go.RowKit
def colon(s:ByteArray):Int:=Lib.indexByte s.data.toList 58
def cE(s:ByteArray):ByteArray×ByteArray×Bool:=if 0≤colon s then(s.extract 0 (colon s).toNat,s.extract ((colon s).toNat+1) s.size,true)else(s,⟨#[]⟩,false)
theorem index_one(s:ByteArray)(w:World):Calls Tryz.prog 158 #[.string s,.string ⟨#[58]⟩] w fun e w'=> e=.returned (.int .i64 (colon s))∧w'=w:=
 Any.stringslite_Index_one wI s 58 w
theorem uo(s:ByteArray)(w:World)(hs:s.size≤1000000):Calls Tryz.prog 145 #[.string s,.string ⟨#[58]⟩] w fun e w'=> e=.returned (.tuple #[.string (cE s).1,.string (cE s).2.1,.bool (cE s).2.2])∧∃ n,w'=w.drewN n:=by
 have CI:=aa (fun w=> index_one s w)
 unfold cE
 by_cases h:0≤colon s
 ·rw [aG h]
  obtain⟨i,hi⟩:=Int.eq_ofNat_of_zero_le h
  have hroom:i < s.size:=by
   have h1:=(Lib.indexByte_some (l:=s.data.toList) (c:=58) (o:=i) hi).1
   rw [Lib.size_eq]
   exact(aB h1).1
  rw [hi] at CI ⊢
  simp only [Int.toNat_natCast]
  have c1:(0:Int)≤(i:Int):=by omega
  have c2:(i:Int)≤(s.size:Int):=by omega
  have c3:(0:Int)≤(i:Int)+1:=by omega
  have c4:(i:Int)+1≤(s.size:Int):=by omega
  have c5:IntKind.i64.wrap ((i:Int)+1)=(i:Int)+1:=cC _ ⟨by omega,by omega⟩
  have c6:((i:Int)+1).toNat=i+1:=by omega
  have mixed:Tryz.prog.follows .mixedOrders=true:=by kernel_rfl
  clear h hi
  go_enter Tryz.func145,Tryz.ntmps145
  go_wp2_with (go_at_call 158;refine(CI.out _).mono ?_;rintro e w' ⟨rfl,rfl⟩)
  go_region_o
  go_wp2
  exact bc (v:=.tuple #[.string (s.extract 0 i),.string (s.extract (i+1) s.size),.bool true]) (by simp only [results,Tryz.results145];go_simp) rfl ⟨rfl,1,rfl⟩
 ·rw [aA h]
  have h1:colon s= -1:=by have:=Lib.indexByte_ge s.data.toList 58;unfold colon at*;omega
  rw [h1] at CI
  clear h h1
  go_enter Tryz.func145,Tryz.ntmps145
  go_wp2_with (go_at_call 158;refine(CI.out _).mono ?_;rintro e w' ⟨rfl,rfl⟩)
  exact bc (v:=.tuple #[.string s,.string ⟨#[]⟩,.bool false]) (by simp only [results,Tryz.results145];go_simp) rfl ⟨rfl,0,rfl⟩
theorem wL(s:ByteArray)(w:World)(hs:s.size≤1000000):Calls Tryz.prog 119 #[.string s,.string ⟨#[58]⟩] w fun e w'=> e=.returned (.tuple #[.string (cE s).1,.string (cE s).2.1,.bool (cE s).2.2])∧∃ n,w'=w.drewN n:=by
 have CI:=aa (fun w=> uo s w hs)
 generalize(cE s).1=x1 at*
 generalize(cE s).2.1=x2 at*
 generalize(cE s).2.2=x3 at*
 go_enter Tryz.func119,Tryz.ntmps119
 go_wp2_with (go_at_call 145;refine(CI.out _).mono ?_;rintro e w' ⟨rfl,n,rfl⟩)
 exact bc (v:=.tuple #[.string x1,.string x2,.bool x3]) (by simp only [results,Tryz.results119];go_simp) rfl ⟨rfl,n,rfl⟩
def nU(s:ByteArray):Option Int:=match Lib.atoiAll s.data.toList with | .ok v=> some v | _=> none
theorem uq(s:ByteArray)(w:World)(hs:s.size≤1000000)(hG:ir w):
  Calls Tryz.prog 120 #[.string s] w fun e w'=> (∃ v x,e=.returned (.tuple #[.int .i64 v,x])∧((nU s=some v∧x=.nilIface)∨(nU s=none∧∃ t p,x=.iface t p)))∧Below w.heap.size w w':=by
 obtain⟨-,⟨t1,v1,h1⟩,⟨t2,v2,h2⟩,-⟩:=hG
 have k1:=World.var?_cell nM h1 0
 have k2:=World.var?_cell nN h2 0
 unfold nU
 rcases hn:Lib.atoiAll s.data.toList with v | _ | _
 ·refine(Any.strconv_Atoi_ok ly s (by omega) v hn w).mono fun e w' h=> ?_
  obtain⟨rfl,hw⟩:=h
  refine⟨⟨v,_,rfl,ax ⟨rfl,rfl⟩⟩,?_⟩
  rcases hw with rfl | ⟨t,rfl⟩
  ·exact Below.refl _ _
  ·exact Lib.bytesWorld_below _ _ _
 ·refine(Any.strconv_Atoi_syntax ly s (by omega) hn _ w (by rw [show laysC172_ren.g 15=synG by kernel_rfl];simpa using k2) (ay ⟨_,_,rfl⟩)).mono fun e w' h=> ?_
  obtain⟨N,rfl,-,-,hb⟩:=h
  exact⟨⟨_,_,rfl,ay ⟨rfl,_,_,rfl⟩⟩,hb⟩
 ·refine(Any.strconv_Atoi_range ly s (by omega) hn _ w (by rw [show laysC172_ren.g 16=rngG by kernel_rfl];simpa using k1) (ay ⟨_,_,rfl⟩)).mono fun e w' h=> ?_
  obtain⟨N,rfl,-,-,hb⟩:=h
  exact⟨⟨_,_,rfl,ay ⟨rfl,_,_,rfl⟩⟩,hb⟩
end
end Go.Proofs.YtmpilgkfbibhlaaGreatDoor
