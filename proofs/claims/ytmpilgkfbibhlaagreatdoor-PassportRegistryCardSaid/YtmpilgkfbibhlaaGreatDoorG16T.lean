/-
 G16T
-/
import Derived.Test.YtmpilgkfbibhlaaGreatDoorG15T
set_option linter.unusedSimpArgs false
set_option linter.unusedVariables false
set_option maxRecDepth 100000
set_option maxHeartbeats 20000000
namespace Go.Proofs.YtmpilgkfbibhlaaGreatDoor
section
open Sx Go.RowKit Mr
theorem bH.grown {v:Value} {l:List ByteArray} {W W5:World} {k0:Option Nat} (h:bH v l W)(hg:W.grownBy W5 k0)(hn:l≠[]→∀ k,k0=some k→v.ownBlock≠some k):bH v l W5:=by
 obtain⟨a,c,rfl,h2⟩:=h
 refine⟨a,c,rfl,fun hl=> ?_⟩
 obtain⟨b,off,cs,fr,rfl,e2,e3⟩:=h2 hl
 exact⟨b,off,cs,fr,rfl,(hg.block b (ak e2) (fun c=> hn hl b c.symm rfl)).trans e2,e3⟩
theorem bH.lt {v:Value} {l:List ByteArray} {W:World} (h:bH v l W)(hl:l≠[]){k:Nat} (hk:v.ownBlock=some k):k < W.heap.size:=by
 obtain⟨a,c,rfl,h2⟩:=h
 obtain⟨b,off,cs,fr,rfl,e2,e3⟩:=h2 hl
 have:b=k:=by simpa [Value.ownBlock] using hk
 rw [← this]
 exact ak e2
section
variable {B R n i u PB cp Bo m k:Nat} {a:RegA} {g g':RegS} {vb vp vo:Value} {w w' W W5:World} {p:ByteArray×List bR} {q:PkV} {e:bQ} {xs:List Value}
theorem bj.fresh(h:bj B R g vb vp W)(hk:W.heap.size≤k):tr k g:=fun q hq=> by
 obtain⟨h1,h2,-⟩:=h.ms q hq
 exact⟨fun hl c=> by have:=h1.lt hl c;omega,fun hl c=> by have:=h2.lt hl c;omega⟩
theorem bj.strGrown(h:bj B R g vb vp W)(ho:W.ownsRow Bo 9 1 vo m xs)(hg:W.grownBy W5 vo.ownBlock)(hN:∀ k,vo.ownBlock=some k→tr k g):bj B R g vb vp W5:=by
 have hK:∀ (b:Nat) (cs:Array Value) (T:TypeId) (fr:Nat×Nat),W.heap[b]? =some (.cells cs T fr)→T≠9→W5.heap[b]? =some (.cells cs T fr):=fun b cs T fr e1 e2=> cV e1 hg ho e2
 obtain⟨h1,h2,⟨ab,cb,h3,h4⟩,h5,h6,h7,h8,h9⟩:=h
 refine⟨hK _ _ _ _ h1 (by decide),h2,⟨ab,cb,h3,fun hn=> ?_⟩,eX h5 hg ho (by decide),fun q hq=> ?_,fun q hq=> eX (h7 q hq) hg ho (by decide),h8,h9⟩
 ·obtain⟨b,off,cs,fr,e1,e2,e3⟩:=h4 hn
  refine⟨b,off,cs,fr,e1,hK _ _ _ _ e2 (by decide),fun k bk hk=> ?_⟩
  obtain⟨q1,vq,q2,a9,c9,q3,q4⟩:=e3 k bk hk
  refine⟨q1,vq,q2,a9,c9,q3,fun hn2=> ?_⟩
  obtain⟨b2,off2,cs2,fr2,d1,d2,d3⟩:=q4 hn2
  exact⟨b2,off2,cs2,fr2,d1,hK _ _ _ _ d2 (by decide),d3⟩
 ·obtain⟨q1,q2,q3⟩:=h6 q hq
  exact⟨q1.grown hg (fun hl k hk=> (hN k hk q hq).1 hl),q2.grown hg (fun hl k hk=> (hN k hk q hq).2 hl),q3⟩
theorem sD {E sz:Nat} {v:Value} (h:W.ownsRow Bo E sz v m xs)(hK:dJ W W5)(n1:E≠121)(n2:E≠116)(n3:E≠31):W5.ownsRow Bo E sz v m xs:=by
 obtain⟨h1,h2⟩:=h
 refine⟨h1,?_⟩
 rcases h2 with h2 | ⟨g,cap,cur,q1,q2,q3,q4⟩
 ·exact ax h2
 ·exact ay ⟨g,cap,cur,q1,q2,hK _ _ _ _ q3 n1 n2 n3,q4⟩
end
theorem yW {name:ByteArray}:∀ h:List bQ,fA name h→(lifeOf name h).scr=true→(lifeOf name h).ms=[]:=by
 refine eH (fun _ c=> by cases c) fun h e ih hl hs=> ?_
 have hc:=hl.last
 rw [bZ] at hs ⊢
 change (if e.1=9 then true else(lifeOf name h).scr)=true at hs
 show dj name (lifeOf name h).ms e=[]
 unfold iE at hc
 cases hg:h.getLast? with
 | none=>
  rw [hg] at hc
  dsimp only at hc
  have h1:=of_decide_eq_true hc
  obtain rfl:h=[]:=by simpa using hg
  rw [aA (by rw [h1];decide)] at hs
  cases hs
 | some z=>
  rw [hg] at hc
  dsimp only at hc
  simp only [Bool.and_eq_true,Bool.not_eq_true',decide_eq_false_iff_not] at hc
  obtain⟨⟨⟨c1,c2⟩,c3⟩,c4⟩:=hc
  by_cases h9:e.1=9
  ·obtain⟨k,t,ea,eb,n1,ot⟩:=e
   dsimp only at h9
   subst h9
   simp [de] at c4
   rw [i7,c4]
   simp [dj]
  ·rw [aA h9,(gm h hl.init hg).2] at hs
   exact absurd (of_decide_eq_true hs) c3
end
section
open Sx Go.RowKit Mr
theorem fy {t:Int} {r:ByteArray} {n:Nat} {L:List Nat} {a:RegA} {j i:Nat} (h:L[j]? =some i):da t r n (L.take (j+1)) a=putA (da t r n (L.take j) a) n i (jh t r):=by
 unfold da
 rw [List.take_add_one,h,List.foldl_append]
 rfl
theorem me(a:RegA)(bt:ByteArray)(t0 t1:Int)(r:ByteArray):(affA a bt t0 t1 r).Nodup:=List.Pairwise.filter _ List.nodup_range
theorem iT {a:RegA} {bt:ByteArray} {t0 t1:Int} {r:ByteArray} {i:Nat} (h:i∈affA a bt t0 t1 r):∃ p,a.ps[i]? =some p∧jB a bt t0 t1 r p=true∧cy a i=p:=by
 unfold affA at h
 obtain⟨h1,h2⟩:=List.mem_filter.1 h
 have hi:=List.mem_range.1 h1
 refine⟨a.ps[i],bh hi,?_,?_⟩
 ·rw [bh hi] at h2;exact h2
 ·unfold cy;rw [di,bh hi];rfl
theorem qc {L:List Nat} (h:L.Nodup){j i:Nat} (hj:L[j]? =some i):i ∉ L.take j:=by
 intro c
 obtain⟨k,hk⟩:=List.getElem?_of_mem c
 have hkj:k < j:=by
  have:=(aB hk).1
  rw [List.length_take] at this
  omega
 rw [List.getElem?_take_of_lt hkj] at hk
 have hkl:=(aB hk).1
 have hjl:=(aB hj).1
 have e1:=(aB hk).2
 have e2:=(aB hj).2
 exact List.pairwise_iff_getElem.1 h k j hkl hjl hkj (e1.trans e2.symm)
structure jj(a aj:RegA)(L:List Nat)(n j:Nat):Prop where
 ok:ji aj
 bks:aj.bks=a.bks
 used:aj.used.getD n 0=a.used.getD n 0+j
 ps:∀ i,i ∉ L.take j→aj.ps[i]? =a.ps[i]?
structure oh(a:RegA)(L:List Nat)(n:Nat)(t:Int)(r:ByteArray):Prop where
 nd:L.Nodup
 nb:n < a.bks.length
 left:a.used.getD n 0+L.length≤(a.bks.getD n (0,[])).2.length
 ok:eC (jh t r)=true
 p:∀ i∈L,∃ p,a.ps[i]? =some p∧cg p.1 (lf p) (jh t r)=true∧p.2.length < 500
theorem jj.start {a:RegA} (ho:ji a)(L:List Nat)(n:Nat):jj a a L n 0:=⟨ho,rfl,rfl,fun _ _=> rfl⟩
theorem jj.next {a aj:RegA} {L:List Nat} {n j i:Nat} {t:Int} {r:ByteArray} (h:jj a aj L n j)(hc:oh a L n t r)(hj:L[j]? =some i):
  (∃ p,aj.ps[i]? =some p∧a.ps[i]? =some p)∧n < aj.bks.length∧aj.used.getD n 0 < (aj.bks.getD n (0,[])).2.length∧jj a (putA aj n i (jh t r)) L n (j+1):=by
 obtain⟨p,hp,hcan,hl⟩:=hc.p i (aJ hj)
 have hp2:aj.ps[i]? =some p:=(h.ps i (qc hc.nd hj)).trans hp
 have hjl:=(aB hj).1
 have hb:n < aj.bks.length:=by rw [h.bks];exact hc.nb
 have hu:aj.used.getD n 0 < (aj.bks.getD n (0,[])).2.length:=by rw [h.bks,h.used];have:=hc.left;omega
 have hn8:n < aj.used.length:=by
  obtain⟨-,h8,-⟩:=fW h.ok.sec
  have:=h.ok.u8
  omega
 refine⟨⟨p,hp2,hp⟩,hb,hu,h.ok.put hp2 hc.ok hcan hl hu,eY.1.trans h.bks,?_,fun k hk=> ?_⟩
 ·rw [gR hp2,gU,aG ⟨rfl,hn8⟩,h.used]
  omega
 ·rw [List.take_add_one,hj] at hk
  have hk2:k ∉ L.take j∧k≠i:=by
   constructor
   ·intro c;exact hk (List.mem_append_left _ c)
   ·rintro rfl;exact hk (List.mem_append_right _ (by simp))
  rw [fq hk2.2]
  exact h.ps k hk2.1
theorem rE {a:RegA} (ho:dc a){bt r:ByteArray} {t t0 t1:Int} {i:Nat} {p:ByteArray×List bR} (hp:a.ps[i]? =some p)(ha:jB a bt t0 t1 r p=true)(ht:¬ t < (lf p).at_):cg p.1 (lf p) (jh t r)=true:=by
 have hpm:=aJ hp
 obtain⟨q1,q2,q3,q4⟩:=ho.p p hpm
 unfold jB at ha
 rw [Bool.and_eq_true] at ha
 obtain⟨h1,h2⟩:=ha
 obtain⟨m,hm,-⟩:=List.any_eq_true.1 h2
 have hn:¬ (lf p).n=0:=by
  show ¬ (lifeOf p.1 (br p.2)).n=0
  rw [iG,dd]
  exact fun c=> ho.ne p hpm (eF c)
 have hs:¬ (lf p).scr=true:=fun c=> by
  have e:(lf p).ms=[]:=yW _ q2 c
  rw [e] at hm
  cases hm
 unfold cg
 rw [aA hn,aA (show ¬ (jh t r).2.1 < (lf p).at_ from ht),aA hs]
 show de p.1 (lf p).ms (lf p).os (7,t,0,0,r,yO)=true
 simp [de]
 simpa using h1
theorem vw {t:Int} {r:ByteArray} (h1:nameB r=true)(h2:bJ t=true):eC (jh t r)=true:=by
 have h4:=of_decide_eq_true h2
 have s1:=(bI h1).2
 show gy 7 t 0 0 r yO=true
 unfold gy gx dH
 rw [h1]
 have e0:yO.toList=[]:=by rw [Lib.toList_data];rfl
 have e1:yO.size=0:=rfl
 rw [e0,e1]
 simp [h4.1,h4.2]
 omega
structure Ab(B R:Nat)(vb:Value)(a:RegA)(g:RegS)(vp:Value)(n:Nat)(L:List Nat)(t:Int)(r:ByteArray)(bL E:Nat)(cL:Array Value)(w0:World)(j:Nat)(vo:Value)(W:World):Prop where
 v:∃ gj,bW B R vb (da t r n (L.take j) a) gj vp W∧bT R g vp gj vp w0 W∧∀ k,vo.ownBlock=some k→tr k gj
 out:W.ownsRow w0.heap.size 9 1 vo j ((L.take j).map fun i=> Value.string (cq a i))
 l:L≠[]→W.heap[bL]? =some (.cells cL 112 (0,0))
 e:W.heap[E]? =some (.cells #[.int .i64 t] 2 (0,0))
 i:jj a (da t r n (L.take j) a) L n j
structure AH(B R:Nat)(vb:Value)(a:RegA)(g:RegS)(vp:Value)(n:Nat)(L:List Nat)(t:Int)(r:ByteArray)(bL E:Nat)(cL:Array Value)(w0:World)(j:Nat)(vo:Value)(W:World):Prop where
 v:∃ gj,bW B R vb (da t r n (L.take (j+1)) a) gj vp W∧bT R g vp gj vp w0 W∧∀ k,vo.ownBlock=some k→tr k gj
 out:W.ownsRow w0.heap.size 9 1 vo j ((L.take j).map fun i=> Value.string (cq a i))
 l:L≠[]→W.heap[bL]? =some (.cells cL 112 (0,0))
 e:W.heap[E]? =some (.cells #[.int .i64 t] 2 (0,0))
 i:jj a (da t r n (L.take (j+1)) a) L n (j+1)
section
variable {B R n bL E j i:Nat} {vb vp vo v':Value} {a:RegA} {g:RegS} {L:List Nat} {t:Int} {r:ByteArray} {cL:Array Value} {w0 W W5:World}
theorem Ab.enter(h:Ab B R vb a g vp n L t r bL E cL w0 j vo W)(hc:oh a L n t r)(hj:L[j]? =some i):
  ∃ PB cp m,vp=.slice (some ⟨PB,0,none⟩) m cp∧Calls Tryz.prog 65 #[.pointer (some ⟨R,0,none⟩),.int .i64 (n:Int),.pointer (some ⟨PB,i*20,none⟩),kZ (jh t r)] W fun en w'=> en=.returned (.tuple #[])∧AH B R vb a g vp n L t r bL E cL w0 j vo w'∧
   w'.cell? ⟨PB,i*20,none⟩=some (.string (cq a i))∧PB < w'.heap.size:=by
 obtain⟨gj,hv,hm,hn⟩:=h.v
 obtain⟨⟨p,hp,hp0⟩,hb,hu,hnx⟩:=h.i.next hc hj
 obtain⟨p9,hp9,hcan,-⟩:=hc.p i (aJ hj)
 rw [hp0] at hp9
 obtain rfl:=bD hp9
 obtain⟨PB,cp,e1,h1⟩:=fX hv h.i.ok hp hb hu hc.ok hcan
 refine⟨PB,cp,_,e1,h1.mono fun en w' r9=> ⟨r9.1,?_⟩⟩
 obtain⟨g',q1,q2⟩:=r9.2
 have q3:=q2.ns
 have hK:=q2.keepT hv.ra
 rw [← fy hj] at q1
 rw [← fy hj] at hnx
 refine⟨⟨⟨g',q1,hm.trans q2,fun k hk=> q3 k ?_ (hn k hk)⟩,sD h.out hK (by decide) (by decide) (by decide),fun hl=> hK _ _ _ _ (h.l hl) (by decide) (by decide) (by decide),hK _ _ _ _ h.e (by decide) (by decide) (by decide),hnx⟩,?_⟩
 ·exact(World.ownsRow.lt h.out k hk).2
 ·have hp9:(da t r n (L.take (j+1)) a).ps[i]? =some (lT (da t r n (L.take j) a) n (jh t r) p):=by rw [fy hj];exact j6 hp
  obtain⟨q,hq,f1,-⟩:=q1.get hp9
  obtain⟨m9,c9⟩:∃ c,vp=.slice (some ⟨PB,0,none⟩) g'.qs.length c:=by
   obtain⟨PB2,cp2,cur,e2,-⟩:=q1.ra.packs (by rintro c;rw [c] at hq;cases hq)
   rw [e1] at e2
   have e8:PB=PB2:=by have h9:=congrArg Value.ownBlock e2;simpa [Value.ownBlock] using h9
   subst e8
   exact⟨cp2,e1.trans e2⟩
  have hl:=(q1.ra.life c9 hq).1
  have hn0:=hl.open1.1
  rw [f1] at hn0
  have hna:cq a i=p.1:=by unfold cq;rw [di,hp0];rfl
  rw [hna]
  exact⟨hn0,hl.lt⟩
theorem AH.put {o:Obj} (h:AH B R vb a g vp n L t r bL E cL w0 j vo W)(hj:L[j]? =some i)(hg:(W.alloc o).grownBy W5 vo.ownBlock)(ho:W5.ownsRow w0.heap.size 9 1 v' (j+1) ((L.take j).map (fun i=> Value.string (cq a i))++[.string (cq a i)]))(hat:v'.ownBlock=vo.ownBlock∨v'.ownBlock=some (W.alloc o).heap.size):
  Ab B R vb a g vp n L t r bL E cL w0 (j+1) v' W5:=by
 obtain⟨gj,hv,hm,hn⟩:=h.v
 have hout:=aD h.out (bU (o:=o))
 have hv2:=hv.step (bU (W:=W) (o:=o))
 refine⟨⟨gj,⟨hv2.ra.strGrown hout hg hn,hv2.abs,hv2.lf⟩,⟨(hm.step (bU (o:=o))).kp.grown hg (fun k hk hlt=> ?_),hm.own,hm.ns⟩,fun k hk=> ?_⟩,?_,fun hl=> cV (an (h.l hl) bU) hg hout (by decide),cV (an h.e bU) hg hout (by decide),h.i⟩
 ·have:=(World.ownsRow.lt h.out k hk).1
  omega
 ·rcases hat with hat | hat
  ·exact hn k (hat ▸ hk)
  ·rw [hat] at hk
   obtain rfl:=bD hk
   exact hv2.ra.fresh (bz _)
 ·rw [List.take_add_one,hj,List.map_append]
  exact ho
end
end
section
open Sx Go.RowKit Mr
theorem xk {B R:Nat} {a:RegA} {g:RegS} {vb vp:Value} {w:World} (h:bW B R vb a g vp w){PB cp i:Nat} {p:ByteArray×List bR} (hvp:vp=.slice (some ⟨PB,0,none⟩) g.qs.length cp)(hp:a.ps[i]? =some p){E:Nat} {t:Int} (hE:w.cell? ⟨E,0,none⟩=some (.int .i64 t))(hE2:E < w.heap.size):Calls Tryz.prog 63 #[.pointer (some ⟨PB,i*20,none⟩),.pointer (some ⟨E,0,none⟩)] w fun en w'=> en=.returned (.bool (decide (t < (lf p).at_)))∧Below w.heap.size w w':=by
 obtain⟨q,hq,e1,e2,e3,e4⟩:=h.get hp
 have hL:=(h.ra.life hvp hq).1
 have c2:=hL.open1.2.2.1
 rw [e3] at c2
 have cl:=hL.lt
 generalize(lf p).at_=x at*
 clear h hvp hp hq e1 e2 e3 e4 hL
 go_enter Tryz.func63,Tryz.ntmps63
 go_upto_region 1 with fail
 go_quiet (fail)
 go_wp2_with fail
 exact bc (v:=.bool (decide (t < x))) (by simp only [results,Tryz.results63];go_simp) rfl ⟨rfl,(by repeat' (first | exact Below.refl _ _ | assumption | apply aI | apply bg | apply aK | (refine cB ?_ ?_ _) | (refine ai ?_ (by assumption)) | omega | (simp <;> omega)))⟩
theorem xm {B R:Nat} {a:RegA} {g:RegS} {vb vp:Value} {w:World} (h:bW B R vb a g vp w){PB cp i:Nat} {p:ByteArray×List bR} (hvp:vp=.slice (some ⟨PB,0,none⟩) g.qs.length cp)(hp:a.ps[i]? =some p)(hl:p.2.length≤500):Calls Tryz.prog 64 #[.pointer (some ⟨PB,i*20,none⟩)] w fun en w'=> en=.returned (.bool (decide (500≤p.2.length)))∧Below w.heap.size w w':=by
 obtain⟨q,hq,e1,e2,e3,e4⟩:=h.get hp
 have hL:=h.ra.life hvp hq
 obtain⟨pv,cv,hve⟩:=h.ra.veS (aJ hq)
 have c2:=hL.2.2
 rw [hve,e2] at c2
 have cl:=hL.1.lt
 have hd:decide (500≤p.2.length)=decide ((p.2.length:Int)≥500):=by
  by_cases c:500≤p.2.length
  ·rw [bF c,bF (by omega)]
  ·rw [bv c,bv (by omega)]
 rw [hd]
 generalize p.2.length=x at*
 clear h hvp hp hq e1 e2 e3 e4 hL hve hd
 go_enter Tryz.func64,Tryz.ntmps64
 go_wp2_with fail
 exact bc (v:=.bool (decide ((x:Int)≥500))) (by simp only [results,Tryz.results64];go_simp) rfl ⟨rfl,(by repeat' (first | exact Below.refl _ _ | assumption | apply aI | apply bg | apply aK | (refine cB ?_ ?_ _) | (refine ai ?_ (by assumption)) | omega | (simp <;> omega)))⟩
theorem sE {B R:Nat} {a:RegA} {g:RegS} {vb vp:Value} {w:World} (h:bW B R vb a g vp w)(ho:ji a){B0 c:Nat} {ad:Option Addr} {L:List Nat} (hr:w.ownsRow B0 112 1 (.slice ad L.length c) L.length (L.map (eE vp)))(hl:L.length≤100)(hm:∀ i∈L,∃ p,a.ps[i]? =some p∧cy a i=p){E:Nat} {t:Int} (hE:w.cell? ⟨E,0,none⟩=some (.int .i64 t))(hE2:E < w.heap.size):Calls Tryz.prog 117 #[.slice ad L.length c,.func (.func 63) #[] #[.pointer (some ⟨E,0,none⟩)]] w fun en w'=> ∃ i:Int,en=.returned (.int .i64 i)∧decide (i≥0)=L.any (fun i=> decide (t < (lf (cy a i)).at_))∧Below w.heap.size w w':=by
 have H:=aa h
 have HO:=aa ho
 have HR:=aa hr
 have HM:=aa hm
 have HE:=aa (ba hE hE2)
 clear h ho hr hm hE hE2
 go_enter Tryz.func117,Tryz.ntmps117
 go_wp2_with fail
 go_loopw [8] (fun ix wr=> ∃ i:Nat,i≤L.length∧ix=.int .i64 i∧Hid ((L.take i).any (fun i=> decide (t < (lf (cy a i)).at_))=false)∧Hid (Below w.heap.size w wr)) (fun ix _=> L.length - (intOf ix).toNat)
 case atStart=> exact⟨0,by omega,rfl,rfl,Below.refl _ _⟩
 case round=>
  obtain⟨i,hi,rfl,HT,HW⟩:=hrel
  by_cases hc:i < L.length
  ·have c1:(i:Int) < L.length:=by omega
   have c0:(0:Int)≤i:=by omega
   obtain⟨x,hk⟩:∃ x,L[i]? =some x:=⟨L[i],bh hc⟩
   obtain⟨p,hp,hpa⟩:=HM.out x (aJ hk)
   obtain⟨PB,cp,cur,hvp,-⟩:=H.out.ra.packs (by rintro c;have h9:=H.out.get hp;rw [c] at h9;obtain⟨q9,h8,-⟩:=h9;cases h8)
   obtain⟨b,rfl,hb,hcs⟩:=eD (b:=0) (c:=c) HR.out (by omega)
   have g1:=ag (hcs i (eE vp x) (by rw [bX,hk];rfl)) HW.out
   subst hvp
   rw [j8] at g1
   have lb:=ar hb HW.out.size
   have CB:=aa (xk (H.out.step HW.out) rfl hp (ag HE.out.1 HW.out) (ar HE.out.2 HW.out.size))
   have HKK:=aa hk
   have HPA:=aa hpa
   rw [show p=cy a x from hpa.symm] at CB
   clear hcs hp hk hc hpa hb
   cases hbd:decide (t < (lf (cy a x)).at_)
   ·have HBD:=aa hbd
    rw [hbd] at CB
    clear hbd
    go_wp2_with (go_at_call 63;refine CB.out.mono ?_;rintro e w1 ⟨rfl,hb1⟩)
    exact⟨⟨i+1,by omega,by push_cast;rfl,aa (show(L.take (i+1)).any (fun i=> decide (t < (lf (cy a i)).at_))=false by rw [List.take_add_one,HKK.out,List.any_append,HT.out];simpa using HBD.out),ai HW.out hb1⟩,by simp [intOf];omega⟩
   ·have HBD:=aa hbd
    rw [hbd] at CB
    clear hbd
    go_wp2_with (go_at_call 63;refine CB.out.mono ?_;rintro e w1 ⟨rfl,hb1⟩)
    exact bc (v:=.int .i64 (i:Int)) (by simp only [results,Tryz.results117];go_simp) rfl ⟨i,rfl,by rw [List.any_eq_true.2 ⟨x,aJ HKK.out,HBD.out⟩];exact bF (by omega),ai HW.out hb1⟩
  ·obtain rfl:i=L.length:=by omega
   clear hc
   go_wp2_with fail
   exact aH (v:=.int .i64 (-1)) rfl rfl rfl ⟨-1,rfl,by have q:=HT.out;rw [List.take_of_length_le (bz _)] at q;rw [q];rfl,HW.out⟩
theorem sF {B R:Nat} {a:RegA} {g:RegS} {vb vp:Value} {w:World} (h:bW B R vb a g vp w)(ho:ji a){B0 c:Nat} {ad:Option Addr} {L:List Nat} (hr:w.ownsRow B0 112 1 (.slice ad L.length c) L.length (L.map (eE vp)))(hl:L.length≤100)(hm:∀ i∈L,∃ p,a.ps[i]? =some p∧cy a i=p){E:Nat} {t:Int} (hE:w.cell? ⟨E,0,none⟩=some (.int .i64 t))(hE2:E < w.heap.size):Calls Tryz.prog 62 #[.slice ad L.length c,.func (.func 63) #[] #[.pointer (some ⟨E,0,none⟩)]] w fun en w'=> en=.returned (.bool (L.any (fun i=> decide (t < (lf (cy a i)).at_))))∧Below w.heap.size w w':=by
 have CI:=aa (sE h ho hr hl hm hE hE2)
 clear h ho hr hl hm hE hE2
 generalize L.any (fun i=> decide (t < (lf (cy a i)).at_))=r at*
 generalize L.length=n at*
 go_enter Tryz.func62,Tryz.ntmps62
 go_wp2_with (go_at_call 117;refine CI.out.mono ?_;rintro e w1 ⟨i,rfl,hi,hb1⟩;have HI:=aa hi;clear hi)
 exact bc (v:=.bool (decide (i≥0))) (by simp only [results,Tryz.results62];go_simp) rfl ⟨by rw [HI.out],hb1⟩
theorem sG {B R:Nat} {a:RegA} {g:RegS} {vb vp:Value} {w:World} (h:bW B R vb a g vp w)(ho:ji a){B0 c:Nat} {ad:Option Addr} {L:List Nat} (hr:w.ownsRow B0 112 1 (.slice ad L.length c) L.length (L.map (eE vp)))(hl:L.length≤100)(hm:∀ i∈L,∃ p,a.ps[i]? =some p∧cy a i=p):Calls Tryz.prog 117 #[.slice ad L.length c,.func (.func 64) #[] #[]] w fun en w'=> ∃ i:Int,en=.returned (.int .i64 i)∧decide (i≥0)=L.any (fun i=> decide (500≤(cy a i).2.length))∧Below w.heap.size w w':=by
 have H:=aa h
 have HO:=aa ho
 have HR:=aa hr
 have HM:=aa hm
 clear h ho hr hm
 go_enter Tryz.func117,Tryz.ntmps117
 go_wp2_with fail
 go_loopw [8] (fun ix wr=> ∃ i:Nat,i≤L.length∧ix=.int .i64 i∧Hid ((L.take i).any (fun i=> decide (500≤(cy a i).2.length))=false)∧Hid (Below w.heap.size w wr)) (fun ix _=> L.length - (intOf ix).toNat)
 case atStart=> exact⟨0,by omega,rfl,rfl,Below.refl _ _⟩
 case round=>
  obtain⟨i,hi,rfl,HT,HW⟩:=hrel
  by_cases hc:i < L.length
  ·have c1:(i:Int) < L.length:=by omega
   have c0:(0:Int)≤i:=by omega
   obtain⟨x,hk⟩:∃ x,L[i]? =some x:=⟨L[i],bh hc⟩
   obtain⟨p,hp,hpa⟩:=HM.out x (aJ hk)
   obtain⟨PB,cp,cur,hvp,-⟩:=H.out.ra.packs (by rintro c;have h9:=H.out.get hp;rw [c] at h9;obtain⟨q9,h8,-⟩:=h9;cases h8)
   obtain⟨b,rfl,hb,hcs⟩:=eD (b:=0) (c:=c) HR.out (by omega)
   have g1:=ag (hcs i (eE vp x) (by rw [bX,hk];rfl)) HW.out
   subst hvp
   rw [j8] at g1
   have lb:=ar hb HW.out.size
   have CB:=aa (xm (H.out.step HW.out) rfl hp (HO.out.p p (aJ hp)).1)
   have HKK:=aa hk
   have HPA:=aa hpa
   rw [show p=cy a x from hpa.symm] at CB
   clear hcs hp hk hc hpa hb
   cases hbd:decide (500≤(cy a x).2.length)
   ·have HBD:=aa hbd
    rw [hbd] at CB
    clear hbd
    go_wp2_with (go_at_call 64;refine CB.out.mono ?_;rintro e w1 ⟨rfl,hb1⟩)
    exact⟨⟨i+1,by omega,by push_cast;rfl,aa (show(L.take (i+1)).any (fun i=> decide (500≤(cy a i).2.length))=false by rw [List.take_add_one,HKK.out,List.any_append,HT.out];simpa using HBD.out),ai HW.out hb1⟩,by simp [intOf];omega⟩
   ·have HBD:=aa hbd
    rw [hbd] at CB
    clear hbd
    go_wp2_with (go_at_call 64;refine CB.out.mono ?_;rintro e w1 ⟨rfl,hb1⟩)
    exact bc (v:=.int .i64 (i:Int)) (by simp only [results,Tryz.results117];go_simp) rfl ⟨i,rfl,by rw [List.any_eq_true.2 ⟨x,aJ HKK.out,HBD.out⟩];exact bF (by omega),ai HW.out hb1⟩
  ·obtain rfl:i=L.length:=by omega
   clear hc
   go_wp2_with fail
   exact aH (v:=.int .i64 (-1)) rfl rfl rfl ⟨-1,rfl,by have q:=HT.out;rw [List.take_of_length_le (bz _)] at q;rw [q];rfl,HW.out⟩
theorem sH {B R:Nat} {a:RegA} {g:RegS} {vb vp:Value} {w:World} (h:bW B R vb a g vp w)(ho:ji a){B0 c:Nat} {ad:Option Addr} {L:List Nat} (hr:w.ownsRow B0 112 1 (.slice ad L.length c) L.length (L.map (eE vp)))(hl:L.length≤100)(hm:∀ i∈L,∃ p,a.ps[i]? =some p∧cy a i=p):Calls Tryz.prog 62 #[.slice ad L.length c,.func (.func 64) #[] #[]] w fun en w'=> en=.returned (.bool (L.any (fun i=> decide (500≤(cy a i).2.length))))∧Below w.heap.size w w':=by
 have CI:=aa (sG h ho hr hl hm)
 clear h ho hr hl hm
 generalize L.any (fun i=> decide (500≤(cy a i).2.length))=r at*
 generalize L.length=n at*
 go_enter Tryz.func62,Tryz.ntmps62
 go_wp2_with (go_at_call 117;refine CI.out.mono ?_;rintro e w1 ⟨i,rfl,hi,hb1⟩;have HI:=aa hi;clear hi)
 exact bc (v:=.bool (decide (i≥0))) (by simp only [results,Tryz.results62];go_simp) rfl ⟨by rw [HI.out],hb1⟩
end
section
open Sx Go.RowKit Mr
section
variable {a:RegA} {b t t0 t1:Int} {bt r:ByteArray}
theorem je(hb:¬ (0≤b∧b < a.bks.length)):aE a b t bt t0 t1 r=(3,[],a):=by unfold aE;rw [aG hb]
theorem dB(hb:0≤b∧b < a.bks.length)(h:¬ (nameB bt=true∧nameB r=true∧bJ t=true∧bJ t0=true∧bJ t1=true)):aE a b t bt t0 t1 r=(2,[],a):=by unfold aE;rw [aA (fun c=> c hb),aG h]
theorem eS(hb:0≤b∧b < a.bks.length)(h:nameB bt=true∧nameB r=true∧bJ t=true∧bJ t0=true∧bJ t1=true):aE a b t bt t0 t1 r=
  if(affA a bt t0 t1 r).any (fun i=> decide (t < (lf (cy a i)).at_))=true then(10,[],a)else
  if(affA a bt t0 t1 r).any (fun i=> decide (500≤(cy a i).2.length))=true then(11,[],a)else
  if leftA a b < (affA a bt t0 t1 r).length then(4,[],a)else
  (0,(affA a bt t0 t1 r).map (cq a),da t r b.toNat (affA a bt t0 t1 r) a):=by unfold aE;rw [aA (fun c=> c hb),aA (fun c=> c h)]
theorem j9 {a:RegA} (ho:dc a):(affA a bt t0 t1 r).length≤100:=by
 unfold affA
 have h1:=List.length_filter_le (fun i=> match a.ps[i]? with | some p=> jB a bt t0 t1 r p | none=> false) (List.range a.ps.length)
 rw [List.length_range] at h1
 exact Nat.le_trans h1 ho.np
end
theorem xn {W:World} {B0 c:Nat} {ad:Option Addr} {L:List Nat} {vp:Value} (h:W.ownsRow B0 112 1 (.slice ad L.length c) L.length (L.map (eE vp))):
  ∃ bL cL,L≠[]→ad=some ⟨bL,0,none⟩∧W.heap[bL]? =some (.cells cL 112 (0,0))∧∀ (j i:Nat),L[j]? =some i→cL[j]? =some (eE vp i):=by
 obtain⟨-,h2⟩:=h
 rcases h2 with⟨e1,e2⟩ | ⟨g,cap,cur,q1,q2,q3,q4,q5,q6,q7⟩
 ·exact⟨0,#[],fun hn=> absurd (eF e2) hn⟩
 ·refine⟨g,cur,fun hn=> ⟨?_,q3,fun j i hj=> ?_⟩⟩
  ·injection q1
  ·have hj2:(L.map (eE vp))[j]? =some (eE vp i):=by rw [bX,hj];rfl
   have hjl:=(aB hj2).1
   rw [← q7] at hj2
   rw [← Array.getElem?_toList]
   rw [List.getElem?_take] at hj2
   split at hj2
   ·exact hj2
   ·cases hj2
theorem qd {B R:Nat} {a:RegA} {g:RegS} {vb vp:Value} {w:World} (h:bW B R vb a g vp w)(ho:dc a)(hG:dn w)(b t:Int)(bt:ByteArray)(t0 t1:Int)(r:ByteArray)(hs:bt.size≤1000000∧r.size≤1000000):
  Calls Tryz.prog 19 #[.pointer (some ⟨R,0,none⟩),.int .i64 b,.int .i64 t,.string bt,.int .i64 t0,.int .i64 t1,.string r] w fun en w'=> ∃ v',en=.returned (.tuple #[v',.int .i64 (aE a b t bt t0 t1 r).1])∧w'.ownsRow w.heap.size 9 1 v' (aE a b t bt t0 t1 r).2.1.length ((aE a b t bt t0 t1 r).2.1.map Value.string)∧gh B R vb (aE a b t bt t0 t1 r).2.2 g vp w w':=by
 have hok:=h.ok ho.toji
 have hbks:g.bks=a.bks:=by rw [← h.abs];rfl
 have hlen:=h.len
 have hnp:=ho.np
 have hla:lM g b=leftA a b:=by rw [jZ,h.abs]
 have H:=aa h
 obtain⟨pa,cp,hvp⟩:=h.ra.vpS
 subst hvp
 have hLL:=j9 (bt:=bt) (t0:=t0) (t1:=t1) (r:=r) ho
 have CV:=aa (fun W (hW:Below w.heap.size w W)=> dm (h.ra.step hW) hok.pt.1)
 have CB:=aa (fun W (hW:Below w.heap.size w W)=> book_any (h.ra.step hW) b)
 have CN1:=aa (fun W=> eR bt W (by omega))
 have CN2:=aa (fun W=> eR r W (by omega))
 have CT1:=aa (fun W=> il t W)
 have CT2:=aa (fun W=> il t0 W)
 have CT3:=aa (fun W=> il t1 W)
 have CA:=aa (fun W (hW:Below w.heap.size w W)=> og (h.step hW) ho (dV hG hW) bt r t0 t1)
 have CQ1:=aa (fun W (hW:Below w.heap.size w W) (ad:Option Addr) (c:Nat) (hr:W.ownsRow w.heap.size 112 1 (.slice ad (affA a bt t0 t1 r).length c) (affA a bt t0 t1 r).length ((affA a bt t0 t1 r).map (eE (.slice pa g.qs.length cp)))) (hE:W.cell? ⟨w.heap.size,0,none⟩=some (.int .i64 t)) (hE2:w.heap.size < W.heap.size)=> sF (h.step hW) ho.toji hr hLL (fun i hi=> by obtain⟨p,h1,h2,h3⟩:=iT hi;exact⟨p,h1,h3⟩) hE hE2)
 have CQ2:=aa (fun W (hW:Below w.heap.size w W) (ad:Option Addr) (c:Nat) (hr:W.ownsRow w.heap.size 112 1 (.slice ad (affA a bt t0 t1 r).length c) (affA a bt t0 t1 r).length ((affA a bt t0 t1 r).map (eE (.slice pa g.qs.length cp))))=> sH (h.step hW) ho.toji hr hLL (fun i hi=> by obtain⟨p,h1,h2,h3⟩:=iT hi;exact⟨p,h1,h3⟩))
 have CL:=aa (fun W (hW:Below w.heap.size w W)=> jX (h.ra.step hW) hok b)
 rw [hbks] at CB
 rw [hla] at CL
 have HO:=aa ho
 have HX:=aa (au w (.cells #[.int .i64 t] 2))
 have HB:=aa (bU (W:=w) (o:=(.cells #[.int .i64 t] 2)))
 clear hok hbks hnp hla hG hs hlen
 clear h ho
 go_enter Tryz.func19,Tryz.ntmps19
 go_upto_region 1 with fail
 generalize w.alloc (.cells #[.int .i64 t] 2)=W0 at*
 have x0:=ah (o:=0) HX.out rfl;have xl:=ak HX.out
 cases hbB:decide (0≤b∧b < a.bks.length)with
 | false=>
  rw [hbB] at CB
  have HMM:=aa (show aE a b t bt t0 t1 r=(3,[],a)from je (of_decide_eq_false hbB))
  clear hbB hLL
  go_wp2_with ((first | (go_at_call 56;refine(CV.out _ HB.out).mono ?_) | (go_at_call 59;refine(CB.out _ HB.out).mono ?_));rintro e w1 ⟨rfl,hbn⟩;have HX9:=aa (an HX.out hbn);have HB9:=aa (ai HB.out hbn);clear HX HB hbn x0 xl;have HX:=HX9;have HB:=HB9;clear HX9 HB9;have x0:=ah (o:=0) HX.out rfl;have xl:=ak HX.out)
  exact dP (v:=.tuple #[.slice none 0 0,.int .i64 3]) rfl rfl rfl ⟨.slice none 0 0,by rw [HMM.out],by rw [HMM.out];exact⟨rfl,ax ⟨rfl,rfl⟩⟩,by rw [HMM.out];exact H.out.stay HB.out⟩
 | true=>
  rw [hbB] at CB
  have hb:=of_decide_eq_true hbB
  clear hbB
  obtain⟨n,rfl⟩:=Int.eq_ofNat_of_zero_le hb.1
  go_upto_region 5 with((first | (go_at_call 56;refine(CV.out _ HB.out).mono ?_) | (go_at_call 59;refine(CB.out _ HB.out).mono ?_));rintro e w1 ⟨rfl,hbn⟩;have HX9:=aa (an HX.out hbn);have HB9:=aa (ai HB.out hbn);clear HX HB hbn x0 xl;have HX:=HX9;have HB:=HB9;clear HX9 HB9;have x0:=ah (o:=0) HX.out rfl;have xl:=ak HX.out)
  cases g0:nameB bt with
  | false=>
   rw [g0] at CN1
   have HMM:=aa (show aE a (n:Int) t bt t0 t1 r=(2,[],a)from dB hb (by simp [g0]))
   clear hb hLL g0
   go_wp2_with ((first | (go_at_call 39;(first | (with_reducible refine(CN1.out _).mono ?_) | (with_reducible refine(CN2.out _).mono ?_))) | (go_at_call 60;(first | (with_reducible refine(CT1.out _).mono ?_) | (with_reducible refine(CT2.out _).mono ?_) | (with_reducible refine(CT3.out _).mono ?_))));rintro e w1 ⟨rfl,hbn⟩;have HX9:=aa (an HX.out hbn);have HB9:=aa (ai HB.out hbn);clear HX HB hbn x0 xl;have HX:=HX9;have HB:=HB9;clear HX9 HB9;have x0:=ah (o:=0) HX.out rfl;have xl:=ak HX.out)
   exact dP (v:=.tuple #[.slice none 0 0,.int .i64 2]) rfl rfl rfl ⟨.slice none 0 0,by rw [HMM.out],by rw [HMM.out];exact⟨rfl,ax ⟨rfl,rfl⟩⟩,by rw [HMM.out];exact H.out.stay HB.out⟩
  | true=>
   rw [g0] at CN1
   cases g1:nameB r with
   | false=>
    rw [g1] at CN2
    have HMM:=aa (show aE a (n:Int) t bt t0 t1 r=(2,[],a)from dB hb (by simp [g1]))
    clear hb hLL g0 g1
    go_wp2_with ((first | (go_at_call 39;(first | (with_reducible refine(CN1.out _).mono ?_) | (with_reducible refine(CN2.out _).mono ?_))) | (go_at_call 60;(first | (with_reducible refine(CT1.out _).mono ?_) | (with_reducible refine(CT2.out _).mono ?_) | (with_reducible refine(CT3.out _).mono ?_))));rintro e w1 ⟨rfl,hbn⟩;have HX9:=aa (an HX.out hbn);have HB9:=aa (ai HB.out hbn);clear HX HB hbn x0 xl;have HX:=HX9;have HB:=HB9;clear HX9 HB9;have x0:=ah (o:=0) HX.out rfl;have xl:=ak HX.out)
    exact dP (v:=.tuple #[.slice none 0 0,.int .i64 2]) rfl rfl rfl ⟨.slice none 0 0,by rw [HMM.out],by rw [HMM.out];exact⟨rfl,ax ⟨rfl,rfl⟩⟩,by rw [HMM.out];exact H.out.stay HB.out⟩
   | true=>
    rw [g1] at CN2
    cases g2:bJ t with
    | false=>
     rw [g2] at CT1
     have HMM:=aa (show aE a (n:Int) t bt t0 t1 r=(2,[],a)from dB hb (by simp [g2]))
     clear hb hLL g0 g1 g2
     go_wp2_with ((first | (go_at_call 39;(first | (with_reducible refine(CN1.out _).mono ?_) | (with_reducible refine(CN2.out _).mono ?_))) | (go_at_call 60;(first | (with_reducible refine(CT1.out _).mono ?_) | (with_reducible refine(CT2.out _).mono ?_) | (with_reducible refine(CT3.out _).mono ?_))));rintro e w1 ⟨rfl,hbn⟩;have HX9:=aa (an HX.out hbn);have HB9:=aa (ai HB.out hbn);clear HX HB hbn x0 xl;have HX:=HX9;have HB:=HB9;clear HX9 HB9;have x0:=ah (o:=0) HX.out rfl;have xl:=ak HX.out)
     exact dP (v:=.tuple #[.slice none 0 0,.int .i64 2]) rfl rfl rfl ⟨.slice none 0 0,by rw [HMM.out],by rw [HMM.out];exact⟨rfl,ax ⟨rfl,rfl⟩⟩,by rw [HMM.out];exact H.out.stay HB.out⟩
    | true=>
     rw [g2] at CT1
     cases g3:bJ t0 with
     | false=>
      rw [g3] at CT2
      have HMM:=aa (show aE a (n:Int) t bt t0 t1 r=(2,[],a)from dB hb (by simp [g3]))
      clear hb hLL g0 g1 g2 g3
      go_wp2_with ((first | (go_at_call 39;(first | (with_reducible refine(CN1.out _).mono ?_) | (with_reducible refine(CN2.out _).mono ?_))) | (go_at_call 60;(first | (with_reducible refine(CT1.out _).mono ?_) | (with_reducible refine(CT2.out _).mono ?_) | (with_reducible refine(CT3.out _).mono ?_))));rintro e w1 ⟨rfl,hbn⟩;have HX9:=aa (an HX.out hbn);have HB9:=aa (ai HB.out hbn);clear HX HB hbn x0 xl;have HX:=HX9;have HB:=HB9;clear HX9 HB9;have x0:=ah (o:=0) HX.out rfl;have xl:=ak HX.out)
      exact dP (v:=.tuple #[.slice none 0 0,.int .i64 2]) rfl rfl rfl ⟨.slice none 0 0,by rw [HMM.out],by rw [HMM.out];exact⟨rfl,ax ⟨rfl,rfl⟩⟩,by rw [HMM.out];exact H.out.stay HB.out⟩
     | true=>
      rw [g3] at CT2
      cases g4:bJ t1 with
      | false=>
       rw [g4] at CT3
       have HMM:=aa (show aE a (n:Int) t bt t0 t1 r=(2,[],a)from dB hb (by simp [g4]))
       clear hb hLL g0 g1 g2 g3 g4
       go_wp2_with ((first | (go_at_call 39;(first | (with_reducible refine(CN1.out _).mono ?_) | (with_reducible refine(CN2.out _).mono ?_))) | (go_at_call 60;(first | (with_reducible refine(CT1.out _).mono ?_) | (with_reducible refine(CT2.out _).mono ?_) | (with_reducible refine(CT3.out _).mono ?_))));rintro e w1 ⟨rfl,hbn⟩;have HX9:=aa (an HX.out hbn);have HB9:=aa (ai HB.out hbn);clear HX HB hbn x0 xl;have HX:=HX9;have HB:=HB9;clear HX9 HB9;have x0:=ah (o:=0) HX.out rfl;have xl:=ak HX.out)
       exact dP (v:=.tuple #[.slice none 0 0,.int .i64 2]) rfl rfl rfl ⟨.slice none 0 0,by rw [HMM.out],by rw [HMM.out];exact⟨rfl,ax ⟨rfl,rfl⟩⟩,by rw [HMM.out];exact H.out.stay HB.out⟩
      | true=>
       rw [g4] at CT3
       have hv:=ba g0 (ba g1 (ba g2 (ba g3 g4)))
       clear g0 g1 g2 g3 g4
       go_upto_region 7 with((first | (go_at_call 39;(first | (with_reducible refine(CN1.out _).mono ?_) | (with_reducible refine(CN2.out _).mono ?_))) | (go_at_call 60;(first | (with_reducible refine(CT1.out _).mono ?_) | (with_reducible refine(CT2.out _).mono ?_) | (with_reducible refine(CT3.out _).mono ?_))));rintro e w1 ⟨rfl,hbn⟩;have HX9:=aa (an HX.out hbn);have HB9:=aa (ai HB.out hbn);clear HX HB hbn x0 xl;have HX:=HX9;have HB:=HB9;clear HX9 HB9;have x0:=ah (o:=0) HX.out rfl;have xl:=ak HX.out)
       cases h1:(affA a bt t0 t1 r).any (fun i=> decide (t < (lf (cy a i)).at_))with
       | true=>
        rw [h1] at CQ1
        have HMM:=aa (show aE a (n:Int) t bt t0 t1 r=(10,[],a)from by rw [eS hb hv,aG h1])
        generalize affA a bt t0 t1 r=L at*
        clear hb hv h1 hLL
        go_wp2_with ((first | (go_at_call 61;refine(CA.out _ HB.out).mono ?_;rintro e w1 ⟨v9,rfl,hrow,hbn⟩;have hr9:=dE hrow HB.out.size;clear hrow;obtain⟨av,cv,ev⟩:=aP hr9;subst ev;have HR:=aa hr9;clear hr9) | (go_at_call 62;have cq1:=CQ1.out _ HB.out _ _ HR.out x0 xl;have cq2:=CQ2.out _ HB.out _ _ HR.out;(first | (with_reducible refine cq1.mono ?_) | (with_reducible refine cq2.mono ?_));clear cq1 cq2;rintro e w1 ⟨rfl,hbn⟩;have HR9:=aa (aD HR.out hbn);clear HR;have HR:=HR9;clear HR9));have HX9:=aa (an HX.out hbn);have HB9:=aa (ai HB.out hbn);clear HX HB hbn x0 xl;have HX:=HX9;have HB:=HB9;clear HX9 HB9;have x0:=ah (o:=0) HX.out rfl;have xl:=ak HX.out)
        exact dP (v:=.tuple #[.slice none 0 0,.int .i64 10]) rfl rfl rfl ⟨.slice none 0 0,by rw [HMM.out],by rw [HMM.out];exact⟨rfl,ax ⟨rfl,rfl⟩⟩,by rw [HMM.out];exact H.out.stay HB.out⟩
       | false=>
        rw [h1] at CQ1
        go_upto_region 10 with((first | (go_at_call 61;refine(CA.out _ HB.out).mono ?_;rintro e w1 ⟨v9,rfl,hrow,hbn⟩;have hr9:=dE hrow HB.out.size;clear hrow;obtain⟨av,cv,ev⟩:=aP hr9;subst ev;have HR:=aa hr9;clear hr9) | (go_at_call 62;have cq1:=CQ1.out _ HB.out _ _ HR.out x0 xl;have cq2:=CQ2.out _ HB.out _ _ HR.out;(first | (with_reducible refine cq1.mono ?_) | (with_reducible refine cq2.mono ?_));clear cq1 cq2;rintro e w1 ⟨rfl,hbn⟩;have HR9:=aa (aD HR.out hbn);clear HR;have HR:=HR9;clear HR9));have HX9:=aa (an HX.out hbn);have HB9:=aa (ai HB.out hbn);clear HX HB hbn x0 xl;have HX:=HX9;have HB:=HB9;clear HX9 HB9;have x0:=ah (o:=0) HX.out rfl;have xl:=ak HX.out)
        cases h2:(affA a bt t0 t1 r).any (fun i=> decide (500≤(cy a i).2.length))with
        | true=>
         rw [h2] at CQ2
         have HMM:=aa (show aE a (n:Int) t bt t0 t1 r=(11,[],a)from by rw [eS hb hv,aA (by rw [h1];decide),aG h2])
         generalize affA a bt t0 t1 r=L at*
         clear hb hv h1 h2 hLL
         go_wp2_with (go_at_call 62;have cq1:=CQ1.out _ HB.out _ _ HR.out x0 xl;have cq2:=CQ2.out _ HB.out _ _ HR.out;(first | (with_reducible refine cq1.mono ?_) | (with_reducible refine cq2.mono ?_));clear cq1 cq2;rintro e w1 ⟨rfl,hbn⟩;have HR9:=aa (aD HR.out hbn);clear HR;have HR:=HR9;clear HR9;have HX9:=aa (an HX.out hbn);have HB9:=aa (ai HB.out hbn);clear HX HB hbn x0 xl;have HX:=HX9;have HB:=HB9;clear HX9 HB9;have x0:=ah (o:=0) HX.out rfl;have xl:=ak HX.out)
         exact dP (v:=.tuple #[.slice none 0 0,.int .i64 11]) rfl rfl rfl ⟨.slice none 0 0,by rw [HMM.out],by rw [HMM.out];exact⟨rfl,ax ⟨rfl,rfl⟩⟩,by rw [HMM.out];exact H.out.stay HB.out⟩
        | false=>
         rw [h2] at CQ2
         go_upto_region 12 with(go_at_call 62;have cq1:=CQ1.out _ HB.out _ _ HR.out x0 xl;have cq2:=CQ2.out _ HB.out _ _ HR.out;(first | (with_reducible refine cq1.mono ?_) | (with_reducible refine cq2.mono ?_));clear cq1 cq2;rintro e w1 ⟨rfl,hbn⟩;have HR9:=aa (aD HR.out hbn);clear HR;have HR:=HR9;clear HR9;have HX9:=aa (an HX.out hbn);have HB9:=aa (ai HB.out hbn);clear HX HB hbn x0 xl;have HX:=HX9;have HB:=HB9;clear HX9 HB9;have x0:=ah (o:=0) HX.out rfl;have xl:=ak HX.out)
         by_cases h3:leftA a (n:Int) < (affA a bt t0 t1 r).length
         ·skip
          have HMM:=aa (show aE a (n:Int) t bt t0 t1 r=(4,[],a)from by rw [eS hb hv,aA (by rw [h1];decide),aA (by rw [h2];decide),aG h3])
          generalize affA a bt t0 t1 r=L at*
          generalize leftA a (n:Int)=L3 at*
          clear hb hv h1 h2 hLL
          go_wp2_with (go_at_call 17;refine(CL.out _ HB.out).mono ?_;rintro e w1 ⟨rfl,hbn⟩;have HR9:=aa (aD HR.out hbn);clear HR;have HR:=HR9;clear HR9;have HX9:=aa (an HX.out hbn);have HB9:=aa (ai HB.out hbn);clear HX HB hbn x0 xl;have HX:=HX9;have HB:=HB9;clear HX9 HB9;have x0:=ah (o:=0) HX.out rfl;have xl:=ak HX.out)
          exact dP (v:=.tuple #[.slice none 0 0,.int .i64 4]) rfl rfl rfl ⟨.slice none 0 0,by rw [HMM.out],by rw [HMM.out];exact⟨rfl,ax ⟨rfl,rfl⟩⟩,by rw [HMM.out];exact H.out.stay HB.out⟩
         ·skip
          have hnb:n < a.bks.length:=by omega
          have HMM:=aa (show aE a (n:Int) t bt t0 t1 r=(0,(affA a bt t0 t1 r).map (cq a),da t r n (affA a bt t0 t1 r) a)from by rw [eS hb hv,aA (by rw [h1];decide),aA (by rw [h2];decide),aA h3,Int.toNat_natCast])
          have hRC:oh a (affA a bt t0 t1 r) n t r:=⟨me _ _ _ _ _,hnb,by have:=dX hnb;omega,vw hv.2.1 hv.2.2.1,fun i hi=> by
           obtain⟨p,p1,p2,p3⟩:=iT hi
           have c1:=List.any_eq_false.1 h1 i hi
           have c2:=List.any_eq_false.1 h2 i hi
           rw [p3] at c1 c2
           exact⟨p,p1,rE HO.out p1 p2 (by simpa using c1),by simpa using c2⟩⟩
          have HRC:=aa hRC
          clear hRC
          have HLL:=aa (j9 (bt:=bt) (t0:=t0) (t1:=t1) (r:=r) HO.out)
          have HI0:=aa (info_parts ia)
          generalize affA a bt t0 t1 r=L at*
          have hln:L.length≤100:=HLL.out
          generalize leftA a (n:Int)=L3 at*
          clear hb hv h1 h2 hnb
          go_upto_region 15 with(go_at_call 17;refine(CL.out _ HB.out).mono ?_;rintro e w1 ⟨rfl,hbn⟩;have HR9:=aa (aD HR.out hbn);clear HR;have HR:=HR9;clear HR9;have HX9:=aa (an HX.out hbn);have HB9:=aa (ai HB.out hbn);clear HX HB hbn x0 xl;have HX:=HX9;have HB:=HB9;clear HX9 HB9;have x0:=ah (o:=0) HX.out rfl;have xl:=ak HX.out)
          clear h3
          obtain⟨w0,rfl⟩:∃ w0:World,w0=w1:=⟨_,rfl⟩
          obtain⟨bL,cL,hcl⟩:=xn HR.out
          have HCL:=aa hcl
          have hS0:Ab B R vb a g (.slice pa g.qs.length cp) n L t r bL w.heap.size cL w0 0 (.slice none 0 0) w0:=⟨⟨g,H.out.step HB.out,bT.refl,fun k hk=> by cases hk⟩,⟨rfl,ax ⟨rfl,rfl⟩⟩,fun hl=> (hcl hl).2.1,HX.out,jj.start HO.out.toji L n⟩
          have HS0:=aa hS0
          have HB0:=HB
          clear hcl hS0 x0 xl
          go_wp2_with fail
          go_loopw [17,69] (fun vo ix wr=> ∃ j:Nat,j≤L.length∧ix=.int .i64 j∧Hid (Ab B R vb a g (.slice pa g.qs.length cp) n L t r bL w.heap.size cL w0 j vo wr)) (fun _ ix _=> L.length - (intOf ix).toNat)
          case atStart=> exact⟨0,by omega,rfl,HS0⟩
          case round=>
           obtain⟨j,hj,rfl,HS⟩:=hrel
           by_cases hc:j < L.length
           ·have c1:(j:Int) < L.length:=by omega
            have c0:(0:Int)≤j:=by omega
            obtain⟨i,hk⟩:∃ i,L[j]? =some i:=⟨L[j],bh hc⟩
            have hnl:L≠[]:=by rintro e;rw [e] at hc;simp at hc
            obtain⟨ead,-,hcc⟩:=HCL.out hnl
            obtain⟨PB,cp2,m,evp,hCE⟩:=HS.out.enter HRC.out hk
            subst ead
            have g1:=ah (HS.out.l hnl) (hcc j i hk)
            rw [evp,j8] at g1
            have lb:=ak (HS.out.l hnl)
            have x0:=ah (o:=0) HS.out.e rfl
            have xl:=ak HS.out.e
            have CE:=aa hCE
            replace CE:Hid (Calls Tryz.prog 65 #[.pointer (some ⟨R,0,none⟩),.int .i64 (n:Int),.pointer (some ⟨PB,i*20,none⟩),.agg #[.int .i64 7,.int .i64 t,.int .i64 0,.int .i64 0,.string r,.string ⟨#[]⟩]] wr _):=CE
            have HJ:=aa hk
            clear hCE hcc hk hnl hc evp
            go_wp2_with (first | (go_at_call 65;refine CE.out.mono ?_;rintro e w2 ⟨rfl,hM,hcn,hlp⟩;have HM:=aa hM;clear hM) | (at_builtin;refine bM _ rfl (.tmp 80) (.tmp 86) 47 rfl w0.heap.size 9 HI0.out.choose _ 1 16 Tryz.underlying47 HI0.out.choose_spec.1 HI0.out.choose_spec.2.1 HI0.out.choose_spec.2.2.1 HI0.out.choose_spec.2.2.2 rfl (by decide) _ j ((L.take j).map fun i=> Value.string (cq a i)) rfl (aD HM.out.out bU) (some ⟨w2.heap.size,0,none⟩) 1 1 [.string (cq a i)] rfl rfl dr (lu _) (by have:=HLL.out;unfold maxLen;omega) (by have:=HLL.out;omega) (by obtain⟨g9,-,m9,-⟩:=HM.out.v;have:=m9.kp.size;simp;omega) ?_;intro v' w5 hown hgrow hat;have HS5:=aa (HM.out.put HJ.out hgrow hown hat);clear hown hgrow hat))
            exact⟨⟨j+1,by omega,by push_cast;rfl,HS5⟩,by simp [intOf];omega⟩
           ·obtain rfl:j=L.length:=by omega
            clear hc
            go_wp2_with fail
            obtain⟨gj,v1,v2,-⟩:=HS.out.v
            rw [List.take_length] at v1
            have ho:=HS.out.out
            rw [List.take_length] at ho
            exact bc (v:=.tuple #[u17,.int .i64 0]) (by simp only [results,Tryz.results19];go_simp) rfl ⟨_,by rw [HMM.out],by rw [HMM.out];dsimp only;rw [List.length_map,List.map_map];exact dE ho HB0.out.size,by rw [HMM.out];exact⟨gj,_,v1,bT.pre HB0.out v2⟩⟩
end
section
open Sx Go.RowKit Mr
theorem vx:(Tryz.prog.info? 22).map (fun i=> (i.zero,i.size,i.bytes))=some (some (.int .u64 0),1,8):=by kernel_rfl
def gi(ns:List Nat):List Value:=ns.map fun n:Nat=> Value.int .u64 (n:Int)
theorem qe(ad:Addr)(c:Nat)(w:World):Calls Tryz.prog 69 #[.slice (some ad) 0 c] w fun e w'=> ∃ v',e=.returned v'∧w'.ownsRow w.heap.size 22 1 v' 0 []∧Below w.heap.size w w':=by
 obtain⟨i0,hi,hz0,hz1,hz2⟩:=info_parts vx
 have q22:∀ (w:World) (a:Option Addr) (n c n' c':Nat),(binOp .eql 83 (.slice a n c) (.slice none n' c')).run Tryz.prog w=.ok (.bool a.isNone) w:=fun w a n c n' c'=> Lib.run_eql_slice_nil w _ _ a n c n' c' Tryz.underlying83
 go_enter Tryz.func69,Tryz.ntmps69
 go_wp2_with (at_builtin;refine wpList_append_own _ rfl _ _ 83 rfl w.heap.size 22 i0 (.int .u64 0) 1 8 Tryz.underlying83 hi hz0 hz1 hz2 rfl (by decide) _ _ _ rfl (World.ownsRow_made w #[] 0 (bz _) (Nat.zero_le _) rfl) ad 0 c [] rfl rfl (by intro j u hj;simp at hj) (by intro u hu;cases hu) (by unfold maxLen;omega) (by omega) (by simp) ?_)
 intro v' w1 hown hgrow hnil
 go_wp2
 go_ret
 exact⟨v',rfl,by simpa using hown,((Below.refl _ w).alloc (bz _) _).grown hgrow (by simp) (by intro k hk;simp [Value.ownBlock] at hk;omega)⟩
theorem oi {v:Value} {ns:List Nat} {w:World} (h:jy v ns w)(hl:ns.length≤1000000):Calls Tryz.prog 69 #[v] w fun e w'=> ∃ v',e=.returned v'∧w'.ownsRow w.heap.size 22 1 v' ns.length (gi ns)∧Below w.heap.size w w':=by
 obtain⟨i0,hi,hz0,hz1,hz2⟩:=info_parts vx
 obtain⟨a,c,rfl,h2⟩:=h
 by_cases hn:ns=[]
 ·subst hn
  cases a with
  | none=>
   refine(AnyE.slices_Clone_nil iC 0 c w).mono fun e w' q=> ?_
   obtain⟨rfl,rfl⟩:=q
   exact⟨_,rfl,⟨rfl,ax ⟨rfl,rfl⟩⟩,Below.refl _ _⟩
  | some ad=> exact qe ad c w
 ·obtain⟨b,off,rfl,hb,hc⟩:=h2 hn
  refine(AnyE.slices_Clone iC i0 (.int .u64 0) 1 8 hi hz0 hz1 hz2 rfl (by decide) (fun w=> Tryz.sizeOf22 w) b off ns.length c (gi ns) w (by simp [gi]) (by unfold maxLen;omega) (by omega) (fun j u hu=> ?_) (fun u hu=> ?_)).mono fun e w' q=> ?_
  ·unfold gi at hu
   rw [bX] at hu
   cases hj:ns[j]? with
   | none=> rw [hj] at hu;cases hu
   | some n=> rw [hj] at hu;cases hu;exact hc j n hj
  ·obtain⟨t,-,rfl⟩:=List.mem_map.1 hu;rfl
  ·obtain⟨v',rfl,q1,-,q2⟩:=q
   exact⟨v',rfl,q1,q2⟩
theorem mK.of_own {v:Value} {ns:List Nat} {W:World} {B:Nat} (h:W.ownsRow B 22 1 v ns.length (gi ns)):mK v ns W:=by
 obtain⟨h1,h2⟩:=h
 rcases h2 with⟨h2,h3⟩ | ⟨g,cap,cur,q1,q2,q3,q4,q5,q6,q7⟩
 ·exact⟨none,0,by rw [h2,h3],fun hn=> absurd (eF h3) hn⟩
 ·refine⟨_,cap,q1,fun _=> ⟨g,0,cur,(0,0),rfl,q3,fun k n hk=> ?_⟩⟩
  have hj:(gi ns)[k]? =some (.int .u64 (n:Int)):=by unfold gi;rw [bX,hk];rfl
  have hjl:=(aB hj).1
  rw [← q7,List.getElem?_take_of_lt (by simpa [gi] using hjl)] at hj
  simpa using hj
def dZ(l:List (Bk×Value)):List Value:=l.flatMap fun x=> [.int .u64 (x.1.1:Int),x.2]
theorem mf(l:List (Bk×Value))(x:Bk×Value):dZ (l++[x])=dZ l++[.int .u64 (x.1.1:Int),x.2]:=by unfold dZ;simp
theorem vy {l:List (Bk×Value)} {k:Nat} {x:Bk×Value} (hk:l[k]? =some x):(dZ l)[k*2]? =some (.int .u64 (x.1.1:Int))∧(dZ l)[k*2+1]? =some x.2:=by
 induction l generalizing k with
 | nil=> cases hk
 | cons e0 h ih=>
  unfold dZ
  rw [List.flatMap_cons]
  cases k with
  | zero=>
   have:e0=x:=by simpa using hk
   subst this
   exact⟨rfl,rfl⟩
  | succ k=>
   have:=ih (k:=k) (by simpa using hk)
   unfold dZ at this
   rw [show(k+1)*2=k*2+2 by omega,show k*2+2+1=k*2+1+2 by omega]
   exact this
structure tt(B:Nat)(bks:List Bk)(vb:Value)(W:World):Prop where
 o:∃ l:List (Bk×Value),l.map (·.1)=bks∧W.ownsRow B 85 2 vb bks.length (dZ l)∧∀ x∈l,W.ownsRow B 22 1 x.2 x.1.2.length (gi x.1.2)
theorem tt.step {B:Nat} {bks:List Bk} {vb:Value} {W w2:World} (h:tt B bks vb W)(hb:Below W.heap.size W w2):tt B bks vb w2:=by
 obtain⟨l,h1,h2,h3⟩:=h.o
 exact⟨l,h1,aD h2 hb,fun x hx=> aD (h3 x hx) hb⟩
theorem tt.nil(B:Nat)(W:World):tt B [] (.slice none 0 0) W:=⟨[],rfl,⟨rfl,ax ⟨rfl,rfl⟩⟩,fun x hx=> by cases hx⟩
theorem tt.bk {B:Nat} {bks:List Bk} {vb:Value} {W:World} (h:tt B bks vb W):∃ ab cb,vb=.slice ab bks.length cb∧nX ab bks W:=by
 obtain⟨l,h1,⟨q0,h2⟩,h3⟩:=h.o
 rcases h2 with⟨e1,e2⟩ | ⟨g,cap,cur,q1,q2,q3,q4,q5,q6,q7⟩
 ·exact⟨none,0,by rw [e1,e2],fun hn=> absurd (eF e2) hn⟩
 ·refine⟨_,cap,q1,fun hn=> ⟨g,0,cur,(0,0),rfl,q3,fun k bk hk=> ?_⟩⟩
  rw [← h1,bX] at hk
  cases hx:l[k]? with
  | none=> rw [hx] at hk;cases hk
  | some x=>
   rw [hx] at hk
   obtain rfl:x.1=bk:=bD hk
   obtain⟨f1,f2⟩:=vy hx
   have hl:l.length=bks.length:=by rw [← h1,List.length_map]
   have hkl:=(aB hx).1
   rw [← q7,List.getElem?_take_of_lt (by omega)] at f1 f2
   rw [Array.getElem?_toList] at f1 f2
   exact⟨by rw [Nat.zero_add];exact f1,x.2,by rw [Nat.zero_add];exact f2,mK.of_own (h3 x (aJ hx))⟩
end
section
open Sx Go.RowKit Mr
structure mM(w:World)(R pt:Nat)(bks:List Bk)(vb:Value)(W:World):Prop where
 bel:Below w.heap.size w W
 hR:w.heap.size≤R
 reg:W.heap[R]? =some (.cells (dW ⟨pt,bks,List.replicate 8 0,[]⟩ vb oW).toArray 121 (0,0))
 bk:tt w.heap.size bks vb W
def kJ(pt:Nat)(bks:List Bk):RegA:=⟨pt,bks,List.replicate 8 0,[]⟩
def Ac(pt:Nat)(bks:List Bk):RegS:=⟨pt,bks,List.replicate 8 0,[]⟩
structure kr(P0 P2:World→Prop)(Bs T:Nat)(cT:Array Value)(ptb:Nat)(ns:List Nat)(vb:Value)(n:Nat)(xs:List Value)(b0 b1 b2 b3 b4 b5:Bool)(v0 v1 v2 v3 v4:Value)(W:World):Prop where
 a:b4=false→P0 W
 m:b4=true→b5=false→∃ Wb,P0 Wb∧Wb.grownBy W vb.ownBlock∧W.ownsRow Bs 85 2 v4 (n+1) (xs++[.int .u64 (ptb:Int),v1])
 z:b5=true→P2 W
 t:W.heap[T]? =some (.cells cT 85 (0,0))
 r0:b0=true→v0=vb
 r1:b1=true→b5=false→W.ownsRow Bs 22 1 v1 ns.length (gi ns)
 r2:b2=true→v2=.agg #[.int .u64 (ptb:Int),v1]
 r3:b3=true→b4=false→∃ g,v3=.slice (some ⟨g,0,none⟩) 1 1∧W.heap[g]? =some (.cells #[.int .u64 (ptb:Int),v1] 85 (0,0))
 n0:b0=false→b4=false
 n1:b1=false→b2=false
 n2:b2=false→b3=false
 n3:b3=false→b4=false
 n4:b4=false→b5=false
 hb:Bs≤W.heap.size
structure sJ(w:World)(R pt:Nat)(bks:List Bk)(i:Nat)(vb:Value)(l:List (Bk×Value))(W:World):Prop where
 n:mM w R pt (bks.take i) vb W
 o:W.ownsRow w.heap.size 85 2 vb i (dZ l)
 p:∀ x∈l,W.ownsRow w.heap.size 22 1 x.2 x.1.2.length (gi x.1.2)
theorem yX:(Tryz.prog.info? 85).map (fun i=> (i.zero,i.size,i.bytes))=some (some (.agg #[.int .u64 0,.slice none 0 0]),2,32):=by kernel_rfl
section
variable {P0 P2:World→Prop} {Bs T ptb n:Nat} {cT:Array Value} {ns:List Nat} {xs:List Value} {vb:Value} {b0 b1 b2 b3 b4 b5:Bool} {v0 v1 v2 v3 v4 v9:Value} {W w2:World}
theorem kr.step(hP:∀ W w2,P0 W→Below W.heap.size W w2→P0 w2)(h:kr P0 P2 Bs T cT ptb ns vb n xs b0 b1 b2 b3 false false v0 v1 v2 v3 v4 W)(hb:Below W.heap.size W w2):kr P0 P2 Bs T cT ptb ns vb n xs b0 b1 b2 b3 false false v0 v1 v2 v3 v4 w2:=
 ⟨fun e=> hP _ _ (h.a e) hb,(fun e=> by cases e),(fun e=> by cases e),an h.t hb,h.r0,fun e1 e2=> aD (h.r1 e1 e2) hb,h.r2,fun e1 e2=> by obtain⟨g,q1,q2⟩:=h.r3 e1 e2;exact⟨g,q1,an q2 hb⟩,h.n0,h.n1,h.n2,h.n3,h.n4,Nat.le_trans h.hb hb.size⟩
theorem kr.mk0(h:kr P0 P2 Bs T cT ptb ns vb n xs false b1 b2 b3 false false v0 v1 v2 v3 v4 W):kr P0 P2 Bs T cT ptb ns vb n xs true b1 b2 b3 false false vb v1 v2 v3 v4 W:=
 ⟨h.a,h.m,h.z,h.t,(fun _=> rfl),h.r1,h.r2,h.r3,(fun e=> by cases e),h.n1,h.n2,h.n3,h.n4,h.hb⟩
theorem kr.mk1(hP:∀ W w2,P0 W→Below W.heap.size W w2→P0 w2)(h:kr P0 P2 Bs T cT ptb ns vb n xs b0 false false false false false v0 v1 v2 v3 v4 W)(hb:Below W.heap.size W w2)(ho:w2.ownsRow W.heap.size 22 1 v9 ns.length (gi ns)):
  kr P0 P2 Bs T cT ptb ns vb n xs b0 true false false false false v0 v9 v2 v3 v4 w2:=by
 have h2:=h.step hP hb
 exact⟨h2.a,(fun e=> by cases e),h2.z,h2.t,h2.r0,(fun _ _=> dE ho h.hb),(fun e=> by cases e),(fun e=> by cases e),h2.n0,(fun e=> by cases e),h2.n2,h2.n3,h2.n4,h2.hb⟩
theorem kr.mk2(h:kr P0 P2 Bs T cT ptb ns vb n xs b0 true false false false false v0 v1 v2 v3 v4 W):kr P0 P2 Bs T cT ptb ns vb n xs b0 true true false false false v0 v1 (.agg #[.int .u64 (ptb:Int),v1]) v3 v4 W:=
 ⟨h.a,h.m,h.z,h.t,h.r0,h.r1,(fun _=> rfl),h.r3,h.n0,(fun e=> by cases e),(fun e=> by cases e),h.n3,h.n4,h.hb⟩
theorem kr.mk3(hP:∀ W w2,P0 W→Below W.heap.size W w2→P0 w2)(h:kr P0 P2 Bs T cT ptb ns vb n xs b0 b1 true false false false v0 v1 v2 v3 v4 W):kr P0 P2 Bs T cT ptb ns vb n xs b0 b1 true true false false v0 v1 v2 (.slice (some ⟨W.heap.size,0,none⟩) 1 1) v4 (W.alloc (.cells #[.int .u64 (ptb:Int),v1] 85)):=by
 have h:=h.step hP (bU (W:=W) (o:=.cells #[.int .u64 (ptb:Int),v1] 85))
 exact⟨h.a,h.m,h.z,h.t,h.r0,h.r1,h.r2,(fun _ _=> ⟨_,rfl,au W _⟩),h.n0,h.n1,(fun e=> by cases e),(fun e=> by cases e),h.n4,h.hb⟩
theorem kr.app {o:Oper} {a:Act} {K:Act→World→Prop} {Q:Exit→Act→World→Prop} (hown:∀ W,P0 W→W.ownsRow Bs 85 2 vb n xs)(hT:∀ k,vb.ownBlock=some k→k≠T)(hn:n≤100000)(hone:v1.oneCell'=true)(h:kr P0 P2 Bs T cT ptb ns vb n xs true b1 b2 true false false v0 v1 v2 v3 v4 W)
  (s p:Operand) (ho:o.op=.call { callee:=.builtin .append,args:=#[s,p],argTypes:=#[23,23] }) (hs:a.eval s=v0) (hp:a.eval p=v3)
  (hK:∀ v' W',kr P0 P2 Bs T cT ptb ns vb n xs true b1 b2 true true false v0 v1 v2 v3 v' W'→K (a.put o.dst v') W'):o.wp Tryz.prog a W K Q:=by
 obtain⟨i0,hi,hz0,hz1,hz2⟩:=info_parts yX
 obtain rfl:=h.r0 rfl
 obtain⟨g,rfl,hg⟩:=h.r3 rfl rfl
 have hv:=hown W (h.a rfl)
 refine fc (P:=Tryz.prog) W s p 23 ho Bs 85 i0 _ 2 32 Tryz.underlying23 hi hz0 hz1 hz2 rfl (by decide) v0 n xs hs hv (some ⟨g,0,none⟩) 1 1 [.int .u64 (ptb:Int),v1] hp rfl (fun _=> ⟨g,0,rfl,fun j u hu=> ah hg (by rw [Nat.zero_add];simpa using hu)⟩) (fun u hu=> ?_) (by unfold maxLen;omega) (by omega) h.hb fun v' W' q1 q2 q3=> hK v' W' ?_
 ·simp only [List.mem_cons,List.not_mem_nil,or_false] at hu
  rcases hu with rfl | rfl
  ·rfl
  ·exact hone
 ·exact⟨(fun e=> by cases e),(fun _ _=> ⟨W,h.a rfl,q2,q1⟩),(fun e=> by cases e),(q2.block T (ak h.t) (fun c=> hT T c.symm rfl)).trans h.t,(fun _=> rfl),(fun e1 e2=> eX (h.r1 e1 e2) q2 hv (by decide)),h.r2,(fun _ e=> by cases e),(fun e=> by cases e),h.n1,h.n2,(fun e=> by cases e),(fun e=> by cases e),Nat.le_trans h.hb q2.size⟩
end
theorem mM.put {w Wb W:World} {R pt:Nat} {bks:List Bk} {vb v4 v1:Value} {bk:Bk} {l:List (Bk×Value)} (h:mM w R pt bks vb Wb)(hl:l.map (·.1)=bks)(hvb:Wb.ownsRow w.heap.size 85 2 vb bks.length (dZ l))(hps:∀ x∈l,Wb.ownsRow w.heap.size 22 1 x.2 x.1.2.length (gi x.1.2))
  (hg:Wb.grownBy W vb.ownBlock) (ho:W.ownsRow w.heap.size 85 2 v4 (bks.length+1) (dZ l++[.int .u64 (bk.1:Int),v1])) (h1:W.ownsRow w.heap.size 22 1 v1 bk.2.length (gi bk.2)):
  W.cell? ⟨R,1,none⟩=some vb∧W.frozen? ⟨R,1,none⟩=false∧R < W.heap.size∧mM w R pt (bks++[bk]) v4 (W.setCell ⟨R,1,none⟩ v4):=by
 have hR:=cV h.reg hg hvb (by decide)
 refine⟨ah hR rfl,aR hR,ak hR,?_,h.hR,?_,⟨l++[(bk,v1)],?_,?_,fun x hx=> ?_⟩⟩
 ·exact(h.bel.grown hg (Nat.le_trans h.bel.size (bz _)) fun k hk=> (World.ownsRow.lt hvb k hk).1).setCell h.hR _
 ·exact bn hR
 ·rw [List.map_append,hl];rfl
 ·rw [cY,mf]
  exact dG ho hR (by decide)
 ·rcases List.mem_append.1 hx with hx | hx
  ·exact dG (eX (hps x hx) hg hvb (by decide)) hR (by decide)
  ·obtain rfl:=List.mem_singleton.1 hx
   exact dG h1 hR (by decide)
theorem mM.step {w W w2:World} {R pt:Nat} {bks:List Bk} {vb:Value} (h:mM w R pt bks vb W)(hb:Below W.heap.size W w2):mM w R pt bks vb w2:=⟨ai h.bel hb,h.hR,an h.reg hb,h.bk.step hb⟩
theorem jy.step9 {v:Value} {ns:List Nat} {W w2:World} (h:jy v ns W)(hb:Below W.heap.size W w2):jy v ns w2:=by
 obtain⟨a,c,h1,h2⟩:=h
 refine⟨a,c,h1,fun hn=> ?_⟩
 obtain⟨b,off,e1,e2,e3⟩:=h2 hn
 exact⟨b,off,e1,ar e2 hb.size,fun k n hk=> ag (e3 k n hk) hb⟩
theorem mM.view {w W:World} {R pt:Nat} {bks:List Bk} {vb:Value} (h:mM w R pt bks vb W):bW w.heap.size R vb (kJ pt bks) (Ac pt bks) oW W:=by
 refine⟨⟨h.reg,rfl,h.bk.bk,⟨rfl,ax ⟨rfl,rfl⟩⟩,(fun q hq=> by cases hq),(fun q hq=> by cases hq),(fun i j p q _ hp=> by cases hp),h.hR⟩,rfl,(fun q hq=> by cases hq)⟩
theorem xo {ab:Option Addr} {bks:List Bk} {w:World} (pt cb:Nat)(hB:dS ab bks w)(hl:bks.length≤1000000∧∀ bk∈bks,bk.2.length≤1000000)(h:secR pt bks≠0):Calls Tryz.prog 24 #[.int .u64 (pt:Int),.slice ab bks.length cb] w fun en w'=> en=.returned (.tuple #[.pointer none,.int .i64 (secR pt bks)])∧Below w.heap.size w w':=by
 have CS:=aa (kP pt cb hB hl)
 have hr:(secR pt bks==0)=false:=by simpa using h
 generalize secR pt bks=r at*
 clear hB hl h
 go_enter Tryz.func24,Tryz.ntmps24
 go_wp2_with (go_at_call 38;refine CS.out.mono ?_;rintro e w1 ⟨rfl,hb1⟩)
 exact bc (v:=.tuple #[.pointer none,.int .i64 r]) (by simp only [results,Tryz.results24];go_simp) rfl ⟨rfl,hb1⟩
theorem yY {ab:Option Addr} {bks:List Bk} {w:World} (pt cb:Nat)(hB:dS ab bks w)(hl:bks.length≤1000000∧∀ bk∈bks,bk.2.length≤1000000)(h:secR pt bks=0):Calls Tryz.prog 24 #[.int .u64 (pt:Int),.slice ab bks.length cb] w fun en w'=> ∃ R vb,en=.returned (.tuple #[.pointer (some ⟨R,0,none⟩),.int .i64 0])∧bW w.heap.size R vb (kJ pt bks) (Ac pt bks) oW w'∧Below w.heap.size w w':=by
 have CS:=aa (kP pt cb hB hl)
 rw [h] at CS
 have H:=aa hB
 have HL:=aa hl.2
 have hl1:=hl.1
 have HL9:=aa (show bks.length≤8 from(fW h).2.1.2)
 clear hB hl h
 go_enter Tryz.func24,Tryz.ntmps24
 go_upto_region 5 with(go_at_call 38;refine CS.out.mono ?_;rintro e w1 ⟨rfl,hb1⟩)
 have HI0:Hid (mM w w1.heap.size pt [] (.slice none 0 0) (w1.alloc (.cells #[.int .u64 (pt:Int),.slice none 0 0,.int .i64 0,.int .i64 0,.int .i64 0,.int .i64 0,.int .i64 0,.int .i64 0,.int .i64 0,.int .i64 0,.slice none 0 0] 121))):=⟨ai hb1 bU,hb1.size,au w1 _,tt.nil _ _⟩
 clear hb1
 generalize w1.alloc _=w2 at*
 generalize w1.heap.size=R at*
 go_wp2_with fail
 go_loopw [21] (fun ix wr=> ∃ i:Nat,i≤bks.length∧ix=.int .i64 i∧Hid (∃ vb,mM w R pt (bks.take i) vb wr)) (fun ix _=> bks.length - (intOf ix).toNat)
 case atStart=> exact⟨0,by omega,rfl,_,HI0.out⟩
 case round=>
  obtain⟨i,hi,rfl,HS⟩:=hrel
  by_cases hc:i < bks.length
  ·have c1:(i:Int) < bks.length:=by omega
   have c0:(0:Int)≤i:=by omega
   obtain⟨vb,hS⟩:=HS.out
   obtain⟨bk,hk⟩:∃ bk,bks[i]? =some bk:=⟨bks[i],bh hc⟩
   obtain⟨bb,ob,rfl,hbb,hbc⟩:=H.out (by rintro e;rw [e] at hc;simp at hc)
   obtain⟨s0,vpd,s1,hpv⟩:=hbc i bk hk
   have hpl:=HL.out bk (aJ hk)
   have CC:=aa (fun W (hW:Below w.heap.size w W)=> oi (jy.step9 hpv hW) hpl)
   obtain⟨ap,cpd,rfl,-⟩:=hpv
   have g0:=ag s0 hS.bel
   have g1:=ag s1 hS.bel
   have lb:=ar hbb hS.bel.size
   have HIL:=aa hi
   have HIN:=aa (show i≤100000 by have:=HL9.out;omega)
   have HTK:Hid (bks.take i++[bk]=bks.take (i+1)):=by unfold Hid;rw [List.take_add_one,hk];rfl
   have HSS:=aa hS
   clear hbc s0 s1 hk hc hpl hS HS hbb
   go_upto_region 8 with fail
   have HT:=aa (au wr (.cells #[.int .u64 (bk.1:Int),.slice ap bk.2.length cpd] 85))
   obtain⟨l,l1,l2,l3⟩:=HSS.out.bk.o
   have HLM:=aa l1
   have HVT:Hid (∀ k,vb.ownBlock=some k→k≠wr.heap.size):=fun k hk e=> by have:=(World.ownsRow.lt l2 k hk).2;omega
   have HTR:Hid (wr.heap.size≠R):=fun e=> by have:=ak HSS.out.reg;omega
   rw [List.length_take,Nat.min_eq_left HIL.out] at l2
   have HP0:Hid ((sJ w R pt bks i vb l) (wr.alloc (.cells #[.int .u64 (bk.1:Int),.slice ap bk.2.length cpd] 85))):=⟨HSS.out.step bU,aD l2 bU,fun x hx=> aD (l3 x hx) bU⟩
   have HPS:Hid (∀ W w2,(sJ w R pt bks i vb l) W→Below W.heap.size W w2→(sJ w R pt bks i vb l) w2):=fun W w2 hW hb=> ⟨hW.n.step hb,aD hW.o hb,fun x hx=> aD (hW.p x hx) hb⟩
   clear l1 l2 l3 g0 g1 lb HSS
   generalize wr.alloc (.cells #[.int .u64 (bk.1:Int),.slice ap bk.2.length cpd] 85)=W9 at*
   generalize wr.heap.size=T at*
   refine bo 16 16 42 [(4,29),(9,34),(10,35),(11,36),(12,37),(15,47)] [(none,[]),(none,[]),(none,[]),(none,[]),(some 0,[]),(none,[]),(none,[]),(none,[]),(none,[]),(some 1,[]),(some 2,[1]),(some 3,[2]),(some 4,[0,1,3]),(none,[]),(none,[]),(some 5,[1,4])] [(25,(.pointer (some ⟨R,0,none⟩))),(26,(.pointer (some ⟨R,0,none⟩))),(27,(.pointer (some ⟨R,0,none⟩))),(28,(.pointer (some ⟨R,1,none⟩))),(30,(.pointer (some ⟨T,0,none⟩))),(31,(.int .u64 (bk.1:Int))),(32,(.pointer (some ⟨T,1,none⟩))),(33,(.slice ap bk.2.length cpd)),(38,(.pointer (some ⟨R,0,none⟩))),(39,(.pointer (some ⟨R,1,none⟩)))] (fun bsE vsE W=> kr (sJ w R pt bks i vb l) (fun W=> ∃ vb,mM w R pt (bks.take (i+1)) vb W) w.heap.size T #[.int .u64 (bk.1:Int),.slice ap bk.2.length cpd] bk.1 bk.2 vb i (dZ l) (bsE.getD 0 false) (bsE.getD 1 false) (bsE.getD 2 false) (bsE.getD 3 false) (bsE.getD 4 false) (bsE.getD 5 false) ((vsE.getD 0 undef)) ((vsE.getD 1 undef)) ((vsE.getD 2 undef)) ((vsE.getD 3 undef)) ((vsE.getD 4 undef)) W) (by kernel_rfl) (by kernel_rfl) rfl rfl (by kernel_rfl) (by rfl) ?h0 ?each ?done
   case h0=>
    intro vsE hlv
    obtain⟨v0,v1,v2,v3,v4,v5,rfl⟩:=jl hlv
    exact⟨(fun _=> HPS.out _ _ HP0.out (Below.refl _ _).drew),(fun e=> by cases e),(fun e=> by cases e),an HT.out (Below.refl _ _).drew,(fun e=> by cases e),(fun e=> by cases e),(fun e=> by cases e),(fun e=> by cases e),(fun _=> rfl),(fun _=> rfl),(fun _=> rfl),(fun _=> rfl),(fun _=> rfl),(HPS.out _ _ HP0.out (Below.refl _ _).drew).n.bel.size⟩
   case each=>
    simp only [dp]
    refine⟨⟨25,(.pointer (some ⟨R,0,none⟩)),rfl,by kernel_rfl,?_⟩,⟨26,(.pointer (some ⟨R,0,none⟩)),rfl,by kernel_rfl,?_⟩,⟨27,(.pointer (some ⟨R,0,none⟩)),rfl,by kernel_rfl,?_⟩,⟨28,(.pointer (some ⟨R,1,none⟩)),rfl,by kernel_rfl,?_⟩,ax ⟨29,rfl,?q1_4⟩,⟨30,(.pointer (some ⟨T,0,none⟩)),rfl,by kernel_rfl,?_⟩,⟨31,(.int .u64 (bk.1:Int)),rfl,by kernel_rfl,?_⟩,⟨32,(.pointer (some ⟨T,1,none⟩)),rfl,by kernel_rfl,?_⟩,⟨33,(.slice ap bk.2.length cpd),rfl,by kernel_rfl,?_⟩,ax ⟨34,rfl,?q1_9⟩,ax ⟨35,rfl,?q1_10⟩,ax ⟨36,rfl,?q1_11⟩,ax ⟨37,rfl,?q1_12⟩,⟨38,(.pointer (some ⟨R,0,none⟩)),rfl,by kernel_rfl,?_⟩,⟨39,(.pointer (some ⟨R,1,none⟩)),rfl,by kernel_rfl,?_⟩,ay ⟨rfl,?q1_15⟩,trivial⟩
    case q1_4=>
     intro bsE vsE W hlb hlv hnd hbk h
     obtain⟨b0,b1,b2,b3,b4,b5,rfl⟩:=jl hlb
     obtain⟨v0,v1,v2,v3,v4,v5,rfl⟩:=jl hlv
     obtain rfl:b0=false:=hbk
     replace h:kr (sJ w R pt bks i vb l) (fun W=> ∃ vb,mM w R pt (bks.take (i+1)) vb W) w.heap.size T #[.int .u64 (bk.1:Int),.slice ap bk.2.length cpd] bk.1 bk.2 vb i (dZ l) false b1 b2 b3 b4 b5 (v0) (v1) (v2) (v3) (v4) W:=h
     clear hnd
     have HST:=aa h
     obtain rfl:=h.n0 rfl;obtain rfl:=h.n4 rfl;have c1:W.cell? ⟨R,1,none⟩=some vb:=ah (o:=1) (h.a rfl).n.reg rfl;have cR:=ak (h.a rfl).n.reg
     intro K Q hK
     simp only [az,updAll,Act.put,aU,aV,aW,aX] at hK ⊢
     go_wp2_with fail
     all_goals(have hm:=h.mk0)
     all_goals(first | exact hK _ _ hm | exact hm)
    case q1_9=>
     intro bsE vsE W hlb hlv hnd hbk h
     obtain⟨b0,b1,b2,b3,b4,b5,rfl⟩:=jl hlb
     obtain⟨v0,v1,v2,v3,v4,v5,rfl⟩:=jl hlv
     obtain rfl:b1=false:=hbk
     replace h:kr (sJ w R pt bks i vb l) (fun W=> ∃ vb,mM w R pt (bks.take (i+1)) vb W) w.heap.size T #[.int .u64 (bk.1:Int),.slice ap bk.2.length cpd] bk.1 bk.2 vb i (dZ l) b0 false b2 b3 b4 b5 (v0) (v1) (v2) (v3) (v4) W:=h
     clear hnd
     have HST:=aa h
     obtain rfl:=h.n1 rfl;obtain rfl:=h.n2 rfl;obtain rfl:=h.n3 rfl;obtain rfl:=h.n4 rfl
     intro K Q hK
     simp only [az,updAll,Act.put,aU,aV,aW,aX] at hK ⊢
     go_wp2_with (go_at_call 69;refine(CC.out _ (h.a rfl).n.bel).mono ?_;rintro en w9 ⟨v9,rfl,ho9,hb9⟩)
     all_goals(have hm:=h.mk1 HPS.out hb9 ho9)
     all_goals(first | exact hK _ _ hm | exact hm)
    case q1_10=>
     intro bsE vsE W hlb hlv hnd hbk h
     obtain⟨b0,b1,b2,b3,b4,b5,rfl⟩:=jl hlb
     obtain⟨v0,v1,v2,v3,v4,v5,rfl⟩:=jl hlv
     obtain rfl:b1=true:=hnd 1 (by simp)
     obtain rfl:b2=false:=hbk
     replace h:kr (sJ w R pt bks i vb l) (fun W=> ∃ vb,mM w R pt (bks.take (i+1)) vb W) w.heap.size T #[.int .u64 (bk.1:Int),.slice ap bk.2.length cpd] bk.1 bk.2 vb i (dZ l) b0 true false b3 b4 b5 (v0) (v1) (v2) (v3) (v4) W:=h
     clear hnd
     have HST:=aa h
     obtain rfl:=h.n2 rfl;obtain rfl:=h.n3 rfl;obtain rfl:=h.n4 rfl;obtain⟨a9,c9,e9⟩:=aP (h.r1 rfl rfl);subst e9;have hm:=h.mk2
     intro K Q hK
     simp only [az,updAll,Act.put,aU,aV,aW,aX] at hK ⊢
     go_wp2_with fail
     all_goals(first | exact hK _ _ hm | exact hm)
    case q1_11=>
     intro bsE vsE W hlb hlv hnd hbk h
     obtain⟨b0,b1,b2,b3,b4,b5,rfl⟩:=jl hlb
     obtain⟨v0,v1,v2,v3,v4,v5,rfl⟩:=jl hlv
     obtain rfl:b2=true:=hnd 2 (by simp)
     obtain rfl:b3=false:=hbk
     replace h:kr (sJ w R pt bks i vb l) (fun W=> ∃ vb,mM w R pt (bks.take (i+1)) vb W) w.heap.size T #[.int .u64 (bk.1:Int),.slice ap bk.2.length cpd] bk.1 bk.2 vb i (dZ l) b0 b1 true false b4 b5 (v0) (v1) (v2) (v3) (v4) W:=h
     clear hnd
     have HST:=aa h
     obtain rfl:=h.n3 rfl;obtain rfl:=h.n4 rfl;obtain rfl:=h.r2 rfl;have hm:=h.mk3 HPS.out
     intro K Q hK
     simp only [az,updAll,Act.put,aU,aV,aW,aX] at hK ⊢
     go_wp2_with fail
     all_goals(first | exact hK _ _ hm | exact hm)
    case q1_12=>
     intro bsE vsE W hlb hlv hnd hbk h
     obtain⟨b0,b1,b2,b3,b4,b5,rfl⟩:=jl hlb
     obtain⟨v0,v1,v2,v3,v4,v5,rfl⟩:=jl hlv
     obtain rfl:b0=true:=hnd 0 (by simp)
     obtain rfl:b1=true:=hnd 1 (by simp)
     obtain rfl:b3=true:=hnd 3 (by simp)
     obtain rfl:b4=false:=hbk
     replace h:kr (sJ w R pt bks i vb l) (fun W=> ∃ vb,mM w R pt (bks.take (i+1)) vb W) w.heap.size T #[.int .u64 (bk.1:Int),.slice ap bk.2.length cpd] bk.1 bk.2 vb i (dZ l) true true b2 true false b5 (v0) (v1) (v2) (v3) (v4) W:=h
     clear hnd
     have HST:=aa h
     obtain rfl:=h.n4 rfl
     intro K Q hK
     simp only [az,updAll,Act.put,aU,aV,aW,aX] at hK ⊢
     exact h.app (fun W hW=> hW.o) HVT.out HIN.out (by obtain⟨a9,c9,e9⟩:=aP (h.r1 rfl rfl);rw [e9];rfl) (.tmp 29) (.tmp 36) rfl rfl rfl hK
    case q1_15=>
     intro bsE vsE W hlb hlv hnd hbk h
     obtain⟨b0,b1,b2,b3,b4,b5,rfl⟩:=jl hlb
     obtain⟨v0,v1,v2,v3,v4,v5,rfl⟩:=jl hlv
     obtain rfl:b1=true:=hnd 1 (by simp)
     obtain rfl:b4=true:=hnd 4 (by simp)
     obtain rfl:b5=false:=hbk
     replace h:kr (sJ w R pt bks i vb l) (fun W=> ∃ vb,mM w R pt (bks.take (i+1)) vb W) w.heap.size T #[.int .u64 (bk.1:Int),.slice ap bk.2.length cpd] bk.1 bk.2 vb i (dZ l) b0 true b2 b3 true false (v0) (v1) (v2) (v3) (v4) W:=h
     clear hnd
     have HST:=aa h
     obtain⟨Wb,⟨p1,p2,p3⟩,p4,p5⟩:=h.m rfl rfl;obtain⟨a9,c9,e9⟩:=aP p5;subst e9;obtain⟨c,f,lB,r1⟩:=p1.put HLM.out (by rw [List.length_take,Nat.min_eq_left HIL.out];exact p2) p3 p4 (by rw [List.length_take,Nat.min_eq_left HIL.out];exact p5) (h.r1 rfl rfl);rw [HTK.out] at r1;have hN0:kr (sJ w R pt bks i vb l) (fun W=> ∃ vb,mM w R pt (bks.take (i+1)) vb W) w.heap.size T #[.int .u64 (bk.1:Int),.slice ap bk.2.length cpd] bk.1 bk.2 vb i (dZ l) b0 true b2 b3 true true (v0) (v1) (v2) (v3) ((.slice a9 (i+1) c9)) (W.setCell ⟨R,1,none⟩ (.slice a9 (i+1) c9)):=⟨(fun e=> by cases e),(fun _ e=> by cases e),(fun _=> ⟨_,r1⟩),bA h.t HTR.out,h.r0,(fun _ e=> by cases e),h.r2,(fun _ e=> by cases e),h.n0,h.n1,h.n2,h.n3,(fun e=> by cases e),by simpa using h.hb⟩;clear p1 p2 p3 p4 p5 r1
     intro K Q hK
     simp only [az,updAll,Act.put,aU,aV,aW,aX] at hK ⊢
     go_wp2_with fail
     all_goals(first | exact hK _ hN0 | exact hN0)
    all_goals
     intro bsE vsE W hlb hlv hnd h
     obtain⟨b0,b1,b2,b3,b4,b5,rfl⟩:=jl hlb
     obtain⟨v0,v1,v2,v3,v4,v5,rfl⟩:=jl hlv
     replace h:kr (sJ w R pt bks i vb l) (fun W=> ∃ vb,mM w R pt (bks.take (i+1)) vb W) w.heap.size T #[.int .u64 (bk.1:Int),.slice ap bk.2.length cpd] bk.1 bk.2 vb i (dZ l) b0 b1 b2 b3 b4 b5 (v0) (v1) (v2) (v3) (v4) W:=h
     clear hnd
     have HST:=aa h
     have t0:=ah (o:=0) h.t rfl;have t1:=ah (o:=1) h.t rfl;have tl:=ak h.t
     intro K Q hK
     simp only [az,updAll,Act.put,aU,aV,aW,aX] at hK ⊢
     go_wp2_with (fail)
     all_goals(first | exact hK _ h | exact h)
   case done=>
    intro vsE W hlv h
    obtain⟨v0,v1,v2,v3,v4,v5,rfl⟩:=jl hlv
    replace h:kr (sJ w R pt bks i vb l) (fun W=> ∃ vb,mM w R pt (bks.take (i+1)) vb W) w.heap.size T #[.int .u64 (bk.1:Int),.slice ap bk.2.length cpd] bk.1 bk.2 vb i (dZ l) true true true true true true (v0) (v1) (v2) (v3) (v4) W:=h
    have HST:=aa h
    have HZ:=aa (h.z rfl)
    clear h HST
    simp only [az,updAll,Act.put,aU,aV,aW,aX]
    go_wp2_with fail
    exact⟨⟨i+1,by omega,by push_cast;rfl,HZ⟩,by simp [intOf];omega⟩
  ·obtain rfl:i=bks.length:=by omega
   obtain⟨vb,hS⟩:=HS.out
   rw [List.take_length] at hS
   clear hc
   go_wp2_with fail
   exact bc (v:=.tuple #[.pointer (some ⟨R,0,none⟩),.int .i64 0]) (by simp only [results,Tryz.results24];go_simp) rfl ⟨R,vb,rfl,hS.view,hS.bel⟩
end
end Go.Proofs.YtmpilgkfbibhlaaGreatDoor
