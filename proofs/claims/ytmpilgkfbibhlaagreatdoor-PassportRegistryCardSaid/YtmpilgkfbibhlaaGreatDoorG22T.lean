/-
 G22T
-/
import Derived.Test.YtmpilgkfbibhlaaGreatDoorG21T
set_option linter.unusedSimpArgs false
set_option linter.unusedVariables false
set_option maxRecDepth 100000
set_option maxHeartbeats 20000000
namespace Go.Proofs.YtmpilgkfbibhlaaGreatDoor
section
open Sx Go.RowKit Mr
structure vR(w9:World)(P:World→Prop)(P2:Value→World→Prop)(base:Nat)(vr:Value)(l:List ByteArray)(t:ByteArray)(b0 b1 b2:Bool)(v0 v1 v2:Value)(W:World):Prop where
 kp:bP (fun k=> vr.ownBlock=some k) w9 W
 a:b1=false→P W
 row:b1=false→W.ownsRow base 9 1 vr l.length (l.map Value.string)
 r0:b0=true→b1=false→∃ g,v0=.slice (some ⟨g,0,none⟩) 1 1∧W.heap[g]? =some (.cells #[.string t] 9 (0,0))
 z:b1=true→P2 v1 W
 e2:b2=true→v2=v1
 n0:b0=false→b1=false
 n1:b1=false→b2=false
 hb:base≤W.heap.size
section
variable {w9:World} {P:World→Prop} {P2:Value→World→Prop} {base:Nat} {vr:Value} {l:List ByteArray} {t:ByteArray} {b0 b1 b2:Bool} {v0 v1 v2:Value} {W w2:World}
theorem vR.mk0(hP:∀ W w2,P W→Below W.heap.size W w2→P w2)(h:vR w9 P P2 base vr l t false false false v0 v1 v2 W):vR w9 P P2 base vr l t true false false (.slice (some ⟨W.heap.size,0,none⟩) 1 1) v1 v2 (W.alloc (.cells #[.string t] 9)):=
 ⟨h.kp.step bU,fun _=> hP _ _ (h.a rfl) bU,fun _=> aD (h.row rfl) bU,(fun _ _=> ⟨_,rfl,au W _⟩),(fun e=> by cases e),(fun e=> by cases e),(fun e=> by cases e),(fun _=> rfl),Nat.le_trans h.hb bU.size⟩
theorem vR.app {o:Oper} {a:Act} {K:Act→World→Prop} {Q:Exit→Act→World→Prop} (hP2:∀ W v' W',P W→W.ownsRow base 9 1 vr l.length (l.map Value.string)→W'.ownsRow base 9 1 v' (l.length+1) (l.map Value.string++[.string t])→W.grownBy W' vr.ownBlock→(v'.ownBlock=vr.ownBlock∨v'.ownBlock=some W.heap.size)→P2 v' W')(hl:l.length≤1000000)
  (h:vR w9 P P2 base vr l t true false false v0 v1 v2 W) (s p:Operand) (ho:o.op=.call { callee:=.builtin .append,args:=#[s,p],argTypes:=#[47,47] }) (hs:a.eval s=vr) (hp:a.eval p=v0)
  (hK:∀ v' W',vR w9 P P2 base vr l t true true false v0 v' v2 W'→K (a.put o.dst v') W'):o.wp Tryz.prog a W K Q:=by
 obtain⟨i0,hi,hz0,hz1,hz2⟩:=info_parts ia
 obtain⟨g,rfl,hg⟩:=h.r0 rfl rfl
 have hown:=h.row rfl
 refine fc (P:=Tryz.prog) W s p 47 ho base 9 i0 (.string ⟨#[]⟩) 1 16 Tryz.underlying47 hi hz0 hz1 hz2 rfl (by decide) vr l.length (l.map Value.string) hs hown (some ⟨g,0,none⟩) 1 1 [.string t] hp rfl (fun _=> ⟨g,0,rfl,fun j u hu=> ?_⟩) (lu t) (by unfold maxLen;omega) (by omega) h.hb fun v' W' q1 q2 q3=> hK v' W' ?_
 ·have hj:j=0:=by
   have:=(aB hu).1
   simpa using this
  subst hj
  simp at hu
  rw [← hu]
  exact ah hg rfl
 ·exact⟨h.kp.grown q2 (fun k hk _=> hk),(fun e=> by cases e),(fun e=> by cases e),(fun _ e=> by cases e),(fun _=> hP2 _ _ _ (h.a rfl) hown q1 q2 q3),(fun e=> by cases e),(fun e=> by cases e),(fun e=> by cases e),Nat.le_trans h.hb q2.size⟩
end
structure rL(w0:World)(X:Nat→Prop)(Q:Nat)(vb:Value)(a:RegA)(n:Nat)(L:List Nat)(t:Int)(r:ByteArray)(wS:World)(j:Nat)(vo:Value)(W:World):Prop where
 v:∃ X' vP',bC w0 X' Q vb (da t r n (L.take j) a) vP' W∧(∀ k,X' k→X k∨wS.heap.size≤k)∧(∀ k,X' k→k < W.heap.size)∧(∀ k,vo.ownBlock=some k→¬ X' k)
 kp:bP (fun k=> k=Q) wS W
 out:W.ownsRow wS.heap.size 9 1 vo ((L.take j).map (cq a)).length (((L.take j).map (cq a)).map Value.string)
 i:jj a (da t r n (L.take j) a) L n j
 hd:HdI (da t r n (L.take j) a)
section
variable {w0 wS W w2 W5:World} {X:Nat→Prop} {Q n j i:Nat} {vb vo v':Value} {a:RegA} {L:List Nat} {t:Int} {r:ByteArray}
theorem rL.step(h:rL w0 X Q vb a n L t r wS j vo W)(hb:Below W.heap.size W w2):rL w0 X Q vb a n L t r wS j vo w2:=by
 obtain⟨⟨X',vP',q1,q2,q3,q4⟩,h2,h3,h4,h5⟩:=h
 exact⟨⟨X',vP',q1.step hb,q2,fun k hk=> ar (q3 k hk) hb.size,q4⟩,h2.step hb,aD h3 hb,h4,h5⟩
structure vS(w0:World)(X:Nat→Prop)(Q:Nat)(vb:Value)(a:RegA)(n:Nat)(L:List Nat)(t:Int)(r:ByteArray)(wS:World)(j:Nat)(vo:Value)(W:World):Prop where
 v:∃ X' vP',bC w0 X' Q vb (da t r n (L.take (j+1)) a) vP' W∧(∀ k,X' k→X k∨wS.heap.size≤k)∧(∀ k,X' k→k < W.heap.size)∧(∀ k,vo.ownBlock=some k→¬ X' k)
 kp:bP (fun k=> k=Q) wS W
 out:W.ownsRow wS.heap.size 9 1 vo ((L.take j).map (cq a)).length (((L.take j).map (cq a)).map Value.string)
theorem vS.step(h:vS w0 X Q vb a n L t r wS j vo W)(hb:Below W.heap.size W w2):vS w0 X Q vb a n L t r wS j vo w2:=by
 obtain⟨⟨X',vP',q1,q2,q3,q4⟩,h2,h3⟩:=h
 exact⟨⟨X',vP',q1.step hb,q2,fun k hk=> ar (q3 k hk) hb.size,q4⟩,h2.step hb,aD h3 hb⟩
theorem rL.add(h:rL w0 X Q vb a n L t r wS j vo W)(hc:oh a L n t r)(hj:L[j]? =some i)(hr:r.size≤100):Calls Tryz.prog 121 #[.pointer (some ⟨Q,0,none⟩),.int .i64 (n:Int),.int .i64 (i:Int),kZ (jh t r)] W fun en w'=> en=.returned (.tuple #[])∧vS w0 X Q vb a n L t r wS j vo w'∧jj a (da t r n (L.take (j+1)) a) L n (j+1)∧HdI (da t r n (L.take (j+1)) a):=by
 obtain⟨X',vP',q1,q2,q3,q4⟩:=h.v
 obtain⟨⟨p,hp,-⟩,hb,hu,i2⟩:=h.i.next hc hj
 have hst:=fy (t:=t) (r:=r) (n:=n) (a:=a) hj
 refine(iW q1 h.i.ok h.hd hp hb hu (jh t r) hc.ok ⟨hr,by show(0:Nat)≤100;omega⟩).mono fun en w' q=> ?_
 obtain⟨rfl,vP2,z1,z2⟩:=q
 rw [← hst] at z1
 refine⟨rfl,⟨⟨_,vP2,z1.narrow,fun k hk=> ?_,fun k hk=> hk.2,fun k hk c=> ?_⟩,h.kp.trans z2,?_⟩,by rw [hst];exact i2,by rw [hst];exact h.hd.put' n i _⟩
 ·rcases hk.1 with c | c
  ·exact q2 k c
  ·exact ay (Nat.le_trans h.kp.size c)
 ·rcases c.1 with c1 | c1
  ·exact q4 k hk c1
  ·have:=(World.ownsRow.lt h.out k hk).2;omega
 ·exact(z2.keepQ q1.blk).own h.out (by decide)
theorem vS.put(h:vS w0 X Q vb a n L t r wS j vo W)(hS:w0.heap.size≤wS.heap.size)(hj:L[j]? =some i)(hi:jj a (da t r n (L.take (j+1)) a) L n (j+1))(hd:HdI (da t r n (L.take (j+1)) a))(hg:W.grownBy W5 vo.ownBlock)(ho:W5.ownsRow wS.heap.size 9 1 v' (((L.take j).map (cq a)).length+1) (((L.take j).map (cq a)).map Value.string++[.string (cq a i)]))
  (hat:v'.ownBlock=vo.ownBlock∨v'.ownBlock=some W.heap.size):rL w0 X Q vb a n L t r wS (j+1) v' W5:=by
 obtain⟨X',vP',q1,q2,q3,q4⟩:=h.v
 have hQ:∀ k,vo.ownBlock=some k→k≠Q:=fun k hk e=> by
  obtain⟨-,cs,e2⟩:=dA h.out hk
  rw [e,q1.blk] at e2
  simp at e2
 have hb0:Below w0.heap.size w0 W5:=q1.bel.grown hg q1.bel.size fun k hk=> by
  have:=(dA h.out hk).1
  have:=h.kp.size
  have h9:w0.heap.size≤wS.heap.size:=hS
  omega
 refine⟨⟨X',vP',q1.other hb0 hg.size (fun k hk hl=> hg.block k hl fun c=> ?_),q2,fun k hk=> ar (q3 k hk) hg.size,fun k hk c=> ?_⟩,?_,?_,hi,hd⟩
 ·rcases hk with hk | rfl
  ·exact q4 k c.symm hk
  ·exact hQ _ c.symm rfl
 ·rcases hat with e | e
  ·rw [e] at hk;exact q4 k hk c
  ·rw [e] at hk
   obtain rfl:=bD hk
   have:=q3 _ c;omega
 ·refine h.kp.grown hg fun k hk hl=> ?_
  have:=(dA h.out hk).1
  omega
 ·rw [List.take_add_one,hj,List.map_append,List.map_append,cY]
  exact ho
end
theorem kL {W w2:World} {b o:Nat} (h:W.heap[b]? =w2.heap[b]?):W.cell? ⟨b,o,none⟩=w2.cell? ⟨b,o,none⟩:=by unfold World.cell?;dsimp only;rw [h]
theorem xQ(t:Int)(r:ByteArray)(n:Nat):∀ (l:List Nat) (a:RegA),(da t r n l a).ps.map (·.1)=a.ps.map (·.1):=by
 intro l
 induction l with
 | nil=> exact fun a=> rfl
 | cons i l ih=> exact fun a=> (ih (putA a n i (jh t r))).trans zc
theorem xR {t:Int} {r:ByteArray} {n:Nat} {l:List Nat} {a:RegA} {i:Nat} {p:ByteArray×List bR} (hp:a.ps[i]? =some p):∃ q,(da t r n l a).ps[i]? =some q∧q.1=cq a i:=by
 have h:((da t r n l a).ps.map (·.1))[i]? =(a.ps.map (·.1))[i]?:=by rw [xQ t r n l a]
 rw [bX,bX,hp] at h
 cases hq:(da t r n l a).ps[i]? with
 | none=> rw [hq] at h;cases h
 | some q=>
  rw [hq] at h
  refine⟨q,rfl,?_⟩
  unfold cq
  rw [di,hp]
  exact bD h
theorem bC.packX {w0 W:World} {X:Nat→Prop} {Q:Nat} {vb:Value} {a:RegA} {pa:Option Addr} {pc k:Nat} {p:ByteArray×List bR} (h:bC w0 X Q vb a (.slice pa a.ps.length pc) W)(hk:a.ps[k]? =some p):∃ b,pa=some ⟨b,0,none⟩∧X b∧b < W.heap.size∧W.cell? ⟨b,k*2,none⟩=some (.string p.1):=by
 obtain⟨x,c,e,h2⟩:=h.pk
 cases e
 obtain⟨b,e2,e3,e4,e5⟩:=h2 (by rintro e;rw [e] at hk;cases hk)
 exact⟨b,e2,e3,e4,(e5 k p hk).1⟩
theorem ov {W:World} {B0 c:Nat} {ad:Option Addr} {L:List Nat} (h:W.ownsRow B0 3 1 (.slice ad L.length c) L.length (L.map fun i:Nat=> Value.int .i64 (i:Int)))(hn:L≠[]):∃ bL cL,ad=some ⟨bL,0,none⟩∧W.heap[bL]? =some (.cells cL 3 (0,0))∧∀ (j i:Nat),L[j]? =some i→cL[j]? =some (.int .i64 (i:Int)):=by
 obtain⟨-,h2⟩:=h
 rcases h2 with⟨e1,e2⟩ | ⟨g,cap,cur,q1,q2,q3,q4,q5,q6,q7⟩
 ·exact absurd (eF e2) hn
 ·refine⟨g,cur,by injection q1,q3,fun j i hj=> ?_⟩
  have hj2:(L.map fun i:Nat=> Value.int .i64 (i:Int))[j]? =some (.int .i64 (i:Int)):=by rw [bX,hj];rfl
  rw [← q7] at hj2
  rw [← Array.getElem?_toList]
  rw [List.getElem?_take] at hj2
  split at hj2
  ·exact hj2
  ·cases hj2
theorem nI {α:Type} {l:List α} {f:α→Bool} {j:Nat} {m:α} (hl:(l.take j).any f=false)(h:l[j]? =some m)(hm:f m=false):(l.take (j+1)).any f=false:=by rw [nH h,hl,hm];rfl
theorem nJ {α:Type} {l:List α} {f:α→Bool} {j:Nat} {m:α} (h:l[j]? =some m)(hm:f m=true):l.any f=true:=List.any_eq_true.2 ⟨m,aJ h,hm⟩
theorem dc.last {a:RegA} (ho:dc a){p:ByteArray×List bR} (hp:p∈a.ps):∃ (j:Nat) (y:bR),p.2.length=j+1∧p.2[j]? =some y∧y.1.2.1=(lf p).at_:=by
 obtain⟨-,p2,-,-⟩:=ho.p p hp
 have hne:=ho.ne p hp
 obtain⟨j,hj⟩:∃ j,p.2.length=j+1:=⟨p.2.length - 1,by have:p.2.length≠0:=fun e=> hne (eF e);omega⟩
 obtain⟨y,hy⟩:∃ y,p.2[j]? =some y:=⟨p.2[j]'(by omega),bh _⟩
 refine⟨j,y,hj,hy,?_⟩
 have hg:(br p.2).getLast? =some y.1:=by
  rw [List.getLast?_eq_getElem?,dd,hj]
  unfold br
  rw [bX,show j+1 - 1=j by omega,hy]
  rfl
 exact(gm (br p.2) p2 hg).1.symm
theorem sZ {w0 w:World} {X:Nat→Prop} {Q:Nat} {vb vP:Value} {a:RegA} (h:bC w0 X Q vb a vP w)(ho:dc a)(hd:HdI a)(b t:Int)(bt:ByteArray)(t0 t1:Int)(r:ByteArray)(hb:¬ (0≤b∧b < a.bks.length)):
  Calls Tryz.prog 75 #[.pointer (some ⟨Q,0,none⟩),.int .i64 b,.int .i64 t,.string bt,.int .i64 t0,.int .i64 t1,.string r] w fun en w'=> ∃ v',en=.returned (.tuple #[v',.int .i64 (aE a b t bt t0 t1 r).1])∧w'.ownsRow w.heap.size 9 1 v' (aE a b t bt t0 t1 r).2.1.length ((aE a b t bt t0 t1 r).2.1.map Value.string)∧eZ w0 X Q vb (aE a b t bt t0 t1 r).2.2 w w':=by
 rw [show aE a b t bt t0 t1 r=(3,[],a)from je hb]
 dsimp only
 have hnp:=ho.np
 have H:=aa h
 have HO:=aa ho
 have HD:=aa hd
 obtain⟨pa,pc,rfl⟩:=h.pslice
 obtain⟨ab,cb,rfl,-⟩:=h.bk
 have CN1:=aa (fun W=> bu bt W)
 have CN2:=aa (fun W=> bu r W)
 have CI0:=aa (fun W=> aY t 0 1099511627776 W)
 have CI1:=aa (fun W=> aY t0 0 1099511627776 W)
 have CI2:=aa (fun W=> aY t1 0 1099511627776 W)
 rw [dh] at CI0 CI1 CI2
 have HC:=aa (ba (ah (o:=1) (v:=.slice ab a.bks.length cb) h.blk rfl) (ba h.cell10 (ak h.blk)))
 have HB:=aa (Below.refl w.heap.size w)
 clear h ho hd hnp
 go_enter Tryz.func75,Tryz.ntmps75
 have c1:=ag HC.out.1 HB.out;have c10:=ag HC.out.2.1 HB.out;have cQ:=ar HC.out.2.2 HB.out.size
 clear CN1 CN2 CI0 CI1 CI2 HO HD
 by_cases hn:b < 0
 ·clear hb
  go_wp2_with fail
  exact dP (v:=.tuple #[.slice none 0 0,.int .i64 3]) rfl rfl rfl ⟨_,rfl,⟨rfl,ax ⟨rfl,rfl⟩⟩,H.out.stay HB.out⟩
 ·have hg:b≥(a.bks.length:Int):=by omega
  clear hb
  go_wp2_with fail
  exact dP (v:=.tuple #[.slice none 0 0,.int .i64 3]) rfl rfl rfl ⟨_,rfl,⟨rfl,ax ⟨rfl,rfl⟩⟩,H.out.stay HB.out⟩
theorem qJ {w0 w:World} {X:Nat→Prop} {Q:Nat} {vb vP:Value} {a:RegA} (h:bC w0 X Q vb a vP w)(ho:dc a)(hd:HdI a)(b t:Int)(bt:ByteArray)(t0 t1:Int)(r:ByteArray)(hb:0≤b∧b < a.bks.length)(h0:nameB bt=false):
  Calls Tryz.prog 75 #[.pointer (some ⟨Q,0,none⟩),.int .i64 b,.int .i64 t,.string bt,.int .i64 t0,.int .i64 t1,.string r] w fun en w'=> ∃ v',en=.returned (.tuple #[v',.int .i64 (aE a b t bt t0 t1 r).1])∧w'.ownsRow w.heap.size 9 1 v' (aE a b t bt t0 t1 r).2.1.length ((aE a b t bt t0 t1 r).2.1.map Value.string)∧eZ w0 X Q vb (aE a b t bt t0 t1 r).2.2 w w':=by
 rw [show aE a b t bt t0 t1 r=(2,[],a)from dB hb (by simp [h0])]
 dsimp only
 have hnp:=ho.np
 have H:=aa h
 have HO:=aa ho
 have HD:=aa hd
 obtain⟨pa,pc,rfl⟩:=h.pslice
 obtain⟨ab,cb,rfl,-⟩:=h.bk
 have CN1:=aa (fun W=> bu bt W)
 have CN2:=aa (fun W=> bu r W)
 have CI0:=aa (fun W=> aY t 0 1099511627776 W)
 have CI1:=aa (fun W=> aY t0 0 1099511627776 W)
 have CI2:=aa (fun W=> aY t1 0 1099511627776 W)
 rw [dh] at CI0 CI1 CI2
 have HC:=aa (ba (ah (o:=1) (v:=.slice ab a.bks.length cb) h.blk rfl) (ba h.cell10 (ak h.blk)))
 have HB:=aa (Below.refl w.heap.size w)
 have hb0:¬ b < 0:=by omega
 have hb1:¬ b≥(a.bks.length:Int):=by omega
 rw [h0] at CN1
 clear hb h0
 clear h ho hd hnp
 go_enter Tryz.func75,Tryz.ntmps75
 have c1:=ag HC.out.1 HB.out;have c10:=ag HC.out.2.1 HB.out;have cQ:=ar HC.out.2.2 HB.out.size
 go_wp2_with (first | (go_at_call 48;(first | (with_reducible refine(CN1.out _).mono ?_) | (with_reducible refine(CN2.out _).mono ?_));rintro e w1 ⟨rfl,hbn⟩;have HB9:=aa (ai HB.out hbn);clear HB hbn;clear c1 c10 cQ;have HB:=HB9;clear HB9;have c1:=ag HC.out.1 HB.out;have c10:=ag HC.out.2.1 HB.out;have cQ:=ar HC.out.2.2 HB.out.size) | (go_at_call 109;(first | (with_reducible refine(CI0.out _).mono ?_) | (with_reducible refine(CI1.out _).mono ?_) | (with_reducible refine(CI2.out _).mono ?_));rintro e w1 ⟨rfl,rfl⟩))
 exact dP (v:=.tuple #[.slice none 0 0,.int .i64 2]) rfl rfl rfl ⟨_,rfl,⟨rfl,ax ⟨rfl,rfl⟩⟩,H.out.stay HB.out⟩
theorem qK {w0 w:World} {X:Nat→Prop} {Q:Nat} {vb vP:Value} {a:RegA} (h:bC w0 X Q vb a vP w)(ho:dc a)(hd:HdI a)(b t:Int)(bt:ByteArray)(t0 t1:Int)(r:ByteArray)(hb:0≤b∧b < a.bks.length)(h0:nameB bt=true)(h1:nameB r=false):
  Calls Tryz.prog 75 #[.pointer (some ⟨Q,0,none⟩),.int .i64 b,.int .i64 t,.string bt,.int .i64 t0,.int .i64 t1,.string r] w fun en w'=> ∃ v',en=.returned (.tuple #[v',.int .i64 (aE a b t bt t0 t1 r).1])∧w'.ownsRow w.heap.size 9 1 v' (aE a b t bt t0 t1 r).2.1.length ((aE a b t bt t0 t1 r).2.1.map Value.string)∧eZ w0 X Q vb (aE a b t bt t0 t1 r).2.2 w w':=by
 rw [show aE a b t bt t0 t1 r=(2,[],a)from dB hb (by simp [h1])]
 dsimp only
 have hnp:=ho.np
 have H:=aa h
 have HO:=aa ho
 have HD:=aa hd
 obtain⟨pa,pc,rfl⟩:=h.pslice
 obtain⟨ab,cb,rfl,-⟩:=h.bk
 have CN1:=aa (fun W=> bu bt W)
 have CN2:=aa (fun W=> bu r W)
 have CI0:=aa (fun W=> aY t 0 1099511627776 W)
 have CI1:=aa (fun W=> aY t0 0 1099511627776 W)
 have CI2:=aa (fun W=> aY t1 0 1099511627776 W)
 rw [dh] at CI0 CI1 CI2
 have HC:=aa (ba (ah (o:=1) (v:=.slice ab a.bks.length cb) h.blk rfl) (ba h.cell10 (ak h.blk)))
 have HB:=aa (Below.refl w.heap.size w)
 have hb0:¬ b < 0:=by omega
 have hb1:¬ b≥(a.bks.length:Int):=by omega
 rw [h0] at CN1
 rw [h1] at CN2
 clear hb h0 h1
 clear h ho hd hnp
 go_enter Tryz.func75,Tryz.ntmps75
 have c1:=ag HC.out.1 HB.out;have c10:=ag HC.out.2.1 HB.out;have cQ:=ar HC.out.2.2 HB.out.size
 go_wp2_with (first | (go_at_call 48;(first | (with_reducible refine(CN1.out _).mono ?_) | (with_reducible refine(CN2.out _).mono ?_));rintro e w1 ⟨rfl,hbn⟩;have HB9:=aa (ai HB.out hbn);clear HB hbn;clear c1 c10 cQ;have HB:=HB9;clear HB9;have c1:=ag HC.out.1 HB.out;have c10:=ag HC.out.2.1 HB.out;have cQ:=ar HC.out.2.2 HB.out.size) | (go_at_call 109;(first | (with_reducible refine(CI0.out _).mono ?_) | (with_reducible refine(CI1.out _).mono ?_) | (with_reducible refine(CI2.out _).mono ?_));rintro e w1 ⟨rfl,rfl⟩))
 exact dP (v:=.tuple #[.slice none 0 0,.int .i64 2]) rfl rfl rfl ⟨_,rfl,⟨rfl,ax ⟨rfl,rfl⟩⟩,H.out.stay HB.out⟩
theorem qL {w0 w:World} {X:Nat→Prop} {Q:Nat} {vb vP:Value} {a:RegA} (h:bC w0 X Q vb a vP w)(ho:dc a)(hd:HdI a)(b t:Int)(bt:ByteArray)(t0 t1:Int)(r:ByteArray)(hb:0≤b∧b < a.bks.length)(h0:nameB bt=true)(h1:nameB r=true)(h2:bJ t=false):
  Calls Tryz.prog 75 #[.pointer (some ⟨Q,0,none⟩),.int .i64 b,.int .i64 t,.string bt,.int .i64 t0,.int .i64 t1,.string r] w fun en w'=> ∃ v',en=.returned (.tuple #[v',.int .i64 (aE a b t bt t0 t1 r).1])∧w'.ownsRow w.heap.size 9 1 v' (aE a b t bt t0 t1 r).2.1.length ((aE a b t bt t0 t1 r).2.1.map Value.string)∧eZ w0 X Q vb (aE a b t bt t0 t1 r).2.2 w w':=by
 rw [show aE a b t bt t0 t1 r=(2,[],a)from dB hb (by simp [h2])]
 dsimp only
 have hnp:=ho.np
 have H:=aa h
 have HO:=aa ho
 have HD:=aa hd
 obtain⟨pa,pc,rfl⟩:=h.pslice
 obtain⟨ab,cb,rfl,-⟩:=h.bk
 have CN1:=aa (fun W=> bu bt W)
 have CN2:=aa (fun W=> bu r W)
 have CI0:=aa (fun W=> aY t 0 1099511627776 W)
 have CI1:=aa (fun W=> aY t0 0 1099511627776 W)
 have CI2:=aa (fun W=> aY t1 0 1099511627776 W)
 rw [dh] at CI0 CI1 CI2
 have HC:=aa (ba (ah (o:=1) (v:=.slice ab a.bks.length cb) h.blk rfl) (ba h.cell10 (ak h.blk)))
 have HB:=aa (Below.refl w.heap.size w)
 have hb0:¬ b < 0:=by omega
 have hb1:¬ b≥(a.bks.length:Int):=by omega
 rw [h0] at CN1
 rw [h1] at CN2
 rw [h2] at CI0
 clear hb h0 h1 h2
 clear h ho hd hnp
 go_enter Tryz.func75,Tryz.ntmps75
 have c1:=ag HC.out.1 HB.out;have c10:=ag HC.out.2.1 HB.out;have cQ:=ar HC.out.2.2 HB.out.size
 go_wp2_with (first | (go_at_call 48;(first | (with_reducible refine(CN1.out _).mono ?_) | (with_reducible refine(CN2.out _).mono ?_));rintro e w1 ⟨rfl,hbn⟩;have HB9:=aa (ai HB.out hbn);clear HB hbn;clear c1 c10 cQ;have HB:=HB9;clear HB9;have c1:=ag HC.out.1 HB.out;have c10:=ag HC.out.2.1 HB.out;have cQ:=ar HC.out.2.2 HB.out.size) | (go_at_call 109;(first | (with_reducible refine(CI0.out _).mono ?_) | (with_reducible refine(CI1.out _).mono ?_) | (with_reducible refine(CI2.out _).mono ?_));rintro e w1 ⟨rfl,rfl⟩))
 exact dP (v:=.tuple #[.slice none 0 0,.int .i64 2]) rfl rfl rfl ⟨_,rfl,⟨rfl,ax ⟨rfl,rfl⟩⟩,H.out.stay HB.out⟩
theorem qM {w0 w:World} {X:Nat→Prop} {Q:Nat} {vb vP:Value} {a:RegA} (h:bC w0 X Q vb a vP w)(ho:dc a)(hd:HdI a)(b t:Int)(bt:ByteArray)(t0 t1:Int)(r:ByteArray)(hb:0≤b∧b < a.bks.length)(h0:nameB bt=true)(h1:nameB r=true)(h2:bJ t=true)(h3:bJ t0=false):
  Calls Tryz.prog 75 #[.pointer (some ⟨Q,0,none⟩),.int .i64 b,.int .i64 t,.string bt,.int .i64 t0,.int .i64 t1,.string r] w fun en w'=> ∃ v',en=.returned (.tuple #[v',.int .i64 (aE a b t bt t0 t1 r).1])∧w'.ownsRow w.heap.size 9 1 v' (aE a b t bt t0 t1 r).2.1.length ((aE a b t bt t0 t1 r).2.1.map Value.string)∧eZ w0 X Q vb (aE a b t bt t0 t1 r).2.2 w w':=by
 rw [show aE a b t bt t0 t1 r=(2,[],a)from dB hb (by simp [h3])]
 dsimp only
 have hnp:=ho.np
 have H:=aa h
 have HO:=aa ho
 have HD:=aa hd
 obtain⟨pa,pc,rfl⟩:=h.pslice
 obtain⟨ab,cb,rfl,-⟩:=h.bk
 have CN1:=aa (fun W=> bu bt W)
 have CN2:=aa (fun W=> bu r W)
 have CI0:=aa (fun W=> aY t 0 1099511627776 W)
 have CI1:=aa (fun W=> aY t0 0 1099511627776 W)
 have CI2:=aa (fun W=> aY t1 0 1099511627776 W)
 rw [dh] at CI0 CI1 CI2
 have HC:=aa (ba (ah (o:=1) (v:=.slice ab a.bks.length cb) h.blk rfl) (ba h.cell10 (ak h.blk)))
 have HB:=aa (Below.refl w.heap.size w)
 have hb0:¬ b < 0:=by omega
 have hb1:¬ b≥(a.bks.length:Int):=by omega
 rw [h0] at CN1
 rw [h1] at CN2
 rw [h2] at CI0
 rw [h3] at CI1
 clear hb h0 h1 h2 h3
 clear h ho hd hnp
 go_enter Tryz.func75,Tryz.ntmps75
 have c1:=ag HC.out.1 HB.out;have c10:=ag HC.out.2.1 HB.out;have cQ:=ar HC.out.2.2 HB.out.size
 go_wp2_with (first | (go_at_call 48;(first | (with_reducible refine(CN1.out _).mono ?_) | (with_reducible refine(CN2.out _).mono ?_));rintro e w1 ⟨rfl,hbn⟩;have HB9:=aa (ai HB.out hbn);clear HB hbn;clear c1 c10 cQ;have HB:=HB9;clear HB9;have c1:=ag HC.out.1 HB.out;have c10:=ag HC.out.2.1 HB.out;have cQ:=ar HC.out.2.2 HB.out.size) | (go_at_call 109;(first | (with_reducible refine(CI0.out _).mono ?_) | (with_reducible refine(CI1.out _).mono ?_) | (with_reducible refine(CI2.out _).mono ?_));rintro e w1 ⟨rfl,rfl⟩))
 exact dP (v:=.tuple #[.slice none 0 0,.int .i64 2]) rfl rfl rfl ⟨_,rfl,⟨rfl,ax ⟨rfl,rfl⟩⟩,H.out.stay HB.out⟩
theorem qN {w0 w:World} {X:Nat→Prop} {Q:Nat} {vb vP:Value} {a:RegA} (h:bC w0 X Q vb a vP w)(ho:dc a)(hd:HdI a)(b t:Int)(bt:ByteArray)(t0 t1:Int)(r:ByteArray)(hb:0≤b∧b < a.bks.length)(h0:nameB bt=true)(h1:nameB r=true)(h2:bJ t=true)(h3:bJ t0=true)(h4:bJ t1=false):
  Calls Tryz.prog 75 #[.pointer (some ⟨Q,0,none⟩),.int .i64 b,.int .i64 t,.string bt,.int .i64 t0,.int .i64 t1,.string r] w fun en w'=> ∃ v',en=.returned (.tuple #[v',.int .i64 (aE a b t bt t0 t1 r).1])∧w'.ownsRow w.heap.size 9 1 v' (aE a b t bt t0 t1 r).2.1.length ((aE a b t bt t0 t1 r).2.1.map Value.string)∧eZ w0 X Q vb (aE a b t bt t0 t1 r).2.2 w w':=by
 rw [show aE a b t bt t0 t1 r=(2,[],a)from dB hb (by simp [h4])]
 dsimp only
 have hnp:=ho.np
 have H:=aa h
 have HO:=aa ho
 have HD:=aa hd
 obtain⟨pa,pc,rfl⟩:=h.pslice
 obtain⟨ab,cb,rfl,-⟩:=h.bk
 have CN1:=aa (fun W=> bu bt W)
 have CN2:=aa (fun W=> bu r W)
 have CI0:=aa (fun W=> aY t 0 1099511627776 W)
 have CI1:=aa (fun W=> aY t0 0 1099511627776 W)
 have CI2:=aa (fun W=> aY t1 0 1099511627776 W)
 rw [dh] at CI0 CI1 CI2
 have HC:=aa (ba (ah (o:=1) (v:=.slice ab a.bks.length cb) h.blk rfl) (ba h.cell10 (ak h.blk)))
 have HB:=aa (Below.refl w.heap.size w)
 have hb0:¬ b < 0:=by omega
 have hb1:¬ b≥(a.bks.length:Int):=by omega
 rw [h0] at CN1
 rw [h1] at CN2
 rw [h2] at CI0
 rw [h3] at CI1
 rw [h4] at CI2
 clear hb h0 h1 h2 h3 h4
 clear h ho hd hnp
 go_enter Tryz.func75,Tryz.ntmps75
 have c1:=ag HC.out.1 HB.out;have c10:=ag HC.out.2.1 HB.out;have cQ:=ar HC.out.2.2 HB.out.size
 go_wp2_with (first | (go_at_call 48;(first | (with_reducible refine(CN1.out _).mono ?_) | (with_reducible refine(CN2.out _).mono ?_));rintro e w1 ⟨rfl,hbn⟩;have HB9:=aa (ai HB.out hbn);clear HB hbn;clear c1 c10 cQ;have HB:=HB9;clear HB9;have c1:=ag HC.out.1 HB.out;have c10:=ag HC.out.2.1 HB.out;have cQ:=ar HC.out.2.2 HB.out.size) | (go_at_call 109;(first | (with_reducible refine(CI0.out _).mono ?_) | (with_reducible refine(CI1.out _).mono ?_) | (with_reducible refine(CI2.out _).mono ?_));rintro e w1 ⟨rfl,rfl⟩))
 exact dP (v:=.tuple #[.slice none 0 0,.int .i64 2]) rfl rfl rfl ⟨_,rfl,⟨rfl,ax ⟨rfl,rfl⟩⟩,H.out.stay HB.out⟩
theorem s6 {w0 w:World} {X:Nat→Prop} {Q:Nat} {vb vP:Value} {a:RegA} (h:bC w0 X Q vb a vP w)(ho:dc a)(hd:HdI a)(n:Nat)(t:Int)(bt:ByteArray)(t0 t1:Int)(r:ByteArray)(hb:0≤(n:Int)∧(n:Int) < a.bks.length)(hv:nameB bt=true∧nameB r=true∧bJ t=true∧bJ t0=true∧bJ t1=true):
  Calls Tryz.prog 75 #[.pointer (some ⟨Q,0,none⟩),.int .i64 (n:Int),.int .i64 t,.string bt,.int .i64 t0,.int .i64 t1,.string r] w fun en w'=> ∃ v',en=.returned (.tuple #[v',.int .i64 (aE a (n:Int) t bt t0 t1 r).1])∧w'.ownsRow w.heap.size 9 1 v' (aE a (n:Int) t bt t0 t1 r).2.1.length ((aE a (n:Int) t bt t0 t1 r).2.1.map Value.string)∧eZ w0 X Q vb (aE a (n:Int) t bt t0 t1 r).2.2 w w':=by
 have hnp:=ho.np
 have H:=aa h
 have HO:=aa ho
 have HD:=aa hd
 obtain⟨pa,pc,rfl⟩:=h.pslice
 obtain⟨ab,cb,rfl,-⟩:=h.bk
 have CN1:=aa (fun W=> bu bt W)
 have CN2:=aa (fun W=> bu r W)
 have CI0:=aa (fun W=> aY t 0 1099511627776 W)
 have CI1:=aa (fun W=> aY t0 0 1099511627776 W)
 have CI2:=aa (fun W=> aY t1 0 1099511627776 W)
 rw [dh] at CI0 CI1 CI2
 have HC:=aa (ba (ah (o:=1) (v:=.slice ab a.bks.length cb) h.blk rfl) (ba h.cell10 (ak h.blk)))
 have HB:=aa (Below.refl w.heap.size w)
 have hb0:¬ (n:Int) < 0:=by omega
 have hb1:¬ (n:Int)≥(a.bks.length:Int):=by omega
 rw [hv.1] at CN1
 rw [hv.2.1] at CN2
 rw [hv.2.2.1] at CI0
 rw [hv.2.2.2.1] at CI1
 rw [hv.2.2.2.2] at CI2
 have CA:=aa (fun W (hW:Below w.heap.size w W)=> mN (h.step hW) ho bt r t0 t1)
 have CL:=aa (fun W (hW:Below w.heap.size w W)=> dC (h.step hW) ho.toji (n:Int))
 have hM:=eS (a:=a) (t:=t) (r:=r) hb hv
 rw [Int.toNat_natCast] at hM
 have hln:(affA a bt t0 t1 r).length≤100:=j9 ho
 have hlm:∀ i∈(affA a bt t0 t1 r),∃ p,a.ps[i]? =some p∧cy a i=p:=fun i hi=> by obtain⟨p,p1,-,p3⟩:=iT hi;exact⟨p,p1,p3⟩
 have hrc:(affA a bt t0 t1 r).any (fun i=> decide (t < (lf (cy a i)).at_))=false→(affA a bt t0 t1 r).any (fun i=> decide (500≤(cy a i).2.length))=false→¬ leftA a (n:Int) < (affA a bt t0 t1 r).length→oh a (affA a bt t0 t1 r) n t r:=fun h1 h2 h3=> ol ho (by omega) hv h1 h2 h3
 have HRZ:=aa (show r.size≤100 by have:=(bI hv.2.1).2;omega)
 have HM:=aa hM
 have HLM:=aa hlm
 have HRC:=aa hrc
 have HLN:=aa hln
 generalize(affA a bt t0 t1 r)=L at*
 clear hb hv hM hlm hrc
 generalize hLL:leftA a (n:Int)=L3 at*
 clear hLL
 clear h ho hd hnp
 go_enter Tryz.func75,Tryz.ntmps75
 have c1:=ag HC.out.1 HB.out;have c10:=ag HC.out.2.1 HB.out;have cQ:=ar HC.out.2.2 HB.out.size
 go_upto_region 6 with(first | ((first | (go_at_call 48;(first | (with_reducible refine(CN1.out _).mono ?_) | (with_reducible refine(CN2.out _).mono ?_));rintro e w1 ⟨rfl,hbn⟩) | (go_at_call 122;refine(CA.out _ HB.out).mono ?_;rintro e w1 ⟨v9,rfl,hr9,hbn⟩;obtain⟨aL,cL,eL⟩:=aP hr9;subst eL;have HR:=aa hr9;clear hr9));have HB9:=aa (ai HB.out hbn);clear HB hbn;clear c1 c10 cQ;have HB:=HB9;clear HB9;have c1:=ag HC.out.1 HB.out;have c10:=ag HC.out.2.1 HB.out;have cQ:=ar HC.out.2.2 HB.out.size) | (go_at_call 109;(first | (with_reducible refine(CI0.out _).mono ?_) | (with_reducible refine(CI1.out _).mono ?_) | (with_reducible refine(CI2.out _).mono ?_));rintro e w1 ⟨rfl,rfl⟩))
 clear c1 c10 cQ CN1 CN2 CI0 CI1 CI2 CA
 go_wp2_with fail
 go_loopw [17] (fun ix wr=> ∃ i:Nat,i≤L.length∧ix=.int .i64 i∧Hid ((L.take i).any (fun i=> decide (t < (lf (cy a i)).at_))=false)∧Hid (Below w1.heap.size w1 wr)) (fun ix _=> L.length - (intOf ix).toNat)
 case atStart=> exact⟨0,Nat.zero_le _,rfl,rfl,Below.refl _ _⟩
 case round=>
  obtain⟨i,hi,rfl,HQ,HW⟩:=hrel
  by_cases hc:i < L.length
  ·have k1:(i:Int) < L.length:=by omega
   have k0:(0:Int)≤i:=by omega
   obtain⟨n9,hn9⟩:∃ n9,L[i]? =some n9:=⟨L[i],bh hc⟩
   obtain⟨p,hp,hpk⟩:=HLM.out n9 (aJ hn9)
   have hpl:=(aB hp).1
   have m1:(n9:Int) < a.ps.length:=by omega
   have m0:(0:Int)≤n9:=by omega
   obtain⟨bL,cL2,ead,hbl,hcl⟩:=ov HR.out (by rintro e;rw [e] at hc;simp at hc)
   obtain rfl:=ead
   have HW2:=aa (ai HB.out HW.out)
   obtain⟨b9,e9,lb9,-,ae,ce,q2,q3⟩:=(H.out.step HW2.out).pack hp
   obtain rfl:=e9
   have d1:∀ s:aC wr,s.1.cell? ⟨Q,10,none⟩=some (.slice (some ⟨b9,0,none⟩) a.ps.length pc):=fun s=> ag (ag HC.out.2.1 HW2.out) s.2
   have d2:∀ s:aC wr,Q < s.1.heap.size:=fun s=> ar HC.out.2.2 (ai HW2.out s.2).size
   have d3:∀ s:aC wr,s.1.cell? ⟨bL,i,none⟩=some (.int .i64 (n9:Int)):=fun s=> ag (ah hbl (hcl i n9 hn9)) (ai HW.out s.2)
   have d4:∀ s:aC wr,bL < s.1.heap.size:=fun s=> ar (ak hbl) (ai HW.out s.2).size
   have d5:∀ s:aC wr,s.1.cell? ⟨b9,n9*2+1,none⟩=some (.slice ae p.2.length ce):=fun s=> ag q2 s.2
   have d6:∀ s:aC wr,b9 < s.1.heap.size:=fun s=> ar lb9 s.2.size
   have HN9:=aa hn9
   have HPK:=aa hpk
   obtain⟨j,y,hjl,hy,hat⟩:=HO.out.last (aJ hp)
   obtain⟨be,eae,-,lbe,hce⟩:=q3 (by rintro e;rw [e] at hy;cases hy)
   obtain rfl:=eae
   have hat9:wr.cell? ⟨be,j*10+1,none⟩=some (.int .i64 (lf p).at_):=hce (j*10+1) _ (lK hy (by rw [← hat];obtain⟨⟨q1,q2,q3,q4,q5,q6⟩,q7,q8,q9,q10⟩:=y;rfl))
   have HAT:=aa (ba hat9 lbe)
   have HPL:=aa (HO.out.p p (aJ hp)).1
   have hj1:(p.2.length:Int) - 1=(j:Int):=by omega
   have hj2:(j:Int) < p.2.length:=by omega
   have hj0:(0:Int)≤j:=by omega
   have hjw:IntKind.i64.wrap (j:Int)=(j:Int):=cC _ ⟨by omega,by have:=HPL.out;omega⟩
   clear hn9 hp hpk hpl hbl hcl lb9 q2 q3 hjl hy hat hat9 lbe hce hc
   go_upto_region 9 with fail
   refine aF (by kernel_rfl) (by kernel_rfl) ?_
   repeat(first | (refine WQ.skip rfl rfl rfl rfl ?_;simp only [Act.put,aU,aV,aW,aX]) | ((first | (apply WQ.val;(exact rfl)) | (apply WQ.valg;(exact rfl);(exact rfl);(exact rfl)));(intro w9 hw9;obtain⟨s9,rfl⟩:=hw9;simp [go_sem,d1,d2,d3,d4,d5,d6,k0,k1,m0,m1];first | done | exact rfl);simp only [Act.put,aU,aV,aW,aX]))
   refine WQ.fin fun W4 hbn=> ?_
   have HBN:=aa hbn
   have x1:=ag HAT.out.1 hbn
   have xl:=ar HAT.out.2 hbn.size
   clear d1 d2 d3 d4 d5 d6 m0 m1 hbn
   by_cases htt:t < (lf p).at_
   ·have HT:Hid (L.any (fun i=> decide (t < (lf (cy a i)).at_))=true):=nJ HN9.out (by rw [HPK.out];exact bF htt)
    have hm:=HM.out
    rw [aG HT.out] at hm
    have HMM:=aa hm
    clear hm
    go_wp2_with fail
    exact dP (v:=.tuple #[.slice none 0 0,.int .i64 10]) rfl rfl rfl ⟨.slice none 0 0,by rw [HMM.out],by rw [HMM.out];exact⟨rfl,ax ⟨rfl,rfl⟩⟩,by rw [HMM.out];exact H.out.stay (ai HB.out (ai HW.out HBN.out))⟩
   ·have HF:Hid ((L.take (i+1)).any (fun i=> decide (t < (lf (cy a i)).at_))=false):=nI HQ.out HN9.out (by rw [HPK.out];exact bv htt)
    go_wp2_with fail
    exact⟨⟨i+1,by omega,by push_cast;rfl,HF,ai HW.out HBN.out⟩,by simp [intOf];omega⟩
  ·obtain rfl:i=L.length:=by omega
   have HA1:Hid (L.any (fun i=> decide (t < (lf (cy a i)).at_))=false):=by have q:=HQ.out;rw [List.take_length] at q;exact q
   have HW9:=HW
   clear hc HQ HW
   go_wp2_with fail
   go_loopw [19] (fun ix wr=> ∃ i:Nat,i≤L.length∧ix=.int .i64 i∧Hid ((L.take i).any (fun i=> decide (500≤(cy a i).2.length))=false)∧Hid (Below w1.heap.size w1 wr)) (fun ix _=> L.length - (intOf ix).toNat)
   case atStart=> exact⟨0,Nat.zero_le _,rfl,rfl,HW9⟩
   case round=>
    obtain⟨i,hi,rfl,HQ,HW⟩:=hrel
    by_cases hc:i < L.length
    ·have k1:(i:Int) < L.length:=by omega
     have k0:(0:Int)≤i:=by omega
     obtain⟨n9,hn9⟩:∃ n9,L[i]? =some n9:=⟨L[i],bh hc⟩
     obtain⟨p,hp,hpk⟩:=HLM.out n9 (aJ hn9)
     have hpl:=(aB hp).1
     have m1:(n9:Int) < a.ps.length:=by omega
     have m0:(0:Int)≤n9:=by omega
     obtain⟨bL,cL2,ead,hbl,hcl⟩:=ov HR.out (by rintro e;rw [e] at hc;simp at hc)
     obtain rfl:=ead
     have HW2:=aa (ai HB.out HW.out)
     obtain⟨b9,e9,lb9,-,ae,ce,q2,q3⟩:=(H.out.step HW2.out).pack hp
     obtain rfl:=e9
     have d1:∀ s:aC wr,s.1.cell? ⟨Q,10,none⟩=some (.slice (some ⟨b9,0,none⟩) a.ps.length pc):=fun s=> ag (ag HC.out.2.1 HW2.out) s.2
     have d2:∀ s:aC wr,Q < s.1.heap.size:=fun s=> ar HC.out.2.2 (ai HW2.out s.2).size
     have d3:∀ s:aC wr,s.1.cell? ⟨bL,i,none⟩=some (.int .i64 (n9:Int)):=fun s=> ag (ah hbl (hcl i n9 hn9)) (ai HW.out s.2)
     have d4:∀ s:aC wr,bL < s.1.heap.size:=fun s=> ar (ak hbl) (ai HW.out s.2).size
     have d5:∀ s:aC wr,s.1.cell? ⟨b9,n9*2+1,none⟩=some (.slice ae p.2.length ce):=fun s=> ag q2 s.2
     have d6:∀ s:aC wr,b9 < s.1.heap.size:=fun s=> ar lb9 s.2.size
     have HN9:=aa hn9
     have HPK:=aa hpk
     have HPL:=aa (HO.out.p p (aJ hp)).1
     clear hn9 hp hpk hpl hbl hcl lb9 q2 q3 hc
     by_cases h5:500≤p.2.length
     ·have g5:(p.2.length:Int)≥500:=by omega
      have HT:Hid (L.any (fun i=> decide (500≤(cy a i).2.length))=true):=nJ HN9.out (by rw [HPK.out];exact bF h5)
      clear h5
      have hm:=HM.out
      rw [aA (by rw [HA1.out];exact Bool.false_ne_true),aG HT.out] at hm
      have HMM:=aa hm
      clear hm
      go_upto_region 15 with fail
      refine aF (by kernel_rfl) (by kernel_rfl) ?_
      repeat(first | (refine WQ.skip rfl rfl rfl rfl ?_;simp only [Act.put,aU,aV,aW,aX]) | ((first | (apply WQ.val;(exact rfl)) | (apply WQ.valg;(exact rfl);(exact rfl);(exact rfl)));(intro w9 hw9;obtain⟨s9,rfl⟩:=hw9;simp [go_sem,d1,d2,d3,d4,d5,d6,k0,k1,m0,m1,g5];first | done | exact rfl);simp only [Act.put,aU,aV,aW,aX]))
      refine WQ.fin fun W4 hbn=> ?_
      have HBN:=aa hbn
      clear d1 d2 d3 d4 d5 d6 m0 m1 hbn
      go_wp2_with fail
      exact dP (v:=.tuple #[.slice none 0 0,.int .i64 11]) rfl rfl rfl ⟨.slice none 0 0,by rw [HMM.out],by rw [HMM.out];exact⟨rfl,ax ⟨rfl,rfl⟩⟩,by rw [HMM.out];exact H.out.stay (ai HB.out (ai HW.out HBN.out))⟩
     ·have g5:¬ (p.2.length:Int)≥500:=by omega
      have HF:Hid ((L.take (i+1)).any (fun i=> decide (500≤(cy a i).2.length))=false):=nI HQ.out HN9.out (by rw [HPK.out];exact bv h5)
      clear h5
      go_upto_region 15 with fail
      refine aF (by kernel_rfl) (by kernel_rfl) ?_
      repeat(first | (refine WQ.skip rfl rfl rfl rfl ?_;simp only [Act.put,aU,aV,aW,aX]) | ((first | (apply WQ.val;(exact rfl)) | (apply WQ.valg;(exact rfl);(exact rfl);(exact rfl)));(intro w9 hw9;obtain⟨s9,rfl⟩:=hw9;simp [go_sem,d1,d2,d3,d4,d5,d6,k0,k1,m0,m1,g5];first | done | exact rfl);simp only [Act.put,aU,aV,aW,aX]))
      refine WQ.fin fun W4 hbn=> ?_
      have HBN:=aa hbn
      clear d1 d2 d3 d4 d5 d6 m0 m1 hbn
      go_wp2_with fail
      exact⟨⟨i+1,by omega,by push_cast;rfl,HF,ai HW.out HBN.out⟩,by simp [intOf];omega⟩
    ·obtain rfl:i=L.length:=by omega
     have HA2:Hid (L.any (fun i=> decide (500≤(cy a i).2.length))=false):=by have q:=HQ.out;rw [List.take_length] at q;exact q
     have HW8:=HW
     clear hc HQ HW HW9
     by_cases hlf:L3 < (L.length:Int)
     ·have HLF:Hid (L3 < (L.length:Int)):=hlf
      have hm:=HM.out
      rw [aA (by rw [HA1.out];exact Bool.false_ne_true),aA (by rw [HA2.out];exact Bool.false_ne_true),aG HLF.out] at hm
      have HMM:=aa hm
      clear hm
      go_wp2_with (go_at_call 80;refine(CL.out _ (ai HB.out HW8.out)).mono ?_;rintro e w9 ⟨rfl,hbn⟩;have HBN:=aa hbn;clear hbn)
      exact dP (v:=.tuple #[.slice none 0 0,.int .i64 4]) rfl rfl rfl ⟨.slice none 0 0,by rw [HMM.out],by rw [HMM.out];exact⟨rfl,ax ⟨rfl,rfl⟩⟩,by rw [HMM.out];exact H.out.stay (ai HB.out (ai HW8.out HBN.out))⟩
     ·have HLF:Hid (¬ L3 < (L.length:Int)):=hlf
      have hm:=HM.out
      rw [aA (by rw [HA1.out];exact Bool.false_ne_true),aA (by rw [HA2.out];exact Bool.false_ne_true),aA HLF.out] at hm
      have HMM:=aa hm
      clear hm
      have hge:(L.length:Int)≤L3:=by omega
      have HCC:=aa (HRC.out HA1.out HA2.out (by have:=HLF.out;omega))
      go_upto_region 20 with(go_at_call 80;refine(CL.out _ (ai HB.out HW8.out)).mono ?_;rintro e w9 ⟨rfl,hbn⟩;have HBN:=aa hbn;clear hbn)
      have HBS:=aa (ai (ai HB.out HW8.out) HBN.out)
      have HS0:=aa (Nat.le_trans H.out.bel.size HBS.out.size)
      have hst:rL w0 X Q (.slice ab a.bks.length cb) a n L t r w9 0 (.slice none 0 0) w9:=⟨⟨_,_,(H.out.step HBS.out).narrow,fun k hk=> ax hk.1,fun k hk=> hk.2,fun k hk=> by cases hk⟩,bP.of_below (Below.refl _ _),⟨rfl,ax ⟨rfl,rfl⟩⟩,jj.start HO.out.toji L n,HD.out⟩
      have HST0:=aa hst
      have HRW9:=aa (aD HR.out (ai HW8.out HBN.out))
      clear hst HLM HRC HA1 HA2 HW8 HBN HR CL hlf hge HM
      go_wp2_with fail
      go_loopw [20,21] (fun vo ix wr=> ∃ j:Nat,j≤L.length∧ix=.int .i64 j∧Hid (rL w0 X Q (.slice ab a.bks.length cb) a n L t r w9 j vo wr)) (fun _ ix _=> L.length - (intOf ix).toNat)
      case atStart=> exact⟨0,by omega,rfl,HST0⟩
      case round=>
       obtain⟨j,hj,rfl,HS⟩:=hrel
       by_cases hc:j < L.length
       ·have k1:(j:Int) < L.length:=by omega
        have k0:(0:Int)≤j:=by omega
        obtain⟨i9,hi9⟩:∃ i9,L[j]? =some i9:=⟨L[j],bh hc⟩
        obtain⟨bL,cL2,ead,hbl,hcl⟩:=ov HRW9.out (by rintro e;rw [e] at hc;simp at hc)
        obtain rfl:=ead
        have hbQ:bL≠Q:=fun e=> by
         have h9:=(H.out.step HBS.out).blk
         rw [← e,hbl] at h9
         simp at h9
        have HBL:Hid (∀ W,bP (fun k=> k=Q) w9 W→W.heap[bL]? =some (.cells cL2 3 (0,0))):=fun W hk=> (hk.block bL (ak hbl) hbQ).trans hbl
        have hL9:=HBL.out wr HS.out.kp
        have g1:=ah hL9 (hcl j i9 hi9)
        have gl:=ak hL9
        have hCE:=HS.out.add HCC.out hi9 HRZ.out
        have CE:Hid (Calls Tryz.prog 121 #[.pointer (some ⟨Q,0,none⟩),.int .i64 (n:Int),.int .i64 (i9:Int),.agg #[.int .i64 7,.int .i64 t,.int .i64 0,.int .i64 0,.string r,.string ⟨#[]⟩]] wr _):=hCE
        have HJ9:=aa hi9
        have HCJ:=aa (hcl j i9 hi9)
        obtain⟨p9,hp9,-,-⟩:=HCC.out.p i9 (aJ hi9)
        have HP9:=aa hp9
        obtain⟨aO,cO,evO⟩:=aP HS.out.out
        rw [show((L.take j).map (cq a)).length=j by rw [List.length_map,List.length_take];omega] at evO
        subst evO
        clear hbl hcl hbQ hL9 hCE hi9 hp9 hc
        go_upto_region 24 with(go_at_call 121;refine CE.out.mono ?_;rintro e w2 ⟨rfl,hz,hi2,hd2⟩;have HZ:=aa hz;have HI2:=aa hi2;have HD2:=aa hd2;clear hz hi2 hd2)
        obtain⟨X9,vP9,q1,q2,q3,q4⟩:=HZ.out.v
        obtain⟨pa2,pc2,evp⟩:=q1.pslice
        subst evp
        obtain⟨q,hq,hqn⟩:=xR (t:=t) (r:=r) (n:=n) (l:=L.take (j+1)) HP9.out
        obtain⟨b5,e5,hX5,l5,c5⟩:=q1.packX hq
        subst e5
        rw [hqn] at c5
        have m1:(i9:Int) < (da t r n (L.take (j+1)) a).ps.length:=by have:=(aB hq).1;omega
        have m0:(0:Int)≤i9:=by omega
        have hLz:=HBL.out w2 HZ.out.kp
        have H24:Hid (w2.cell? ⟨Q,10,none⟩=some (.slice (some ⟨b5,0,none⟩) (da t r n (L.take (j+1)) a).ps.length pc2)∧Q < w2.heap.size∧w2.cell? ⟨bL,j,none⟩=some (.int .i64 (i9:Int))∧bL < w2.heap.size∧w2.cell? ⟨b5,i9*2,none⟩=some (.string (cq a i9))∧b5 < w2.heap.size∧Value.ownBlock (.slice aO j cO)≠some Q∧Value.ownBlock (.slice aO j cO)≠some bL∧Value.ownBlock (.slice aO j cO)≠some b5):=⟨q1.cell10,ak q1.blk,ah hLz HCJ.out,ak hLz,c5,l5,fun e=> by
         obtain⟨-,cs,e2⟩:=dA HZ.out.out e
         rw [q1.blk] at e2
         simp at e2,fun e=> by
         obtain⟨-,cs,e2⟩:=dA HZ.out.out e
         rw [hLz] at e2
         simp at e2,fun e=> q4 b5 e hX5⟩
        clear q1 q2 q3 q4 hq hqn hX5 l5 c5 hLz g1 gl CE HBL HCJ HP9
        refine eA 14 20 [(12,142),(13,143)] [(none,[]),(none,[]),(none,[]),(none,[]),(none,[]),(none,[]),(none,[]),(none,[]),(none,[]),(none,[]),(none,[]),(none,[]),(some 0,[]),(some 1,[0])] [(130,(.slice aO j cO)),(131,(.pointer (some ⟨Q,0,none⟩))),(132,(.pointer (some ⟨Q,0,none⟩))),(133,(.pointer (some ⟨Q,10,none⟩))),(134,(.slice (some ⟨b5,0,none⟩) (da t r n (L.take (j+1)) a).ps.length pc2)),(135,(.slice (some ⟨bL,0,none⟩) L.length cL)),(136,(.int .i64 (j:Int))),(137,(.pointer (some ⟨bL,j,none⟩))),(138,(.int .i64 (i9:Int))),(139,(.pointer (some ⟨b5,i9*2,none⟩))),(140,(.pointer (some ⟨b5,i9*2,none⟩))),(141,(.string (cq a i9)))] (fun bsE vsE W=> vR w2 (fun W=> vS w0 X Q (.slice ab a.bks.length cb) a n L t r w9 j (.slice aO j cO) W) (fun v W=> rL w0 X Q (.slice ab a.bks.length cb) a n L t r w9 (j+1) v W) w9.heap.size (.slice aO j cO) ((L.take j).map (cq a)) (cq a i9) (bsE.getD 0 false) (bsE.getD 1 false) false ((vsE.getD 0 undef)) ((vsE.getD 1 undef)) undef W) (by kernel_rfl) (by kernel_rfl) rfl (by kernel_rfl) (by kernel_rfl) (by simp) (by rfl) ?h0 ?each ?tail
        case h0=>
         intro vsE hlv
         obtain⟨v0,v1,rfl⟩:=cd hlv
         exact⟨bP.of_below (Below.refl _ _).drew,fun _=> HZ.out.step (Below.refl _ _).drew,fun _=> (HZ.out.step (Below.refl _ _).drew).out,(fun e=> by cases e),(fun e=> by cases e),(fun e=> by cases e),(fun _=> rfl),(fun _=> rfl),HZ.out.kp.size⟩
        case each=>
         simp only [List.take_succ_cons,List.take_zero,dp]
         refine⟨⟨130,(.slice aO j cO),rfl,by kernel_rfl,?_⟩,⟨131,(.pointer (some ⟨Q,0,none⟩)),rfl,by kernel_rfl,?_⟩,⟨132,(.pointer (some ⟨Q,0,none⟩)),rfl,by kernel_rfl,?_⟩,⟨133,(.pointer (some ⟨Q,10,none⟩)),rfl,by kernel_rfl,?_⟩,⟨134,(.slice (some ⟨b5,0,none⟩) (da t r n (L.take (j+1)) a).ps.length pc2),rfl,by kernel_rfl,?_⟩,⟨135,(.slice (some ⟨bL,0,none⟩) L.length cL),rfl,by kernel_rfl,?_⟩,⟨136,(.int .i64 (j:Int)),rfl,by kernel_rfl,?_⟩,⟨137,(.pointer (some ⟨bL,j,none⟩)),rfl,by kernel_rfl,?_⟩,⟨138,(.int .i64 (i9:Int)),rfl,by kernel_rfl,?_⟩,⟨139,(.pointer (some ⟨b5,i9*2,none⟩)),rfl,by kernel_rfl,?_⟩,⟨140,(.pointer (some ⟨b5,i9*2,none⟩)),rfl,by kernel_rfl,?_⟩,⟨141,(.string (cq a i9)),rfl,by kernel_rfl,?_⟩,⟨142,rfl,?q1_12⟩,⟨143,rfl,?q1_13⟩,trivial⟩
         case q1_12=>
          intro bsE vsE W hlb hlv hnd hbk h
          obtain⟨b0,b1,rfl⟩:=cd hlb
          obtain⟨v0,v1,rfl⟩:=cd hlv
          obtain rfl:b0=false:=hbk
          replace h:vR w2 (fun W=> vS w0 X Q (.slice ab a.bks.length cb) a n L t r w9 j (.slice aO j cO) W) (fun v W=> rL w0 X Q (.slice ab a.bks.length cb) a n L t r w9 (j+1) v W) w9.heap.size (.slice aO j cO) ((L.take j).map (cq a)) (cq a i9) false b1 false (v0) (v1) undef W:=h
          clear hnd
          have HST:=aa h
          obtain rfl:=h.n0 rfl;have hm:=h.mk0 (fun _ _ h hb=> h.step hb)
          intro K Q hK
          simp only [az,updAll,Act.put,aU,aV,aW,aX] at hK ⊢
          go_wp2_with fail
          all_goals(first | exact hK _ _ hm | exact hm)
         case q1_13=>
          intro bsE vsE W hlb hlv hnd hbk h
          obtain⟨b0,b1,rfl⟩:=cd hlb
          obtain⟨v0,v1,rfl⟩:=cd hlv
          obtain rfl:b0=true:=hnd 0 (by simp)
          obtain rfl:b1=false:=hbk
          replace h:vR w2 (fun W=> vS w0 X Q (.slice ab a.bks.length cb) a n L t r w9 j (.slice aO j cO) W) (fun v W=> rL w0 X Q (.slice ab a.bks.length cb) a n L t r w9 (j+1) v W) w9.heap.size (.slice aO j cO) ((L.take j).map (cq a)) (cq a i9) true false false (v0) (v1) undef W:=h
          clear hnd
          have HST:=aa h
          skip
          intro K Q hK
          simp only [az,updAll,Act.put,aU,aV,aW,aX] at hK ⊢
          exact h.app (fun W v' W' hW _ ho hg hat=> hW.put HS0.out HJ9.out HI2.out HD2.out hg ho hat) (by rw [List.length_map,List.length_take];have:=HLN.out;omega) (.tmp 130) (.tmp 142) rfl rfl rfl hK
         all_goals
          intro bsE vsE W hlb hlv hnd h
          obtain⟨b0,b1,rfl⟩:=cd hlb
          obtain⟨v0,v1,rfl⟩:=cd hlv
          replace h:vR w2 (fun W=> vS w0 X Q (.slice ab a.bks.length cb) a n L t r w9 j (.slice aO j cO) W) (fun v W=> rL w0 X Q (.slice ab a.bks.length cb) a n L t r w9 (j+1) v W) w9.heap.size (.slice aO j cO) ((L.take j).map (cq a)) (cq a i9) b0 b1 false (v0) (v1) undef W:=h
          clear hnd
          have HST:=aa h
          have hq:=fun k (hk:k < w2.heap.size) (hn:Value.ownBlock (.slice aO j cO)≠some k)=> h.kp.block k hk hn;have f10:=(kL (hq Q H24.out.2.1 H24.out.2.2.2.2.2.2.1)).trans H24.out.1;have fQ:=ar H24.out.2.1 h.kp.size;have fL:=(kL (hq bL H24.out.2.2.2.1 H24.out.2.2.2.2.2.2.2.1)).trans H24.out.2.2.1;have fl:=ar H24.out.2.2.2.1 h.kp.size;have fb:=(kL (hq b5 H24.out.2.2.2.2.2.1 H24.out.2.2.2.2.2.2.2.2)).trans H24.out.2.2.2.2.1;have fB:=ar H24.out.2.2.2.2.2.1 h.kp.size;clear hq
          intro K Q hK
          simp only [az,updAll,Act.put,aU,aV,aW,aX] at hK ⊢
          go_wp2_with (fail)
          all_goals(first | exact hK _ h | exact h)
        case tail=>
         intro vsE W hlv h
         obtain⟨v0,v1,rfl⟩:=cd hlv
         replace h:vR w2 (fun W=> vS w0 X Q (.slice ab a.bks.length cb) a n L t r w9 j (.slice aO j cO) W) (fun v W=> rL w0 X Q (.slice ab a.bks.length cb) a n L t r w9 (j+1) v W) w9.heap.size (.slice aO j cO) ((L.take j).map (cq a)) (cq a i9) true true false (v0) (v1) undef W:=h
         have HST:=aa h
         have HN:Hid (rL w0 X Q (.slice ab a.bks.length cb) a n L t r w9 (j+1) v1 W):=h.z rfl
         obtain⟨a9,c9,e9⟩:=aP HN.out.out
         rw [show((L.take (j+1)).map (cq a)).length=j+1 by rw [List.length_map,List.length_take];omega] at e9
         subst e9
         clear h HST HZ HI2 HD2 H24 HJ9 HS
         refine eQ rfl rfl ?_
         simp only [az,updAll,Act.put,aU,aV,aW,aX]
         go_wp2_with fail
         exact⟨⟨j+1,by omega,by push_cast;rfl,HN⟩,by simp [intOf];omega⟩
       ·obtain rfl:j=L.length:=by omega
        clear hc
        obtain⟨⟨X9,vP9,q1,q2,q3,q4⟩,q5,q6,-,-⟩:=HS.out
        rw [List.take_length] at q1 q6
        obtain⟨aO,cO,evO⟩:=aP q6
        subst evO
        have HO6:=aa (dE q6 HBS.out.size)
        have HRN:Hid (eZ w0 X Q (.slice ab a.bks.length cb) (da t r n L a) w wr):=⟨vP9,q1.wide (fun k hk=> (q2 k hk).imp id fun c=> Nat.le_trans HBS.out.size c) (fun c=> by rcases c with c | c;exact H.out.nq c;have:=HC.out.2.2;omega),q5.pre HBS.out⟩
        clear q1 q2 q3 q4 q5 q6
        go_wp2_with fail
        exact bc (v:=.tuple #[.slice aO (L.map (cq a)).length cO,.int .i64 0]) (by simp only [results,Tryz.results75];go_simp) rfl ⟨_,by rw [HMM.out],by rw [HMM.out];exact HO6.out,by rw [HMM.out];exact HRN.out⟩
theorem pr {w0 w:World} {X:Nat→Prop} {Q:Nat} {vb vP:Value} {a:RegA} (h:bC w0 X Q vb a vP w)(ho:dc a)(hd:HdI a)(b t:Int)(bt:ByteArray)(t0 t1:Int)(r:ByteArray):
  Calls Tryz.prog 75 #[.pointer (some ⟨Q,0,none⟩),.int .i64 b,.int .i64 t,.string bt,.int .i64 t0,.int .i64 t1,.string r] w fun en w'=> ∃ v',en=.returned (.tuple #[v',.int .i64 (aE a b t bt t0 t1 r).1])∧w'.ownsRow w.heap.size 9 1 v' (aE a b t bt t0 t1 r).2.1.length ((aE a b t bt t0 t1 r).2.1.map Value.string)∧eZ w0 X Q vb (aE a b t bt t0 t1 r).2.2 w w':=by
 by_cases hb:0≤b∧b < a.bks.length
 ·cases h0:nameB bt with
  | false=> exact qJ h ho hd b t bt t0 t1 r hb h0
  | true=>
   cases h1:nameB r with
   | false=> exact qK h ho hd b t bt t0 t1 r hb h0 h1
   | true=>
    cases h2:bJ t with
    | false=> exact qL h ho hd b t bt t0 t1 r hb h0 h1 h2
    | true=>
     cases h3:bJ t0 with
     | false=> exact qM h ho hd b t bt t0 t1 r hb h0 h1 h2 h3
     | true=>
      cases h4:bJ t1 with
      | false=> exact qN h ho hd b t bt t0 t1 r hb h0 h1 h2 h3 h4
      | true=>
       obtain⟨n,rfl⟩:=Int.eq_ofNat_of_zero_le hb.1
       exact s6 h ho hd n t bt t0 t1 r hb ⟨h0,h1,h2,h3,h4⟩
 ·exact sZ h ho hd b t bt t0 t1 r hb
end
section
open Go.RowKit
theorem s7 {ps:List Nat} {j n:Nat} (h:(ps.take j).any (fun n=> decide (P31≤n))=false)(hk:ps[j]? =some n)(hb:¬ P31≤n):(ps.take (j+1)).any (fun n=> decide (P31≤n))=false:=by
 rw [List.take_add_one,hk,List.any_append,h]
 simpa using hb
theorem kk(p:Nat)(ps:List Nat):dR (p,ps)=(decide (p < 1) || decide (P31≤p) || decide (5000 < ps.length) || ps.any fun n=> decide (P31≤n)):=rfl
def s8(bks:List Bk):Int:=bif bks.any dR then 2 else 0
theorem kl {bks:List Bk} {i:Nat} {bk:Bk} (hk:bks[i]? =some bk)(hb:dR bk=true):s8 bks=2:=by unfold s8;rw [uD hk hb];rfl
theorem ta {bks:List Bk} (h:(bks.take bks.length).any dR=false):s8 bks=0:=by
 rw [List.take_of_length_le (bz _)] at h
 unfold s8;rw [h];rfl
theorem km {a:Option Addr} {bks:List Bk} {w:World} (pt c:Nat)(h:dS a bks w)(hl:bks.length≤1000000∧∀ bk∈bks,bk.2.length≤1000000):
  Calls Tryz.prog 47 #[.int .u64 (pt:Int),.slice a bks.length c] w fun e w'=> e=.returned (.int .i64 (secR pt bks))∧Below w.heap.size w w':=by
 have CP:Hid (Calls Tryz.prog 108 #[.int .i64 2] w fun e w'=> e=.returned (.int .u64 2147483647)∧w=w'):=(jb 2 w).mono fun e w' q=> ⟨by rw [q.1];rfl,q.2⟩
 have H0:=aa h
 have HLL:=aa hl
 clear h hl
 unfold secR
 by_cases c1:pt < 1
 ·rw [aG (ax c1)]
  have d1:(pt:Int) < 1:=by omega
  clear c1
  go_enter Tryz.func47,Tryz.ntmps47
  go_wp2_with (go_at_call 108;refine CP.out.mono ?_;rintro e w1 ⟨rfl,rfl⟩)
  exact aH (v:=.int .i64 3) rfl rfl rfl ⟨rfl,Below.refl _ _⟩
 ·by_cases c2:P31≤pt
  ·rw [aG (ay c2)]
   have d1:¬ (pt:Int) < 1:=by omega
   have d2:(2147483647:Int)≤pt:=by unfold P31 at c2;omega
   clear c1 c2
   go_enter Tryz.func47,Tryz.ntmps47
   go_wp2_with (go_at_call 108;refine CP.out.mono ?_;rintro e w1 ⟨rfl,rfl⟩)
   exact aH (v:=.int .i64 3) rfl rfl rfl ⟨rfl,Below.refl _ _⟩
  ·rw [aA (fun e=> e.elim c1 c2)]
   have d1:decide ((pt:Int) < 1)=false:=bv (by omega)
   have d2:decide ((2147483647:Int)≤pt)=false:=bv (by unfold P31 at c2;omega)
   clear c1 c2
   by_cases c3:bks.length < 1
   ·rw [aG (ax c3)]
    have d3:decide ((bks.length:Int) < 1)=true:=bF (by omega)
    clear c3 HLL H0
    generalize bks.length=n at*
    go_enter Tryz.func47,Tryz.ntmps47
    go_wp2_with (go_at_call 108;refine CP.out.mono ?_;rintro e w1 ⟨rfl,rfl⟩)
    exact aH (v:=.int .i64 2) rfl rfl rfl ⟨rfl,Below.refl _ _⟩
   ·by_cases c4:8 < bks.length
    ·rw [aG (ay (ax c4))]
     have d3:decide ((bks.length:Int) < 1)=false:=bv (by omega)
     have d4:decide ((8:Int) < bks.length)=true:=bF (by omega)
     clear c3 c4 HLL H0
     generalize bks.length=n at*
     go_enter Tryz.func47,Tryz.ntmps47
     go_wp2_with (go_at_call 108;refine CP.out.mono ?_;rintro e w1 ⟨rfl,rfl⟩)
     exact aH (v:=.int .i64 2) rfl rfl rfl ⟨rfl,Below.refl _ _⟩
    ·have hs:(if bks.length < 1∨8 < bks.length∨bks.any dR=true then(2:Int)else 0)=s8 bks:=by
      unfold s8
      cases hb:bks.any dR
      ·rw [aA (by rintro(e | e | e);exact c3 e;exact c4 e;cases e)];rfl
      ·rw [aG (ay (ay rfl))];rfl
     rw [hs]
     have d3:decide ((bks.length:Int) < 1)=false:=bv (by omega)
     have d4:decide ((8:Int) < bks.length)=false:=bv (by omega)
     have hl8:bks.length≤8:=by omega
     clear c3 c4 hs
     go_enter Tryz.func47,Tryz.ntmps47
     go_wp2_with (go_at_call 108;refine CP.out.mono ?_;rintro e w1 ⟨rfl,rfl⟩)
     clear d1 d2 d3 d4
     go_loopw [6] (fun ix wr=> ∃ i:Nat,i≤bks.length∧ix=.int .i64 i∧Hid ((bks.take i).any dR=false)∧Hid (Below w.heap.size w wr)) (fun ix _=> bks.length - (intOf ix).toNat)
     case atStart=> exact⟨0,by omega,rfl,rfl,Below.refl _ _⟩
     case round=>
      obtain⟨i,hi,rfl,HT,HW⟩:=hrel
      by_cases hc:i < bks.length
      ·have c1:(i:Int) < bks.length:=by omega
       have c0:(0:Int)≤i:=by omega
       obtain⟨bk,hk⟩:∃ bk,bks[i]? =some bk:=⟨bks[i],bh hc⟩
       have H1:=H0.out.step HW.out
       obtain⟨b,off,rfl,hb0,hcs⟩:=H1 (by rintro rfl;simp at hc)
       obtain⟨g0,vp,g1,hp⟩:=hcs i bk hk
       have HKK:=aa hk
       have HP:=aa hp
       have hpl:=HLL.out.2 bk (aJ hk)
       obtain⟨p,ps⟩:=bk
       dsimp only at g0 HP hpl
       obtain⟨ap,cp,rfl,hpc⟩:=hp
       dsimp only at g1 hpc
       have HPC:=aa hpc
       clear hcs hpc hk hc H1
       by_cases e1:p < 1
       ·have d1:decide ((p:Int) < 1)=true:=bF (by omega)
        have HR:=aa (kl HKK.out (by rw [kk,bF e1];rfl))
        clear e1
        go_wp2_with fail
        exact aH (v:=.int .i64 2) rfl rfl rfl ⟨by rw [HR.out],HW.out⟩
       ·have d1:decide ((p:Int) < 1)=false:=bv (by omega)
        by_cases e2:P31≤p
        ·have d2:decide ((2147483647:Int)≤p)=true:=bF (by unfold P31 at e2;omega)
         have HR:=aa (kl HKK.out (by rw [kk,bF e2];simp))
         clear e1 e2
         go_wp2_with fail
         exact aH (v:=.int .i64 2) rfl rfl rfl ⟨by rw [HR.out],HW.out⟩
        ·have d2:decide ((2147483647:Int)≤p)=false:=bv (by unfold P31 at e2;omega)
         by_cases e3:5000 < ps.length
         ·have d3:decide ((5000:Int) < ps.length)=true:=bF (by omega)
          have HR:=aa (kl HKK.out (by rw [kk,bF e3];simp))
          clear e1 e2 e3
          go_wp2_with fail
          exact aH (v:=.int .i64 2) rfl rfl rfl ⟨by rw [HR.out],HW.out⟩
         ·have d3:decide ((5000:Int) < ps.length)=false:=bv (by omega)
          have HBB:Hid (dR (p,ps)=ps.any fun n=> decide (P31≤n)):=by unfold Hid;rw [kk,bv e1,bv e2,bv e3];rfl
          clear e1 e2 e3
          go_wp2_with fail
          clear d1 d2 d3
          have HPL:=aa hpl
          clear hpl
          obtain⟨wo,hwo⟩:∃ wo,wo=wr:=⟨wr,rfl⟩
          subst hwo
          have G0:=aa (ba g0 g1)
          clear g0 g1
          go_loopw [7] (fun jx wv=> ∃ j:Nat,j≤ps.length∧jx=.int .i64 j∧Hid ((ps.take j).any (fun n=> decide (P31≤n))=false)∧Hid (Below wo.heap.size wo wv)) (fun jx _=> ps.length - (intOf jx).toNat)
          case atStart=> exact⟨0,by omega,rfl,rfl,Below.refl _ _⟩
          case round=>
           obtain⟨j,hj,rfl,HTJ,HWJ⟩:=hrel
           have g0:=ag G0.out.1 HWJ.out
           have g1:=ag G0.out.2 HWJ.out
           by_cases hcj:j < ps.length
           ·have k1:(j:Int) < ps.length:=by omega
            have k2:(ps.length:Int)≤1000000:=by have:=HPL.out;omega
            have k0:(0:Int)≤j:=by omega
            obtain⟨n,hn⟩:∃ n,ps[j]? =some n:=⟨ps[j],bh hcj⟩
            obtain⟨bp,op,rfl,hbp,hcc⟩:=HPC.out (by rintro rfl;simp at hcj)
            have g2:=ag (hcc j n hn) HWJ.out
            have HN:=aa hn
            clear hcc hn hcj HPC HP
            by_cases e4:P31≤n
            ·have d4:decide ((2147483647:Int)≤n)=true:=bF (by unfold P31 at e4;omega)
             have HR:=aa (kl HKK.out (by rw [HBB.out];exact List.any_eq_true.2 ⟨n,aJ HN.out,bF e4⟩))
             clear e4
             go_wp2_with fail
             exact aH (v:=.int .i64 2) rfl rfl rfl ⟨by rw [HR.out],ai HW.out HWJ.out⟩
            ·have d4:decide ((2147483647:Int)≤n)=false:=bv (by unfold P31 at e4;omega)
             have HE:=aa (s7 HTJ.out HN.out e4)
             clear e4
             go_wp2_with fail
             exact⟨⟨j+1,by omega,by push_cast;rfl,HE,HWJ⟩,by simp [intOf];omega⟩
           ·obtain rfl:j=ps.length:=by omega
            have HE:=aa (oN HT.out HKK.out (by rw [HBB.out];have q:=HTJ.out;rw [List.take_of_length_le (bz _)] at q;exact q))
            clear hcj
            go_wp2_with fail
            exact⟨⟨i+1,by omega,by push_cast;rfl,HE,ai HW.out HWJ.out⟩,by simp [intOf];omega⟩
      ·obtain rfl:i=bks.length:=by omega
       clear hc
       go_wp2_with fail
       exact aH (v:=.int .i64 0) rfl rfl rfl ⟨by rw [ta HT.out],HW.out⟩
end
section
open Sx Go.RowKit Mr
theorem setCells_at:∀ (vs:List Value) (o:Nat) {W:World} {r:Nat} {cs:Array Value} {T:TypeId} {fr:Nat×Nat},W.heap[r]? =some (.cells cs T fr)→o+vs.length≤cs.size→∃ cs':Array Value,(W.setCells r o vs).heap[r]? =some (.cells cs' T fr)∧cs'.size=cs.size∧∀ j,cs'[j]? =if o≤j∧j < o+vs.length then vs[j - o]? else cs[j]?
 | [],o,W,r,cs,T,fr,h,hl=> ⟨cs,h,rfl,fun j=> by rw [aA (fun c=> by have c2:=c.2;simp at c2;omega)]⟩
 | v::vs,o,W,r,cs,T,fr,h,hl=> by
  have h1:=bn (o:=o) (v:=v) h
  rw [List.length_cons] at hl
  obtain⟨cs',q1,q2,q3⟩:=setCells_at vs (o+1) h1 (by simp;omega)
  refine⟨cs',q1,by simpa using q2,fun j=> ?_⟩
  rw [q3 j,List.length_cons]
  by_cases c:o+1≤j∧j < o+1+vs.length
  ·rw [aG c,aG (by omega),show j - o=(j - (o+1))+1 by omega,List.getElem?_cons_succ]
  ·rw [aA c]
   by_cases c2:o=j
   ·subst c2
    rw [aG (by omega),Nat.sub_self,Array.getElem?_setIfInBounds_self_of_lt (by omega)]
    rfl
   ·rw [aA (by omega),Array.getElem?_setIfInBounds_ne c2]
theorem kn {W:World} {r:Nat} {cs:Array Value} {T:TypeId} {fr:Nat×Nat} {vs:List Value} (h:W.heap[r]? =some (.cells cs T fr))(hl:vs.length=cs.size):(W.setCells r 0 vs).heap[r]? =some (.cells vs.toArray T fr):=by
 obtain⟨cs',q1,q2,q3⟩:=setCells_at vs 0 h (by omega)
 rw [q1]
 congr 2
 refine Array.ext_getElem? fun j=> ?_
 rw [q3 j]
 by_cases c:j < vs.length
 ·rw [aG (by omega),Nat.sub_zero,List.getElem?_toArray]
 ·rw [aA (by omega),Array.getElem?_eq_none (xs:=cs) (by omega)]
  symm
  exact Array.getElem?_eq_none (by simp;omega)
def laysSlE041_f70_ren:Go.Shelf.Ren:=⟨fun | 41=> 70 | n=> n,fun | 22=> 119 | 23=> 116 | 4=> 4 | n=> n,fun | n=> n⟩
theorem fP:Go.Proofs.SlLaysE0.n41 Tryz.prog laysSlE041_f70_ren:={
 mixed:=by kernel_rfl
 f41:=⟨Tryz.f70.name,by decide,Tryz.func70.trans (congrArg some (by kernel_rfl))⟩
 t4:=Tryz.underlying4
 a4:=Tryz.isAgg4
 z4:=Tryz.sizeOf4
 v4:=Tryz.zeroValue4
 t22:=Tryz.underlying119
 a22:=Tryz.isAgg119
 z22:=Tryz.sizeOf119
 v22:=Tryz.zeroValue119 }
theorem vT(q:PkV)(h1:q.vm.oneCell'=true)(h2:q.vo.oneCell'=true)(h3:q.ve.oneCell'=true):∀ u∈fK q,u.oneCell'=true:=by
 intro u hu
 unfold fK fD at hu
 simp only [List.cons_append,List.nil_append,List.mem_cons,List.not_mem_nil,or_false] at hu
 rcases hu with rfl | rfl | rfl | rfl | rfl | rfl | rfl | rfl | rfl | rfl | rfl | rfl | rfl | rfl | rfl | rfl | rfl | rfl | rfl | rfl
 all_goals first | rfl | assumption
theorem qO {v:Value} {qs:List PkV} {w:World} {B:Nat} (h:w.ownsRow B 116 20 v qs.length (flatK qs))(hl:qs.length≤1000)(h1:∀ u∈flatK qs,u.oneCell'=true):Calls Tryz.prog 70 #[v] w fun e w'=> ∃ v',e=.returned v'∧w'.ownsRow w.heap.size 116 20 v' qs.length (flatK qs)∧Below w.heap.size w w':=by
 obtain⟨i0,hi,hz0,hz1,hz2⟩:=info_parts oe
 obtain⟨a,c,rfl⟩:=aP h
 by_cases hn:qs.length=0
 ·obtain⟨-,h2⟩:=h
  have hnil:qs=[]:=eF hn
  subst hnil
  rcases h2 with⟨e1,-⟩ | ⟨g,cap,cur,q1,-⟩
  ·injection e1 with e2 e3 e4
   subst e2
   refine(AnyE.slices_Clone_nil fP 0 c w).mono fun e w' q=> ?_
   obtain⟨rfl,rfl⟩:=q
   exact⟨_,rfl,⟨rfl,ax ⟨rfl,rfl⟩⟩,Below.refl _ _⟩
  ·injection q1 with e1 e2 e3
   subst e1
   refine(AnyE.slices_Clone fP i0 _ 20 232 hi hz0 hz1 hz2 rfl (by decide) (fun w=> Tryz.sizeOf116 w) g 0 0 c [] w rfl (Nat.zero_le _) (by omega) (fun j u hu=> by cases hu) (fun u hu=> by cases hu)).mono fun e w' q=> ?_
   obtain⟨v',rfl,q1,-,q2⟩:=q
   exact⟨v',rfl,q1,q2⟩
 ·obtain⟨b,rfl,-,hc⟩:=eD (b:=0) (c:=c) h hn
  refine(AnyE.slices_Clone fP i0 _ 20 232 hi hz0 hz1 hz2 rfl (by decide) (fun w=> Tryz.sizeOf116 w) b 0 qs.length c (flatK qs) w (kD qs) (by unfold maxLen;omega) (by omega) (fun j u hu=> by rw [Nat.zero_add];exact hc j u hu) h1).mono fun e w' q=> ?_
  obtain⟨v',rfl,q1,-,q2⟩:=q
  exact⟨v',rfl,q1,q2⟩
structure wt(N R i:Nat)(g0 g:RegS)(vb vp:Value)(w W:World):Prop where
 bel:Below w.heap.size w W
 hN:w.heap.size≤N∧N≤R
 reg:W.heap[R]? =some (.cells (dW g vb vp).toArray 121 (0,0))
 pt:g.pt=g0.pt∧g.bks=g0.bks∧g.used=g0.used∧g.qs.length=g0.qs.length
 row:W.ownsRow N 116 20 vp g.qs.length (flatK g.qs)
 qs:∀ (j:Nat) (q0:PkV),g0.qs[j]? =some q0→∃ q,g.qs[j]? =some q∧q.nm=q0.nm∧q.life=q0.life∧q.hd=q0.hd∧q.es=q0.es∧(i≤j→q=q0)∧(j < i→bH q.vm q.life.ms W∧bH q.vo q.life.os W∧W.ownsRow N 31 10 q.ve q.es.length (bK q.es))
 far:∀ (j k:Nat) (p q:PkV),j≠k→j < i→k < i→g.qs[j]? =some p→g.qs[k]? =some q→Far p.ve q.ve
structure jF(N R i:Nat)(g:RegS)(vb vp:Value)(w:World)(q':PkV)(W:World):Prop where
 bel:Below w.heap.size w W
 hN:w.heap.size≤N∧N≤R
 reg:W.heap[R]? =some (.cells (dW g vb vp).toArray 121 (0,0))
 row:W.ownsRow N 116 20 vp g.qs.length (flatK (g.qs.set i q'))
 old:∀ (j:Nat) (q:PkV),j < i→g.qs[j]? =some q→bH q.vm q.life.ms W∧bH q.vo q.life.os W∧W.ownsRow N 31 10 q.ve q.es.length (bK q.es)
structure fR(C:PkV→World→Prop)(N:Nat)(q0:PkV)(l0 c0 l1 c1 l2 c2 s0 s1 s2:Bool)(x0 v0 x1 v1 x2 v2:Value)(W:World):Prop where
 s:C { q0 with ve:=bif s0 then v0 else q0.ve,vm:=bif s1 then v1 else q0.vm,vo:=bif s2 then v2 else q0.vo } W
 e0:l0=true→x0=q0.ve
 e1:l1=true→x1=q0.vm
 e2:l2=true→x2=q0.vo
 r0:c0=true→W.ownsRow N 31 10 v0 q0.es.length (bK q0.es)
 r1:c1=true→W.ownsRow N 9 1 v1 q0.life.ms.length (q0.life.ms.map Value.string)
 r2:c2=true→W.ownsRow N 9 1 v2 q0.life.os.length (q0.life.os.map Value.string)
 m0:l0=false→c0=false
 m1:l1=false→c1=false
 m2:l2=false→c2=false
 n0:c0=false→s0=false
 n1:c1=false→s1=false
 n2:c2=false→s2=false
 hN:N≤W.heap.size
section
variable {N R i PB:Nat} {g g0:RegS} {vb vp:Value} {q' q'' q0:PkV} {w W w2:World} {C:PkV→World→Prop} {l0 c0 l1 c1 l2 c2 s0 s1 s2:Bool} {x0 v0 x1 v1 x2 v2 v9:Value}
theorem jF.step(h:jF N R i g vb vp w q' W)(hb:Below W.heap.size W w2):jF N R i g vb vp w q' w2:=
 ⟨ai h.bel hb,h.hN,an h.reg hb,aD h.row hb,fun j q hj hq=> ⟨(h.old j q hj hq).1.step hb,(h.old j q hj hq).2.1.step hb,aD (h.old j q hj hq).2.2 hb⟩⟩
theorem my {n:Nat} {qs:List PkV} {q:PkV} (h:W.ownsRow N 116 20 vp n (flatK qs))(hvp:vp.ownBlock=some PB)(hq:qs[i]? =some q):∃ cur,N≤PB∧W.heap[PB]? =some (.cells cur 116 (0,0))∧∀ (j:Nat) (u:Value),(fK q)[j]? =some u→W.cell? ⟨PB,i*20+j,none⟩=some u:=by
 obtain⟨h1,h2⟩:=h
 rcases h2 with⟨e1,e2⟩ | ⟨g,cap,cur,q1,q2,q3,q4,q5,q6,q7⟩
 ·rw [e1] at hvp;cases hvp
 ·obtain rfl:g=PB:=by rw [q1] at hvp;simpa [Value.ownBlock] using hvp
  refine⟨cur,q2,q3,fun j u hj=> ah q3 ?_⟩
  have hj20:j < 20:=by have:=(aB hj).1;rwa [eT] at this
  have h9:=gI hq j hj20
  rw [hj,← q7,List.getElem?_take] at h9
  split at h9
  ·simpa using h9
  ·cases h9
theorem jF.put(h:jF N R i g vb vp w q' W)(hi:i < g.qs.length)(hvp:vp.ownBlock=some PB){o:Nat} (ho:o < 20){u:Value} (hq:∀ (j:Nat) (x:Value),(fK q'')[j]? =some x→(j=o∧x=u)∨(j≠o∧(fK q')[j]? =some x)):jF N R i g vb vp w q'' (W.setCell ⟨PB,i*20+o,none⟩ u):=by
 obtain⟨cur,hNP,hP,hc⟩:=my h.row hvp (List.getElem?_set_self hi)
 have hO:bO 116 PB (i*20) 20 W (W.setCell ⟨PB,i*20+o,none⟩ u):=(bO.start hP).set ho u
 have hne:R≠PB:=fun e=> by
  have h9:=h.reg
  rw [e,hP] at h9
  simp at h9
 refine⟨h.bel.setCell (by show w.heap.size≤PB;have:=h.hN.1;omega) _,h.hN,bA h.reg hne,?_,fun j q hj hq9=> ?_⟩
 ·have h9:=nZ (q':=q'') h.row (by rw [List.length_set]) hvp (by rw [List.length_set];exact hi) hO (fun j x hj=> ?_)
  ·rw [List.set_set] at h9
   exact h9
  ·rcases hq j x hj with⟨rfl,rfl⟩ | ⟨hne2,hx⟩
   ·have hj20:j < 20:=ho
    obtain⟨x0,hx0⟩:∃ x0,(fK q')[j]? =some x0:=⟨_,bh (by rw [eT];exact hj20)⟩
    exact World.cell?_setCell_same _ _ _ (hc j x0 hx0)
   ·rw [World.cell?_setCell_other _ _ _ _ (by intro e;simp only [Addr.mk.injEq] at e;omega)]
    exact hc j x hx
 ·obtain⟨z1,z2,z3⟩:=h.old j q hj hq9
  exact⟨z1.only hO (by decide),z2.only hO (by decide),fx z3 hO (by decide)⟩
theorem jF.at_(h:jF N R i g vb vp w q' W)(hi:i < g.qs.length)(hvp:vp.ownBlock=some PB):PB < W.heap.size∧(∀ o,W.frozen? ⟨PB,o,none⟩=false)∧W.cell? ⟨PB,i*20+19,none⟩=some q'.ve∧W.cell? ⟨PB,i*20+9,none⟩=some q'.vm∧W.cell? ⟨PB,i*20+10,none⟩=some q'.vo:=by
 obtain⟨cur,hNP,hP,hc⟩:=my h.row hvp (List.getElem?_set_self hi)
 exact⟨ak hP,fun o=> aR hP,hc 19 _ rfl,hc 9 _ rfl,hc 10 _ rfl⟩
theorem fR.step(hC:∀ q W w2,C q W→Below W.heap.size W w2→C q w2)(h:fR C N q0 l0 c0 l1 c1 l2 c2 s0 s1 s2 x0 v0 x1 v1 x2 v2 W)(hb:Below W.heap.size W w2):fR C N q0 l0 c0 l1 c1 l2 c2 s0 s1 s2 x0 v0 x1 v1 x2 v2 w2:=
 ⟨hC _ _ _ h.s hb,h.e0,h.e1,h.e2,fun e=> aD (h.r0 e) hb,fun e=> aD (h.r1 e) hb,fun e=> aD (h.r2 e) hb,h.m0,h.m1,h.m2,h.n0,h.n1,h.n2,Nat.le_trans h.hN hb.size⟩
theorem fR.ld0(h:fR C N q0 false false l1 c1 l2 c2 false s1 s2 x0 v0 x1 v1 x2 v2 W):fR C N q0 true false l1 c1 l2 c2 false s1 s2 q0.ve v0 x1 v1 x2 v2 W:=⟨h.s,fun _=> rfl,h.e1,h.e2,h.r0,h.r1,h.r2,(fun e=> by cases e),h.m1,h.m2,h.n0,h.n1,h.n2,h.hN⟩
theorem fR.ld1(h:fR C N q0 l0 c0 false false l2 c2 s0 false s2 x0 v0 x1 v1 x2 v2 W):fR C N q0 l0 c0 true false l2 c2 s0 false s2 x0 v0 q0.vm v1 x2 v2 W:=⟨h.s,h.e0,fun _=> rfl,h.e2,h.r0,h.r1,h.r2,h.m0,(fun e=> by cases e),h.m2,h.n0,h.n1,h.n2,h.hN⟩
theorem fR.ld2(h:fR C N q0 l0 c0 l1 c1 false false s0 s1 false x0 v0 x1 v1 x2 v2 W):fR C N q0 l0 c0 l1 c1 true false s0 s1 false x0 v0 x1 v1 q0.vo v2 W:=⟨h.s,h.e0,h.e1,fun _=> rfl,h.r0,h.r1,h.r2,h.m0,h.m1,(fun e=> by cases e),h.n0,h.n1,h.n2,h.hN⟩
theorem fR.cl0(hC:∀ q W w2,C q W→Below W.heap.size W w2→C q w2)(h:fR C N q0 true false l1 c1 l2 c2 false s1 s2 x0 v0 x1 v1 x2 v2 W)(hb:Below W.heap.size W w2)(ho:w2.ownsRow W.heap.size 31 10 v9 q0.es.length (bK q0.es)):fR C N q0 true true l1 c1 l2 c2 false s1 s2 x0 v9 x1 v1 x2 v2 w2:=by
 have h2:=h.step hC hb
 exact⟨h2.s,h2.e0,h2.e1,h2.e2,fun _=> dE ho h.hN,h2.r1,h2.r2,(fun e=> by cases e),h2.m1,h2.m2,(fun _=> rfl),h2.n1,h2.n2,h2.hN⟩
theorem fR.cl1(hC:∀ q W w2,C q W→Below W.heap.size W w2→C q w2)(h:fR C N q0 l0 c0 true false l2 c2 s0 false s2 x0 v0 x1 v1 x2 v2 W)(hb:Below W.heap.size W w2)(ho:w2.ownsRow W.heap.size 9 1 v9 q0.life.ms.length (q0.life.ms.map Value.string)):fR C N q0 l0 c0 true true l2 c2 s0 false s2 x0 v0 x1 v9 x2 v2 w2:=by
 have h2:=h.step hC hb
 exact⟨h2.s,h2.e0,h2.e1,h2.e2,h2.r0,fun _=> dE ho h.hN,h2.r2,h2.m0,(fun e=> by cases e),h2.m2,h2.n0,(fun _=> rfl),h2.n2,h2.hN⟩
theorem fR.cl2(hC:∀ q W w2,C q W→Below W.heap.size W w2→C q w2)(h:fR C N q0 l0 c0 l1 c1 true false s0 s1 false x0 v0 x1 v1 x2 v2 W)(hb:Below W.heap.size W w2)(ho:w2.ownsRow W.heap.size 9 1 v9 q0.life.os.length (q0.life.os.map Value.string)):fR C N q0 l0 c0 l1 c1 true true s0 s1 false x0 v0 x1 v1 x2 v9 w2:=by
 have h2:=h.step hC hb
 exact⟨h2.s,h2.e0,h2.e1,h2.e2,h2.r0,h2.r1,fun _=> dE ho h.hN,h2.m0,h2.m1,(fun e=> by cases e),h2.n0,h2.n1,(fun _=> rfl),h2.hN⟩
end
section
variable {N N1 R i PB:Nat} {g g0:RegS} {vb vp:Value} {q' q'' q0:PkV} {w W w2:World} {l0 c0 l1 c1 l2 c2 s0 s1 s2:Bool} {x0 v0 x1 v1 x2 v2 v9:Value}
theorem fR.st(hi:i < g.qs.length)(hvp:vp.ownBlock=some PB)(h:fR (jF N R i g vb vp w) N1 q0 l0 c0 l1 c1 l2 c2 s0 s1 s2 x0 v0 x1 v1 x2 v2 W){o:Nat} (ho:o < 20){u:Value} (t0 t1 t2:Bool)(h0:c0=false→t0=false)(h1:c1=false→t1=false)(h2:c2=false→t2=false)
  (hq:∀ (j:Nat) (x:Value),(fK { q0 with ve:=bif t0 then v0 else q0.ve,vm:=bif t1 then v1 else q0.vm,vo:=bif t2 then v2 else q0.vo })[j]? =some x→(j=o∧x=u)∨(j≠o∧(fK { q0 with ve:=bif s0 then v0 else q0.ve,vm:=bif s1 then v1 else q0.vm,vo:=bif s2 then v2 else q0.vo })[j]? =some x)):
  fR (jF N R i g vb vp w) N1 q0 l0 c0 l1 c1 l2 c2 t0 t1 t2 x0 v0 x1 v1 x2 v2 (W.setCell ⟨PB,i*20+o,none⟩ u):=by
 obtain⟨cur,hNP,hP,-⟩:=my h.s.row hvp (List.getElem?_set_self hi)
 have hO:bO 116 PB (i*20) 20 W (W.setCell ⟨PB,i*20+o,none⟩ u):=(bO.start hP).set ho u
 exact⟨h.s.put hi hvp ho hq,h.e0,h.e1,h.e2,fun e=> fx (h.r0 e) hO (by decide),fun e=> fx (h.r1 e) hO (by decide),fun e=> fx (h.r2 e) hO (by decide),h.m0,h.m1,h.m2,h0,h1,h2,by simpa using h.hN⟩
theorem zq {q:PkV} {v:Value}:∀ (j:Nat) (x:Value),(fK { q with ve:=v })[j]? =some x→(j=19∧x=v)∨(j≠19∧(fK q)[j]? =some x):=fun j x hj=> by
 have h20:j < 20:=(aB hj).1
 by_cases c:j=19
 ·subst c;exact ax ⟨rfl,(bD hj).symm⟩
 ·refine ay ⟨c,?_⟩
  rw [← hj]
  match j,h20,c with
  | 0,_,_ | 1,_,_ | 2,_,_ | 3,_,_ | 4,_,_ | 5,_,_ | 6,_,_ | 7,_,_ | 8,_,_ | 9,_,_ | 10,_,_ | 11,_,_ | 12,_,_ | 13,_,_ | 14,_,_ | 15,_,_=> rfl
  | 16,_,_ | 17,_,_ | 18,_,_=> rfl
  | 19,_,c=> exact absurd rfl c
theorem zr {q:PkV} {v:Value}:∀ (j:Nat) (x:Value),(fK { q with vm:=v })[j]? =some x→(j=9∧x=v)∨(j≠9∧(fK q)[j]? =some x):=fun j x hj=> by
 have h20:j < 20:=(aB hj).1
 by_cases c:j=9
 ·subst c;exact ax ⟨rfl,(bD hj).symm⟩
 ·refine ay ⟨c,?_⟩
  rw [← hj]
  match j,h20,c with
  | 0,_,_ | 1,_,_ | 2,_,_ | 3,_,_ | 4,_,_ | 5,_,_ | 6,_,_ | 7,_,_ | 8,_,_=> rfl
  | 9,_,c=> exact absurd rfl c
  | 10,_,_ | 11,_,_ | 12,_,_ | 13,_,_ | 14,_,_ | 15,_,_=> rfl
  | 16,_,_ | 17,_,_ | 18,_,_ | 19,_,_=> rfl
theorem zu {q:PkV} {v:Value}:∀ (j:Nat) (x:Value),(fK { q with vo:=v })[j]? =some x→(j=10∧x=v)∨(j≠10∧(fK q)[j]? =some x):=fun j x hj=> by
 have h20:j < 20:=(aB hj).1
 by_cases c:j=10
 ·subst c;exact ax ⟨rfl,(bD hj).symm⟩
 ·refine ay ⟨c,?_⟩
  rw [← hj]
  match j,h20,c with
  | 0,_,_ | 1,_,_ | 2,_,_ | 3,_,_ | 4,_,_ | 5,_,_ | 6,_,_ | 7,_,_ | 8,_,_ | 9,_,_=> rfl
  | 10,_,c=> exact absurd rfl c
  | 11,_,_ | 12,_,_ | 13,_,_ | 14,_,_ | 15,_,_=> rfl
  | 16,_,_ | 17,_,_ | 18,_,_ | 19,_,_=> rfl
theorem fR.st0(hi:i < g.qs.length)(hvp:vp.ownBlock=some PB)(h:fR (jF N R i g vb vp w) N1 q0 l0 true l1 c1 l2 c2 false s1 s2 x0 v0 x1 v1 x2 v2 W):fR (jF N R i g vb vp w) N1 q0 l0 true l1 c1 l2 c2 true s1 s2 x0 v0 x1 v1 x2 v2 (W.setCell ⟨PB,i*20+19,none⟩ v0):=
 h.st hi hvp (by decide) true s1 s2 (fun e=> by cases e) h.n1 h.n2 (zq (q:={ q0 with ve:=q0.ve,vm:=bif s1 then v1 else q0.vm,vo:=bif s2 then v2 else q0.vo }) (v:=v0))
theorem fR.st1(hi:i < g.qs.length)(hvp:vp.ownBlock=some PB)(h:fR (jF N R i g vb vp w) N1 q0 l0 c0 l1 true l2 c2 s0 false s2 x0 v0 x1 v1 x2 v2 W):fR (jF N R i g vb vp w) N1 q0 l0 c0 l1 true l2 c2 s0 true s2 x0 v0 x1 v1 x2 v2 (W.setCell ⟨PB,i*20+9,none⟩ v1):=
 h.st hi hvp (by decide) s0 true s2 h.n0 (fun e=> by cases e) h.n2 (zr (q:={ q0 with ve:=bif s0 then v0 else q0.ve,vm:=q0.vm,vo:=bif s2 then v2 else q0.vo }) (v:=v1))
theorem fR.st2(hi:i < g.qs.length)(hvp:vp.ownBlock=some PB)(h:fR (jF N R i g vb vp w) N1 q0 l0 c0 l1 c1 l2 true s0 s1 false x0 v0 x1 v1 x2 v2 W):fR (jF N R i g vb vp w) N1 q0 l0 c0 l1 c1 l2 true s0 s1 true x0 v0 x1 v1 x2 v2 (W.setCell ⟨PB,i*20+10,none⟩ v2):=
 h.st hi hvp (by decide) s0 s1 true h.n0 h.n1 (fun e=> by cases e) (zu (q:={ q0 with ve:=bif s0 then v0 else q0.ve,vm:=bif s1 then v1 else q0.vm,vo:=q0.vo }) (v:=v2))
theorem wt.open_(h:wt N R i g0 g vb vp w W)(hq:g0.qs[i]? =some q0):jF N R i g vb vp w q0 W∧g.qs[i]? =some q0:=by
 obtain⟨q,h1,-,-,-,-,h2,-⟩:=h.qs i q0 hq
 obtain rfl:=h2 (bz _)
 refine⟨⟨h.bel,h.hN,h.reg,?_,fun j q9 hj hq9=> ?_⟩,h1⟩
 ·have e:g.qs.set i q=g.qs:=by
   refine List.ext_getElem? fun k=> ?_
   by_cases c:k=i
   ·subst c;rw [List.getElem?_set_self (aB h1).1,h1]
   ·rw [List.getElem?_set_ne (fun e=> c e.symm)]
  rw [e]
  exact h.row
 ·have hjl:=(aB hq9).1
  obtain⟨q8,hq8⟩:∃ q8,g0.qs[j]? =some q8:=⟨_,bh (by rw [← h.pt.2.2.2];exact hjl)⟩
  obtain⟨q7,r1,-,-,-,-,-,r2⟩:=h.qs j q8 hq8
  rw [hq9] at r1
  obtain rfl:=bD r1
  exact r2 hj
theorem wt.close_(h:wt N R i g0 g vb vp w W)(hq:g0.qs[i]? =some q0)(h1:g.qs[i]? =some q0)(hc:jF N R i g vb vp w { q0 with ve:=v0,vm:=v1,vo:=v2 } w2)(hW:W.heap.size≤N1)(hN1:N≤N1)(r0:w2.ownsRow N1 31 10 v0 q0.es.length (bK q0.es))(r1:w2.ownsRow N1 9 1 v1 q0.life.ms.length (q0.life.ms.map Value.string))(r2:w2.ownsRow N1 9 1 v2 q0.life.os.length (q0.life.os.map Value.string)):
  wt N R (i+1) g0 { g with qs:=g.qs.set i { q0 with ve:=v0,vm:=v1,vo:=v2 } } vb vp w w2:=by
 have hi:=(aB h1).1
 refine⟨hc.bel,hc.hN,hc.reg,⟨h.pt.1,h.pt.2.1,h.pt.2.2.1,by rw [List.length_set];exact h.pt.2.2.2⟩,by rw [List.length_set];exact hc.row,fun j q9 hj=> ?_,fun j k p q hjk hj hk hp hq9=> ?_⟩
 ·by_cases c:j=i
  ·subst c
   rw [hq] at hj
   obtain rfl:=bD hj
   exact⟨_,List.getElem?_set_self hi,rfl,rfl,rfl,rfl,fun e=> by omega,fun _=> ⟨bH.of_own r1,bH.of_own r2,dE r0 hN1⟩⟩
  ·obtain⟨q7,z1,z2,z3,z4,z5,z6,z7⟩:=h.qs j q9 hj
   refine⟨q7,by rw [List.getElem?_set_ne (fun e=> c e.symm)];exact z1,z2,z3,z4,z5,fun e=> z6 (by omega),fun e=> hc.old j q7 (by omega) z1⟩
 ·have key:∀ (x:Value),x.ownBlock=v0.ownBlock→∀ (m:Nat) (y:PkV),m < i→g.qs[m]? =some y→Far y.ve v0:=fun _ _ m y hm hy b e1 e2=> by
   have hml:=(aB hy).1
   obtain⟨q8,hq8⟩:∃ q8,g0.qs[m]? =some q8:=⟨_,bh (by rw [← h.pt.2.2.2];exact hml)⟩
   obtain⟨q7,z1,-,-,-,-,-,z7⟩:=h.qs m q8 hq8
   rw [hy] at z1
   obtain rfl:=bD z1
   have:=(World.ownsRow.lt (z7 hm).2.2 b e1).2
   have:=(World.ownsRow.lt r0 b e2).1
   omega
  by_cases cj:j=i
  ·subst cj
   rw [List.getElem?_set_self hi] at hp
   obtain rfl:=bD hp
   rw [List.getElem?_set_ne hjk] at hq9
   exact fun b e1 e2=> key v0 rfl k q (by omega) hq9 b e2 e1
  ·rw [List.getElem?_set_ne (fun e=> cj e.symm)] at hp
   by_cases ck:k=i
   ·subst ck
    rw [List.getElem?_set_self hi] at hq9
    obtain rfl:=bD hq9
    exact key v0 rfl j p (by omega) hp
   ·rw [List.getElem?_set_ne (fun e=> ck e.symm)] at hq9
    exact h.far j k p q hjk (by omega) (by omega) hp hq9
end
end
section
open Sx Go.RowKit Mr
theorem tc(y:bR):(!(uM y y))=false:=by rw [uN];simp
theorem mz {va vb:Value} {l:List ByteArray} {w:World} (ha:bH va l w)(hb:bH vb l w)(hl:l.length≤1000000):Calls Tryz.prog 76 #[va,vb] w fun e w'=> e=.returned (.bool true)∧Below w.heap.size w w':=by
 obtain⟨a1,c1,rfl,h1⟩:=ha.cells
 obtain⟨a2,c2,rfl,h2⟩:=hb.cells
 have HA:=aa h1
 have HB:=aa h2
 clear ha hb h1 h2
 go_enter Tryz.func76,Tryz.ntmps76
 go_wp2_with fail
 go_loopw [5] (fun ix wr=> ∃ i:Nat,i≤l.length∧ix=.int .i64 i∧Hid (Below w.heap.size w wr)) (fun ix _=> l.length - (intOf ix).toNat)
 case atStart=> exact⟨0,Nat.zero_le _,rfl,Below.refl _ _⟩
 case round=>
  obtain⟨i,hi,rfl,HW⟩:=hrel
  by_cases hc:i < l.length
  ·have k1:(i:Int) < l.length:=by omega
   have k0:(0:Int)≤i:=by omega
   obtain⟨t,ht⟩:∃ t,l[i]? =some t:=⟨l[i],bh hc⟩
   have hne:l≠[]:=by rintro e;rw [e] at hc;simp at hc
   obtain⟨b1,o1,e1,q1,q2⟩:=HA.out hne
   obtain⟨b2,o2,e2,q3,q4⟩:=HB.out hne
   obtain rfl:=e1
   obtain rfl:=e2
   have x1:=q2 i t ht
   have x2:=q4 i t ht
   have d1:∀ s:aC wr,s.1.cell? ⟨b1,o1+i,none⟩=some (.string t):=fun s=> ag x1 (ai HW.out s.2)
   have d2:∀ s:aC wr,s.1.cell? ⟨b2,o2+i,none⟩=some (.string t):=fun s=> ag x2 (ai HW.out s.2)
   have d3:∀ s:aC wr,b1 < s.1.heap.size:=fun s=> ar q1 (ai HW.out s.2).size
   have d4:∀ s:aC wr,b2 < s.1.heap.size:=fun s=> ar q3 (ai HW.out s.2).size
   clear q1 q2 q3 q4 x1 x2 ht hne hc
   go_upto_region 6 with fail
   refine aF (by kernel_rfl) (by kernel_rfl) ?_
   repeat(first | (refine WQ.skip rfl rfl rfl rfl ?_;simp only [Act.put,aU,aV,aW,aX]) | ((first | (apply WQ.val;(exact rfl)) | (apply WQ.valg;(exact rfl);(exact rfl);(exact rfl)));(intro w9 hw9;obtain⟨s9,rfl⟩:=hw9;simp [go_sem,d1,d2,d3,d4,k0,k1];first | done | exact rfl);simp only [Act.put,aU,aV,aW,aX]))
   refine WQ.fin fun W4 hbn=> ?_
   have HW2:=aa (ai HW.out hbn)
   clear d1 d2 d3 d4 hbn HW
   go_wp2_with fail
   exact⟨⟨i+1,by omega,by push_cast;rfl,HW2⟩,by simp [intOf];omega⟩
  ·obtain rfl:i=l.length:=by omega
   clear hc
   go_wp2_with fail
   exact aH (v:=.bool true) rfl rfl rfl ⟨rfl,HW.out⟩
theorem td {a1 a2:Option Addr} {es:List bR} {w:World} (c1 c2:Nat)(ha:iP a1 es w)(hb:iP a2 es w)(hl:es.length≤1000000):Calls Tryz.prog 79 #[.slice a1 es.length c1,.slice a2 es.length c2] w fun e w'=> e=.returned (.bool true)∧Below w.heap.size w w':=by
 have HA:=aa ha
 have HB:=aa hb
 clear ha hb
 go_enter Tryz.func79,Tryz.ntmps79
 go_wp2_with fail
 go_loopw [5] (fun ix wr=> ∃ i:Nat,i≤es.length∧ix=.int .i64 i∧Hid (Below w.heap.size w wr)) (fun ix _=> es.length - (intOf ix).toNat)
 case atStart=> exact⟨0,Nat.zero_le _,rfl,Below.refl _ _⟩
 case round=>
  obtain⟨i,hi,rfl,HW⟩:=hrel
  by_cases hc:i < es.length
  ·have k1:(i:Int) < es.length:=by omega
   have k0:(0:Int)≤i:=by omega
   obtain⟨y,hy⟩:∃ y,es[i]? =some y:=⟨es[i],bh hc⟩
   have hne:es≠[]:=by rintro e;rw [e] at hc;simp at hc
   obtain⟨b1,o1,e1,q1,q2⟩:=HA.out hne
   obtain⟨b2,o2,e2,q3,q4⟩:=HB.out hne
   obtain rfl:=e1
   obtain rfl:=e2
   have H1:Hid (∀ (s:aC wr) (j:Nat) (u:Value),(bV y)[j]? =some u→s.1.cell? ⟨b1,o1+i*10+j,none⟩=some u):=fun s j u hj=> ag (q2 i y hy j u hj) (ai HW.out s.2)
   have H2:Hid (∀ (s:aC wr) (j:Nat) (u:Value),(bV y)[j]? =some u→s.1.cell? ⟨b2,o2+i*10+j,none⟩=some u):=fun s j u hj=> ag (q4 i y hy j u hj) (ai HW.out s.2)
   have d3:∀ s:aC wr,b1 < s.1.heap.size:=fun s=> ar q1 (ai HW.out s.2).size
   have d4:∀ s:aC wr,b2 < s.1.heap.size:=fun s=> ar q3 (ai HW.out s.2).size
   clear q1 q2 q3 q4 hy hne hc
   go_upto_region 6 with fail
   refine aF (by kernel_rfl) (by kernel_rfl) ?_
   repeat(first | (refine WQ.skip rfl rfl rfl rfl ?_;simp only [Act.put,aU,aV,aW,aX]) | (apply WQ.val;(exact rfl);(intro w9 hw9;obtain⟨s9,rfl⟩:=hw9;first | (with_reducible refine lH y (.tmp 19) b1 (o1+i*10) rfl rfl (H1.out s9)) | (with_reducible refine lH y (.tmp 23) b2 (o2+i*10) rfl rfl (H2.out s9)));simp only [Act.put,aU,aV,aW,aX]) | (apply WQ.val;(exact rfl);(intro w9 hw9;refine sj y y (.tmp 20) (.tmp 24) _ rfl rfl rfl (r:=false) (tc y));simp only [Act.put,aU,aV,aW,aX]) | ((first | (apply WQ.val;(exact rfl)) | (apply WQ.valg;(exact rfl);(exact rfl);(exact rfl)));(intro w9 hw9;obtain⟨s9,rfl⟩:=hw9;simp [go_sem,d3,d4,k0,k1];first | done | exact rfl);simp only [Act.put,aU,aV,aW,aX]))
   refine WQ.fin fun W4 hbn=> ?_
   have HW2:=aa (ai HW.out hbn)
   clear d3 d4 H1 H2 hbn HW
   go_wp2_with fail
   exact⟨⟨i+1,by omega,by push_cast;rfl,HW2⟩,by simp [intOf];omega⟩
  ·obtain rfl:i=es.length:=by omega
   clear hc
   go_wp2_with fail
   exact aH (v:=.bool true) rfl rfl rfl ⟨rfl,HW.out⟩
theorem vU {bks:List Bk} {ab:Option Addr} {w:World} (pt cb:Nat)(hpt:pt < 18446744073709551616)(hB:dS ab bks w)(hl:bks.length≤1000000)(hp:∀ bk∈bks,bk.2.length≤1000000)(hs:secR pt bks≠0):Calls Tryz.prog 25 #[.int .u64 (pt:Int),.slice ab bks.length cb] w fun e w'=> e=.returned (.tuple #[.pointer none,.int .i64 (secR pt bks)])∧Below w.heap.size w w':=by
 have CS:=aa (km pt cb hB ⟨hl,hp⟩)
 have hs2:(secR pt bks==0)=false:=by simpa using hs
 have hs3:(secR pt bks !=0)=true:=by simpa using hs
 generalize secR pt bks=z at*
 clear hB hs
 go_enter Tryz.func25,Tryz.ntmps25
 go_wp2_with (go_at_call 47;refine CS.out.mono ?_;rintro e w1 ⟨rfl,hb1⟩;have HB1:=aa hb1;clear hb1)
 exact bc (v:=.tuple #[.pointer none,.int .i64 z]) (by simp only [results,Tryz.results25];go_simp) rfl ⟨rfl,HB1.out⟩
theorem xT {bks:List Bk} {ab:Option Addr} {w0 w:World} (pt cb:Nat)(hpt:pt < 18446744073709551616)(hB:dS ab bks w0)(h0:Below w0.heap.size w0 w)(hl:bks.length≤1000000)(hp:∀ bk∈bks,bk.2.length≤1000000)(hs:secR pt bks=0):Calls Tryz.prog 25 #[.int .u64 (pt:Int),.slice ab bks.length cb] w fun e w'=> ∃ Q,e=.returned (.tuple #[.pointer (some ⟨Q,0,none⟩),.int .i64 0])∧w.heap.size≤Q∧bC w0 (fun _=> False) Q (.slice ab bks.length cb) (kJ pt bks) (.slice none 0 0) w'∧Below w.heap.size w w':=by
 have hBw:dS ab bks w:=fun hn=> by
  obtain⟨b,off,e1,e2,e3⟩:=hB hn
  refine⟨b,off,e1,ar e2 h0.size,fun k bk hk=> ?_⟩
  obtain⟨q1,vp,q2,q3⟩:=e3 k bk hk
  exact⟨ag q1 h0,vp,ag q2 h0,q3.step h0⟩
 have CS:=aa (km pt cb hBw ⟨hl,hp⟩)
 rw [hs] at CS
 have HBk:=aa hB
 have H0:=aa h0
 clear hB hs hBw h0
 go_enter Tryz.func25,Tryz.ntmps25
 go_wp2_with (go_at_call 47;refine CS.out.mono ?_;rintro e w1 ⟨rfl,hb1⟩;have HB1:=aa hb1;clear hb1)
 refine bc (v:=.tuple #[.pointer (some ⟨w1.heap.size,0,none⟩),.int .i64 0]) (by simp only [results,Tryz.results25];go_simp) rfl ⟨w1.heap.size,rfl,HB1.out.size,⟨ai (ai H0.out HB1.out) bU,Nat.le_trans H0.out.size HB1.out.size,au w1 (.cells (lj pt (.slice ab bks.length cb) (List.replicate 8 0) (.slice none 0 0)).toArray 135),fun c=> c,rfl,⟨none,0,rfl,fun hn=> absurd rfl hn⟩,⟨ab,cb,rfl,HBk.out⟩⟩,ai HB1.out bU⟩
theorem tf {w0 w:World} {X:Nat→Prop} {Q:Nat} {vb vP:Value} {a:RegA} (h:bC w0 X Q vb a vP w)(hl:a.ps.length≤1000000):Calls Tryz.prog 29 #[.pointer (some ⟨Q,0,none⟩)] w fun e w'=> ∃ Q' vP',e=.returned (.pointer (some ⟨Q',0,none⟩))∧w.heap.size≤Q'∧bC w0 (fun k=> (X k∨w.heap.size≤k)∧k≠Q') Q' vb a vP' w'∧Below w.heap.size w w':=by
 obtain⟨pa,pc,rfl⟩:=h.pslice
 have c0:=ah (o:=0) h.blk rfl
 have c1:=ah (o:=1) h.blk rfl
 have hu:∀ k,k < 8→w.cell? ⟨Q,2+k,none⟩=some (.int .i64 ((a.used.getD k 0:Nat):Int)):=fun k hk=> ah h.blk (iU (by rw [h.u8];exact hk))
 have c2:=hu 0 (by decide)
 have c3:=hu 1 (by decide)
 have c4:=hu 2 (by decide)
 have c5:=hu 3 (by decide)
 have c6:=hu 4 (by decide)
 have c7:=hu 5 (by decide)
 have c8:=hu 6 (by decide)
 have c9:=hu 7 (by decide)
 have c10:=h.cell10
 have cl:=ak h.blk
 have H:=aa h
 clear h hu
 have hrc:∀ u∈lj a.pt vb a.used (.slice pa a.ps.length pc),u.oneCell'=true:=fun u hu=> by
  obtain⟨ab,cb,rfl,-⟩:=H.out.bk
  unfold lj at hu
  simp only [List.cons_append,List.nil_append,List.mem_cons,List.mem_append,List.mem_map,List.not_mem_nil,or_false] at hu
  rcases hu with rfl | rfl | ⟨n,-,rfl⟩ | rfl <;> rfl
 have hrl:(lj a.pt vb a.used (.slice pa a.ps.length pc)).length=11:=by unfold lj;simp [H.out.u8]
 have HRC:=aa (all_oneCell_toArray hrc)
 have HRL:=aa hrl
 have HRS:Hid ((lj a.pt vb a.used (.slice pa a.ps.length pc)).toArray.size=11):=List.size_toArray.trans HRL.out
 have hld:w.rangeAt Q 0 (lj a.pt vb a.used (.slice pa a.ps.length pc)):=fun j v hv=> ah H.out.blk (by rw [Nat.zero_add,List.getElem?_toArray];exact hv)
 have HLD:=aa hld
 obtain⟨j0,hj0,hy0,hy1,hy2⟩:=info_parts qG
 obtain⟨xs,hpl,hsrc⟩:=H.out.narrow.pk.cells
 have HPL:Hid (pw (fun k=> X k∧k < w.heap.size) xs a.ps w∧∀ W,Below w.heap.size w W→a.ps.length*2≠0→∃ p off,pa=some ⟨p,off,none⟩∧∀ (j:Nat) (u:Value),xs[j]? =some u→W.cell? ⟨p,off+j,none⟩=some u):=⟨hpl,fun W hW hn=> by obtain⟨b9,s1,-,s2,s3⟩:=hsrc hn;exact⟨b9,0,s1,fun j u hj=> ag (s3 j u hj) hW⟩⟩
 clear c0 c1 c2 c3 c4 c5 c6 c7 c8 c9 hrc hrl hld hpl hsrc
 go_enter Tryz.func29,Tryz.ntmps29
 go_upto_region 2 with(first | (refine wpList_load_mid rfl 135 (.tmp 5) rfl Q 0 rfl (lj a.pt vb a.used (.slice pa a.ps.length pc)) _ HLD.out Tryz.underlying135 rfl (by rw [HRL.out];kernel_rfl) ?_) | (refine wpList_store_mid rfl 135 (.tmp 3) (.tmp 6) rfl w.heap.size 0 (lj a.pt vb a.used (.slice pa a.ps.length pc)).toArray rfl rfl (by rw [HRS.out];exact gC rfl) (by rw [HRS.out];kernel_rfl) HRC.out ?_))
 have HQ1:Hid (((w.alloc (.cells #[.int .u64 0,.slice none 0 0,.int .i64 0,.int .i64 0,.int .i64 0,.int .i64 0,.int .i64 0,.int .i64 0,.int .i64 0,.int .i64 0,.slice none 0 0] 135)).setCells w.heap.size 0 (lj a.pt vb a.used (.slice pa a.ps.length pc))).heap[w.heap.size]? =some (.cells (lj a.pt vb a.used (.slice pa a.ps.length pc)).toArray 135 (0,0))):=kn (au w _) (by rw [HRL.out];rfl)
 have HB1:Hid (Below w.heap.size w ((w.alloc (.cells #[.int .u64 0,.slice none 0 0,.int .i64 0,.int .i64 0,.int .i64 0,.int .i64 0,.int .i64 0,.int .i64 0,.int .i64 0,.int .i64 0,.slice none 0 0] 135)).setCells w.heap.size 0 (lj a.pt vb a.used (.slice pa a.ps.length pc)))):=fJ _ _ bU (bz _)
 generalize((w.alloc (.cells #[.int .u64 0,.slice none 0 0,.int .i64 0,.int .i64 0,.int .i64 0,.int .i64 0,.int .i64 0,.int .i64 0,.int .i64 0,.int .i64 0,.slice none 0 0] 135)).setCells w.heap.size 0 (lj a.pt vb a.used (.slice pa a.ps.length pc)))=W1 at*
 have HCL:=aa cl
 replace c10:=ag c10 HB1.out
 replace cl:=ar cl HB1.out.size
 go_upto_region 3 with(at_builtin;have hown0:=kh (sz:=2) (E:=144) (B:=W1.heap.size) (W:=W1) (bz _);refine bM _ rfl (.tmp 7) (.tmp 11) 133 rfl W1.heap.size 144 j0 _ 2 40 Tryz.underlying133 hj0 hy0 hy1 hy2 rfl (by decide) _ 0 [] rfl hown0 pa a.ps.length pc xs rfl HPL.out.1.1 (HPL.out.2 (W1.alloc (.cells #[] 144)) (aK HB1.out _)) HPL.out.1.one (by unfold maxLen;omega) (by omega) (by simp) ?_;intro v' w5 hown hgrow hat;have hO5:Hid (w5.ownsRow W1.heap.size 144 2 v' a.ps.length xs):=(by show World.ownsRow _ _ _ _ _ _ _;rw [Nat.zero_add,List.nil_append] at hown;exact hown);have HB5:Hid (Below W1.heap.size W1 w5):=(bU (W:=W1)).grown hgrow (by simp) (fun k hk=> by cases hk;exact bz _);obtain⟨a5,c5,e5⟩:=aP hO5.out;subst e5;have HQ5:=aa (an HQ1.out HB5.out);have d10:=ah HQ5.out (mg H.out.u8);have dQ:=ak HQ5.out;have dF:=aR (o:=10) HQ5.out;clear hown hgrow hat hown0)
 have HW6:Hid (Below w.heap.size w (w5.setCell ⟨w.heap.size,10,none⟩ (.slice a5 a.ps.length c5))):=(ai HB1.out HB5.out).setCell (bz _) _
 have HRF:Hid (bC w0 (fun k=> (X k∨w.heap.size≤k)∧k≠w.heap.size) w.heap.size vb a (.slice a5 a.ps.length c5) (w5.setCell ⟨w.heap.size,10,none⟩ (.slice a5 a.ps.length c5))):=by
  have hQ1:=ak HQ1.out
  refine⟨ai H.out.bel HW6.out,H.out.bel.size,?_,fun c=> c.2 rfl,H.out.u8,tu.of_own (B:=W1.heap.size) (dG hO5.out HQ5.out (by decide)) (HPL.out.1.keep (fun k hk=> ⟨ax hk.1,fun e=> by have:=hk.2;omega⟩) HW6.out.size (fun k _ hk=> HW6.out.block k hk)) (fun k hk=> ⟨ay (Nat.le_trans HB1.out.size hk),fun e=> by omega⟩),H.out.bk⟩
  rw [← pq H.out.u8 (vP:=.slice pa a.ps.length pc)]
  exact bn HQ5.out
 clear d10 dQ dF c10 cl
 generalize w5.setCell ⟨w.heap.size,10,none⟩ (.slice a5 a.ps.length c5)=W6 at*
 go_wp2_with fail
 exact bc (v:=.pointer (some ⟨w.heap.size,0,none⟩)) (by simp only [results,Tryz.results29];go_simp) rfl ⟨w.heap.size,_,rfl,bz _,HRF.out,HW6.out⟩
end
section
open Sx Go.RowKit Mr
structure oC(w0 W0:World)(B R Q:Nat)(vb vb2:Value)(a a':RegA)(T:Nat)(cT:Array Value)(c:Int)(b0 b1:Bool)(v0 v1:Value)(W:World):Prop where
 t:ep w0 B R Q vb vb2 (bif b0 then a' else a) (bif b1 then a' else a) W
 bel:Below B W0 W
 bx:W.heap[T]? =some (.cells cT 74 (0,0))
 n:b0=false→b1=false
 e0:b0=true→v0=.int .i64 c
 e1:b1=true→v1=.int .i64 c
section
variable {w0 W0 W w2:World} {B R Q T:Nat} {vb vb2 v0 v1:Value} {a a' a2:RegA} {cT:Array Value} {c:Int} {b1:Bool}
theorem oC.mk0(h:oC w0 W0 B R Q vb vb2 a a' T cT c false false v0 v1 W)(ht:ep w0 B R Q vb vb2 a' a w2)(hb:Below B W w2)(hk:dJ W w2):oC w0 W0 B R Q vb vb2 a a' T cT c true false (.int .i64 c) v1 w2:=
 ⟨ht,h.bel.trans hb,hk T _ _ _ h.bx (by decide) (by decide) (by decide),(fun _=> rfl),(fun _=> rfl),(fun e=> by cases e)⟩
theorem oC.mk1(h:oC w0 W0 B R Q vb vb2 a a' T cT c true false v0 v1 W)(ht:ep w0 B R Q vb vb2 a' a' w2)(hb:Below B W w2)(hk:fh W w2):oC w0 W0 B R Q vb vb2 a a' T cT c true true v0 (.int .i64 c) w2:=
 ⟨ht,h.bel.trans hb,hk T _ _ _ h.bx (by decide),(fun e=> by cases e),h.e0,(fun _=> rfl)⟩
theorem ep.glob(h:ep w0 B R Q vb vb2 a a2 W)(hG:dn w0):dn W:=by
 obtain⟨g,vp,vP,X,h⟩:=h
 exact dV hG h.rf.bel
theorem Tw.pg {g:RegS} {vp vP:Value} {X:Nat→Prop} (h:Tw w0 B R Q vb vb2 a a2 g vp vP X W)(hN:gh B R vb a' g vp W w2):ep w0 B R Q vb vb2 a' a2 w2∧Below B W w2∧dJ W w2:=⟨(h.prog hN).1,(h.prog hN).2,by obtain⟨g',vp',h1,h2⟩:=hN;exact h2.keepT h.rv.ra⟩
theorem Tw.rg {g:RegS} {vp vP:Value} {X:Nat→Prop} (h:Tw w0 B R Q vb vb2 a a2 g vp vP X W)(hN:eZ w0 X Q vb2 a' W w2):ep w0 B R Q vb vb2 a a' w2∧Below B W w2∧fh W w2:=⟨(h.ref hN).1,(h.ref hN).2,by obtain⟨vP',h1,h2⟩:=hN;exact h2.keepQ h.rf.blk⟩
theorem zv(h:ep w0 B R Q vb vb2 a a2 W)(ho:dc a)(hG:dn w0)(b:Int)(nm:ByteArray)(e:bQ)(hs:nm.size≤100∧e.2.2.2.2.1.size≤100∧e.2.2.2.2.2.size≤100):Calls Tryz.prog 72 #[.pointer (some ⟨R,0,none⟩),.int .i64 b,.string nm,kZ e] W fun en w'=> en=.returned (.int .i64 (bi a b nm e).1)∧ep w0 B R Q vb vb2 (bi a b nm e).2 a2 w'∧Below B W w'∧dJ W w':=by
 have hg:=h.glob hG
 obtain⟨g,vp,vP,X,h⟩:=h
 exact(sw h.rv ho hg b nm e ⟨by omega,by omega,by omega⟩).mono fun en w' q=> ⟨q.1,h.pg q.2⟩
theorem zw(h:ep w0 B R Q vb vb2 a2 a W)(ho:dc a)(hd:HdI a)(b:Int)(nm:ByteArray)(e:bQ)(hs:nm.size≤100∧e.2.2.2.2.1.size≤100∧e.2.2.2.2.2.size≤100):Calls Tryz.prog 73 #[.pointer (some ⟨Q,0,none⟩),.int .i64 b,.string nm,kZ e] W fun en w'=> en=.returned (.int .i64 (bi a b nm e).1)∧ep w0 B R Q vb vb2 a2 (bi a b nm e).2 w'∧Below B W w'∧fh W w':=by
 obtain⟨g,vp,vP,X,h⟩:=h
 exact(qI h.rf ho hd b nm e hs.2).mono fun en w' q=> ⟨q.1,h.rg q.2⟩
theorem Af(h:ep w0 B R Q vb vb2 a a2 W)(ho:dc a)(hG:dn w0)(b t:Int)(m tn:ByteArray)(hs:m.size≤100∧tn.size≤100):Calls Tryz.prog 55 #[.pointer (some ⟨R,0,none⟩),.int .i64 b,.int .i64 t,.string m,.string tn] W fun en w'=> en=.returned (.int .i64 (moveA a b t m tn).1)∧ep w0 B R Q vb vb2 (moveA a b t m tn).2 a2 w'∧Below B W w'∧dJ W w':=by
 have hg:=h.glob hG
 obtain⟨g,vp,vP,X,h⟩:=h
 exact(vn h.rv ho hg b t m tn ⟨by omega,by omega⟩).mono fun en w' q=> ⟨q.1,h.pg q.2⟩
theorem Ag(h:ep w0 B R Q vb vb2 a2 a W)(ho:dc a)(hd:HdI a)(b t:Int)(m tn:ByteArray)(hs:m.size≤100):Calls Tryz.prog 74 #[.pointer (some ⟨Q,0,none⟩),.int .i64 b,.int .i64 t,.string m,.string tn] W fun en w'=> en=.returned (.int .i64 (moveA a b t m tn).1)∧ep w0 B R Q vb vb2 a2 (moveA a b t m tn).2 w'∧Below B W w'∧fh W w':=by
 obtain⟨g,vp,vP,X,h⟩:=h
 exact(sY h.rf ho hd b t m tn hs).mono fun en w' q=> ⟨q.1,h.rg q.2⟩
theorem xU(h:ep w0 B R Q vb vb2 a a2 W)(ho:dc a)(hG:dn w0)(b t:Int)(bt:ByteArray)(t0 t1:Int)(r:ByteArray)(hs:bt.size≤100∧r.size≤100):Calls Tryz.prog 19 #[.pointer (some ⟨R,0,none⟩),.int .i64 b,.int .i64 t,.string bt,.int .i64 t0,.int .i64 t1,.string r] W fun en w'=> ∃ v',en=.returned (.tuple #[v',.int .i64 (aE a b t bt t0 t1 r).1])∧w'.ownsRow W.heap.size 9 1 v' (aE a b t bt t0 t1 r).2.1.length ((aE a b t bt t0 t1 r).2.1.map Value.string)∧ep w0 B R Q vb vb2 (aE a b t bt t0 t1 r).2.2 a2 w'∧Below B W w'∧dJ W w':=by
 have hg:=h.glob hG
 obtain⟨g,vp,vP,X,h⟩:=h
 refine(qd h.rv ho hg b t bt t0 t1 r ⟨by omega,by omega⟩).mono fun en w' q=> ?_
 obtain⟨v',q1,q2,q3⟩:=q
 exact⟨v',q1,q2,h.pg q3⟩
theorem xW(h:ep w0 B R Q vb vb2 a2 a W)(ho:dc a)(hd:HdI a)(b t:Int)(bt:ByteArray)(t0 t1:Int)(r:ByteArray):Calls Tryz.prog 75 #[.pointer (some ⟨Q,0,none⟩),.int .i64 b,.int .i64 t,.string bt,.int .i64 t0,.int .i64 t1,.string r] W fun en w'=> ∃ v',en=.returned (.tuple #[v',.int .i64 (aE a b t bt t0 t1 r).1])∧w'.ownsRow W.heap.size 9 1 v' (aE a b t bt t0 t1 r).2.1.length ((aE a b t bt t0 t1 r).2.1.map Value.string)∧ep w0 B R Q vb vb2 a2 (aE a b t bt t0 t1 r).2.2 w'∧Below B W w'∧fh W w':=by
 obtain⟨g,vp,vP,X,h⟩:=h
 refine(pr h.rf ho hd b t bt t0 t1 r).mono fun en w' q=> ?_
 obtain⟨v',q1,q2,q3⟩:=q
 exact⟨v',q1,q2,h.rg q3⟩
theorem Ah {a:RegA} {d:Dd} (h:d.do_ % 3=0):rK a d=(bi a d.by_ d.nm d.ev).2:=by unfold rK;rw [aG h]
theorem Ai {a:RegA} {d:Dd} (h:d.do_ % 3=1):rK a d=(moveA a d.by_ d.at_ d.md d.nm).2:=by unfold rK;rw [aA (by omega),aG h]
theorem Aj {a:RegA} {d:Dd} (h:¬ d.do_ % 3=0)(h1:¬ d.do_ % 3=1):rK a d=(aE a d.by_ d.at_ d.bt d.t0 d.t1 d.rs).2.2:=by unfold rK;rw [aA h,aA h1]
theorem vV {a:RegA} (ho:dc a){b t:Int} {bt:ByteArray} {t0 t1:Int} {r:ByteArray}:(aE a b t bt t0 t1 r).2.1.length≤1000000:=by
 rcases ke ho b t bt t0 t1 r with⟨c,-,q⟩ | ⟨n,-,-,q⟩
 ·rw [q];exact Nat.zero_le _
 ·rw [q]
  show((affA a bt t0 t1 r).map (cq a)).length≤1000000
  rw [List.length_map]
  have:=j9 (bt:=bt) (t0:=t0) (t1:=t1) (r:=r) ho
  omega
end
theorem zx {w0 w:World} {B R Q:Nat} {vb vb2:Value} {a:RegA} (h:ep w0 B R Q vb vb2 a a w)(ho:dc a)(hd:HdI a)(hG:dn w0)(do_:Nat)(by_:Int)(nm:ByteArray)(k t ea eb:Int)(n1 ot:ByteArray)(at_:Int)(md bt:ByteArray)(t0 t1:Int)(rs:ByteArray)(hs:vF ⟨do_,by_,nm,(k,t,ea,eb,n1,ot),at_,md,bt,t0,t1,rs⟩)(h8:do_ < 256)(hr:do_ % 3=0):
  Calls Tryz.prog 28 #[.pointer (some ⟨R,0,none⟩),.pointer (some ⟨Q,0,none⟩),.agg #[.int .u8 (do_:Int),.int .i64 by_,.string nm,.int .i64 k,.int .i64 t,.int .i64 ea,.int .i64 eb,.string n1,.string ot,.int .i64 at_,.string md,.string bt,.int .i64 t0,.int .i64 t1,.string rs]] w fun e w'=> e=.returned (.bool true)∧ep w0 B R Q vb vb2 (bi a by_ nm (k,t,ea,eb,n1,ot)).2 (bi a by_ nm (k,t,ea,eb,n1,ot)).2 w'∧Below B w w':=by
 have HT0:=aa h
 have HO:=aa ho
 have HD:=aa hd
 have HG:=aa hG
 have HS:=aa hs
 have hq:Int.tmod (do_:Int) 3=0:=by rw [Int.tmod_eq_emod_of_nonneg (by omega)];omega
 have CP:Hid (∀ W,ep w0 B R Q vb vb2 a a W→Calls Tryz.prog 72 #[.pointer (some ⟨R,0,none⟩),.int .i64 by_,.string nm,.agg #[.int .i64 k,.int .i64 t,.int .i64 ea,.int .i64 eb,.string n1,.string ot]] W fun en w'=> en=.returned (.int .i64 (bi a by_ nm (k,t,ea,eb,n1,ot)).1)∧ep w0 B R Q vb vb2 (bi a by_ nm (k,t,ea,eb,n1,ot)).2 a w'∧Below B W w'∧dJ W w'):=fun W hT=> zv hT HO.out HG.out by_ nm (k,t,ea,eb,n1,ot) ⟨HS.out.nm,HS.out.e1,HS.out.e2⟩
 have CR:Hid (∀ W,ep w0 B R Q vb vb2 (bi a by_ nm (k,t,ea,eb,n1,ot)).2 a W→Calls Tryz.prog 73 #[.pointer (some ⟨Q,0,none⟩),.int .i64 by_,.string nm,.agg #[.int .i64 k,.int .i64 t,.int .i64 ea,.int .i64 eb,.string n1,.string ot]] W fun en w'=> en=.returned (.int .i64 (bi a by_ nm (k,t,ea,eb,n1,ot)).1)∧ep w0 B R Q vb vb2 (bi a by_ nm (k,t,ea,eb,n1,ot)).2 (bi a by_ nm (k,t,ea,eb,n1,ot)).2 w'∧Below B W w'∧fh W w'):=fun W hT=> zw hT HO.out HD.out by_ nm (k,t,ea,eb,n1,ot) ⟨HS.out.nm,HS.out.e1,HS.out.e2⟩
 generalize(bi a by_ nm (k,t,ea,eb,n1,ot))=ans at*
 obtain⟨cc,a'⟩:=ans
 dsimp only at*
 have HX:=aa (au w (.cells #[.int .u8 (do_:Int),.int .i64 by_,.string nm,.int .i64 k,.int .i64 t,.int .i64 ea,.int .i64 eb,.string n1,.string ot,.int .i64 at_,.string md,.string bt,.int .i64 t0,.int .i64 t1,.string rs] 74))
 have HB:=aa (bU (W:=w) (o:=(.cells #[.int .u8 (do_:Int),.int .i64 by_,.string nm,.int .i64 k,.int .i64 t,.int .i64 ea,.int .i64 eb,.string n1,.string ot,.int .i64 at_,.string md,.string bt,.int .i64 t0,.int .i64 t1,.string rs] 74)))
 have HSZ:Hid (B≤w.heap.size):=by obtain⟨g,vp,vP,X,q⟩:=h;exact q.size
 clear h ho hd hG hs
 go_enter Tryz.func28,Tryz.ntmps28
 go_upto_region 1 with fail
 have HT:=aa (HT0.out.step HB.out)
 have HBB:=aa (HB.out.mono HSZ.out)
 clear HT0
 generalize w.alloc (.cells #[.int .u8 (do_:Int),.int .i64 by_,.string nm,.int .i64 k,.int .i64 t,.int .i64 ea,.int .i64 eb,.string n1,.string ot,.int .i64 at_,.string md,.string bt,.int .i64 t0,.int .i64 t1,.string rs] 74)=W0 at*
 generalize w.heap.size=T at*
 obtain⟨x0,x1,x2,x3,x4,x5,x6,x7,x8,x9,x10,x11,x12,x13,x14⟩:=e7 HX.out;have xl:=ak HX.out
 go_upto_region 3 with fail
 clear x0 x1 x2 x3 x4 x5 x6 x7 x8 x9 x10 x11 x12 x13 x14 xl
 refine bo 18 26 98 [(7,23),(15,31)] [(none,[]),(none,[]),(none,[]),(none,[]),(none,[]),(none,[]),(none,[]),(some 0,[]),(none,[]),(none,[]),(none,[]),(none,[]),(none,[]),(none,[]),(none,[]),(some 1,[0]),(none,[0,1]),(none,[])] [(16,(.pointer (some ⟨R,0,none⟩))),(17,(.pointer (some ⟨T,1,none⟩))),(18,(.int .i64 by_)),(19,(.pointer (some ⟨T,2,none⟩))),(20,(.string nm)),(21,(.pointer (some ⟨T,3,none⟩))),(22,(.agg #[.int .i64 k,.int .i64 t,.int .i64 ea,.int .i64 eb,.string n1,.string ot])),(24,(.pointer (some ⟨Q,0,none⟩))),(25,(.pointer (some ⟨T,1,none⟩))),(26,(.int .i64 by_)),(27,(.pointer (some ⟨T,2,none⟩))),(28,(.string nm)),(29,(.pointer (some ⟨T,3,none⟩))),(30,(.agg #[.int .i64 k,.int .i64 t,.int .i64 ea,.int .i64 eb,.string n1,.string ot])),(32,(.bool true)),(6,(.bool true))] (fun bsE vsE W=> oC w0 W0 B R Q vb vb2 a a' T #[.int .u8 (do_:Int),.int .i64 by_,.string nm,.int .i64 k,.int .i64 t,.int .i64 ea,.int .i64 eb,.string n1,.string ot,.int .i64 at_,.string md,.string bt,.int .i64 t0,.int .i64 t1,.string rs] cc (bsE.getD 0 false) (bsE.getD 1 false) ((vsE.getD 0 undef)) ((vsE.getD 1 undef)) W) (by kernel_rfl) (by kernel_rfl) rfl rfl (by kernel_rfl) (by rfl) ?h0 ?each ?done
 case h0=>
  intro vsE hlv
  obtain⟨v0,v1,rfl⟩:=cd hlv
  exact⟨HT.out.step (Below.refl _ _).drew,(Below.refl B W0).drew,HX.out,(fun _=> rfl),(fun e=> by cases e),(fun e=> by cases e)⟩
 case each=>
  simp only [dp]
  refine⟨⟨16,(.pointer (some ⟨R,0,none⟩)),rfl,by kernel_rfl,?_⟩,⟨17,(.pointer (some ⟨T,1,none⟩)),rfl,by kernel_rfl,?_⟩,⟨18,(.int .i64 by_),rfl,by kernel_rfl,?_⟩,⟨19,(.pointer (some ⟨T,2,none⟩)),rfl,by kernel_rfl,?_⟩,⟨20,(.string nm),rfl,by kernel_rfl,?_⟩,⟨21,(.pointer (some ⟨T,3,none⟩)),rfl,by kernel_rfl,?_⟩,⟨22,(.agg #[.int .i64 k,.int .i64 t,.int .i64 ea,.int .i64 eb,.string n1,.string ot]),rfl,by kernel_rfl,?_⟩,ax ⟨23,rfl,?q1_7⟩,⟨24,(.pointer (some ⟨Q,0,none⟩)),rfl,by kernel_rfl,?_⟩,⟨25,(.pointer (some ⟨T,1,none⟩)),rfl,by kernel_rfl,?_⟩,⟨26,(.int .i64 by_),rfl,by kernel_rfl,?_⟩,⟨27,(.pointer (some ⟨T,2,none⟩)),rfl,by kernel_rfl,?_⟩,⟨28,(.string nm),rfl,by kernel_rfl,?_⟩,⟨29,(.pointer (some ⟨T,3,none⟩)),rfl,by kernel_rfl,?_⟩,⟨30,(.agg #[.int .i64 k,.int .i64 t,.int .i64 ea,.int .i64 eb,.string n1,.string ot]),rfl,by kernel_rfl,?_⟩,ax ⟨31,rfl,?q1_15⟩,⟨32,(.bool true),rfl,by kernel_rfl,?q1_16⟩,⟨6,(.bool true),rfl,by kernel_rfl,?_⟩,trivial⟩
  case q1_7=>
   intro bsE vsE W hlb hlv hnd hbk h
   obtain⟨b0,b1,rfl⟩:=cd hlb
   obtain⟨v0,v1,rfl⟩:=cd hlv
   obtain rfl:b0=false:=hbk
   replace h:oC w0 W0 B R Q vb vb2 a a' T #[.int .u8 (do_:Int),.int .i64 by_,.string nm,.int .i64 k,.int .i64 t,.int .i64 ea,.int .i64 eb,.string n1,.string ot,.int .i64 at_,.string md,.string bt,.int .i64 t0,.int .i64 t1,.string rs] cc false b1 (v0) (v1) W:=h
   clear hnd
   have HST:=aa h
   obtain rfl:=h.n rfl
   intro K Q hK
   simp only [az,updAll,Act.put,aU,aV,aW,aX] at hK ⊢
   go_wp2_with (go_at_call 72;refine(CP.out _ h.t).mono ?_;rintro en w9 ⟨rfl,q1,q2,q3⟩)
   all_goals(have hm:=h.mk0 q1 q2 q3)
   all_goals(first | exact hK _ _ hm | exact hm)
  case q1_15=>
   intro bsE vsE W hlb hlv hnd hbk h
   obtain⟨b0,b1,rfl⟩:=cd hlb
   obtain⟨v0,v1,rfl⟩:=cd hlv
   obtain rfl:b0=true:=hnd 0 (by simp)
   obtain rfl:b1=false:=hbk
   replace h:oC w0 W0 B R Q vb vb2 a a' T #[.int .u8 (do_:Int),.int .i64 by_,.string nm,.int .i64 k,.int .i64 t,.int .i64 ea,.int .i64 eb,.string n1,.string ot,.int .i64 at_,.string md,.string bt,.int .i64 t0,.int .i64 t1,.string rs] cc true false (v0) (v1) W:=h
   clear hnd
   have HST:=aa h
   skip
   intro K Q hK
   simp only [az,updAll,Act.put,aU,aV,aW,aX] at hK ⊢
   go_wp2_with (go_at_call 73;refine(CR.out _ h.t).mono ?_;rintro en w9 ⟨rfl,q1,q2,q3⟩)
   all_goals(have hm:=h.mk1 q1 q2 q3)
   all_goals(first | exact hK _ _ hm | exact hm)
  case q1_16=>
   intro bsE vsE W hlb hlv hnd h
   obtain⟨b0,b1,rfl⟩:=cd hlb
   obtain⟨v0,v1,rfl⟩:=cd hlv
   obtain rfl:b0=true:=hnd 0 (by simp)
   obtain rfl:b1=true:=hnd 1 (by simp)
   replace h:oC w0 W0 B R Q vb vb2 a a' T #[.int .u8 (do_:Int),.int .i64 by_,.string nm,.int .i64 k,.int .i64 t,.int .i64 ea,.int .i64 eb,.string n1,.string ot,.int .i64 at_,.string md,.string bt,.int .i64 t0,.int .i64 t1,.string rs] cc true true (v0) (v1) W:=h
   clear hnd
   have HST:=aa h
   obtain rfl:=h.e0 rfl;obtain rfl:=h.e1 rfl
   intro K Q hK
   simp only [az,updAll,Act.put,aU,aV,aW,aX] at hK ⊢
   go_wp2_with (fail)
   all_goals(first | exact hK _ h | exact h)
  all_goals
   intro bsE vsE W hlb hlv hnd h
   obtain⟨b0,b1,rfl⟩:=cd hlb
   obtain⟨v0,v1,rfl⟩:=cd hlv
   replace h:oC w0 W0 B R Q vb vb2 a a' T #[.int .u8 (do_:Int),.int .i64 by_,.string nm,.int .i64 k,.int .i64 t,.int .i64 ea,.int .i64 eb,.string n1,.string ot,.int .i64 at_,.string md,.string bt,.int .i64 t0,.int .i64 t1,.string rs] cc b0 b1 (v0) (v1) W:=h
   clear hnd
   have HST:=aa h
   have hbx:=h.bx;obtain⟨y0,y1,y2,y3,y4,y5,y6,y7,y8,y9,y10,y11,y12,y13,y14⟩:=e7 hbx;have yl:=ak hbx;clear hbx
   intro K Q hK
   simp only [az,updAll,Act.put,aU,aV,aW,aX] at hK ⊢
   go_wp2_with (fail)
   all_goals(first | exact hK _ h | exact h)
 case done=>
  intro vsE W hlv h
  obtain⟨v0,v1,rfl⟩:=cd hlv
  replace h:oC w0 W0 B R Q vb vb2 a a' T #[.int .u8 (do_:Int),.int .i64 by_,.string nm,.int .i64 k,.int .i64 t,.int .i64 ea,.int .i64 eb,.string n1,.string ot,.int .i64 at_,.string md,.string bt,.int .i64 t0,.int .i64 t1,.string rs] cc true true (v0) (v1) W:=h
  have HST:=aa h
  have HT9:=aa h.t
  have HB9:=aa (HBB.out.trans h.bel)
  clear h HST
  simp only [az,updAll,Act.put,aU,aV,aW,aX]
  go_wp2_with fail
  exact aH (v:=.bool true) rfl rfl rfl ⟨rfl,HT9.out,HB9.out⟩
theorem zy {w0 w:World} {B R Q:Nat} {vb vb2:Value} {a:RegA} (h:ep w0 B R Q vb vb2 a a w)(ho:dc a)(hd:HdI a)(hG:dn w0)(do_:Nat)(by_:Int)(nm:ByteArray)(k t ea eb:Int)(n1 ot:ByteArray)(at_:Int)(md bt:ByteArray)(t0 t1:Int)(rs:ByteArray)(hs:vF ⟨do_,by_,nm,(k,t,ea,eb,n1,ot),at_,md,bt,t0,t1,rs⟩)(h8:do_ < 256)(hr:do_ % 3=1):
  Calls Tryz.prog 28 #[.pointer (some ⟨R,0,none⟩),.pointer (some ⟨Q,0,none⟩),.agg #[.int .u8 (do_:Int),.int .i64 by_,.string nm,.int .i64 k,.int .i64 t,.int .i64 ea,.int .i64 eb,.string n1,.string ot,.int .i64 at_,.string md,.string bt,.int .i64 t0,.int .i64 t1,.string rs]] w fun e w'=> e=.returned (.bool true)∧ep w0 B R Q vb vb2 (moveA a by_ at_ md nm).2 (moveA a by_ at_ md nm).2 w'∧Below B w w':=by
 have HT0:=aa h
 have HO:=aa ho
 have HD:=aa hd
 have HG:=aa hG
 have HS:=aa hs
 have hq:Int.tmod (do_:Int) 3=1:=by rw [Int.tmod_eq_emod_of_nonneg (by omega)];omega
 have CP:Hid (∀ W,ep w0 B R Q vb vb2 a a W→Calls Tryz.prog 55 #[.pointer (some ⟨R,0,none⟩),.int .i64 by_,.int .i64 at_,.string md,.string nm] W fun en w'=> en=.returned (.int .i64 (moveA a by_ at_ md nm).1)∧ep w0 B R Q vb vb2 (moveA a by_ at_ md nm).2 a w'∧Below B W w'∧dJ W w'):=fun W hT=> Af hT HO.out HG.out by_ at_ md nm ⟨HS.out.md,HS.out.nm⟩
 have CR:Hid (∀ W,ep w0 B R Q vb vb2 (moveA a by_ at_ md nm).2 a W→Calls Tryz.prog 74 #[.pointer (some ⟨Q,0,none⟩),.int .i64 by_,.int .i64 at_,.string md,.string nm] W fun en w'=> en=.returned (.int .i64 (moveA a by_ at_ md nm).1)∧ep w0 B R Q vb vb2 (moveA a by_ at_ md nm).2 (moveA a by_ at_ md nm).2 w'∧Below B W w'∧fh W w'):=fun W hT=> Ag hT HO.out HD.out by_ at_ md nm HS.out.md
 generalize(moveA a by_ at_ md nm)=ans at*
 obtain⟨cc,a'⟩:=ans
 dsimp only at*
 have HX:=aa (au w (.cells #[.int .u8 (do_:Int),.int .i64 by_,.string nm,.int .i64 k,.int .i64 t,.int .i64 ea,.int .i64 eb,.string n1,.string ot,.int .i64 at_,.string md,.string bt,.int .i64 t0,.int .i64 t1,.string rs] 74))
 have HB:=aa (bU (W:=w) (o:=(.cells #[.int .u8 (do_:Int),.int .i64 by_,.string nm,.int .i64 k,.int .i64 t,.int .i64 ea,.int .i64 eb,.string n1,.string ot,.int .i64 at_,.string md,.string bt,.int .i64 t0,.int .i64 t1,.string rs] 74)))
 have HSZ:Hid (B≤w.heap.size):=by obtain⟨g,vp,vP,X,q⟩:=h;exact q.size
 clear h ho hd hG hs
 go_enter Tryz.func28,Tryz.ntmps28
 go_upto_region 1 with fail
 have HT:=aa (HT0.out.step HB.out)
 have HBB:=aa (HB.out.mono HSZ.out)
 clear HT0
 generalize w.alloc (.cells #[.int .u8 (do_:Int),.int .i64 by_,.string nm,.int .i64 k,.int .i64 t,.int .i64 ea,.int .i64 eb,.string n1,.string ot,.int .i64 at_,.string md,.string bt,.int .i64 t0,.int .i64 t1,.string rs] 74)=W0 at*
 generalize w.heap.size=T at*
 obtain⟨x0,x1,x2,x3,x4,x5,x6,x7,x8,x9,x10,x11,x12,x13,x14⟩:=e7 HX.out;have xl:=ak HX.out
 go_upto_region 5 with fail
 clear x0 x1 x2 x3 x4 x5 x6 x7 x8 x9 x10 x11 x12 x13 x14 xl
 refine bo 22 26 98 [(9,44),(19,54)] [(none,[]),(none,[]),(none,[]),(none,[]),(none,[]),(none,[]),(none,[]),(none,[]),(none,[]),(some 0,[]),(none,[]),(none,[]),(none,[]),(none,[]),(none,[]),(none,[]),(none,[]),(none,[]),(none,[]),(some 1,[0]),(none,[0,1]),(none,[])] [(35,(.pointer (some ⟨R,0,none⟩))),(36,(.pointer (some ⟨T,1,none⟩))),(37,(.int .i64 by_)),(38,(.pointer (some ⟨T,9,none⟩))),(39,(.int .i64 at_)),(40,(.pointer (some ⟨T,10,none⟩))),(41,(.string md)),(42,(.pointer (some ⟨T,2,none⟩))),(43,(.string nm)),(45,(.pointer (some ⟨Q,0,none⟩))),(46,(.pointer (some ⟨T,1,none⟩))),(47,(.int .i64 by_)),(48,(.pointer (some ⟨T,9,none⟩))),(49,(.int .i64 at_)),(50,(.pointer (some ⟨T,10,none⟩))),(51,(.string md)),(52,(.pointer (some ⟨T,2,none⟩))),(53,(.string nm)),(55,(.bool true)),(6,(.bool true))] (fun bsE vsE W=> oC w0 W0 B R Q vb vb2 a a' T #[.int .u8 (do_:Int),.int .i64 by_,.string nm,.int .i64 k,.int .i64 t,.int .i64 ea,.int .i64 eb,.string n1,.string ot,.int .i64 at_,.string md,.string bt,.int .i64 t0,.int .i64 t1,.string rs] cc (bsE.getD 0 false) (bsE.getD 1 false) ((vsE.getD 0 undef)) ((vsE.getD 1 undef)) W) (by kernel_rfl) (by kernel_rfl) rfl rfl (by kernel_rfl) (by rfl) ?h0 ?each ?done
 case h0=>
  intro vsE hlv
  obtain⟨v0,v1,rfl⟩:=cd hlv
  exact⟨HT.out.step (Below.refl _ _).drew,(Below.refl B W0).drew,HX.out,(fun _=> rfl),(fun e=> by cases e),(fun e=> by cases e)⟩
 case each=>
  simp only [dp]
  refine⟨⟨35,(.pointer (some ⟨R,0,none⟩)),rfl,by kernel_rfl,?_⟩,⟨36,(.pointer (some ⟨T,1,none⟩)),rfl,by kernel_rfl,?_⟩,⟨37,(.int .i64 by_),rfl,by kernel_rfl,?_⟩,⟨38,(.pointer (some ⟨T,9,none⟩)),rfl,by kernel_rfl,?_⟩,⟨39,(.int .i64 at_),rfl,by kernel_rfl,?_⟩,⟨40,(.pointer (some ⟨T,10,none⟩)),rfl,by kernel_rfl,?_⟩,⟨41,(.string md),rfl,by kernel_rfl,?_⟩,⟨42,(.pointer (some ⟨T,2,none⟩)),rfl,by kernel_rfl,?_⟩,⟨43,(.string nm),rfl,by kernel_rfl,?_⟩,ax ⟨44,rfl,?q2_9⟩,⟨45,(.pointer (some ⟨Q,0,none⟩)),rfl,by kernel_rfl,?_⟩,⟨46,(.pointer (some ⟨T,1,none⟩)),rfl,by kernel_rfl,?_⟩,⟨47,(.int .i64 by_),rfl,by kernel_rfl,?_⟩,⟨48,(.pointer (some ⟨T,9,none⟩)),rfl,by kernel_rfl,?_⟩,⟨49,(.int .i64 at_),rfl,by kernel_rfl,?_⟩,⟨50,(.pointer (some ⟨T,10,none⟩)),rfl,by kernel_rfl,?_⟩,⟨51,(.string md),rfl,by kernel_rfl,?_⟩,⟨52,(.pointer (some ⟨T,2,none⟩)),rfl,by kernel_rfl,?_⟩,⟨53,(.string nm),rfl,by kernel_rfl,?_⟩,ax ⟨54,rfl,?q2_19⟩,⟨55,(.bool true),rfl,by kernel_rfl,?q2_20⟩,⟨6,(.bool true),rfl,by kernel_rfl,?_⟩,trivial⟩
  case q2_9=>
   intro bsE vsE W hlb hlv hnd hbk h
   obtain⟨b0,b1,rfl⟩:=cd hlb
   obtain⟨v0,v1,rfl⟩:=cd hlv
   obtain rfl:b0=false:=hbk
   replace h:oC w0 W0 B R Q vb vb2 a a' T #[.int .u8 (do_:Int),.int .i64 by_,.string nm,.int .i64 k,.int .i64 t,.int .i64 ea,.int .i64 eb,.string n1,.string ot,.int .i64 at_,.string md,.string bt,.int .i64 t0,.int .i64 t1,.string rs] cc false b1 (v0) (v1) W:=h
   clear hnd
   have HST:=aa h
   obtain rfl:=h.n rfl
   intro K Q hK
   simp only [az,updAll,Act.put,aU,aV,aW,aX] at hK ⊢
   go_wp2_with (go_at_call 55;refine(CP.out _ h.t).mono ?_;rintro en w9 ⟨rfl,q1,q2,q3⟩)
   all_goals(have hm:=h.mk0 q1 q2 q3)
   all_goals(first | exact hK _ _ hm | exact hm)
  case q2_19=>
   intro bsE vsE W hlb hlv hnd hbk h
   obtain⟨b0,b1,rfl⟩:=cd hlb
   obtain⟨v0,v1,rfl⟩:=cd hlv
   obtain rfl:b0=true:=hnd 0 (by simp)
   obtain rfl:b1=false:=hbk
   replace h:oC w0 W0 B R Q vb vb2 a a' T #[.int .u8 (do_:Int),.int .i64 by_,.string nm,.int .i64 k,.int .i64 t,.int .i64 ea,.int .i64 eb,.string n1,.string ot,.int .i64 at_,.string md,.string bt,.int .i64 t0,.int .i64 t1,.string rs] cc true false (v0) (v1) W:=h
   clear hnd
   have HST:=aa h
   skip
   intro K Q hK
   simp only [az,updAll,Act.put,aU,aV,aW,aX] at hK ⊢
   go_wp2_with (go_at_call 74;refine(CR.out _ h.t).mono ?_;rintro en w9 ⟨rfl,q1,q2,q3⟩)
   all_goals(have hm:=h.mk1 q1 q2 q3)
   all_goals(first | exact hK _ _ hm | exact hm)
  case q2_20=>
   intro bsE vsE W hlb hlv hnd h
   obtain⟨b0,b1,rfl⟩:=cd hlb
   obtain⟨v0,v1,rfl⟩:=cd hlv
   obtain rfl:b0=true:=hnd 0 (by simp)
   obtain rfl:b1=true:=hnd 1 (by simp)
   replace h:oC w0 W0 B R Q vb vb2 a a' T #[.int .u8 (do_:Int),.int .i64 by_,.string nm,.int .i64 k,.int .i64 t,.int .i64 ea,.int .i64 eb,.string n1,.string ot,.int .i64 at_,.string md,.string bt,.int .i64 t0,.int .i64 t1,.string rs] cc true true (v0) (v1) W:=h
   clear hnd
   have HST:=aa h
   obtain rfl:=h.e0 rfl;obtain rfl:=h.e1 rfl
   intro K Q hK
   simp only [az,updAll,Act.put,aU,aV,aW,aX] at hK ⊢
   go_wp2_with (fail)
   all_goals(first | exact hK _ h | exact h)
  all_goals
   intro bsE vsE W hlb hlv hnd h
   obtain⟨b0,b1,rfl⟩:=cd hlb
   obtain⟨v0,v1,rfl⟩:=cd hlv
   replace h:oC w0 W0 B R Q vb vb2 a a' T #[.int .u8 (do_:Int),.int .i64 by_,.string nm,.int .i64 k,.int .i64 t,.int .i64 ea,.int .i64 eb,.string n1,.string ot,.int .i64 at_,.string md,.string bt,.int .i64 t0,.int .i64 t1,.string rs] cc b0 b1 (v0) (v1) W:=h
   clear hnd
   have HST:=aa h
   have hbx:=h.bx;obtain⟨y0,y1,y2,y3,y4,y5,y6,y7,y8,y9,y10,y11,y12,y13,y14⟩:=e7 hbx;have yl:=ak hbx;clear hbx
   intro K Q hK
   simp only [az,updAll,Act.put,aU,aV,aW,aX] at hK ⊢
   go_wp2_with (fail)
   all_goals(first | exact hK _ h | exact h)
 case done=>
  intro vsE W hlv h
  obtain⟨v0,v1,rfl⟩:=cd hlv
  replace h:oC w0 W0 B R Q vb vb2 a a' T #[.int .u8 (do_:Int),.int .i64 by_,.string nm,.int .i64 k,.int .i64 t,.int .i64 ea,.int .i64 eb,.string n1,.string ot,.int .i64 at_,.string md,.string bt,.int .i64 t0,.int .i64 t1,.string rs] cc true true (v0) (v1) W:=h
  have HST:=aa h
  have HT9:=aa h.t
  have HB9:=aa (HBB.out.trans h.bel)
  clear h HST
  simp only [az,updAll,Act.put,aU,aV,aW,aX]
  go_wp2_with fail
  exact aH (v:=.bool true) rfl rfl rfl ⟨rfl,HT9.out,HB9.out⟩
theorem zz {w0 w:World} {B R Q:Nat} {vb vb2:Value} {a:RegA} (h:ep w0 B R Q vb vb2 a a w)(ho:dc a)(hd:HdI a)(hG:dn w0)(do_:Nat)(by_:Int)(nm:ByteArray)(k t ea eb:Int)(n1 ot:ByteArray)(at_:Int)(md bt:ByteArray)(t0 t1:Int)(rs:ByteArray)(hs:vF ⟨do_,by_,nm,(k,t,ea,eb,n1,ot),at_,md,bt,t0,t1,rs⟩)(h8:do_ < 256)(hr:do_ % 3=2):
  Calls Tryz.prog 28 #[.pointer (some ⟨R,0,none⟩),.pointer (some ⟨Q,0,none⟩),.agg #[.int .u8 (do_:Int),.int .i64 by_,.string nm,.int .i64 k,.int .i64 t,.int .i64 ea,.int .i64 eb,.string n1,.string ot,.int .i64 at_,.string md,.string bt,.int .i64 t0,.int .i64 t1,.string rs]] w fun e w'=> e=.returned (.bool true)∧ep w0 B R Q vb vb2 (aE a by_ at_ bt t0 t1 rs).2.2 (aE a by_ at_ bt t0 t1 rs).2.2 w'∧Below B w w':=by
 have HT0:=aa h
 have HO:=aa ho
 have HD:=aa hd
 have HG:=aa hG
 have HS:=aa hs
 have hq:Int.tmod (do_:Int) 3=2:=by rw [Int.tmod_eq_emod_of_nonneg (by omega)];omega
 have CP:Hid (∀ W,ep w0 B R Q vb vb2 a a W→Calls Tryz.prog 19 #[.pointer (some ⟨R,0,none⟩),.int .i64 by_,.int .i64 at_,.string bt,.int .i64 t0,.int .i64 t1,.string rs] W fun en w'=> ∃ v',en=.returned (.tuple #[v',.int .i64 (aE a by_ at_ bt t0 t1 rs).1])∧w'.ownsRow W.heap.size 9 1 v' (aE a by_ at_ bt t0 t1 rs).2.1.length ((aE a by_ at_ bt t0 t1 rs).2.1.map Value.string)∧ep w0 B R Q vb vb2 (aE a by_ at_ bt t0 t1 rs).2.2 a w'∧Below B W w'∧dJ W w'):=fun W hT=> xU hT HO.out HG.out by_ at_ bt t0 t1 rs ⟨HS.out.bt,HS.out.rs⟩
 have CR:Hid (∀ W,ep w0 B R Q vb vb2 (aE a by_ at_ bt t0 t1 rs).2.2 a W→Calls Tryz.prog 75 #[.pointer (some ⟨Q,0,none⟩),.int .i64 by_,.int .i64 at_,.string bt,.int .i64 t0,.int .i64 t1,.string rs] W fun en w'=> ∃ v',en=.returned (.tuple #[v',.int .i64 (aE a by_ at_ bt t0 t1 rs).1])∧w'.ownsRow W.heap.size 9 1 v' (aE a by_ at_ bt t0 t1 rs).2.1.length ((aE a by_ at_ bt t0 t1 rs).2.1.map Value.string)∧ep w0 B R Q vb vb2 (aE a by_ at_ bt t0 t1 rs).2.2 (aE a by_ at_ bt t0 t1 rs).2.2 w'∧Below B W w'∧fh W w'):=fun W hT=> xW hT HO.out HD.out by_ at_ bt t0 t1 rs
 have HRL:Hid ((aE a by_ at_ bt t0 t1 rs).2.1.length≤1000000):=vV ho
 generalize(aE a by_ at_ bt t0 t1 rs)=ans at*
 obtain⟨cc,ns,a'⟩:=ans
 dsimp only at*
 have HX:=aa (au w (.cells #[.int .u8 (do_:Int),.int .i64 by_,.string nm,.int .i64 k,.int .i64 t,.int .i64 ea,.int .i64 eb,.string n1,.string ot,.int .i64 at_,.string md,.string bt,.int .i64 t0,.int .i64 t1,.string rs] 74))
 have HB:=aa (bU (W:=w) (o:=(.cells #[.int .u8 (do_:Int),.int .i64 by_,.string nm,.int .i64 k,.int .i64 t,.int .i64 ea,.int .i64 eb,.string n1,.string ot,.int .i64 at_,.string md,.string bt,.int .i64 t0,.int .i64 t1,.string rs] 74)))
 have HSZ:Hid (B≤w.heap.size):=by obtain⟨g,vp,vP,X,q⟩:=h;exact q.size
 clear h ho hd hG hs
 go_enter Tryz.func28,Tryz.ntmps28
 go_upto_region 1 with fail
 have HT:=aa (HT0.out.step HB.out)
 have HBB:=aa (HB.out.mono HSZ.out)
 clear HT0
 generalize w.alloc (.cells #[.int .u8 (do_:Int),.int .i64 by_,.string nm,.int .i64 k,.int .i64 t,.int .i64 ea,.int .i64 eb,.string n1,.string ot,.int .i64 at_,.string md,.string bt,.int .i64 t0,.int .i64 t1,.string rs] 74)=W0 at*
 generalize w.heap.size=T at*
 obtain⟨x0,x1,x2,x3,x4,x5,x6,x7,x8,x9,x10,x11,x12,x13,x14⟩:=e7 HX.out;have xl:=ak HX.out
 go_wp2_with (first | (go_at_call 19;refine(CP.out _ HT.out).mono ?_;rintro e w1 ⟨v1,rfl,ho1,q1,q2,q3⟩;have HX2:=aa (q3 T _ _ _ HX.out (by decide) (by decide) (by decide));have HT2:=aa q1;have HB2:=aa (HBB.out.trans q2);have HS1:=aa ho1;clear ho1 q1 q2 q3 x0 x1 x2 x3 x4 x5 x6 x7 x8 x9 x10 x11 x12 x13 x14 xl;obtain⟨x0,x1,x2,x3,x4,x5,x6,x7,x8,x9,x10,x11,x12,x13,x14⟩:=e7 HX2.out;have xl:=ak HX2.out) | (go_at_call 75;refine(CR.out _ HT2.out).mono ?_;rintro e w2 ⟨v2,rfl,ho2,q1,q2,q3⟩;have HT3:=aa q1;have HB3:=aa (HB2.out.trans q2);have HS2:=aa (q3.own HS1.out (by decide));have HS3:=aa ho2;have CT:=aa (mz (bH.of_own HS2.out) (bH.of_own HS3.out) HRL.out);clear ho2 q1 q2 q3) | (go_at_call 76;refine CT.out.mono ?_;rintro e w3 ⟨rfl,hb3⟩;have HT4:=aa (HT3.out.step hb3);have HB4:=aa (HB3.out.trans (hb3.mono (by obtain⟨g,vp,vP,X,q⟩:=HT3.out;exact q.size)));clear hb3))
 exact aH (v:=.bool true) rfl rfl rfl ⟨rfl,HT4.out,HB4.out⟩
theorem mA {w0 w:World} {B R Q:Nat} {vb vb2:Value} {a:RegA} (h:ep w0 B R Q vb vb2 a a w)(ho:dc a)(hd:HdI a)(hG:dn w0)(d:Dd)(hs:vF d)(h8:d.do_ < 256):
  Calls Tryz.prog 28 #[.pointer (some ⟨R,0,none⟩),.pointer (some ⟨Q,0,none⟩),.agg (mq d).toArray] w fun e w'=> e=.returned (.bool true)∧ep w0 B R Q vb vb2 (rK a d) (rK a d) w'∧Below B w w':=by
 by_cases h0:d.do_ % 3=0
 ·rw [Ah h0]
  obtain⟨do_,by_,nm,⟨k,t,ea,eb,n1,ot⟩,at_,md,bt,t0,t1,rs⟩:=d
  exact zx h ho hd hG do_ by_ nm k t ea eb n1 ot at_ md bt t0 t1 rs hs h8 h0
 ·by_cases h1:d.do_ % 3=1
  ·rw [Ai h1]
   obtain⟨do_,by_,nm,⟨k,t,ea,eb,n1,ot⟩,at_,md,bt,t0,t1,rs⟩:=d
   exact zy h ho hd hG do_ by_ nm k t ea eb n1 ot at_ md bt t0 t1 rs hs h8 h1
  ·rw [Aj h0 h1]
   have h2:d.do_ % 3=2:=by omega
   obtain⟨do_,by_,nm,⟨k,t,ea,eb,n1,ot⟩,at_,md,bt,t0,t1,rs⟩:=d
   exact zz h ho hd hG do_ by_ nm k t ea eb n1 ot at_ md bt t0 t1 rs hs h8 h2
end
section
open Sx Go.RowKit Mr
theorem tg {B R:Nat} {a:RegA} {g:RegS} {vb vp:Value} {w:World} (h:bW B R vb a g vp w)(ho:dc a):Calls Tryz.prog 77 #[.pointer (some ⟨R,0,none⟩)] w fun e w'=> ∃ v',e=.returned v'∧w'.ownsRow w.heap.size 9 1 v' a.ps.length (a.ps.map fun p=> Value.string p.1)∧Below w.heap.size w w':=by
 have hok:=h.ok ho.toji
 have hnp:=ho.np
 have CV:=aa (dm h.ra hok.pt.1)
 obtain⟨j0,hj0,hy0,hy1,hy2⟩:=info_parts ia
 obtain⟨pa,cp,hvp⟩:=h.ra.vpS
 subst hvp
 have HLN:=aa h.len
 have H:=aa h
 have HC:=aa (ba h.ra.cells.2.2.1 h.ra.cells.2.2.2.1)
 clear h ho hok
 go_enter Tryz.func77,Tryz.ntmps77
 go_wp2_with (go_at_call 56;refine CV.out.mono ?_;rintro e w1 ⟨rfl,hbn⟩;have HB1:=aa hbn;have c10:=ag HC.out.1 hbn;have cR:=ar HC.out.2 hbn.size;clear hbn)
 clear c10 cR
 go_loopw [3,12] (fun v ix wr=> ∃ i:Nat,i≤g.qs.length∧ix=.int .i64 i∧Hid (wr.ownsRow w.heap.size 9 1 v i ((a.ps.take i).map fun p=> Value.string p.1))∧Hid (Below w.heap.size w wr)) (fun _ ix _=> g.qs.length - (intOf ix).toNat)
 case atStart=> exact⟨0,by omega,rfl,⟨rfl,ax ⟨rfl,rfl⟩⟩,HB1.out⟩
 case round=>
  obtain⟨i,hi,rfl,HO,HW⟩:=hrel
  have c10:=ag HC.out.1 HW.out
  have cR:=ar HC.out.2 HW.out.size
  by_cases hc:i < g.qs.length
  ·have c1:(i:Int) < g.qs.length:=by omega
   have c0:(0:Int)≤i:=by omega
   have hia:i < a.ps.length:=by have:=HLN.out;omega
   obtain⟨p,hk⟩:∃ p,a.ps[i]? =some p:=⟨a.ps[i],bh hia⟩
   have HS:Hid ((a.ps.take (i+1)).map (fun p=> Value.string p.1)=(a.ps.take i).map (fun p=> Value.string p.1)++[.string p.1]):=by show _=_;rw [List.take_add_one,hk,List.map_append];rfl
   obtain⟨PB,cp2,cur,ea,hPB,hbP,-⟩:=H.out.ra.packs (by rintro e;rw [e] at hc;simp at hc)
   cases ea
   obtain⟨q,hq,e1,e2,e3,e4⟩:=H.out.get hk
   have hL:=(H.out.ra.life rfl hq).1
   have n0:=ag hL.open1.1 HW.out
   rw [e1] at n0
   have lP:=ar (ak hbP) HW.out.size
   obtain⟨aO,cO,evO⟩:=aP HO.out
   subst evO
   clear hk hc hq e1 e2 e3 e4 hL hbP hPB
   generalize p.1=t1 at*
   go_wp2_with (at_builtin;refine bM _ rfl (.tmp 15) (.tmp 25) 47 rfl w.heap.size 9 j0 _ 1 16 Tryz.underlying47 hj0 hy0 hy1 hy2 rfl (by decide) _ i ((a.ps.take i).map fun p=> Value.string p.1) rfl (aD HO.out bU) (some ⟨wr.heap.size,0,none⟩) 1 1 [.string t1] rfl rfl dr (lu _) (by unfold maxLen;omega) (by omega) (by have:=HW.out.size;simp;omega) ?_;intro v' w5 hown hgrow hat;have hO2:Hid (w5.ownsRow w.heap.size 9 1 v' (i+1) ((a.ps.take (i+1)).map fun p=> Value.string p.1)):=(by show World.ownsRow _ _ _ _ _ _ _;rw [HS.out];exact hown);have hB2:Hid (Below w.heap.size w w5):=(aK HW.out _).grown hgrow (by have:=HW.out.size;simp;omega) (fun k hk=> (World.ownsRow.lt HO.out k hk).1);clear hown hgrow hat)
   exact⟨⟨i+1,by omega,by push_cast;rfl,hO2,hB2⟩,by simp [intOf];omega⟩
  ·obtain rfl:i=g.qs.length:=by omega
   have hO:Hid (wr.ownsRow w.heap.size 9 1 u3 a.ps.length (a.ps.map fun p=> Value.string p.1)):=by have q:=HO.out;rw [HLN.out,List.take_of_length_le (bz _)] at q;exact q
   obtain⟨aO,cO,evO⟩:=aP hO.out
   subst evO
   clear hc
   go_wp2_with fail
   exact bc (v:=.slice aO a.ps.length cO) (by simp only [results,Tryz.results77];go_simp) rfl ⟨_,rfl,hO.out,HW.out⟩
end
end Go.Proofs.YtmpilgkfbibhlaaGreatDoor
