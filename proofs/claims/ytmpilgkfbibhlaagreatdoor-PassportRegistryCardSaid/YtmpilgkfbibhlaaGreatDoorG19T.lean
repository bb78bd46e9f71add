/-
 G19T
-/
import Derived.Test.YtmpilgkfbibhlaaGreatDoorG18T
import Derived.Great.Walk
import Derived.Deep.CutBlock
set_option linter.unusedSimpArgs false
set_option linter.unusedVariables false
set_option maxRecDepth 100000
set_option maxHeartbeats 20000000
namespace Go.Proofs.YtmpilgkfbibhlaaGreatDoor
section
open Sx Go.RowKit Mr
section
variable {P:World→Prop} {A0 A:Value→World→Prop} {C:Value→Value} {b0 b1 b2 b3 b4:Bool} {v0 v1 v2 v3 v4 v':Value} {W w2:World}
end
theorem mh {B c:Nat} {a:Option Addr} {h:List bQ} {W:World} (ho:W.ownsRow B 29 6 (.slice a h.length c) h.length (eh h)):eK a h W:=fun hn=> by
 have hl:h.length≠0:=fun e=> hn (eF e)
 obtain⟨b,rfl,hb,hc⟩:=eD (b:=0) (c:=c) ho hl
 refine⟨b,0,rfl,hb,fun k e hk j u hj=> ?_⟩
 rw [Nat.zero_add]
 exact hc _ _ (uJ hk hj)
theorem dc.legA {a:RegA} (ho:dc a){p:ByteArray×List bR} (hp:p∈a.ps):o6 p.1 (br p.2):=by
 obtain⟨h1,h2,h3,h4⟩:=ho.p p hp
 exact⟨h4,by rw [dd];exact h1,h2,h3⟩
def mi(es:List bR)(v:Value)(W:World):Prop:=∃ a c,v=.slice a (br es).length c∧eK a (br es) W
end
section
open Go.RowKit Mr
theorem rI:(Tryz.prog.info? 9).map (fun i=> (i.zero,i.size,i.bytes))=some (some (.string ⟨#[]⟩),1,16):=by kernel_rfl
structure OS(w:World)(l:List ByteArray)(v:Value)(W:World):Prop where
 own:W.ownsRow w.heap.size 9 1 v l.length (l.map Value.string)
 bel:Below w.heap.size w W
structure qw(w:World)(l m:List ByteArray)(v u:Value)(W:World):Prop where
 r1:W.ownsRow w.heap.size 9 1 v l.length (l.map Value.string)
 r2:W.ownsRow w.heap.size 9 1 u m.length (m.map Value.string)
 far:Far v u
 bel:Below w.heap.size w W
section
variable {w W w2:World} {l m:List ByteArray} {v u u':Value} {t:ByteArray}
theorem OS.step(h:OS w l v W)(hb:Below W.heap.size W w2):OS w l v w2:=⟨aD h.own hb,ai h.bel hb⟩
theorem OS.nil(w:World):OS w [] (.slice none 0 0) w:=⟨⟨rfl,ax ⟨rfl,rfl⟩⟩,Below.refl _ _⟩
theorem OS.app {w5:World} (h:OS w l v W)(ho:w5.ownsRow w.heap.size 9 1 u' (l.length+1) (l.map Value.string++[.string t]))(hg:W.grownBy w5 v.ownBlock):OS w (l++[t]) u' w5:=by
 refine⟨?_,h.bel.grown hg h.bel.size fun k hk=> (World.ownsRow.lt h.own k hk).1⟩
 rw [cY,List.map_append];exact ho
theorem OS.two(h:OS w l v W):qw w l [] v (.slice none 0 0) W:=⟨h.own,⟨rfl,ax ⟨rfl,rfl⟩⟩,(fun k _ e=> by cases e),h.bel⟩
theorem qw.step(h:qw w l m v u W)(hb:Below W.heap.size W w2):qw w l m v u w2:=⟨aD h.r1 hb,aD h.r2 hb,h.far,ai h.bel hb⟩
theorem qw.app {w5:World} (h:qw w l m v u W)(ho:w5.ownsRow w.heap.size 9 1 u' (m.length+1) (m.map Value.string++[.string t]))(hg:W.grownBy w5 u.ownBlock)(hat:u'.ownBlock=u.ownBlock∨u'.ownBlock=some W.heap.size):qw w l (m++[t]) v u' w5:=by
 refine⟨World.ownsRow.kept h.r1 hg h.far.ne,?_,fun k e1 e2=> ?_,h.bel.grown hg h.bel.size fun k hk=> (World.ownsRow.lt h.r2 k hk).1⟩
 ·rw [cY,List.map_append];exact ho
 ·rcases hat with q | q
  ·exact h.far k e1 (q.symm.trans e2)
  ·rw [q] at e2
   have:=(World.ownsRow.lt h.r1 k e1).2
   simp at e2
   omega
theorem qw.snd(h:qw w l m v u W):OS w m u W:=⟨h.r2,h.bel⟩
theorem qw.fst(h:qw w l m v u W):OS w l v W:=⟨h.r1,h.bel⟩
theorem OS.srow(h:OS w l v W):bH v l W:=bH.of_own h.own
theorem OS.cells(h:OS w l v W):∃ a c,v=.slice a l.length c∧(l≠[]→∃ b,a=some ⟨b,0,none⟩∧b < W.heap.size∧∀ (j:Nat) (t:ByteArray),l[j]? =some t→W.cell? ⟨b,j,none⟩=some (.string t)):=by
 obtain⟨a,c,h1,h2⟩:=Rw.Own.get (r:=⟨9,1,v,l.length,l.map Value.string⟩) h.own
 refine⟨a,c,h1,fun hn=> ?_⟩
 obtain⟨g,e1,e2,e3⟩:=h2 (by dsimp only;have:l.length≠0:=fun c=> hn (eF c);omega)
 exact⟨g,e1,e2,fun j t hj=> e3 j _ (by dsimp only;rw [bX,hj];rfl)⟩
end
theorem nC(h:List bQ)(e:bQ):opnsOf (h++[e])=eG (opnsOf h) e:=by unfold opnsOf;rw [List.foldl_append];rfl
theorem sU {h:List bQ} {i:Nat} {e:bQ} (hk:h[i]? =some e):opnsOf (h.take (i+1))=eG (opnsOf (h.take i)) e:=by rw [List.take_add_one,hk];exact nC _ _
theorem mj {l:List ByteArray} {k:Nat} {t s:ByteArray} (hk:l[k]? =some t):dropT (l.take (k+1)) s=dropT (l.take k) s++(if fS t s=true then [] else [t]):=by
 unfold dropT
 rw [List.take_add_one,hk,List.filter_append]
 congr 1
 by_cases c:fS t s=true
 ·rw [aG c];simp [c]
 ·rw [aA c];simp [c]
theorem ml(l:List ByteArray)(s:ByteArray):(dropT l s).length≤l.length:=List.length_filter_le _ l
theorem pj(h:List bQ):(opnsOf h).length≤h.length:=by
 induction h using eH with
 | h0=> exact bz _
 | h1 l e ih=>
  rw [nC,cY]
  obtain⟨k,t,a,b,nm,ot⟩:=e
  show(eG (opnsOf l) (k,t,a,b,nm,ot)).length≤l.length+1
  unfold eG
  dsimp only
  split
  ·rw [cY,List.length_singleton];omega
  ·split
   ·have:(dropT (opnsOf l) nm).length≤(opnsOf l).length:=List.length_filter_le _ _
    omega
   ·omega
theorem kK {a:Option Addr} {h:List bQ} {w:World} (c:Nat)(hh:eK a h w)(hl:h.length≤100000):Calls Tryz.prog 112 #[.slice a h.length c] w fun en w'=> ∃ v,en=.returned v∧OS w (opnsOf h) v w':=by
 obtain⟨i0,hi,hz0,hz1,hz2⟩:=info_parts rI
 have H:=aa hh
 clear hh
 go_enter Tryz.func112,Tryz.ntmps112
 go_wp2_with fail
 go_loopw [3,4,5,6] (fun v ix _ _ wr=> ∃ i:Nat,i≤h.length∧ix=.int .i64 i∧Hid (OS w (opnsOf (h.take i)) v wr)) (fun _ ix _ _ _=> h.length - (intOf ix).toNat)
 case atStart=> exact⟨0,by omega,rfl,OS.nil w⟩
 case round=>
  obtain⟨i,hi2,rfl,HO⟩:=hrel
  by_cases hc:i < h.length
  ·have c1:(i:Int) < h.length:=by omega
   have c0:(0:Int)≤i:=by omega
   obtain⟨e,hk⟩:∃ e,h[i]? =some e:=⟨h[i],bh hc⟩
   obtain⟨b,off,rfl,hb0,hcs⟩:=H.out (by rintro rfl;simp at hc)
   have HS:=aa (sU hk)
   have hL9:(opnsOf (h.take i)).length≤100000:=by have:=pj (h.take i);rw [List.length_take] at this;omega
   obtain⟨k,t,a1,b1,nm,ot⟩:=e
   have G0:Hid (w.cell? ⟨b,off+i*6,none⟩=some (.int .i64 k)):=hcs i _ hk 0 _ rfl
   have G4:Hid (w.cell? ⟨b,off+i*6+4,none⟩=some (.string nm)):=hcs i _ hk 4 _ rfl
   have g0:=ag G0.out HO.out.bel
   have g4:=ag G4.out HO.out.bel
   have HSZ:=aa HO.out.bel.size
   obtain⟨av,cv,rfl,hv⟩:=HO.out.cells
   clear hcs hk hc hv
   generalize opnsOf (h.take i)=L at*
   by_cases k7:k=7
   ·subst k7
    have HS2:Hid (opnsOf (h.take (i+1))=L++[nm]):=HS.out
    clear HS
    go_wp2_with (at_builtin;refine bM _ rfl (.tmp 19) (.tmp 25) 47 rfl w.heap.size 9 i0 _ 1 16 Tryz.underlying47 hi hz0 hz1 hz2 rfl (by decide) _ L.length (L.map Value.string) rfl (aD HO.out.own (bU (o:=.cells #[.string nm] 9))) (some ⟨wr.heap.size,0,none⟩) 1 1 [.string nm] rfl rfl dr (lu nm) (by unfold maxLen;omega) (by omega) (by have:=HSZ.out;simp;omega) ?_;intro v' w5 hown hgrow hat;have hO2:Hid (OS w (opnsOf (h.take (i+1))) v' w5):=(by unfold Hid;rw [HS2.out];exact(HO.out.step (bU (o:=.cells #[.string nm] 9))).app hown hgrow);have g0:=ag G0.out hO2.out.bel;clear hown hgrow hat)
    exact⟨⟨i+1,by omega,by push_cast;rfl,hO2⟩,by simp [intOf];omega⟩
   ·by_cases k8:k=8
    ·subst k8
     have HS2:Hid (opnsOf (h.take (i+1))=dropT L nm):=HS.out
     clear HS k7
     have HT:=aa HO.out.two
     go_wp2_with fail
     clear g0 g4
     go_loopw [5,6] (fun v jx wr=> ∃ j:Nat,j≤L.length∧jx=.int .i64 j∧Hid (qw w L (dropT (L.take j) nm) (.slice av L.length cv) v wr)) (fun _ jx _=> L.length - (intOf jx).toNat)
     case atStart=> exact⟨0,by omega,rfl,HT⟩
     case round=>
      clear HO HT HSZ
      obtain⟨j,hj,rfl,HT⟩:=hrel
      have HSZ:=aa HT.out.bel.size
      by_cases hc:j < L.length
      ·have c2:(j:Int) < L.length:=by omega
       have c3:(0:Int)≤j:=by omega
       obtain⟨s,hs⟩:∃ s,L[j]? =some s:=⟨L[j],bh hc⟩
       obtain⟨av3,cv3,e3,hv⟩:=HT.out.fst.cells
       obtain⟨rfl,-,rfl⟩:av=av3∧True∧cv=cv3:=by injection e3 with q1 q2 q3;exact⟨q1,trivial,q3⟩
       clear e3
       obtain⟨bL,rfl,hbL,hLc⟩:=hv (by rintro rfl;simp at hc)
       have l0:=hLc j s hs
       have g4:=ag G4.out HT.out.bel
       have HD:=aa (mj (s:=nm) hs)
       have hDl:(dropT (L.take j) nm).length≤100000:=by have:=ml (L.take j) nm;rw [List.length_take] at this;omega
       clear hLc hs hc
       by_cases he:(s.toList==nm.toList)=true
       ·have HD2:Hid (dropT (L.take (j+1)) nm=dropT (L.take j) nm):=by unfold Hid;rw [HD.out,aG (show fS s nm=true from he),List.append_nil]
        clear HD
        go_upto_region 12 with fail
        go_quiet (fail)
        have HT3:=aa (HT.out.step (aI (n:=nq) (Below.refl _ _)))
        clear HT g4 l0
        go_wp2_with fail
        exact⟨⟨j+1,by omega,by push_cast;rfl,by rw [HD2.out];exact HT3⟩,by simp [intOf];omega⟩
       ·have he2:(s.toList==nm.toList)=false:=by simpa using he
        have HD2:Hid (dropT (L.take (j+1)) nm=dropT (L.take j) nm++[s]):=by unfold Hid;rw [HD.out,aA (show ¬ fS s nm=true from he)]
        clear HD he
        generalize dropT (L.take j) nm=D at*
        go_upto_region 12 with fail
        go_quiet (fail)
        have HT3:=aa (HT.out.step (aI (n:=nq) (Below.refl _ _)))
        go_wp2_with (at_builtin;refine bM _ rfl (.tmp 49) (.tmp 54) 47 rfl w.heap.size 9 i0 _ 1 16 Tryz.underlying47 hi hz0 hz1 hz2 rfl (by decide) _ D.length (D.map Value.string) rfl (aD HT3.out.r2 (bU (o:=.cells #[.string s] 9))) (some ⟨(wr.drewN nq).heap.size,0,none⟩) 1 1 [.string s] rfl rfl dr (lu s) (by unfold maxLen;omega) (by omega) (by have:=HSZ.out;simp;omega) ?_;intro v' w5 hown hgrow hat;have hO2:Hid (qw w L (dropT (L.take (j+1)) nm) (.slice (some ⟨bL,0,none⟩) L.length cv) v' w5):=(by unfold Hid;rw [HD2.out];exact(HT3.out.step (bU (o:=.cells #[.string s] 9))).app hown hgrow hat);clear hown hgrow hat)
        exact⟨⟨j+1,by omega,by push_cast;rfl,hO2⟩,by simp [intOf];omega⟩
      ·obtain rfl:j=L.length:=by omega
       have hO2:Hid (OS w (opnsOf (h.take (i+1))) u5 wr):=by have q:=HT.out.snd;rw [List.take_of_length_le (bz _)] at q;unfold Hid;rw [HS2.out];exact q
       clear hc hj
       go_wp2_with fail
       exact⟨⟨i+1,by omega,by push_cast;rfl,hO2⟩,by simp [intOf];omega⟩
    ·have HS2:Hid (opnsOf (h.take (i+1))=L):=by have q:=HS.out;unfold eG at q;dsimp only at q;rw [aA k7,aA k8] at q;exact q
     clear HS
     go_wp2_with fail
     exact⟨⟨i+1,by omega,by push_cast;rfl,by rw [HS2.out];exact HO⟩,by simp [intOf];omega⟩
  ·obtain rfl:i=h.length:=by omega
   have hO:Hid (OS w (opnsOf h) u3 wr):=by have q:=HO.out;rw [List.take_of_length_le (bz _)] at q;exact q
   obtain⟨a9,c9,e9,-⟩:=hO.out.cells
   subst e9
   clear hc
   go_wp2_with fail
   exact bc (v:=.slice a9 (opnsOf h).length c9) (by simp only [results,Tryz.results112];go_simp) rfl ⟨_,rfl,hO.out⟩
end
section
open Go.RowKit Mr
theorem nD(name:ByteArray)(h:List bQ)(e:bQ):modsOf name (h++[e])=dj name (modsOf name h) e:=by unfold modsOf;rw [List.foldl_append];rfl
theorem sV {name:ByteArray} {h:List bQ} {i:Nat} {e:bQ} (hk:h[i]? =some e):modsOf name (h.take (i+1))=dj name (modsOf name (h.take i)) e:=by rw [List.take_add_one,hk];exact nD _ _ _
def yf(h:List bQ):Prop:=∀ e∈h,e.1=1→e.2.2.2.1≤32
theorem kg(name:ByteArray)(h:List bQ)(hf:yf h):(modsOf name h).length≤32*h.length:=by
 induction h using eH with
 | h0=> exact bz _
 | h1 l e ih=>
  have ih2:=ih fun e' he'=> hf e' (List.mem_append_left _ he')
  have h32:=hf e (by simp)
  rw [nD,cY]
  obtain⟨k,t,a,b,nm,ot⟩:=e
  show(dj name (modsOf name l) (k,t,a,b,nm,ot)).length≤32*(l.length+1)
  unfold dj
  dsimp only at h32 ⊢
  split
  ·rename_i c
   have:=h32 c
   simp only [cY,List.length_map,List.length_range];omega
  ·split
   ·rw [cY,List.length_singleton];omega
   ·split
    ·have:(dropT (modsOf name l) nm).length≤(modsOf name l).length:=List.length_filter_le _ _
     omega
    ·omega
theorem yf.take {h:List bQ} (hf:yf h)(i:Nat):yf (h.take i):=fun e he=> hf e (List.mem_of_mem_take he)
theorem io {a:Option Addr} {h:List bQ} {w:World} (c:Nat)(name:ByteArray)(hh:eK a h w)(hl:h.length≤10000)(hf:yf h)(hnm:name.size≤1000):Calls Tryz.prog 110 #[.string name,.slice a h.length c] w fun en w'=> ∃ v,en=.returned v∧OS w (modsOf name h) v w':=by
 obtain⟨i0,hi,hz0,hz1,hz2⟩:=info_parts rI
 have H:=aa hh
 have HNM:=aa hnm
 have HF:=aa hf
 clear hh hnm hf
 go_enter Tryz.func110,Tryz.ntmps110
 go_wp2_with fail
 go_loopw [5,6,7,8,9] (fun v ix _ _ _ wr=> ∃ i:Nat,i≤h.length∧ix=.int .i64 i∧Hid (OS w (modsOf name (h.take i)) v wr)) (fun _ ix _ _ _ _=> h.length - (intOf ix).toNat)
 case atStart=> exact⟨0,by omega,rfl,OS.nil w⟩
 case round=>
  obtain⟨i,hi2,rfl,HO⟩:=hrel
  by_cases hc:i < h.length
  ·have c1:(i:Int) < h.length:=by omega
   have c0:(0:Int)≤i:=by omega
   obtain⟨e,hk⟩:∃ e,h[i]? =some e:=⟨h[i],bh hc⟩
   obtain⟨b,off,rfl,hb0,hcs⟩:=H.out (by rintro rfl;simp at hc)
   have HS:=aa (sV (name:=name) hk)
   have hL9:(modsOf name (h.take i)).length≤400000:=by have:=kg name (h.take i) (HF.out.take i);rw [List.length_take] at this;omega
   have h32:=HF.out e (aJ hk)
   obtain⟨k,t,a1,b1,nm,ot⟩:=e
   have G0:Hid (w.cell? ⟨b,off+i*6,none⟩=some (.int .i64 k)):=hcs i _ hk 0 _ rfl
   have G3:Hid (w.cell? ⟨b,off+i*6+3,none⟩=some (.int .i64 b1)):=hcs i _ hk 3 _ rfl
   have G4:Hid (w.cell? ⟨b,off+i*6+4,none⟩=some (.string nm)):=hcs i _ hk 4 _ rfl
   have g0:=ag G0.out HO.out.bel
   have g3:=ag G3.out HO.out.bel
   have g4:=ag G4.out HO.out.bel
   have HSZ:=aa HO.out.bel.size
   obtain⟨av,cv,rfl,hv⟩:=HO.out.cells
   clear hcs hk hc hv
   generalize modsOf name (h.take i)=L at*
   by_cases k1:k=1
   ·subst k1
    have h33:=h32 rfl
    dsimp only at h33
    clear h32
    have HS2:Hid (modsOf name (h.take (i+1))=L++(List.range b1.toNat).map (modN name)):=HS.out
    clear HS
    go_wp2_with fail
    clear g0 g3 g4
    go_loopw [5,7] (fun v jx wr=> ∃ j:Nat,j≤b1.toNat∧jx=.int .i64 j∧Hid (OS w (L++ca name j) v wr)) (fun _ jx _=> b1.toNat - (intOf jx).toNat)
    case atStart=> exact⟨0,by omega,rfl,by unfold ca;simpa using HO⟩
    case round=>
     clear HO HSZ
     obtain⟨j,hj,rfl,HO⟩:=hrel
     have g3:=ag G3.out HO.out.bel
     obtain⟨av2,cv2,rfl,hv⟩:=HO.out.cells
     clear hv
     have HSZ:=aa HO.out.bel.size
     by_cases hc:j < b1.toNat
     ·have c2:(j:Int) < b1:=by omega
      have HIC:=aa (fun w=> lS (j:Int) (by omega) (by omega) w)
      clear hc
      have hty:(⟨(Lib.itoa (j:Int)).toArray⟩:ByteArray).size≤40:=by
       rw [Lib.size_eq]
       exact mT j (by omega)
      obtain⟨ty,hty2⟩:∃ ty:ByteArray,⟨(Lib.itoa (j:Int)).toArray⟩=ty:=⟨_,rfl⟩
      have HSN:Hid (L++ca name j++[modN name j]=L++ca name (j+1)):=by unfold Hid;rw [← mU,List.append_assoc]
      have hmn:modN name j=(name++⟨#[58]⟩)++⟨(Lib.itoa (j:Int)).toArray⟩:=rfl
      rw [hty2] at HIC hty hmn
      have q1:¬ 9223372036854775807 < name.size+1:=by have:=HNM.out;omega
      obtain⟨t1,ht1⟩:∃ t1:ByteArray,name++⟨#[58]⟩=t1:=⟨_,rfl⟩
      have st:t1.size=name.size+1:=by rw [← ht1];simp;rfl
      have q2:¬ 9223372036854775807 < t1.size+ty.size:=by have:=HNM.out;omega
      rw [ht1] at hmn
      have hLj:(L++ca name j).length≤500000:=by rw [cY,jP];omega
      generalize modN name j=t3 at*
      have ht3:=hmn.symm
      clear hmn hty2 st hty
      generalize L++ca name j=M at*
      go_upto_region 9 with(first | (go_at_call 123;refine(HIC.out _).mono ?_;rintro e w4 ⟨rfl,hb4⟩;have HO4:=aa (HO.out.step hb4);have HSZ4:=aa HO4.out.bel.size) | (at_builtin;refine bM _ rfl (.tmp 32) (.tmp 38) 47 rfl w.heap.size 9 i0 _ 1 16 Tryz.underlying47 hi hz0 hz1 hz2 rfl (by decide) _ M.length (M.map Value.string) rfl (aD HO4.out.own (bU (o:=.cells #[.string t3] 9))) (some ⟨w4.heap.size,0,none⟩) 1 1 [.string t3] rfl rfl dr (lu t3) (by unfold maxLen;omega) (by omega) (by have:=HSZ4.out;simp;omega) ?_;intro v' w5 hown hgrow hat;have hO2:Hid (OS w (L++ca name (j+1)) v' w5):=(by unfold Hid;rw [← HSN.out];exact(HO4.out.step (bU (o:=.cells #[.string t3] 9))).app hown hgrow);clear hown hgrow hat))
      go_wp2_with fail
      exact⟨⟨j+1,by omega,by push_cast;rfl,hO2⟩,by simp [intOf];omega⟩
     ·obtain rfl:j=b1.toNat:=by omega
      have c2:¬ (b1.toNat:Int) < b1:=by omega
      have hO2:Hid (OS w (modsOf name (h.take (i+1))) (.slice av2 (L++ca name b1.toNat).length cv2) wr):=by unfold Hid;rw [HS2.out];exact HO.out
      clear hc hj
      go_wp2_with fail
      exact⟨⟨i+1,by omega,by push_cast;rfl,hO2⟩,by simp [intOf];omega⟩
   ·clear h32
    by_cases k5:k=5
    ·subst k5
     have HS2:Hid (modsOf name (h.take (i+1))=L++[nm]):=HS.out
     clear HS k1
     go_wp2_with (at_builtin;refine bM _ rfl (.tmp 42) (.tmp 48) 47 rfl w.heap.size 9 i0 _ 1 16 Tryz.underlying47 hi hz0 hz1 hz2 rfl (by decide) _ L.length (L.map Value.string) rfl (aD HO.out.own (bU (o:=.cells #[.string nm] 9))) (some ⟨wr.heap.size,0,none⟩) 1 1 [.string nm] rfl rfl dr (lu nm) (by unfold maxLen;omega) (by omega) (by have:=HSZ.out;simp;omega) ?_;intro v' w5 hown hgrow hat;have hO2:Hid (OS w (modsOf name (h.take (i+1))) v' w5):=(by unfold Hid;rw [HS2.out];exact(HO.out.step (bU (o:=.cells #[.string nm] 9))).app hown hgrow);have g0:=ag G0.out hO2.out.bel;clear hown hgrow hat)
     exact⟨⟨i+1,by omega,by push_cast;rfl,hO2⟩,by simp [intOf];omega⟩
    ·by_cases k6:k=6
     ·subst k6
      have HS2:Hid (modsOf name (h.take (i+1))=dropT L nm):=HS.out
      clear HS k1 k5
      have HT:=aa HO.out.two
      go_wp2_with fail
      clear g0 g3 g4
      go_loopw [8,9] (fun v jx wr=> ∃ j:Nat,j≤L.length∧jx=.int .i64 j∧Hid (qw w L (dropT (L.take j) nm) (.slice av L.length cv) v wr)) (fun _ jx _=> L.length - (intOf jx).toNat)
      case atStart=> exact⟨0,by omega,rfl,HT⟩
      case round=>
       clear HO HT HSZ
       obtain⟨j,hj,rfl,HT⟩:=hrel
       have HSZ:=aa HT.out.bel.size
       by_cases hc:j < L.length
       ·have c2:(j:Int) < L.length:=by omega
        have c3:(0:Int)≤j:=by omega
        obtain⟨s,hs⟩:∃ s,L[j]? =some s:=⟨L[j],bh hc⟩
        obtain⟨av3,cv3,e3,hv⟩:=HT.out.fst.cells
        obtain⟨rfl,-,rfl⟩:av=av3∧True∧cv=cv3:=by injection e3 with q1 q2 q3;exact⟨q1,trivial,q3⟩
        clear e3
        obtain⟨bL,rfl,hbL,hLc⟩:=hv (by rintro rfl;simp at hc)
        have l0:=hLc j s hs
        have g4:=ag G4.out HT.out.bel
        have HD:=aa (mj (s:=nm) hs)
        have hDl:(dropT (L.take j) nm).length≤400000:=by have:=ml (L.take j) nm;rw [List.length_take] at this;omega
        clear hLc hs hc
        by_cases he:(s.toList==nm.toList)=true
        ·have HD2:Hid (dropT (L.take (j+1)) nm=dropT (L.take j) nm):=by unfold Hid;rw [HD.out,aG (show fS s nm=true from he),List.append_nil]
         clear HD
         go_upto_region 18 with fail
         go_quiet (fail)
         have HT3:=aa (HT.out.step (aI (n:=nq) (Below.refl _ _)))
         clear HT g4 l0
         go_wp2_with fail
         exact⟨⟨j+1,by omega,by push_cast;rfl,by rw [HD2.out];exact HT3⟩,by simp [intOf];omega⟩
        ·have he2:(s.toList==nm.toList)=false:=by simpa using he
         have HD2:Hid (dropT (L.take (j+1)) nm=dropT (L.take j) nm++[s]):=by unfold Hid;rw [HD.out,aA (show ¬ fS s nm=true from he)]
         clear HD he
         generalize dropT (L.take j) nm=D at*
         go_upto_region 18 with fail
         go_quiet (fail)
         have HT3:=aa (HT.out.step (aI (n:=nq) (Below.refl _ _)))
         go_wp2_with (at_builtin;refine bM _ rfl (.tmp 68) (.tmp 73) 47 rfl w.heap.size 9 i0 _ 1 16 Tryz.underlying47 hi hz0 hz1 hz2 rfl (by decide) _ D.length (D.map Value.string) rfl (aD HT3.out.r2 (bU (o:=.cells #[.string s] 9))) (some ⟨(wr.drewN nq).heap.size,0,none⟩) 1 1 [.string s] rfl rfl dr (lu s) (by unfold maxLen;omega) (by omega) (by have:=HSZ.out;simp;omega) ?_;intro v' w5 hown hgrow hat;have hO2:Hid (qw w L (dropT (L.take (j+1)) nm) (.slice (some ⟨bL,0,none⟩) L.length cv) v' w5):=(by unfold Hid;rw [HD2.out];exact(HT3.out.step (bU (o:=.cells #[.string s] 9))).app hown hgrow hat);clear hown hgrow hat)
         exact⟨⟨j+1,by omega,by push_cast;rfl,hO2⟩,by simp [intOf];omega⟩
       ·obtain rfl:j=L.length:=by omega
        have hO2:Hid (OS w (modsOf name (h.take (i+1))) u8 wr):=by have q:=HT.out.snd;rw [List.take_of_length_le (bz _)] at q;unfold Hid;rw [HS2.out];exact q
        clear hc hj
        go_wp2_with fail
        exact⟨⟨i+1,by omega,by push_cast;rfl,hO2⟩,by simp [intOf];omega⟩
     ·have HS2:Hid (modsOf name (h.take (i+1))=L):=by have q:=HS.out;unfold dj at q;dsimp only at q;rw [aA k1,aA k5,aA k6] at q;exact q
      clear HS
      go_wp2_with fail
      exact⟨⟨i+1,by omega,by push_cast;rfl,by rw [HS2.out];exact HO⟩,by simp [intOf];omega⟩
  ·obtain rfl:i=h.length:=by omega
   have hO:Hid (OS w (modsOf name h) u5 wr):=by have q:=HO.out;rw [List.take_of_length_le (bz _)] at q;exact q
   obtain⟨a9,c9,e9,-⟩:=hO.out.cells
   subst e9
   clear hc
   go_wp2_with fail
   exact bc (v:=.slice a9 (modsOf name h).length c9) (by simp only [results,Tryz.results110];go_simp) rfl ⟨_,rfl,hO.out⟩
end
section
open Go.RowKit Mr
theorem qx {name:ByteArray} {h:List bQ} {z e:bQ} (hz:h.getLast? =some z)(hk:e.1=1∨e.2.1 < z.2.1∨z.1=9):iE name h e=false:=by
 unfold iE
 rw [hz]
 dsimp only
 rcases hk with hk | hk | hk <;> simp [hk]
theorem ze {name:ByteArray} {h:List bQ} {z e:bQ} (hz:h.getLast? =some z)(h1:¬ e.1=1)(h2:¬ e.2.1 < z.2.1)(h3:¬ z.1=9):iE name h e=de name (modsOf name h) (opnsOf h) e:=by
 unfold iE
 rw [hz]
 simp [h1,h2,h3]
theorem vE(n:Nat):decide (n=0)=((n:Int)==0):=by
 by_cases e:n=0
 ·rw [bF e,e];rfl
 ·rw [bv e];symm;simpa using e
structure mm(w0:World)(L:List ByteArray)(r q:Bool)(b0 b1 b2 b3:Bool)(v0 v1 v2 v3:Value)(W:World):Prop where
 bel:Below w0.heap.size w0 W
 o0:b0=true→bH v0 L W
 e1:b1=true→v1=.bool r
 e2:b2=true→v2=.bool q
 e3:b3=true→v3=.bool q
theorem mm.step {w0 W w2:World} {L:List ByteArray} {r q b0 b1 b2 b3:Bool} {v0 v1 v2 v3:Value} (h:mm w0 L r q b0 b1 b2 b3 v0 v1 v2 v3 W)(hb:Below W.heap.size W w2):mm w0 L r q b0 b1 b2 b3 v0 v1 v2 v3 w2:=⟨ai h.bel hb,fun e=> (h.o0 e).step hb,h.e1,h.e2,h.e3⟩
theorem xx(name:ByteArray)(ms os:List ByteArray)(t a b:Int)(nm ot:ByteArray):de name ms os (5,t,a,b,nm,ot)=(!(hasT ms nm) && decide (ms.length < 32) && !(fS ot name)):=by simp [de]
theorem xy(name:ByteArray)(ms os:List ByteArray)(t a b:Int)(nm ot:ByteArray):de name ms os (6,t,a,b,nm,ot)=(hasT ms nm && !(fS ot name)):=by simp [de]
theorem xA(name:ByteArray)(ms os:List ByteArray)(t a b:Int)(nm ot:ByteArray):de name ms os (7,t,a,b,nm,ot)= !(hasT os nm):=by simp [de]
theorem xB(name:ByteArray)(ms os:List ByteArray)(t a b:Int)(nm ot:ByteArray):de name ms os (8,t,a,b,nm,ot)=hasT os nm:=by simp [de]
theorem xC(name:ByteArray)(ms os:List ByteArray)(t a b:Int)(nm ot:ByteArray):de name ms os (9,t,a,b,nm,ot)=decide (ms.length=0):=by simp [de]
theorem xE(name:ByteArray)(ms os:List ByteArray){k:Int} (t a b:Int)(nm ot:ByteArray)(h1:¬ k=1)(h5:¬ k=5)(h6:¬ k=6)(h7:¬ k=7)(h8:¬ k=8)(h9:¬ k=9):de name ms os (k,t,a,b,nm,ot)=true:=by simp [de,h1,h5,h6,h7,h8,h9]
theorem zf {a:Option Addr} {w:World} (c:Nat)(name:ByteArray)(k t a1 b1:Int)(nm ot:ByteArray):
  Calls Tryz.prog 50 #[.string name,.slice a 0 c,.agg #[.int .i64 k,.int .i64 t,.int .i64 a1,.int .i64 b1,.string nm,.string ot]] w fun en w'=> en=.returned (.bool (iE name [] (k,t,a1,b1,nm,ot)))∧Below w.heap.size w w':=by
 rw [show iE name [] (k,t,a1,b1,nm,ot)=decide (k=1)from rfl]
 go_enter Tryz.func50,Tryz.ntmps50
 go_wp2_with fail
 exact bc (v:=.bool (k==1)) (by simp only [results,Tryz.results50];go_simp) rfl ⟨rfl,bU⟩
theorem zg {a:Option Addr} {h:List bQ} {w:World} (c j:Nat)(name:ByteArray)(hh:eK a h w)(hl:h.length≤10000)(hj:h.length=j+1)(z:bQ)(hz:h[j]? =some z)(k t a1 b1:Int)(nm ot:ByteArray)(h1:(k==1)=true):Calls Tryz.prog 50 #[.string name,.slice a h.length c,.agg #[.int .i64 k,.int .i64 t,.int .i64 a1,.int .i64 b1,.string nm,.string ot]] w fun en w'=> en=.returned (.bool false)∧Below w.heap.size w w':=by
 obtain⟨b,off,rfl,hb0,hcs⟩:=hh (by rintro rfl;simp at hj)
 have HX:=aa (au w (.cells #[.int .i64 k,.int .i64 t,.int .i64 a1,.int .i64 b1,.string nm,.string ot] 29))
 have HB0:=aa (bU (W:=w) (o:=(.cells #[.int .i64 k,.int .i64 t,.int .i64 a1,.int .i64 b1,.string nm,.string ot] 29)))
 have hZ0:(w.alloc (.cells #[.int .i64 k,.int .i64 t,.int .i64 a1,.int .i64 b1,.string nm,.string ot] 29)).cell? ⟨b,off+j*6,none⟩=some (.int .i64 z.1):=ag (hcs j z hz 0 _ rfl) HB0.out
 have hZ1:(w.alloc (.cells #[.int .i64 k,.int .i64 t,.int .i64 a1,.int .i64 b1,.string nm,.string ot] 29)).cell? ⟨b,off+j*6+1,none⟩=some (.int .i64 z.2.1):=ag (hcs j z hz 1 _ rfl) HB0.out
 have hj1:(h.length:Int) - 1=(j:Int):=by omega
 have hj2:(j:Int) < h.length:=by omega
 have hj3:j < h.length:=by omega
 have hj4:¬ h.length=0:=by omega
 have hj0:(0:Int)≤j:=by omega
 have hjw:IntKind.i64.wrap (j:Int)=(j:Int):=cC _ ⟨by omega,by omega⟩
 have HLN:=aa (ba hl hj)
 obtain⟨zk,zt,z3,z4,z5,z6⟩:=z
 dsimp only at hZ0 hZ1
 have hne:((h.length:Int)==0)=false:=by simpa using hj4
 clear hcs hh hl hj hz
 go_enter Tryz.func50,Tryz.ntmps50
 go_upto_region 3 with fail
 have u0:∀ s:aC (w.alloc (.cells #[.int .i64 k,.int .i64 t,.int .i64 a1,.int .i64 b1,.string nm,.string ot] 29)),s.1.cell? ⟨w.heap.size,0,none⟩=some (.int .i64 k):=fun s=> ag (ah HX.out rfl) s.2
 have u1:∀ s:aC (w.alloc (.cells #[.int .i64 k,.int .i64 t,.int .i64 a1,.int .i64 b1,.string nm,.string ot] 29)),s.1.cell? ⟨w.heap.size,1,none⟩=some (.int .i64 t):=fun s=> ag (ah HX.out rfl) s.2
 have z0:∀ s:aC (w.alloc (.cells #[.int .i64 k,.int .i64 t,.int .i64 a1,.int .i64 b1,.string nm,.string ot] 29)),s.1.cell? ⟨b,off+j*6,none⟩=some (.int .i64 zk):=fun s=> ag hZ0 s.2
 have z1:∀ s:aC (w.alloc (.cells #[.int .i64 k,.int .i64 t,.int .i64 a1,.int .i64 b1,.string nm,.string ot] 29)),s.1.cell? ⟨b,off+j*6+1,none⟩=some (.int .i64 zt):=fun s=> ag hZ1 s.2
 refine aF (by kernel_rfl) (by kernel_rfl) ?_
 repeat(first | (refine WQ.skip rfl rfl rfl rfl ?_;simp only [Act.put,aU,aV,aW,aX]) | ((first | (apply WQ.val;(exact rfl)) | (apply WQ.valg;(exact rfl);(exact rfl);(exact rfl)));(intro w9 hw9;obtain⟨s9,rfl⟩:=hw9;simp [go_sem,u0,u1,z0,z1,hj1,hj2,hj3,hj0,hjw,h1];first | done | exact rfl);simp only [Act.put,aU,aV,aW,aX]))
 refine WQ.fin fun W4 hW4=> ?_
 go_wp2_with fail
 exact aH (v:=.bool false) rfl rfl rfl ⟨rfl,ai HB0.out hW4⟩
theorem zh {a:Option Addr} {h:List bQ} {w:World} (c j:Nat)(name:ByteArray)(hh:eK a h w)(hl:h.length≤10000)(hj:h.length=j+1)(z:bQ)(hz:h[j]? =some z)(k t a1 b1:Int)(nm ot:ByteArray)(h1:(k==1)=false)(h2:t < z.2.1):Calls Tryz.prog 50 #[.string name,.slice a h.length c,.agg #[.int .i64 k,.int .i64 t,.int .i64 a1,.int .i64 b1,.string nm,.string ot]] w fun en w'=> en=.returned (.bool false)∧Below w.heap.size w w':=by
 obtain⟨b,off,rfl,hb0,hcs⟩:=hh (by rintro rfl;simp at hj)
 have HX:=aa (au w (.cells #[.int .i64 k,.int .i64 t,.int .i64 a1,.int .i64 b1,.string nm,.string ot] 29))
 have HB0:=aa (bU (W:=w) (o:=(.cells #[.int .i64 k,.int .i64 t,.int .i64 a1,.int .i64 b1,.string nm,.string ot] 29)))
 have hZ0:(w.alloc (.cells #[.int .i64 k,.int .i64 t,.int .i64 a1,.int .i64 b1,.string nm,.string ot] 29)).cell? ⟨b,off+j*6,none⟩=some (.int .i64 z.1):=ag (hcs j z hz 0 _ rfl) HB0.out
 have hZ1:(w.alloc (.cells #[.int .i64 k,.int .i64 t,.int .i64 a1,.int .i64 b1,.string nm,.string ot] 29)).cell? ⟨b,off+j*6+1,none⟩=some (.int .i64 z.2.1):=ag (hcs j z hz 1 _ rfl) HB0.out
 have hj1:(h.length:Int) - 1=(j:Int):=by omega
 have hj2:(j:Int) < h.length:=by omega
 have hj3:j < h.length:=by omega
 have hj4:¬ h.length=0:=by omega
 have hj0:(0:Int)≤j:=by omega
 have hjw:IntKind.i64.wrap (j:Int)=(j:Int):=cC _ ⟨by omega,by omega⟩
 have HLN:=aa (ba hl hj)
 obtain⟨zk,zt,z3,z4,z5,z6⟩:=z
 dsimp only at hZ0 hZ1 h2
 have hne:((h.length:Int)==0)=false:=by simpa using hj4
 clear hcs hh hl hj hz
 go_enter Tryz.func50,Tryz.ntmps50
 go_upto_region 3 with fail
 have u0:∀ s:aC (w.alloc (.cells #[.int .i64 k,.int .i64 t,.int .i64 a1,.int .i64 b1,.string nm,.string ot] 29)),s.1.cell? ⟨w.heap.size,0,none⟩=some (.int .i64 k):=fun s=> ag (ah HX.out rfl) s.2
 have u1:∀ s:aC (w.alloc (.cells #[.int .i64 k,.int .i64 t,.int .i64 a1,.int .i64 b1,.string nm,.string ot] 29)),s.1.cell? ⟨w.heap.size,1,none⟩=some (.int .i64 t):=fun s=> ag (ah HX.out rfl) s.2
 have z0:∀ s:aC (w.alloc (.cells #[.int .i64 k,.int .i64 t,.int .i64 a1,.int .i64 b1,.string nm,.string ot] 29)),s.1.cell? ⟨b,off+j*6,none⟩=some (.int .i64 zk):=fun s=> ag hZ0 s.2
 have z1:∀ s:aC (w.alloc (.cells #[.int .i64 k,.int .i64 t,.int .i64 a1,.int .i64 b1,.string nm,.string ot] 29)),s.1.cell? ⟨b,off+j*6+1,none⟩=some (.int .i64 zt):=fun s=> ag hZ1 s.2
 refine aF (by kernel_rfl) (by kernel_rfl) ?_
 repeat(first | (refine WQ.skip rfl rfl rfl rfl ?_;simp only [Act.put,aU,aV,aW,aX]) | ((first | (apply WQ.val;(exact rfl)) | (apply WQ.valg;(exact rfl);(exact rfl);(exact rfl)));(intro w9 hw9;obtain⟨s9,rfl⟩:=hw9;simp [go_sem,u0,u1,z0,z1,hj1,hj2,hj3,hj0,hjw,h1,h2];first | done | exact rfl);simp only [Act.put,aU,aV,aW,aX]))
 refine WQ.fin fun W4 hW4=> ?_
 go_wp2_with fail
 exact aH (v:=.bool false) rfl rfl rfl ⟨rfl,ai HB0.out hW4⟩
theorem zi {a:Option Addr} {h:List bQ} {w:World} (c j:Nat)(name:ByteArray)(hh:eK a h w)(hl:h.length≤10000)(hj:h.length=j+1)(z:bQ)(hz:h[j]? =some z)(k t a1 b1:Int)(nm ot:ByteArray)(h1:(k==1)=false)(h2:¬ t < z.2.1)(h3:(z.1==9)=true):Calls Tryz.prog 50 #[.string name,.slice a h.length c,.agg #[.int .i64 k,.int .i64 t,.int .i64 a1,.int .i64 b1,.string nm,.string ot]] w fun en w'=> en=.returned (.bool false)∧Below w.heap.size w w':=by
 obtain⟨b,off,rfl,hb0,hcs⟩:=hh (by rintro rfl;simp at hj)
 have HX:=aa (au w (.cells #[.int .i64 k,.int .i64 t,.int .i64 a1,.int .i64 b1,.string nm,.string ot] 29))
 have HB0:=aa (bU (W:=w) (o:=(.cells #[.int .i64 k,.int .i64 t,.int .i64 a1,.int .i64 b1,.string nm,.string ot] 29)))
 have hZ0:(w.alloc (.cells #[.int .i64 k,.int .i64 t,.int .i64 a1,.int .i64 b1,.string nm,.string ot] 29)).cell? ⟨b,off+j*6,none⟩=some (.int .i64 z.1):=ag (hcs j z hz 0 _ rfl) HB0.out
 have hZ1:(w.alloc (.cells #[.int .i64 k,.int .i64 t,.int .i64 a1,.int .i64 b1,.string nm,.string ot] 29)).cell? ⟨b,off+j*6+1,none⟩=some (.int .i64 z.2.1):=ag (hcs j z hz 1 _ rfl) HB0.out
 have hj1:(h.length:Int) - 1=(j:Int):=by omega
 have hj2:(j:Int) < h.length:=by omega
 have hj3:j < h.length:=by omega
 have hj4:¬ h.length=0:=by omega
 have hj0:(0:Int)≤j:=by omega
 have hjw:IntKind.i64.wrap (j:Int)=(j:Int):=cC _ ⟨by omega,by omega⟩
 have HLN:=aa (ba hl hj)
 obtain⟨zk,zt,z3,z4,z5,z6⟩:=z
 dsimp only at hZ0 hZ1 h2 h3
 have hne:((h.length:Int)==0)=false:=by simpa using hj4
 clear hcs hh hl hj hz
 go_enter Tryz.func50,Tryz.ntmps50
 go_upto_region 3 with fail
 have u0:∀ s:aC (w.alloc (.cells #[.int .i64 k,.int .i64 t,.int .i64 a1,.int .i64 b1,.string nm,.string ot] 29)),s.1.cell? ⟨w.heap.size,0,none⟩=some (.int .i64 k):=fun s=> ag (ah HX.out rfl) s.2
 have u1:∀ s:aC (w.alloc (.cells #[.int .i64 k,.int .i64 t,.int .i64 a1,.int .i64 b1,.string nm,.string ot] 29)),s.1.cell? ⟨w.heap.size,1,none⟩=some (.int .i64 t):=fun s=> ag (ah HX.out rfl) s.2
 have z0:∀ s:aC (w.alloc (.cells #[.int .i64 k,.int .i64 t,.int .i64 a1,.int .i64 b1,.string nm,.string ot] 29)),s.1.cell? ⟨b,off+j*6,none⟩=some (.int .i64 zk):=fun s=> ag hZ0 s.2
 have z1:∀ s:aC (w.alloc (.cells #[.int .i64 k,.int .i64 t,.int .i64 a1,.int .i64 b1,.string nm,.string ot] 29)),s.1.cell? ⟨b,off+j*6+1,none⟩=some (.int .i64 zt):=fun s=> ag hZ1 s.2
 refine aF (by kernel_rfl) (by kernel_rfl) ?_
 repeat(first | (refine WQ.skip rfl rfl rfl rfl ?_;simp only [Act.put,aU,aV,aW,aX]) | ((first | (apply WQ.val;(exact rfl)) | (apply WQ.valg;(exact rfl);(exact rfl);(exact rfl)));(intro w9 hw9;obtain⟨s9,rfl⟩:=hw9;simp [go_sem,u0,u1,z0,z1,hj1,hj2,hj3,hj0,hjw,h1,h2,h3];first | done | exact rfl);simp only [Act.put,aU,aV,aW,aX]))
 refine WQ.fin fun W4 hW4=> ?_
 go_wp2_with fail
 exact aH (v:=.bool false) rfl rfl rfl ⟨rfl,ai HB0.out hW4⟩
theorem zj {a:Option Addr} {h:List bQ} {w:World} (c j:Nat)(name:ByteArray)(hh:eK a h w)(hl:h.length≤10000)(hj:h.length=j+1)(z:bQ)(hz:h[j]? =some z)(k t a1 b1:Int)(nm ot:ByteArray)(hf:yf h)(hnm:name.size≤1000)(h1:(k==1)=false)(h2:¬ t < z.2.1)(h3:(z.1==9)=false):Calls Tryz.prog 50 #[.string name,.slice a h.length c,.agg #[.int .i64 k,.int .i64 t,.int .i64 a1,.int .i64 b1,.string nm,.string ot]] w fun en w'=> en=.returned (.bool (de name (modsOf name h) (opnsOf h) (k,t,a1,b1,nm,ot)))∧Below w.heap.size w w':=by
 have HH:=aa hh
 have HF:=aa (ba hf hnm)
 have HML:=aa (kg name h hf)
 have HOL:=aa (pj h)
 obtain⟨b,off,rfl,hb0,hcs⟩:=hh (by rintro rfl;simp at hj)
 have HX:=aa (au w (.cells #[.int .i64 k,.int .i64 t,.int .i64 a1,.int .i64 b1,.string nm,.string ot] 29))
 have HB0:=aa (bU (W:=w) (o:=(.cells #[.int .i64 k,.int .i64 t,.int .i64 a1,.int .i64 b1,.string nm,.string ot] 29)))
 have hZ0:(w.alloc (.cells #[.int .i64 k,.int .i64 t,.int .i64 a1,.int .i64 b1,.string nm,.string ot] 29)).cell? ⟨b,off+j*6,none⟩=some (.int .i64 z.1):=ag (hcs j z hz 0 _ rfl) HB0.out
 have hZ1:(w.alloc (.cells #[.int .i64 k,.int .i64 t,.int .i64 a1,.int .i64 b1,.string nm,.string ot] 29)).cell? ⟨b,off+j*6+1,none⟩=some (.int .i64 z.2.1):=ag (hcs j z hz 1 _ rfl) HB0.out
 have hj1:(h.length:Int) - 1=(j:Int):=by omega
 have hj2:(j:Int) < h.length:=by omega
 have hj3:j < h.length:=by omega
 have hj4:¬ h.length=0:=by omega
 have hj0:(0:Int)≤j:=by omega
 have hjw:IntKind.i64.wrap (j:Int)=(j:Int):=cC _ ⟨by omega,by omega⟩
 have HLN:=aa (ba hl hj)
 obtain⟨zk,zt,z3,z4,z5,z6⟩:=z
 dsimp only at hZ0 hZ1 h2 h3
 have hne:((h.length:Int)==0)=false:=by simpa using hj4
 clear hcs hh hl hj hz hf hnm
 go_enter Tryz.func50,Tryz.ntmps50
 go_upto_region 3 with fail
 have u0:∀ s:aC (w.alloc (.cells #[.int .i64 k,.int .i64 t,.int .i64 a1,.int .i64 b1,.string nm,.string ot] 29)),s.1.cell? ⟨w.heap.size,0,none⟩=some (.int .i64 k):=fun s=> ag (ah HX.out rfl) s.2
 have u1:∀ s:aC (w.alloc (.cells #[.int .i64 k,.int .i64 t,.int .i64 a1,.int .i64 b1,.string nm,.string ot] 29)),s.1.cell? ⟨w.heap.size,1,none⟩=some (.int .i64 t):=fun s=> ag (ah HX.out rfl) s.2
 have z0:∀ s:aC (w.alloc (.cells #[.int .i64 k,.int .i64 t,.int .i64 a1,.int .i64 b1,.string nm,.string ot] 29)),s.1.cell? ⟨b,off+j*6,none⟩=some (.int .i64 zk):=fun s=> ag hZ0 s.2
 have z1:∀ s:aC (w.alloc (.cells #[.int .i64 k,.int .i64 t,.int .i64 a1,.int .i64 b1,.string nm,.string ot] 29)),s.1.cell? ⟨b,off+j*6+1,none⟩=some (.int .i64 zt):=fun s=> ag hZ1 s.2
 refine aF (by kernel_rfl) (by kernel_rfl) ?_
 repeat(first | (refine WQ.skip rfl rfl rfl rfl ?_;simp only [Act.put,aU,aV,aW,aX]) | ((first | (apply WQ.val;(exact rfl)) | (apply WQ.valg;(exact rfl);(exact rfl);(exact rfl)));(intro w9 hw9;obtain⟨s9,rfl⟩:=hw9;simp [go_sem,u0,u1,z0,z1,hj1,hj2,hj3,hj0,hjw,h1,h2,h3];first | done | exact rfl);simp only [Act.put,aU,aV,aW,aX]))
 refine WQ.fin fun W4 hW4=> ?_
 have HX4:=aa (an HX.out hW4)
 have HB4:=aa (ai HB0.out hW4)
 replace HH:=aa (HH.out.step HB4.out)
 clear u0 u1 z0 z1 hZ0 hZ1 hj1 hj2 hj3 hj0 hjw hne hW4 HX HB0 h2 h3
 go_upto_region 6 with(go_at_call 110;refine(io c name HH.out HLN.out.1 HF.out.1 HF.out.2).mono ?_;rintro e w5 ⟨v5,rfl,ho5⟩;obtain⟨am,cm,rfl,-⟩:=ho5.cells;have HO5:=aa ho5;clear ho5)
 have HX5:=aa (an HX4.out HO5.out.bel)
 have HB5:=aa (ai HB4.out HO5.out.bel)
 have HE5:=aa (HH.out.step HO5.out.bel)
 have HSR:=aa HO5.out.srow
 clear HX4 HB4 HH HO5 HF
 have HML2:Hid ((modsOf name h).length≤1000000∧(opnsOf h).length≤1000000):=⟨by have:=HML.out;have:=HLN.out.1;omega,by have:=HOL.out;have:=HLN.out.1;omega⟩
 have e0:w5.cell? ⟨w.heap.size,0,none⟩=some (.int .i64 k):=ah HX5.out rfl
 have e4:w5.cell? ⟨w.heap.size,4,none⟩=some (.string nm):=ah HX5.out rfl
 have e5:w5.cell? ⟨w.heap.size,5,none⟩=some (.string ot):=ah HX5.out rfl
 have el:=ak HX5.out
 have CH:=aa (iM HSR.out HML2.out.1 nm)
 have HR5:=aa (xx name (modsOf name h) (opnsOf h) t a1 b1 nm ot)
 have HR6:=aa (xy name (modsOf name h) (opnsOf h) t a1 b1 nm ot)
 have HR7:=aa (xA name (modsOf name h) (opnsOf h) t a1 b1 nm ot)
 have HR8:=aa (xB name (modsOf name h) (opnsOf h) t a1 b1 nm ot)
 have HR9:=aa (xC name (modsOf name h) (opnsOf h) t a1 b1 nm ot)
 unfold fS at HR5 HR6
 by_cases k5:k=5
 ·subst k5
  clear h1
  cases hq:hasT (modsOf name h) nm
  ·rw [hq] at CH HR5
   clear hq
   by_cases hc:(modsOf name h).length < 32
   ·have hci:((modsOf name h).length:Int) < 32:=by omega
    rw [bF hc] at HR5
    clear hc
    go_wp2_with (go_at_call 111;refine CH.out.mono ?_;rintro e w6 ⟨rfl,hb6⟩;have f5:=ag e5 hb6;have fl:=ar el hb6.size;have HB6:=aa (ai HB5.out hb6);clear e0 e4 e5 el hb6)
    exact bc (v:=.bool (!(ot.toList==name.toList))) (by simp only [results,Tryz.results50];go_simp) rfl ⟨by rw [HR5.out];rfl,HB6.out⟩
   ·have hci:¬ ((modsOf name h).length:Int) < 32:=by omega
    rw [bv hc] at HR5
    clear hc
    go_wp2_with (go_at_call 111;refine CH.out.mono ?_;rintro e w6 ⟨rfl,hb6⟩;have f5:=ag e5 hb6;have fl:=ar el hb6.size;have HB6:=aa (ai HB5.out hb6);clear e0 e4 e5 el hb6)
    exact aH (v:=.bool false) rfl rfl rfl ⟨by rw [HR5.out];rfl,HB6.out⟩
  ·rw [hq] at CH HR5
   clear hq
   go_wp2_with (go_at_call 111;refine CH.out.mono ?_;rintro e w6 ⟨rfl,hb6⟩;have f5:=ag e5 hb6;have fl:=ar el hb6.size;have HB6:=aa (ai HB5.out hb6);clear e0 e4 e5 el hb6)
   exact aH (v:=.bool false) rfl rfl rfl ⟨by rw [HR5.out];rfl,HB6.out⟩
 ·have k5b:(k==5)=false:=by simpa using k5
  by_cases k6:k=6
  ·subst k6
   clear h1 k5 k5b
   cases hq:hasT (modsOf name h) nm
   ·rw [hq] at CH HR6
    clear hq
    go_wp2_with (go_at_call 111;refine CH.out.mono ?_;rintro e w6 ⟨rfl,hb6⟩;have f5:=ag e5 hb6;have fl:=ar el hb6.size;have HB6:=aa (ai HB5.out hb6);clear e0 e4 e5 el hb6)
    exact aH (v:=.bool false) rfl rfl rfl ⟨by rw [HR6.out];rfl,HB6.out⟩
   ·rw [hq] at CH HR6
    clear hq
    go_wp2_with (go_at_call 111;refine CH.out.mono ?_;rintro e w6 ⟨rfl,hb6⟩;have f5:=ag e5 hb6;have fl:=ar el hb6.size;have HB6:=aa (ai HB5.out hb6);clear e0 e4 e5 el hb6)
    exact bc (v:=.bool (!(ot.toList==name.toList))) (by simp only [results,Tryz.results50];go_simp) rfl ⟨by rw [HR6.out];rfl,HB6.out⟩
  ·have k6b:(k==6)=false:=by simpa using k6
   have CO:Hid (∀ W,Below w5.heap.size w5 W→Calls Tryz.prog 112 #[.slice (some ⟨b,off,none⟩) h.length c] W fun en w'=> ∃ v,en=.returned v∧OS W (opnsOf h) v w'):=fun W hW=> kK c (HE5.out.step hW) (by have:=HLN.out.1;omega)
   have HM0:=aa HML2.out.2
   by_cases k7:k=7
   ·subst k7
    clear h1 k5 k5b k6 k6b
    go_upto_region 12 with fail
    clear e0 e4 e5 el CH
    obtain⟨L,hL⟩:∃ L,opnsOf h=L:=⟨_,rfl⟩
    rw [hL] at CO HM0
    have HLQ:=aa hL
    clear hL
    generalize h.length=nl at*
    refine bo 7 50 94 [(1,77),(4,80),(5,81),(6,6)] [(none,[]),(some 0,[]),(none,[]),(none,[]),(some 1,[0]),(some 2,[1]),(some 3,[2])] [(76,(.slice (some ⟨b,off,none⟩) nl c)),(78,(.pointer (some ⟨w.heap.size,4,none⟩))),(79,(.string nm))] (fun bsE vsE W=> mm w5 L (hasT L nm) (!(hasT L nm)) (bsE.getD 0 false) (bsE.getD 1 false) (bsE.getD 2 false) (bsE.getD 3 false) ((vsE.getD 0 undef)) ((vsE.getD 1 undef)) ((vsE.getD 2 undef)) ((vsE.getD 3 undef)) W) (by kernel_rfl) (by kernel_rfl) rfl rfl (by kernel_rfl) (by rfl) ?h0 ?each ?done
    case h0=>
     intro vsE hlv
     obtain⟨v0,v1,v2,v3,rfl⟩:=cK hlv
     exact⟨(Below.refl _ _).drew,(fun e=> by cases e),(fun e=> by cases e),(fun e=> by cases e),(fun e=> by cases e)⟩
    case each=>
     simp only [dp]
     refine⟨⟨76,(.slice (some ⟨b,off,none⟩) nl c),rfl,by kernel_rfl,?_⟩,ax ⟨77,rfl,?q1_1⟩,⟨78,(.pointer (some ⟨w.heap.size,4,none⟩)),rfl,by kernel_rfl,?_⟩,⟨79,(.string nm),rfl,by kernel_rfl,?_⟩,ax ⟨80,rfl,?q1_4⟩,ax ⟨81,rfl,?q1_5⟩,ax ⟨6,rfl,?q1_6⟩,trivial⟩
     case q1_1=>
      intro bsE vsE W hlb hlv hnd hbk h
      obtain⟨b0,b1,b2,b3,rfl⟩:=cK hlb
      obtain⟨v0,v1,v2,v3,rfl⟩:=cK hlv
      obtain rfl:b0=false:=hbk
      replace h:mm w5 L (hasT L nm) (!(hasT L nm)) false b1 b2 b3 (v0) (v1) (v2) (v3) W:=h
      clear hnd
      have HST:=aa h
      skip
      intro K Q hK
      simp only [az,updAll,Act.put,aU,aV,aW,aX] at hK ⊢
      go_wp2_with (go_at_call 112;refine(CO.out _ h.bel).mono ?_;rintro e w1 ⟨vq,rfl,ho1⟩)
      all_goals(have hm:=(⟨ai h.bel ho1.bel,fun _=> ho1.srow,h.e1,h.e2,h.e3⟩:mm w5 L (hasT L nm) (!(hasT L nm)) true b1 b2 b3 (vq) (v1) (v2) (v3) w1))
      all_goals(first | exact hK _ _ hm | exact hm)
     case q1_4=>
      intro bsE vsE W hlb hlv hnd hbk h
      obtain⟨b0,b1,b2,b3,rfl⟩:=cK hlb
      obtain⟨v0,v1,v2,v3,rfl⟩:=cK hlv
      obtain rfl:b0=true:=hnd 0 (by simp)
      obtain rfl:b1=false:=hbk
      replace h:mm w5 L (hasT L nm) (!(hasT L nm)) true false b2 b3 (v0) (v1) (v2) (v3) W:=h
      clear hnd
      have HST:=aa h
      skip
      intro K Q hK
      simp only [az,updAll,Act.put,aU,aV,aW,aX] at hK ⊢
      go_wp2_with (go_at_call 111;refine(iM (h.o0 rfl) HM0.out nm).mono ?_;rintro e w1 ⟨rfl,hb1⟩)
      all_goals(have hm:=(⟨ai h.bel hb1,fun e=> (h.o0 e).step hb1,fun _=> rfl,h.e2,h.e3⟩:mm w5 L (hasT L nm) (!(hasT L nm)) true true b2 b3 (v0) (.bool (hasT L nm)) (v2) (v3) w1))
      all_goals(first | exact hK _ _ hm | exact hm)
     case q1_5=>
      intro bsE vsE W hlb hlv hnd hbk h
      obtain⟨b0,b1,b2,b3,rfl⟩:=cK hlb
      obtain⟨v0,v1,v2,v3,rfl⟩:=cK hlv
      obtain rfl:b1=true:=hnd 1 (by simp)
      obtain rfl:b2=false:=hbk
      replace h:mm w5 L (hasT L nm) (!(hasT L nm)) b0 true false b3 (v0) (v1) (v2) (v3) W:=h
      clear hnd
      have HST:=aa h
      obtain rfl:=h.e1 rfl
      intro K Q hK
      simp only [az,updAll,Act.put,aU,aV,aW,aX] at hK ⊢
      go_wp2_with fail
      all_goals(have hm:=(⟨h.bel,h.o0,h.e1,fun _=> rfl,h.e3⟩:mm w5 L (hasT L nm) (!(hasT L nm)) b0 true true b3 (v0) (.bool (hasT L nm)) (.bool (!(hasT L nm))) (v3) W))
      all_goals(first | exact hK _ _ hm | exact hm)
     case q1_6=>
      intro bsE vsE W hlb hlv hnd hbk h
      obtain⟨b0,b1,b2,b3,rfl⟩:=cK hlb
      obtain⟨v0,v1,v2,v3,rfl⟩:=cK hlv
      obtain rfl:b2=true:=hnd 2 (by simp)
      obtain rfl:b3=false:=hbk
      replace h:mm w5 L (hasT L nm) (!(hasT L nm)) b0 b1 true false (v0) (v1) (v2) (v3) W:=h
      clear hnd
      have HST:=aa h
      obtain rfl:=h.e2 rfl
      intro K Q hK
      simp only [az,updAll,Act.put,aU,aV,aW,aX] at hK ⊢
      go_wp2_with fail
      all_goals(have hm:=(⟨h.bel,h.o0,h.e1,fun _=> rfl,fun _=> rfl⟩:mm w5 L (hasT L nm) (!(hasT L nm)) b0 b1 true true (v0) (v1) (.bool (!(hasT L nm))) (.bool (!(hasT L nm))) W))
      all_goals(first | exact hK _ _ hm | exact hm)
     all_goals
      intro bsE vsE W hlb hlv hnd h
      obtain⟨b0,b1,b2,b3,rfl⟩:=cK hlb
      obtain⟨v0,v1,v2,v3,rfl⟩:=cK hlv
      replace h:mm w5 L (hasT L nm) (!(hasT L nm)) b0 b1 b2 b3 (v0) (v1) (v2) (v3) W:=h
      clear hnd
      have HST:=aa h
      have g4:W.cell? ⟨w.heap.size,4,none⟩=some (.string nm):=ah (an HX5.out h.bel) rfl;have gl:=ar (ak HX5.out) h.bel.size
      intro K Q hK
      simp only [az,updAll,Act.put,aU,aV,aW,aX] at hK ⊢
      go_wp2_with (fail)
      all_goals(first | exact hK _ h | exact h)
    case done=>
     intro vsE W hlv h
     obtain⟨v0,v1,v2,v3,rfl⟩:=cK hlv
     replace h:mm w5 L (hasT L nm) (!(hasT L nm)) true true true true (v0) (v1) (v2) (v3) W:=h
     have HST:=aa h
     obtain rfl:=h.e3 rfl
     have HBF:=aa h.bel
     clear h HST
     simp only [az,updAll,Act.put,aU,aV,aW,aX]
     go_wp2_with fail
     exact bc (v:=.bool (!(hasT L nm))) (by simp only [results,Tryz.results50];go_simp) rfl ⟨by rw [HR7.out,HLQ.out],ai HB5.out HBF.out⟩
   ·have k7b:(k==7)=false:=by simpa using k7
    by_cases k8:k=8
    ·subst k8
     clear h1 k5 k5b k6 k6b k7 k7b
     go_upto_region 14 with fail
     clear e0 e4 e5 el CH
     obtain⟨L,hL⟩:∃ L,opnsOf h=L:=⟨_,rfl⟩
     rw [hL] at CO HM0
     have HLQ:=aa hL
     clear hL
     generalize h.length=nl at*
     refine bo 6 50 94 [(1,85),(4,88),(5,6)] [(none,[]),(some 0,[]),(none,[]),(none,[]),(some 1,[0]),(some 2,[1])] [(84,(.slice (some ⟨b,off,none⟩) nl c)),(86,(.pointer (some ⟨w.heap.size,4,none⟩))),(87,(.string nm))] (fun bsE vsE W=> mm w5 L (hasT L nm) (hasT L nm) (bsE.getD 0 false) (bsE.getD 1 false) (bsE.getD 2 false) false ((vsE.getD 0 undef)) ((vsE.getD 1 undef)) ((vsE.getD 2 undef)) (undef) W) (by kernel_rfl) (by kernel_rfl) rfl rfl (by kernel_rfl) (by rfl) ?h0 ?each ?done
     case h0=>
      intro vsE hlv
      obtain⟨v0,v1,v2,rfl⟩:=fe hlv
      exact⟨(Below.refl _ _).drew,(fun e=> by cases e),(fun e=> by cases e),(fun e=> by cases e),(fun e=> by cases e)⟩
     case each=>
      simp only [dp]
      refine⟨⟨84,(.slice (some ⟨b,off,none⟩) nl c),rfl,by kernel_rfl,?_⟩,ax ⟨85,rfl,?q2_1⟩,⟨86,(.pointer (some ⟨w.heap.size,4,none⟩)),rfl,by kernel_rfl,?_⟩,⟨87,(.string nm),rfl,by kernel_rfl,?_⟩,ax ⟨88,rfl,?q2_4⟩,ax ⟨6,rfl,?q2_5⟩,trivial⟩
      case q2_1=>
       intro bsE vsE W hlb hlv hnd hbk h
       obtain⟨b0,b1,b2,rfl⟩:=fe hlb
       obtain⟨v0,v1,v2,rfl⟩:=fe hlv
       obtain rfl:b0=false:=hbk
       replace h:mm w5 L (hasT L nm) (hasT L nm) false b1 b2 false (v0) (v1) (v2) (undef) W:=h
       clear hnd
       have HST:=aa h
       skip
       intro K Q hK
       simp only [az,updAll,Act.put,aU,aV,aW,aX] at hK ⊢
       go_wp2_with (go_at_call 112;refine(CO.out _ h.bel).mono ?_;rintro e w1 ⟨vq,rfl,ho1⟩)
       all_goals(have hm:=(⟨ai h.bel ho1.bel,fun _=> ho1.srow,h.e1,h.e2,h.e3⟩:mm w5 L (hasT L nm) (hasT L nm) true b1 b2 false (vq) (v1) (v2) (undef) w1))
       all_goals(first | exact hK _ _ hm | exact hm)
      case q2_4=>
       intro bsE vsE W hlb hlv hnd hbk h
       obtain⟨b0,b1,b2,rfl⟩:=fe hlb
       obtain⟨v0,v1,v2,rfl⟩:=fe hlv
       obtain rfl:b0=true:=hnd 0 (by simp)
       obtain rfl:b1=false:=hbk
       replace h:mm w5 L (hasT L nm) (hasT L nm) true false b2 false (v0) (v1) (v2) (undef) W:=h
       clear hnd
       have HST:=aa h
       skip
       intro K Q hK
       simp only [az,updAll,Act.put,aU,aV,aW,aX] at hK ⊢
       go_wp2_with (go_at_call 111;refine(iM (h.o0 rfl) HM0.out nm).mono ?_;rintro e w1 ⟨rfl,hb1⟩)
       all_goals(have hm:=(⟨ai h.bel hb1,fun e=> (h.o0 e).step hb1,fun _=> rfl,h.e2,h.e3⟩:mm w5 L (hasT L nm) (hasT L nm) true true b2 false (v0) (.bool (hasT L nm)) (v2) (undef) w1))
       all_goals(first | exact hK _ _ hm | exact hm)
      case q2_5=>
       intro bsE vsE W hlb hlv hnd hbk h
       obtain⟨b0,b1,b2,rfl⟩:=fe hlb
       obtain⟨v0,v1,v2,rfl⟩:=fe hlv
       obtain rfl:b1=true:=hnd 1 (by simp)
       obtain rfl:b2=false:=hbk
       replace h:mm w5 L (hasT L nm) (hasT L nm) b0 true false false (v0) (v1) (v2) (undef) W:=h
       clear hnd
       have HST:=aa h
       obtain rfl:=h.e1 rfl
       intro K Q hK
       simp only [az,updAll,Act.put,aU,aV,aW,aX] at hK ⊢
       go_wp2_with fail
       all_goals(have hm:=(⟨h.bel,h.o0,h.e1,fun _=> rfl,h.e3⟩:mm w5 L (hasT L nm) (hasT L nm) b0 true true false (v0) (.bool (hasT L nm)) (.bool (hasT L nm)) (undef) W))
       all_goals(first | exact hK _ _ hm | exact hm)
      all_goals
       intro bsE vsE W hlb hlv hnd h
       obtain⟨b0,b1,b2,rfl⟩:=fe hlb
       obtain⟨v0,v1,v2,rfl⟩:=fe hlv
       replace h:mm w5 L (hasT L nm) (hasT L nm) b0 b1 b2 false (v0) (v1) (v2) (undef) W:=h
       clear hnd
       have HST:=aa h
       have g4:W.cell? ⟨w.heap.size,4,none⟩=some (.string nm):=ah (an HX5.out h.bel) rfl;have gl:=ar (ak HX5.out) h.bel.size
       intro K Q hK
       simp only [az,updAll,Act.put,aU,aV,aW,aX] at hK ⊢
       go_wp2_with (fail)
       all_goals(first | exact hK _ h | exact h)
     case done=>
      intro vsE W hlv h
      obtain⟨v0,v1,v2,rfl⟩:=fe hlv
      replace h:mm w5 L (hasT L nm) (hasT L nm) true true true false (v0) (v1) (v2) (undef) W:=h
      have HST:=aa h
      obtain rfl:=h.e2 rfl
      have HBF:=aa h.bel
      clear h HST
      simp only [az,updAll,Act.put,aU,aV,aW,aX]
      go_wp2_with fail
      exact bc (v:=.bool (hasT L nm)) (by simp only [results,Tryz.results50];go_simp) rfl ⟨by rw [HR8.out,HLQ.out],ai HB5.out HBF.out⟩
    ·have k8b:(k==8)=false:=by simpa using k8
     clear CO CH
     by_cases k9:k=9
     ·subst k9
      clear h1 k5 k5b k6 k6b k7 k7b k8 k8b
      go_wp2_with fail
      exact bc (v:=.bool (((modsOf name h).length:Int)==0)) (by simp only [results,Tryz.results50];go_simp) rfl ⟨by rw [HR9.out,vE],HB5.out⟩
     ·have k9b:(k==9)=false:=by simpa using k9
      have HR0:=aa (xE name (modsOf name h) (opnsOf h) (k:=k) t a1 b1 nm ot (by simpa using h1) k5 k6 k7 k8 k9)
      clear h1 k5 k6 k7 k8 k9
      go_wp2_with fail
      exact aH (v:=.bool true) rfl rfl rfl ⟨by rw [HR0.out],HB5.out⟩
theorem gY {a:Option Addr} {h:List bQ} {w:World} (c:Nat)(name:ByteArray)(hh:eK a h w)(hl:h.length≤10000)(hf:yf h)(hnm:name.size≤1000)(e:bQ):
  Calls Tryz.prog 50 #[.string name,.slice a h.length c,kZ e] w fun en w'=> en=.returned (.bool (iE name h e))∧Below w.heap.size w w':=by
 obtain⟨k,t,a1,b1,nm,ot⟩:=e
 by_cases hn:h=[]
 ·subst hn
  exact zf c name k t a1 b1 nm ot
 ·obtain⟨j,hj⟩:∃ j,h.length=j+1:=⟨h.length - 1,by have:h.length≠0:=fun e=> hn (eF e);omega⟩
  obtain⟨z,hz⟩:∃ z,h[j]? =some z:=⟨h[j]'(by omega),bh (by omega)⟩
  have hg:h.getLast? =some z:=by rw [List.getLast?_eq_getElem?,hj];exact hz
  cases h1:(k==1)
  ·by_cases h2:t < z.2.1
   ·rw [qx hg (ay (ax h2))];exact zh c j name hh hl hj z hz k t a1 b1 nm ot h1 h2
   ·cases h3:(z.1==9)
    ·rw [ze hg (by simpa using h1) h2 (by simpa using h3)];exact zj c j name hh hl hj z hz k t a1 b1 nm ot hf hnm h1 h2 h3
    ·rw [qx hg (ay (ay (by simpa using h3)))];exact zi c j name hh hl hj z hz k t a1 b1 nm ot h1 h2 h3
  ·rw [qx hg (ax (by simpa using h1))];exact zg c j name hh hl hj z hz k t a1 b1 nm ot h1
end
section
open Sx Go.RowKit Mr
theorem kh {W:World} {B sz:Nat} {E:TypeId} (hB:B≤W.heap.size):(W.alloc (.cells #[] E)).ownsRow B E sz (.slice (some ⟨W.heap.size,0,none⟩) 0 0) 0 []:=
 ⟨by simp,ay ⟨_,_,_,rfl,hB,au W _,bz _,by decide,by simp,by simp⟩⟩
theorem eU {h:List bQ} (hok:∀ e∈h,eC e=true):yf h:=fun e he h1=> by
 obtain⟨k,t,a,b,nm,ot⟩:=e
 dsimp only at h1
 subst h1
 exact(lD (hok _ he)).2
theorem nE(es:List bR):∀ u∈bK es,u.oneCell'=true:=fun u hu=> by
 obtain⟨y,-,hy⟩:=List.mem_flatMap.1 hu
 have h:=lI y
 rw [Array.all_eq_true_iff_forall_mem] at h
 exact h u (by simpa using hy)
theorem gX.src {X:Nat→Prop} {ae:Option Addr} {es:List bR} {W:World} (h:gX X ae es W):es.length*10≠0→∃ p off,ae=some ⟨p,off,none⟩∧∀ (j:Nat) (u:Value),(bK es)[j]? =some u→W.cell? ⟨p,off+j,none⟩=some u:=fun hn=> by
 obtain⟨b,e1,-,-,e4⟩:=h (by rintro rfl;simp at hn)
 exact⟨b,0,e1,fun j u hj=> by rw [Nat.zero_add];exact e4 j u hj⟩
structure tw(w0:World)(es:List bR)(ms:List ByteArray)(r:Bool)(b0 b1 b2:Bool)(v0 v1 v2:Value)(W:World):Prop where
 bel:Below w0.heap.size w0 W
 o0:b0=true→mi es v0 W
 o1:b1=true→bH v1 ms W
 e2:b2=true→v2=.bool r
theorem mi.step {es:List bR} {v:Value} {W w2:World} (h:mi es v W)(hb:Below W.heap.size W w2):mi es v w2:=by
 obtain⟨a,c,e,h⟩:=h
 exact⟨a,c,e,h.step hb⟩
theorem tw.step {w0 W w2:World} {es:List bR} {ms:List ByteArray} {r b0 b1 b2:Bool} {v0 v1 v2:Value} (h:tw w0 es ms r b0 b1 b2 v0 v1 v2 W)(hb:Below W.heap.size W w2):tw w0 es ms r b0 b1 b2 v0 v1 v2 w2:=⟨ai h.bel hb,fun e=> (h.o0 e).step hb,fun e=> (h.o1 e).step hb,h.e2⟩
theorem fz {W w2:World} {es:List bR} {v:Value} (ho:w2.ownsRow W.heap.size 29 6 v es.length (eh (br es))):mi es v w2:=by
 obtain⟨a9,c9,e9⟩:=aP ho
 subst e9
 have hl:=dd es
 rw [← hl] at ho ⊢
 exact⟨a9,c9,rfl,mh ho⟩
theorem pm {w0 w:World} {X:Nat→Prop} {Q:Nat} {vb vP:Value} {a:RegA} (h:bC w0 X Q vb a vP w)(nm:ByteArray)(hl:a.ps.length≤1000000)(hf:¬ findA nm a < a.ps.length):Calls Tryz.prog 32 #[.pointer (some ⟨Q,0,none⟩),.string nm] w fun en w'=> en=.returned (.tuple #[.slice none 0 0,.int .i64 5])∧Below w.heap.size w w':=by
 have CF:=aa (cH h nm hl)
 rw [im hf] at CF
 clear h hf
 go_enter Tryz.func32,Tryz.ntmps32
 go_wp2_with (go_at_call 83;refine CF.out.mono ?_;rintro e w1 ⟨rfl,hb1⟩;have HB1:=aa hb1;clear hb1)
 exact dP (v:=.tuple #[.slice none 0 0,.int .i64 5]) rfl rfl rfl ⟨rfl,HB1.out⟩
theorem ou {w0 w:World} {X:Nat→Prop} {Q:Nat} {vb vP:Value} {a:RegA} (h:bC w0 X Q vb a vP w)(nm:ByteArray)(hl:a.ps.length≤1000000)(p:ByteArray×List bR)(hp:a.ps[findA nm a]? =some p)(hpl:p.2.length≤100000):Calls Tryz.prog 32 #[.pointer (some ⟨Q,0,none⟩),.string nm] w fun en w'=> ∃ v',en=.returned (.tuple #[v',.int .i64 0])∧w'.ownsRow w.heap.size 31 10 v' p.2.length (bK p.2)∧Below w.heap.size w w':=by
 have CF:=aa (cH h nm hl)
 have hlt:=(aB hp).1
 rw [dM hlt] at CF
 obtain⟨j0,hj0,hy0,hy1,hy2⟩:=info_parts jY
 obtain⟨pa,pc,rfl⟩:=h.pslice
 have H:=aa h
 have HP:=aa hp
 clear h hp
 generalize findA nm a=k at*
 have k0:(0:Int)≤k:=by omega
 have k1:(k:Int) < a.ps.length:=by omega
 go_enter Tryz.func32,Tryz.ntmps32
 go_upto_region 4 with(go_at_call 83;refine CF.out.mono ?_;rintro e w1 ⟨rfl,hb1⟩;have HB1:=aa hb1;clear hb1)
 obtain⟨b,rfl,lb,q1,ae,ce,q2,q3⟩:=(H.out.step HB1.out).pack HP.out
 have c10:=(H.out.step HB1.out).cell10
 have cl:=ak (H.out.step HB1.out).blk
 have HSR:Hid (∀ W,Below w1.heap.size w1 W→p.2.length*10≠0→∃ p9 off,ae=some ⟨p9,off,none⟩∧∀ (j:Nat) (u:Value),(bK p.2)[j]? =some u→W.cell? ⟨p9,off+j,none⟩=some u):=fun W hW=> (q3.keep (fun _ h=> h) hW.size (fun k _ hk=> hW.block k hk)).src
 clear q3 q1 CF
 go_wp2_with (at_builtin;have hown0:=kh (sz:=10) (E:=31) (B:=w.heap.size) (W:=w1) HB1.out.size;have hsr0:=HSR.out (w1.alloc (.cells #[] 31)) bU;refine bM _ rfl (.tmp 12) (.tmp 20) 24 rfl w.heap.size 31 j0 _ 10 96 Tryz.underlying24 hj0 hy0 hy1 hy2 rfl (by decide) _ 0 [] rfl hown0 ae p.2.length ce (bK p.2) rfl (jc _) hsr0 (nE _) (by unfold maxLen;omega) (by omega) (by have:=HB1.out.size;simp;omega) ?_;intro v' w5 hown hgrow hat;have hO2:Hid (w5.ownsRow w.heap.size 31 10 v' p.2.length (bK p.2)):=(by show World.ownsRow _ _ _ _ _ _ _;rw [Nat.zero_add,List.nil_append] at hown;exact hown);have hB2:Hid (Below w.heap.size w w5):=(aK HB1.out _).grown hgrow (by have:=HB1.out.size;simp;omega) (fun k hk=> (World.ownsRow.lt hown0 k hk).1);obtain⟨a5,c5,e5⟩:=aP hO2.out;subst e5;clear hown hgrow hat)
 exact bc (v:=.tuple #[.slice a5 p.2.length c5,.int .i64 0]) (by simp only [results,Tryz.results32];go_simp) rfl ⟨_,rfl,hO2.out,hB2.out⟩
theorem dt {w0 w:World} {X:Nat→Prop} {Q:Nat} {vb vP:Value} {a:RegA} (h:bC w0 X Q vb a vP w)(ho:ji a)(m:ByteArray):Calls Tryz.prog 82 #[.pointer (some ⟨Q,0,none⟩),.string m] w fun e w'=> e=.returned (.int .i64 (zb (whereA m a) a.ps.length))∧Below w.heap.size w w':=by
 obtain⟨pa,pc,rfl⟩:=h.pslice
 have H:=aa h
 have HO:=aa ho
 have hnp:=ho.np
 have c10:=h.cell10
 have cl:=ak h.blk
 clear h ho
 go_enter Tryz.func82,Tryz.ntmps82
 go_wp2_with fail
 clear c10 cl
 go_loopw [5] (fun ix wr=> ∃ i:Nat,i≤a.ps.length∧ix=.int .i64 i∧Hid (∀ j,j < i→∀ p,a.ps[j]? =some p→hasT (lf p).ms m=false)∧Hid (Below w.heap.size w wr)) (fun ix _=> a.ps.length - (intOf ix).toNat)
 case atStart=> exact⟨0,by omega,rfl,(fun j hj=> absurd hj (Nat.not_lt_zero j)),Below.refl _ _⟩
 case round=>
  obtain⟨i,hi,rfl,HQ,HW⟩:=hrel
  have HG:=aa (H.out.step HW.out)
  have c10:=HG.out.cell10
  have cl:=ak HG.out.blk
  by_cases hc:i < a.ps.length
  ·have c1:(i:Int) < a.ps.length:=by omega
   have c0:(0:Int)≤i:=by omega
   obtain⟨p,hk⟩:∃ p,a.ps[i]? =some p:=⟨a.ps[i],bh hc⟩
   obtain⟨b,eb,lb,q1,ae,ce,q2,q3⟩:=HG.out.pack hk
   subst eb
   have HP:=aa hk
   obtain⟨p1,p2,p3,p4⟩:=HO.out.p p (aJ hk)
   have hml:(lf p).ms.length≤1000000:=by
    have h1:=kg p.1 (br p.2) (eU p3)
    rw [← i7,dd] at h1
    have:(lf p).ms.length=(lifeOf p.1 (br p.2)).ms.length:=rfl
    omega
   have CE:Hid (∀ W,Below wr.heap.size wr W→Calls Tryz.prog 51 #[.slice ae p.2.length ce] W fun en w'=> ∃ v',en=.returned v'∧w'.ownsRow W.heap.size 29 6 v' p.2.length (eh (br p.2))∧Below W.heap.size W w'):=fun W hW=> dI ce (q3.keep (fun _ h=> h) hW.size (fun k _ hk=> hW.block k hk)).at_ (by omega)
   have CM:Hid (∀ (W:World) {a9:Option Addr} (c9:Nat),eK a9 (br p.2) W→Calls Tryz.prog 110 #[.string p.1,.slice a9 (br p.2).length c9] W fun en w'=> ∃ v',en=.returned v'∧bH v' (lf p).ms w'∧Below W.heap.size W w'):=fun W a9 c9 hE=> (io c9 p.1 hE (by rw [dd];omega) (eU p3) (by have:=(bI p4).2;omega)).mono fun en w9 q=> by
    obtain⟨v9,e9,hO⟩:=q
    exact⟨v9,e9,by rw [show(lf p).ms=modsOf p.1 (br p.2)from i7 _ _];exact hO.srow,hO.bel⟩
   obtain⟨r9,hr9⟩:∃ r9,hasT (lf p).ms m=r9:=⟨_,rfl⟩
   have CH:Hid (∀ (W:World) (v:Value),bH v (lf p).ms W→Calls Tryz.prog 111 #[v,.string m] W fun en w'=> en=.returned (.bool r9)∧Below W.heap.size W w'):=fun W v hv=> by rw [← hr9];exact iM hv hml m
   have HR9:=aa hr9
   have HF:=aa (ba c10 (ba cl (ba lb (ba q1 q2))))
   clear hk hr9 p1 p2 p3 p4 hml q3
   go_upto_region 4 with fail
   clear c10 cl lb q1 q2
   refine bo 20 5 36 [(16,31),(17,32),(19,34)] [(none,[]),(none,[]),(none,[]),(none,[]),(none,[]),(none,[]),(none,[]),(none,[]),(none,[]),(none,[]),(none,[]),(none,[]),(none,[]),(none,[]),(none,[]),(none,[]),(some 0,[]),(some 1,[0]),(none,[]),(some 2,[1])] [(15,(.pointer (some ⟨Q,0,none⟩))),(16,(.pointer (some ⟨Q,0,none⟩))),(17,(.pointer (some ⟨Q,10,none⟩))),(18,(.slice (some ⟨b,0,none⟩) a.ps.length pc)),(19,(.int .i64 (i:Int))),(20,(.pointer (some ⟨b,i*2,none⟩))),(21,(.pointer (some ⟨b,i*2,none⟩))),(22,(.string p.1)),(23,(.pointer (some ⟨Q,0,none⟩))),(24,(.pointer (some ⟨Q,0,none⟩))),(25,(.pointer (some ⟨Q,10,none⟩))),(26,(.slice (some ⟨b,0,none⟩) a.ps.length pc)),(27,(.int .i64 (i:Int))),(28,(.pointer (some ⟨b,i*2,none⟩))),(29,(.pointer (some ⟨b,i*2+1,none⟩))),(30,(.slice ae p.2.length ce)),(33,(.string m))] (fun bsE vsE W=> tw wr p.2 (lf p).ms r9 (bsE.getD 0 false) (bsE.getD 1 false) (bsE.getD 2 false) ((vsE.getD 0 undef)) ((vsE.getD 1 undef)) ((vsE.getD 2 undef)) W) (by kernel_rfl) (by kernel_rfl) rfl rfl (by kernel_rfl) (by rfl) ?h0 ?each ?done
   case h0=>
    intro vsE hlv
    obtain⟨v0,v1,v2,rfl⟩:=fe hlv
    exact⟨(Below.refl _ _).drew,(fun e=> by cases e),(fun e=> by cases e),(fun e=> by cases e)⟩
   case each=>
    simp only [dp]
    refine⟨⟨15,(.pointer (some ⟨Q,0,none⟩)),rfl,by kernel_rfl,?_⟩,⟨16,(.pointer (some ⟨Q,0,none⟩)),rfl,by kernel_rfl,?_⟩,⟨17,(.pointer (some ⟨Q,10,none⟩)),rfl,by kernel_rfl,?_⟩,⟨18,(.slice (some ⟨b,0,none⟩) a.ps.length pc),rfl,by kernel_rfl,?_⟩,⟨19,(.int .i64 (i:Int)),rfl,by kernel_rfl,?_⟩,⟨20,(.pointer (some ⟨b,i*2,none⟩)),rfl,by kernel_rfl,?_⟩,⟨21,(.pointer (some ⟨b,i*2,none⟩)),rfl,by kernel_rfl,?_⟩,⟨22,(.string p.1),rfl,by kernel_rfl,?_⟩,⟨23,(.pointer (some ⟨Q,0,none⟩)),rfl,by kernel_rfl,?_⟩,⟨24,(.pointer (some ⟨Q,0,none⟩)),rfl,by kernel_rfl,?_⟩,⟨25,(.pointer (some ⟨Q,10,none⟩)),rfl,by kernel_rfl,?_⟩,⟨26,(.slice (some ⟨b,0,none⟩) a.ps.length pc),rfl,by kernel_rfl,?_⟩,⟨27,(.int .i64 (i:Int)),rfl,by kernel_rfl,?_⟩,⟨28,(.pointer (some ⟨b,i*2,none⟩)),rfl,by kernel_rfl,?_⟩,⟨29,(.pointer (some ⟨b,i*2+1,none⟩)),rfl,by kernel_rfl,?_⟩,⟨30,(.slice ae p.2.length ce),rfl,by kernel_rfl,?_⟩,ax ⟨31,rfl,?q1_16⟩,ax ⟨32,rfl,?q1_17⟩,⟨33,(.string m),rfl,by kernel_rfl,?_⟩,ax ⟨34,rfl,?q1_19⟩,trivial⟩
    case q1_16=>
     intro bsE vsE W hlb hlv hnd hbk h
     obtain⟨b0,b1,b2,rfl⟩:=fe hlb
     obtain⟨v0,v1,v2,rfl⟩:=fe hlv
     obtain rfl:b0=false:=hbk
     replace h:tw wr p.2 (lf p).ms r9 false b1 b2 (v0) (v1) (v2) W:=h
     clear hnd
     have HST:=aa h
     skip
     intro K Q hK
     simp only [az,updAll,Act.put,aU,aV,aW,aX] at hK ⊢
     go_wp2_with (go_at_call 51;refine(CE.out _ h.bel).mono ?_;rintro en w9 ⟨v',rfl,ho9,hb9⟩)
     all_goals(have hm:=(⟨ai h.bel hb9,(fun _=> fz ho9),(fun e=> (h.o1 e).step hb9),h.e2⟩:tw wr p.2 (lf p).ms r9 true b1 b2 (v') (v1) (v2) w9))
     all_goals(first | exact hK _ _ hm | exact hm)
    case q1_17=>
     intro bsE vsE W hlb hlv hnd hbk h
     obtain⟨b0,b1,b2,rfl⟩:=fe hlb
     obtain⟨v0,v1,v2,rfl⟩:=fe hlv
     obtain rfl:b0=true:=hnd 0 (by simp)
     obtain rfl:b1=false:=hbk
     replace h:tw wr p.2 (lf p).ms r9 true false b2 (v0) (v1) (v2) W:=h
     clear hnd
     have HST:=aa h
     obtain⟨a9,c9,rfl,hev⟩:=h.o0 rfl
     intro K Q hK
     simp only [az,updAll,Act.put,aU,aV,aW,aX] at hK ⊢
     go_wp2_with (go_at_call 110;refine(CM.out _ c9 hev).mono ?_;rintro en w9 ⟨v',rfl,hs9,hb9⟩)
     all_goals(have hm:=(⟨ai h.bel hb9,(fun _=> ⟨a9,c9,rfl,hev.step hb9⟩),(fun _=> hs9),h.e2⟩:tw wr p.2 (lf p).ms r9 true true b2 ((.slice a9 (br p.2).length c9)) (v') (v2) w9))
     all_goals(first | exact hK _ _ hm | exact hm)
    case q1_19=>
     intro bsE vsE W hlb hlv hnd hbk h
     obtain⟨b0,b1,b2,rfl⟩:=fe hlb
     obtain⟨v0,v1,v2,rfl⟩:=fe hlv
     obtain rfl:b1=true:=hnd 1 (by simp)
     obtain rfl:b2=false:=hbk
     replace h:tw wr p.2 (lf p).ms r9 b0 true false (v0) (v1) (v2) W:=h
     clear hnd
     have HST:=aa h
     have hs8:=h.o1 rfl
     intro K Q hK
     simp only [az,updAll,Act.put,aU,aV,aW,aX] at hK ⊢
     go_wp2_with (go_at_call 111;refine(CH.out _ _ hs8).mono ?_;rintro en w9 ⟨rfl,hb9⟩)
     all_goals(have hm:=(⟨ai h.bel hb9,(fun e=> (h.o0 e).step hb9),(fun _=> hs8.step hb9),(fun _=> rfl)⟩:tw wr p.2 (lf p).ms r9 b0 true true (v0) (v1) ((.bool r9)) w9))
     all_goals(first | exact hK _ _ hm | exact hm)
    all_goals
     intro bsE vsE W hlb hlv hnd h
     obtain⟨b0,b1,b2,rfl⟩:=fe hlb
     obtain⟨v0,v1,v2,rfl⟩:=fe hlv
     replace h:tw wr p.2 (lf p).ms r9 b0 b1 b2 (v0) (v1) (v2) W:=h
     clear hnd
     have HST:=aa h
     obtain⟨f10,fl,fb,f1,f2⟩:=HF.out;have d10:=ag f10 h.bel;have dl:=ar fl h.bel.size;have db:=ar fb h.bel.size;have d1:=ag f1 h.bel;have d2:=ag f2 h.bel;clear f10 fl fb f1 f2
     intro K Q hK
     simp only [az,updAll,Act.put,aU,aV,aW,aX] at hK ⊢
     go_wp2_with (fail)
     all_goals(first | exact hK _ h | exact h)
   case done=>
    intro vsE W hlv h
    obtain⟨v0,v1,v2,rfl⟩:=fe hlv
    replace h:tw wr p.2 (lf p).ms r9 true true true (v0) (v1) (v2) W:=h
    have HST:=aa h
    obtain rfl:=h.e2 rfl
    have HBW:=aa h.bel
    clear h HST
    simp only [az,updAll,Act.put,aU,aV,aW,aX]
    cases hr:r9 with
    | true=>
     have HR:Hid (whereA m a=i):=rG HQ.out HP.out (by rw [← hr];exact HR9.out)
     have HWW:Hid (Below w.heap.size w W):=ai HW.out HBW.out
     subst hr
     clear HQ HF CE CM CH hc
     go_wp2_with fail
     exact bc (v:=.int .i64 (i:Int)) (by simp only [results,Tryz.results82];go_simp) rfl ⟨by rw [HR.out,dM (by omega)],HWW.out⟩
    | false=>
     have HQ2:Hid (∀ j,j < i+1→∀ p,a.ps[j]? =some p→hasT (lf p).ms m=false):=fun j hj r hr2=> by
      by_cases c:j=i
      ·subst c
       rw [HP.out] at hr2
       obtain rfl:=bD hr2
       rw [← hr];exact HR9.out
      ·exact HQ.out j (by omega) r hr2
     have HWW:Hid (Below w.heap.size w W):=ai HW.out HBW.out
     subst hr
     clear HQ HF CE CM CH hc
     go_wp2_with fail
     exact⟨⟨i+1,by omega,by push_cast;rfl,HQ2,HWW⟩,by simp [intOf];omega⟩
  ·obtain rfl:i=a.ps.length:=by omega
   have HR:Hid (whereA m a=a.ps.length):=rH HQ.out
   clear hc
   go_wp2_with fail
   exact aH (v:=.int .i64 (-1)) rfl rfl rfl ⟨by rw [HR.out,im (by omega)],HW.out⟩
end
section
open Sx Go.RowKit Mr
def inB(x lo hi:Int):Bool:=decide (x≥lo) && decide (x≤hi)
theorem aY(x lo hi:Int)(w:World):Calls Tryz.prog 109 #[.int .i64 x,.int .i64 lo,.int .i64 hi] w fun e w'=> e=.returned (.bool (inB x lo hi))∧w'=w:=by
 unfold inB
 by_cases h1:x≥lo
 ·by_cases h2:x≤hi
  ·rw [bF h1,bF h2]
   go_enter Tryz.func109,Tryz.ntmps109
   go_wp2_with fail
   exact aH (v:=.bool true) rfl rfl rfl ⟨rfl,rfl⟩
  ·rw [bF h1,bv h2]
   go_enter Tryz.func109,Tryz.ntmps109
   go_wp2_with fail
   exact aH (v:=.bool false) rfl rfl rfl ⟨rfl,rfl⟩
 ·rw [bv h1]
  go_enter Tryz.func109,Tryz.ntmps109
  go_wp2_with fail
  exact aH (v:=.bool false) rfl rfl rfl ⟨rfl,rfl⟩
theorem iq:(⟨#[]⟩:ByteArray).toList=[]:=by rw [Lib.toList_data]
theorem yi(a l:Int):decide (a < l)= !decide (a≥l):=by
 by_cases h:a≥l
 ·rw [bF h,bv (by omega)];rfl
 ·rw [bv h,bF (by omega)];rfl
theorem yj(a l:Int):decide (a > l)= !decide (a≤l):=by
 by_cases h:a≤l
 ·rw [bF h,bv (by omega)];rfl
 ·rw [bv h,bF (by omega)];rfl
theorem fu(l fa fb t a b:Int)(p q:Bool):dH l fa fb t a b p q= !(inB t 0 1099511627776 && inB a l fa && inB b 0 fb && p && q):=by
 unfold dH inB
 rw [yi a l,yj a fa,yi b 0,yj b fb]
 generalize decide (t≥0)=x1
 generalize decide (t≤1099511627776)=x2
 generalize decide (a≥l)=x3
 generalize decide (a≤fa)=x4
 generalize decide (b≥0)=x5
 generalize decide (b≤fb)=x6
 cases x1 <;> cases x2 <;> cases x3 <;> cases x4 <;> cases x5 <;> cases x6 <;> cases p <;> cases q <;> rfl
theorem AK(t a b:Int)(nm ot:ByteArray)(w:World)(h1:nm.size≤1000000)(h2:ot.size≤1000000)(tb ab bb pb qb:Bool)(ht:inB t 0 1099511627776=tb)(ha:inB a 1 4294967296=ab)(hb:inB b 0 32=bb)(hp:nameB nm=pb)(hq:(ot.toList==[])=qb)(r:Int)(hr:r=bif tb && ab && bb && pb && qb then 0 else 2):
  Calls Tryz.prog 49 #[.agg #[.int .i64 1,.int .i64 t,.int .i64 a,.int .i64 b,.string nm,.string ot]] w fun e w'=> e=.returned (.int .i64 r)∧Below w.heap.size w w':=by
 have CT:=aa (fun W=> aY t 0 1099511627776 W)
 have CA:=aa (fun W=> aY a 1 4294967296 W)
 have CB:=aa (fun W=> aY b 0 32 W)
 rw [ht] at CT
 rw [ha] at CA
 rw [hb] at CB
 have HR:=aa hr
 have CN:=aa (fun W=> bu nm W)
 rw [hp] at CN
 have x0:(w.alloc (.cells #[.int .i64 1,.int .i64 t,.int .i64 a,.int .i64 b,.string nm,.string ot] 29)).cell? ⟨w.heap.size,0,none⟩=some (.int .i64 1):=ah (au w _) rfl
 have x1:(w.alloc (.cells #[.int .i64 1,.int .i64 t,.int .i64 a,.int .i64 b,.string nm,.string ot] 29)).cell? ⟨w.heap.size,1,none⟩=some (.int .i64 t):=ah (au w _) rfl
 have x2:(w.alloc (.cells #[.int .i64 1,.int .i64 t,.int .i64 a,.int .i64 b,.string nm,.string ot] 29)).cell? ⟨w.heap.size,2,none⟩=some (.int .i64 a):=ah (au w _) rfl
 have x3:(w.alloc (.cells #[.int .i64 1,.int .i64 t,.int .i64 a,.int .i64 b,.string nm,.string ot] 29)).cell? ⟨w.heap.size,3,none⟩=some (.int .i64 b):=ah (au w _) rfl
 have x4:(w.alloc (.cells #[.int .i64 1,.int .i64 t,.int .i64 a,.int .i64 b,.string nm,.string ot] 29)).cell? ⟨w.heap.size,4,none⟩=some (.string nm):=ah (au w _) rfl
 have x5:(w.alloc (.cells #[.int .i64 1,.int .i64 t,.int .i64 a,.int .i64 b,.string nm,.string ot] 29)).cell? ⟨w.heap.size,5,none⟩=some (.string ot):=ah (au w _) rfl
 have xl:=ak (au w (.cells #[.int .i64 1,.int .i64 t,.int .i64 a,.int .i64 b,.string nm,.string ot] 29))
 have HB:Hid (Below w.heap.size w (w.alloc (.cells #[.int .i64 1,.int .i64 t,.int .i64 a,.int .i64 b,.string nm,.string ot] 29))):=bU
 have z0:=iq
 clear hr
 go_enter Tryz.func49,Tryz.ntmps49
 cases tb with
 | false=>
  clear ht ha hb hp hq
  go_wp2_with (go_at_call 109;with_reducible refine(CT.out _).mono ?_;rintro e w9 ⟨rfl,rfl⟩)
  exact aH (v:=.int .i64 2) rfl rfl rfl ⟨by rw [HR.out];simp,HB.out⟩
 | true=>
  clear ht ha hb
  go_upto_region 24 with(first | (go_at_call 109;with_reducible refine(CT.out _).mono ?_;rintro e w9 ⟨rfl,rfl⟩) | (go_at_call 48;refine(CN.out _).mono ?_;rintro e w9 ⟨rfl,hb9⟩;replace x0:=ag x0 hb9;replace x1:=ag x1 hb9;replace x2:=ag x2 hb9;replace x3:=ag x3 hb9;replace x4:=ag x4 hb9;replace x5:=ag x5 hb9;replace xl:=ar xl hb9.size;replace HB:=aa (ai HB.out hb9);clear hb9))
  cases ab with
  | false=>
   clear hp hq
   go_wp2_with (go_at_call 109;with_reducible refine(CA.out _).mono ?_;rintro e w9 ⟨rfl,rfl⟩)
   exact aH (v:=.int .i64 2) rfl rfl rfl ⟨by rw [HR.out];simp,HB.out⟩
  | true=>
   cases bb with
   | false=>
    clear hp hq
    go_wp2_with (go_at_call 109;(first | with_reducible refine(CA.out _).mono ?_ | with_reducible refine(CB.out _).mono ?_);rintro e w9 ⟨rfl,rfl⟩)
    exact aH (v:=.int .i64 2) rfl rfl rfl ⟨by rw [HR.out];simp,HB.out⟩
   | true=>
    cases pb with
    | false=>
     clear hp hq
     go_wp2_with (go_at_call 109;(first | with_reducible refine(CA.out _).mono ?_ | with_reducible refine(CB.out _).mono ?_);rintro e w9 ⟨rfl,rfl⟩)
     exact aH (v:=.int .i64 2) rfl rfl rfl ⟨by rw [HR.out];simp,HB.out⟩
    | true=>
     cases qb with
     | false=>
      have zo:(ot.toList==[])=false:=hq
      clear hp hq
      go_wp2_with (go_at_call 109;(first | with_reducible refine(CA.out _).mono ?_ | with_reducible refine(CB.out _).mono ?_);rintro e w9 ⟨rfl,rfl⟩)
      exact aH (v:=.int .i64 2) rfl rfl rfl ⟨by rw [HR.out];simp,HB.out⟩
     | true=>
      have zo:(ot.toList==[])=true:=hq
      clear hp hq
      go_wp2_with (go_at_call 109;(first | with_reducible refine(CA.out _).mono ?_ | with_reducible refine(CB.out _).mono ?_);rintro e w9 ⟨rfl,rfl⟩)
      exact aH (v:=.int .i64 0) rfl rfl rfl ⟨by rw [HR.out];simp,HB.out⟩
theorem AL(t a b:Int)(nm ot:ByteArray)(w:World)(h1:nm.size≤1000000)(h2:ot.size≤1000000)(tb ab bb pb qb:Bool)(ht:inB t 0 1099511627776=tb)(ha:inB a 0 1099511627776=ab)(hb:inB b 0 1099511627776=bb)(hp:(nm.toList==[])=pb)(hq:(ot.toList==[])=qb)(r:Int)(hr:r=bif tb && ab && bb && pb && qb then 0 else 2):
  Calls Tryz.prog 49 #[.agg #[.int .i64 2,.int .i64 t,.int .i64 a,.int .i64 b,.string nm,.string ot]] w fun e w'=> e=.returned (.int .i64 r)∧Below w.heap.size w w':=by
 have CT:=aa (fun W=> aY t 0 1099511627776 W)
 have CA:=aa (fun W=> aY a 0 1099511627776 W)
 have CB:=aa (fun W=> aY b 0 1099511627776 W)
 rw [ht] at CT
 rw [ha] at CA
 rw [hb] at CB
 have HR:=aa hr
 have x0:(w.alloc (.cells #[.int .i64 2,.int .i64 t,.int .i64 a,.int .i64 b,.string nm,.string ot] 29)).cell? ⟨w.heap.size,0,none⟩=some (.int .i64 2):=ah (au w _) rfl
 have x1:(w.alloc (.cells #[.int .i64 2,.int .i64 t,.int .i64 a,.int .i64 b,.string nm,.string ot] 29)).cell? ⟨w.heap.size,1,none⟩=some (.int .i64 t):=ah (au w _) rfl
 have x2:(w.alloc (.cells #[.int .i64 2,.int .i64 t,.int .i64 a,.int .i64 b,.string nm,.string ot] 29)).cell? ⟨w.heap.size,2,none⟩=some (.int .i64 a):=ah (au w _) rfl
 have x3:(w.alloc (.cells #[.int .i64 2,.int .i64 t,.int .i64 a,.int .i64 b,.string nm,.string ot] 29)).cell? ⟨w.heap.size,3,none⟩=some (.int .i64 b):=ah (au w _) rfl
 have x4:(w.alloc (.cells #[.int .i64 2,.int .i64 t,.int .i64 a,.int .i64 b,.string nm,.string ot] 29)).cell? ⟨w.heap.size,4,none⟩=some (.string nm):=ah (au w _) rfl
 have x5:(w.alloc (.cells #[.int .i64 2,.int .i64 t,.int .i64 a,.int .i64 b,.string nm,.string ot] 29)).cell? ⟨w.heap.size,5,none⟩=some (.string ot):=ah (au w _) rfl
 have xl:=ak (au w (.cells #[.int .i64 2,.int .i64 t,.int .i64 a,.int .i64 b,.string nm,.string ot] 29))
 have HB:Hid (Below w.heap.size w (w.alloc (.cells #[.int .i64 2,.int .i64 t,.int .i64 a,.int .i64 b,.string nm,.string ot] 29))):=bU
 have z0:=iq
 clear hr
 go_enter Tryz.func49,Tryz.ntmps49
 cases tb with
 | false=>
  clear ht ha hb hp hq
  go_wp2_with (go_at_call 109;with_reducible refine(CT.out _).mono ?_;rintro e w9 ⟨rfl,rfl⟩)
  exact aH (v:=.int .i64 2) rfl rfl rfl ⟨by rw [HR.out];simp,HB.out⟩
 | true=>
  clear ht ha hb
  go_upto_region 24 with(go_at_call 109;with_reducible refine(CT.out _).mono ?_;rintro e w9 ⟨rfl,rfl⟩)
  cases ab with
  | false=>
   clear hp hq
   go_wp2_with (go_at_call 109;with_reducible refine(CA.out _).mono ?_;rintro e w9 ⟨rfl,rfl⟩)
   exact aH (v:=.int .i64 2) rfl rfl rfl ⟨by rw [HR.out];simp,HB.out⟩
  | true=>
   cases bb with
   | false=>
    clear hp hq
    go_wp2_with (go_at_call 109;(first | with_reducible refine(CA.out _).mono ?_ | with_reducible refine(CB.out _).mono ?_);rintro e w9 ⟨rfl,rfl⟩)
    exact aH (v:=.int .i64 2) rfl rfl rfl ⟨by rw [HR.out];simp,HB.out⟩
   | true=>
    cases pb with
    | false=>
     have zn:(nm.toList==[])=false:=hp
     clear hp hq
     go_wp2_with (go_at_call 109;(first | with_reducible refine(CA.out _).mono ?_ | with_reducible refine(CB.out _).mono ?_);rintro e w9 ⟨rfl,rfl⟩)
     exact aH (v:=.int .i64 2) rfl rfl rfl ⟨by rw [HR.out];simp,HB.out⟩
    | true=>
     cases qb with
     | false=>
      have zn:(nm.toList==[])=true:=hp
      have zo:(ot.toList==[])=false:=hq
      clear hp hq
      go_wp2_with (go_at_call 109;(first | with_reducible refine(CA.out _).mono ?_ | with_reducible refine(CB.out _).mono ?_);rintro e w9 ⟨rfl,rfl⟩)
      exact aH (v:=.int .i64 2) rfl rfl rfl ⟨by rw [HR.out];simp,HB.out⟩
     | true=>
      have zn:(nm.toList==[])=true:=hp
      have zo:(ot.toList==[])=true:=hq
      clear hp hq
      go_wp2_with (go_at_call 109;(first | with_reducible refine(CA.out _).mono ?_ | with_reducible refine(CB.out _).mono ?_);rintro e w9 ⟨rfl,rfl⟩)
      exact aH (v:=.int .i64 0) rfl rfl rfl ⟨by rw [HR.out];simp,HB.out⟩
theorem AM(t a b:Int)(nm ot:ByteArray)(w:World)(h1:nm.size≤1000000)(h2:ot.size≤1000000)(tb ab bb pb qb:Bool)(ht:inB t 0 1099511627776=tb)(ha:inB a 0 4294967296=ab)(hb:inB b 0 0=bb)(hp:(nm.toList==[])=pb)(hq:(ot.toList==[])=qb)(r:Int)(hr:r=bif tb && ab && bb && pb && qb then 0 else 2):
  Calls Tryz.prog 49 #[.agg #[.int .i64 3,.int .i64 t,.int .i64 a,.int .i64 b,.string nm,.string ot]] w fun e w'=> e=.returned (.int .i64 r)∧Below w.heap.size w w':=by
 have CT:=aa (fun W=> aY t 0 1099511627776 W)
 have CA:=aa (fun W=> aY a 0 4294967296 W)
 have CB:=aa (fun W=> aY b 0 0 W)
 rw [ht] at CT
 rw [ha] at CA
 rw [hb] at CB
 have HR:=aa hr
 have x0:(w.alloc (.cells #[.int .i64 3,.int .i64 t,.int .i64 a,.int .i64 b,.string nm,.string ot] 29)).cell? ⟨w.heap.size,0,none⟩=some (.int .i64 3):=ah (au w _) rfl
 have x1:(w.alloc (.cells #[.int .i64 3,.int .i64 t,.int .i64 a,.int .i64 b,.string nm,.string ot] 29)).cell? ⟨w.heap.size,1,none⟩=some (.int .i64 t):=ah (au w _) rfl
 have x2:(w.alloc (.cells #[.int .i64 3,.int .i64 t,.int .i64 a,.int .i64 b,.string nm,.string ot] 29)).cell? ⟨w.heap.size,2,none⟩=some (.int .i64 a):=ah (au w _) rfl
 have x3:(w.alloc (.cells #[.int .i64 3,.int .i64 t,.int .i64 a,.int .i64 b,.string nm,.string ot] 29)).cell? ⟨w.heap.size,3,none⟩=some (.int .i64 b):=ah (au w _) rfl
 have x4:(w.alloc (.cells #[.int .i64 3,.int .i64 t,.int .i64 a,.int .i64 b,.string nm,.string ot] 29)).cell? ⟨w.heap.size,4,none⟩=some (.string nm):=ah (au w _) rfl
 have x5:(w.alloc (.cells #[.int .i64 3,.int .i64 t,.int .i64 a,.int .i64 b,.string nm,.string ot] 29)).cell? ⟨w.heap.size,5,none⟩=some (.string ot):=ah (au w _) rfl
 have xl:=ak (au w (.cells #[.int .i64 3,.int .i64 t,.int .i64 a,.int .i64 b,.string nm,.string ot] 29))
 have HB:Hid (Below w.heap.size w (w.alloc (.cells #[.int .i64 3,.int .i64 t,.int .i64 a,.int .i64 b,.string nm,.string ot] 29))):=bU
 have z0:=iq
 clear hr
 go_enter Tryz.func49,Tryz.ntmps49
 cases tb with
 | false=>
  clear ht ha hb hp hq
  go_wp2_with (go_at_call 109;with_reducible refine(CT.out _).mono ?_;rintro e w9 ⟨rfl,rfl⟩)
  exact aH (v:=.int .i64 2) rfl rfl rfl ⟨by rw [HR.out];simp,HB.out⟩
 | true=>
  clear ht ha hb
  go_upto_region 24 with(go_at_call 109;with_reducible refine(CT.out _).mono ?_;rintro e w9 ⟨rfl,rfl⟩)
  cases ab with
  | false=>
   clear hp hq
   go_wp2_with (go_at_call 109;with_reducible refine(CA.out _).mono ?_;rintro e w9 ⟨rfl,rfl⟩)
   exact aH (v:=.int .i64 2) rfl rfl rfl ⟨by rw [HR.out];simp,HB.out⟩
  | true=>
   cases bb with
   | false=>
    clear hp hq
    go_wp2_with (go_at_call 109;(first | with_reducible refine(CA.out _).mono ?_ | with_reducible refine(CB.out _).mono ?_);rintro e w9 ⟨rfl,rfl⟩)
    exact aH (v:=.int .i64 2) rfl rfl rfl ⟨by rw [HR.out];simp,HB.out⟩
   | true=>
    cases pb with
    | false=>
     have zn:(nm.toList==[])=false:=hp
     clear hp hq
     go_wp2_with (go_at_call 109;(first | with_reducible refine(CA.out _).mono ?_ | with_reducible refine(CB.out _).mono ?_);rintro e w9 ⟨rfl,rfl⟩)
     exact aH (v:=.int .i64 2) rfl rfl rfl ⟨by rw [HR.out];simp,HB.out⟩
    | true=>
     cases qb with
     | false=>
      have zn:(nm.toList==[])=true:=hp
      have zo:(ot.toList==[])=false:=hq
      clear hp hq
      go_wp2_with (go_at_call 109;(first | with_reducible refine(CA.out _).mono ?_ | with_reducible refine(CB.out _).mono ?_);rintro e w9 ⟨rfl,rfl⟩)
      exact aH (v:=.int .i64 2) rfl rfl rfl ⟨by rw [HR.out];simp,HB.out⟩
     | true=>
      have zn:(nm.toList==[])=true:=hp
      have zo:(ot.toList==[])=true:=hq
      clear hp hq
      go_wp2_with (go_at_call 109;(first | with_reducible refine(CA.out _).mono ?_ | with_reducible refine(CB.out _).mono ?_);rintro e w9 ⟨rfl,rfl⟩)
      exact aH (v:=.int .i64 0) rfl rfl rfl ⟨by rw [HR.out];simp,HB.out⟩
theorem AN(t a b:Int)(nm ot:ByteArray)(w:World)(h1:nm.size≤1000000)(h2:ot.size≤1000000)(tb ab bb pb qb:Bool)(ht:inB t 0 1099511627776=tb)(ha:inB a 1 12=ab)(hb:inB b 0 0=bb)(hp:(nm.toList==[])=pb)(hq:(ot.toList==[])=qb)(r:Int)(hr:r=bif tb && ab && bb && pb && qb then 0 else 2):
  Calls Tryz.prog 49 #[.agg #[.int .i64 4,.int .i64 t,.int .i64 a,.int .i64 b,.string nm,.string ot]] w fun e w'=> e=.returned (.int .i64 r)∧Below w.heap.size w w':=by
 have CT:=aa (fun W=> aY t 0 1099511627776 W)
 have CA:=aa (fun W=> aY a 1 12 W)
 have CB:=aa (fun W=> aY b 0 0 W)
 rw [ht] at CT
 rw [ha] at CA
 rw [hb] at CB
 have HR:=aa hr
 have x0:(w.alloc (.cells #[.int .i64 4,.int .i64 t,.int .i64 a,.int .i64 b,.string nm,.string ot] 29)).cell? ⟨w.heap.size,0,none⟩=some (.int .i64 4):=ah (au w _) rfl
 have x1:(w.alloc (.cells #[.int .i64 4,.int .i64 t,.int .i64 a,.int .i64 b,.string nm,.string ot] 29)).cell? ⟨w.heap.size,1,none⟩=some (.int .i64 t):=ah (au w _) rfl
 have x2:(w.alloc (.cells #[.int .i64 4,.int .i64 t,.int .i64 a,.int .i64 b,.string nm,.string ot] 29)).cell? ⟨w.heap.size,2,none⟩=some (.int .i64 a):=ah (au w _) rfl
 have x3:(w.alloc (.cells #[.int .i64 4,.int .i64 t,.int .i64 a,.int .i64 b,.string nm,.string ot] 29)).cell? ⟨w.heap.size,3,none⟩=some (.int .i64 b):=ah (au w _) rfl
 have x4:(w.alloc (.cells #[.int .i64 4,.int .i64 t,.int .i64 a,.int .i64 b,.string nm,.string ot] 29)).cell? ⟨w.heap.size,4,none⟩=some (.string nm):=ah (au w _) rfl
 have x5:(w.alloc (.cells #[.int .i64 4,.int .i64 t,.int .i64 a,.int .i64 b,.string nm,.string ot] 29)).cell? ⟨w.heap.size,5,none⟩=some (.string ot):=ah (au w _) rfl
 have xl:=ak (au w (.cells #[.int .i64 4,.int .i64 t,.int .i64 a,.int .i64 b,.string nm,.string ot] 29))
 have HB:Hid (Below w.heap.size w (w.alloc (.cells #[.int .i64 4,.int .i64 t,.int .i64 a,.int .i64 b,.string nm,.string ot] 29))):=bU
 have z0:=iq
 clear hr
 go_enter Tryz.func49,Tryz.ntmps49
 cases tb with
 | false=>
  clear ht ha hb hp hq
  go_wp2_with (go_at_call 109;with_reducible refine(CT.out _).mono ?_;rintro e w9 ⟨rfl,rfl⟩)
  exact aH (v:=.int .i64 2) rfl rfl rfl ⟨by rw [HR.out];simp,HB.out⟩
 | true=>
  clear ht ha hb
  go_upto_region 24 with(go_at_call 109;with_reducible refine(CT.out _).mono ?_;rintro e w9 ⟨rfl,rfl⟩)
  cases ab with
  | false=>
   clear hp hq
   go_wp2_with (go_at_call 109;with_reducible refine(CA.out _).mono ?_;rintro e w9 ⟨rfl,rfl⟩)
   exact aH (v:=.int .i64 2) rfl rfl rfl ⟨by rw [HR.out];simp,HB.out⟩
  | true=>
   cases bb with
   | false=>
    clear hp hq
    go_wp2_with (go_at_call 109;(first | with_reducible refine(CA.out _).mono ?_ | with_reducible refine(CB.out _).mono ?_);rintro e w9 ⟨rfl,rfl⟩)
    exact aH (v:=.int .i64 2) rfl rfl rfl ⟨by rw [HR.out];simp,HB.out⟩
   | true=>
    cases pb with
    | false=>
     have zn:(nm.toList==[])=false:=hp
     clear hp hq
     go_wp2_with (go_at_call 109;(first | with_reducible refine(CA.out _).mono ?_ | with_reducible refine(CB.out _).mono ?_);rintro e w9 ⟨rfl,rfl⟩)
     exact aH (v:=.int .i64 2) rfl rfl rfl ⟨by rw [HR.out];simp,HB.out⟩
    | true=>
     cases qb with
     | false=>
      have zn:(nm.toList==[])=true:=hp
      have zo:(ot.toList==[])=false:=hq
      clear hp hq
      go_wp2_with (go_at_call 109;(first | with_reducible refine(CA.out _).mono ?_ | with_reducible refine(CB.out _).mono ?_);rintro e w9 ⟨rfl,rfl⟩)
      exact aH (v:=.int .i64 2) rfl rfl rfl ⟨by rw [HR.out];simp,HB.out⟩
     | true=>
      have zn:(nm.toList==[])=true:=hp
      have zo:(ot.toList==[])=true:=hq
      clear hp hq
      go_wp2_with (go_at_call 109;(first | with_reducible refine(CA.out _).mono ?_ | with_reducible refine(CB.out _).mono ?_);rintro e w9 ⟨rfl,rfl⟩)
      exact aH (v:=.int .i64 0) rfl rfl rfl ⟨by rw [HR.out];simp,HB.out⟩
theorem AO(t a b:Int)(nm ot:ByteArray)(w:World)(h1:nm.size≤1000000)(h2:ot.size≤1000000)(tb ab bb pb qb:Bool)(ht:inB t 0 1099511627776=tb)(ha:inB a 0 0=ab)(hb:inB b 0 0=bb)(hp:modB nm=pb)(hq:nameB ot=qb)(r:Int)(hr:r=bif tb && ab && bb && pb && qb then 0 else 2):
  Calls Tryz.prog 49 #[.agg #[.int .i64 5,.int .i64 t,.int .i64 a,.int .i64 b,.string nm,.string ot]] w fun e w'=> e=.returned (.int .i64 r)∧Below w.heap.size w w':=by
 have CT:=aa (fun W=> aY t 0 1099511627776 W)
 have CA:=aa (fun W=> aY a 0 0 W)
 have CB:=aa (fun W=> aY b 0 0 W)
 rw [ht] at CT
 rw [ha] at CA
 rw [hb] at CB
 have HR:=aa hr
 have CN:=aa (fun W=> bS nm W h1)
 rw [hp] at CN
 have CO:=aa (fun W=> bu ot W)
 rw [hq] at CO
 have x0:(w.alloc (.cells #[.int .i64 5,.int .i64 t,.int .i64 a,.int .i64 b,.string nm,.string ot] 29)).cell? ⟨w.heap.size,0,none⟩=some (.int .i64 5):=ah (au w _) rfl
 have x1:(w.alloc (.cells #[.int .i64 5,.int .i64 t,.int .i64 a,.int .i64 b,.string nm,.string ot] 29)).cell? ⟨w.heap.size,1,none⟩=some (.int .i64 t):=ah (au w _) rfl
 have x2:(w.alloc (.cells #[.int .i64 5,.int .i64 t,.int .i64 a,.int .i64 b,.string nm,.string ot] 29)).cell? ⟨w.heap.size,2,none⟩=some (.int .i64 a):=ah (au w _) rfl
 have x3:(w.alloc (.cells #[.int .i64 5,.int .i64 t,.int .i64 a,.int .i64 b,.string nm,.string ot] 29)).cell? ⟨w.heap.size,3,none⟩=some (.int .i64 b):=ah (au w _) rfl
 have x4:(w.alloc (.cells #[.int .i64 5,.int .i64 t,.int .i64 a,.int .i64 b,.string nm,.string ot] 29)).cell? ⟨w.heap.size,4,none⟩=some (.string nm):=ah (au w _) rfl
 have x5:(w.alloc (.cells #[.int .i64 5,.int .i64 t,.int .i64 a,.int .i64 b,.string nm,.string ot] 29)).cell? ⟨w.heap.size,5,none⟩=some (.string ot):=ah (au w _) rfl
 have xl:=ak (au w (.cells #[.int .i64 5,.int .i64 t,.int .i64 a,.int .i64 b,.string nm,.string ot] 29))
 have HB:Hid (Below w.heap.size w (w.alloc (.cells #[.int .i64 5,.int .i64 t,.int .i64 a,.int .i64 b,.string nm,.string ot] 29))):=bU
 have z0:=iq
 clear hr
 go_enter Tryz.func49,Tryz.ntmps49
 cases tb with
 | false=>
  clear ht ha hb hp hq
  go_wp2_with (go_at_call 109;with_reducible refine(CT.out _).mono ?_;rintro e w9 ⟨rfl,rfl⟩)
  exact aH (v:=.int .i64 2) rfl rfl rfl ⟨by rw [HR.out];simp,HB.out⟩
 | true=>
  clear ht ha hb
  go_upto_region 24 with(first | ((first | (go_at_call 81;refine(CN.out _).mono ?_) | (go_at_call 48;refine(CO.out _).mono ?_));rintro e w9 ⟨rfl,hb9⟩;replace x0:=ag x0 hb9;replace x1:=ag x1 hb9;replace x2:=ag x2 hb9;replace x3:=ag x3 hb9;replace x4:=ag x4 hb9;replace x5:=ag x5 hb9;replace xl:=ar xl hb9.size;replace HB:=aa (ai HB.out hb9);clear hb9) | (go_at_call 109;with_reducible refine(CT.out _).mono ?_;rintro e w9 ⟨rfl,rfl⟩))
  cases ab with
  | false=>
   clear hp hq
   go_wp2_with (go_at_call 109;with_reducible refine(CA.out _).mono ?_;rintro e w9 ⟨rfl,rfl⟩)
   exact aH (v:=.int .i64 2) rfl rfl rfl ⟨by rw [HR.out];simp,HB.out⟩
  | true=>
   cases bb with
   | false=>
    clear hp hq
    go_wp2_with (go_at_call 109;(first | with_reducible refine(CA.out _).mono ?_ | with_reducible refine(CB.out _).mono ?_);rintro e w9 ⟨rfl,rfl⟩)
    exact aH (v:=.int .i64 2) rfl rfl rfl ⟨by rw [HR.out];simp,HB.out⟩
   | true=>
    cases pb with
    | false=>
     clear hp hq
     go_wp2_with (go_at_call 109;(first | with_reducible refine(CA.out _).mono ?_ | with_reducible refine(CB.out _).mono ?_);rintro e w9 ⟨rfl,rfl⟩)
     exact aH (v:=.int .i64 2) rfl rfl rfl ⟨by rw [HR.out];simp,HB.out⟩
    | true=>
     cases qb with
     | false=>
      clear hp hq
      go_wp2_with (go_at_call 109;(first | with_reducible refine(CA.out _).mono ?_ | with_reducible refine(CB.out _).mono ?_);rintro e w9 ⟨rfl,rfl⟩)
      exact aH (v:=.int .i64 2) rfl rfl rfl ⟨by rw [HR.out];simp,HB.out⟩
     | true=>
      clear hp hq
      go_wp2_with (go_at_call 109;(first | with_reducible refine(CA.out _).mono ?_ | with_reducible refine(CB.out _).mono ?_);rintro e w9 ⟨rfl,rfl⟩)
      exact aH (v:=.int .i64 0) rfl rfl rfl ⟨by rw [HR.out];simp,HB.out⟩
theorem AP(t a b:Int)(nm ot:ByteArray)(w:World)(h1:nm.size≤1000000)(h2:ot.size≤1000000)(tb ab bb pb qb:Bool)(ht:inB t 0 1099511627776=tb)(ha:inB a 0 0=ab)(hb:inB b 0 0=bb)(hp:modB nm=pb)(hq:nameB ot=qb)(r:Int)(hr:r=bif tb && ab && bb && pb && qb then 0 else 2):
  Calls Tryz.prog 49 #[.agg #[.int .i64 6,.int .i64 t,.int .i64 a,.int .i64 b,.string nm,.string ot]] w fun e w'=> e=.returned (.int .i64 r)∧Below w.heap.size w w':=by
 have CT:=aa (fun W=> aY t 0 1099511627776 W)
 have CA:=aa (fun W=> aY a 0 0 W)
 have CB:=aa (fun W=> aY b 0 0 W)
 rw [ht] at CT
 rw [ha] at CA
 rw [hb] at CB
 have HR:=aa hr
 have CN:=aa (fun W=> bS nm W h1)
 rw [hp] at CN
 have CO:=aa (fun W=> bu ot W)
 rw [hq] at CO
 have x0:(w.alloc (.cells #[.int .i64 6,.int .i64 t,.int .i64 a,.int .i64 b,.string nm,.string ot] 29)).cell? ⟨w.heap.size,0,none⟩=some (.int .i64 6):=ah (au w _) rfl
 have x1:(w.alloc (.cells #[.int .i64 6,.int .i64 t,.int .i64 a,.int .i64 b,.string nm,.string ot] 29)).cell? ⟨w.heap.size,1,none⟩=some (.int .i64 t):=ah (au w _) rfl
 have x2:(w.alloc (.cells #[.int .i64 6,.int .i64 t,.int .i64 a,.int .i64 b,.string nm,.string ot] 29)).cell? ⟨w.heap.size,2,none⟩=some (.int .i64 a):=ah (au w _) rfl
 have x3:(w.alloc (.cells #[.int .i64 6,.int .i64 t,.int .i64 a,.int .i64 b,.string nm,.string ot] 29)).cell? ⟨w.heap.size,3,none⟩=some (.int .i64 b):=ah (au w _) rfl
 have x4:(w.alloc (.cells #[.int .i64 6,.int .i64 t,.int .i64 a,.int .i64 b,.string nm,.string ot] 29)).cell? ⟨w.heap.size,4,none⟩=some (.string nm):=ah (au w _) rfl
 have x5:(w.alloc (.cells #[.int .i64 6,.int .i64 t,.int .i64 a,.int .i64 b,.string nm,.string ot] 29)).cell? ⟨w.heap.size,5,none⟩=some (.string ot):=ah (au w _) rfl
 have xl:=ak (au w (.cells #[.int .i64 6,.int .i64 t,.int .i64 a,.int .i64 b,.string nm,.string ot] 29))
 have HB:Hid (Below w.heap.size w (w.alloc (.cells #[.int .i64 6,.int .i64 t,.int .i64 a,.int .i64 b,.string nm,.string ot] 29))):=bU
 have z0:=iq
 clear hr
 go_enter Tryz.func49,Tryz.ntmps49
 cases tb with
 | false=>
  clear ht ha hb hp hq
  go_wp2_with (go_at_call 109;with_reducible refine(CT.out _).mono ?_;rintro e w9 ⟨rfl,rfl⟩)
  exact aH (v:=.int .i64 2) rfl rfl rfl ⟨by rw [HR.out];simp,HB.out⟩
 | true=>
  clear ht ha hb
  go_upto_region 24 with(first | ((first | (go_at_call 81;refine(CN.out _).mono ?_) | (go_at_call 48;refine(CO.out _).mono ?_));rintro e w9 ⟨rfl,hb9⟩;replace x0:=ag x0 hb9;replace x1:=ag x1 hb9;replace x2:=ag x2 hb9;replace x3:=ag x3 hb9;replace x4:=ag x4 hb9;replace x5:=ag x5 hb9;replace xl:=ar xl hb9.size;replace HB:=aa (ai HB.out hb9);clear hb9) | (go_at_call 109;with_reducible refine(CT.out _).mono ?_;rintro e w9 ⟨rfl,rfl⟩))
  cases ab with
  | false=>
   clear hp hq
   go_wp2_with (go_at_call 109;with_reducible refine(CA.out _).mono ?_;rintro e w9 ⟨rfl,rfl⟩)
   exact aH (v:=.int .i64 2) rfl rfl rfl ⟨by rw [HR.out];simp,HB.out⟩
  | true=>
   cases bb with
   | false=>
    clear hp hq
    go_wp2_with (go_at_call 109;(first | with_reducible refine(CA.out _).mono ?_ | with_reducible refine(CB.out _).mono ?_);rintro e w9 ⟨rfl,rfl⟩)
    exact aH (v:=.int .i64 2) rfl rfl rfl ⟨by rw [HR.out];simp,HB.out⟩
   | true=>
    cases pb with
    | false=>
     clear hp hq
     go_wp2_with (go_at_call 109;(first | with_reducible refine(CA.out _).mono ?_ | with_reducible refine(CB.out _).mono ?_);rintro e w9 ⟨rfl,rfl⟩)
     exact aH (v:=.int .i64 2) rfl rfl rfl ⟨by rw [HR.out];simp,HB.out⟩
    | true=>
     cases qb with
     | false=>
      clear hp hq
      go_wp2_with (go_at_call 109;(first | with_reducible refine(CA.out _).mono ?_ | with_reducible refine(CB.out _).mono ?_);rintro e w9 ⟨rfl,rfl⟩)
      exact aH (v:=.int .i64 2) rfl rfl rfl ⟨by rw [HR.out];simp,HB.out⟩
     | true=>
      clear hp hq
      go_wp2_with (go_at_call 109;(first | with_reducible refine(CA.out _).mono ?_ | with_reducible refine(CB.out _).mono ?_);rintro e w9 ⟨rfl,rfl⟩)
      exact aH (v:=.int .i64 0) rfl rfl rfl ⟨by rw [HR.out];simp,HB.out⟩
theorem AQ(t a b:Int)(nm ot:ByteArray)(w:World)(h1:nm.size≤1000000)(h2:ot.size≤1000000)(tb ab bb pb qb:Bool)(ht:inB t 0 1099511627776=tb)(ha:inB a 0 0=ab)(hb:inB b 0 0=bb)(hp:nameB nm=pb)(hq:(ot.toList==[])=qb)(r:Int)(hr:r=bif tb && ab && bb && pb && qb then 0 else 2):
  Calls Tryz.prog 49 #[.agg #[.int .i64 7,.int .i64 t,.int .i64 a,.int .i64 b,.string nm,.string ot]] w fun e w'=> e=.returned (.int .i64 r)∧Below w.heap.size w w':=by
 have CT:=aa (fun W=> aY t 0 1099511627776 W)
 have CA:=aa (fun W=> aY a 0 0 W)
 have CB:=aa (fun W=> aY b 0 0 W)
 rw [ht] at CT
 rw [ha] at CA
 rw [hb] at CB
 have HR:=aa hr
 have CN:=aa (fun W=> bu nm W)
 rw [hp] at CN
 have x0:(w.alloc (.cells #[.int .i64 7,.int .i64 t,.int .i64 a,.int .i64 b,.string nm,.string ot] 29)).cell? ⟨w.heap.size,0,none⟩=some (.int .i64 7):=ah (au w _) rfl
 have x1:(w.alloc (.cells #[.int .i64 7,.int .i64 t,.int .i64 a,.int .i64 b,.string nm,.string ot] 29)).cell? ⟨w.heap.size,1,none⟩=some (.int .i64 t):=ah (au w _) rfl
 have x2:(w.alloc (.cells #[.int .i64 7,.int .i64 t,.int .i64 a,.int .i64 b,.string nm,.string ot] 29)).cell? ⟨w.heap.size,2,none⟩=some (.int .i64 a):=ah (au w _) rfl
 have x3:(w.alloc (.cells #[.int .i64 7,.int .i64 t,.int .i64 a,.int .i64 b,.string nm,.string ot] 29)).cell? ⟨w.heap.size,3,none⟩=some (.int .i64 b):=ah (au w _) rfl
 have x4:(w.alloc (.cells #[.int .i64 7,.int .i64 t,.int .i64 a,.int .i64 b,.string nm,.string ot] 29)).cell? ⟨w.heap.size,4,none⟩=some (.string nm):=ah (au w _) rfl
 have x5:(w.alloc (.cells #[.int .i64 7,.int .i64 t,.int .i64 a,.int .i64 b,.string nm,.string ot] 29)).cell? ⟨w.heap.size,5,none⟩=some (.string ot):=ah (au w _) rfl
 have xl:=ak (au w (.cells #[.int .i64 7,.int .i64 t,.int .i64 a,.int .i64 b,.string nm,.string ot] 29))
 have HB:Hid (Below w.heap.size w (w.alloc (.cells #[.int .i64 7,.int .i64 t,.int .i64 a,.int .i64 b,.string nm,.string ot] 29))):=bU
 have z0:=iq
 clear hr
 go_enter Tryz.func49,Tryz.ntmps49
 cases tb with
 | false=>
  clear ht ha hb hp hq
  go_wp2_with (go_at_call 109;with_reducible refine(CT.out _).mono ?_;rintro e w9 ⟨rfl,rfl⟩)
  exact aH (v:=.int .i64 2) rfl rfl rfl ⟨by rw [HR.out];simp,HB.out⟩
 | true=>
  clear ht ha hb
  go_upto_region 24 with(first | (go_at_call 109;with_reducible refine(CT.out _).mono ?_;rintro e w9 ⟨rfl,rfl⟩) | (go_at_call 48;refine(CN.out _).mono ?_;rintro e w9 ⟨rfl,hb9⟩;replace x0:=ag x0 hb9;replace x1:=ag x1 hb9;replace x2:=ag x2 hb9;replace x3:=ag x3 hb9;replace x4:=ag x4 hb9;replace x5:=ag x5 hb9;replace xl:=ar xl hb9.size;replace HB:=aa (ai HB.out hb9);clear hb9))
  cases ab with
  | false=>
   clear hp hq
   go_wp2_with (go_at_call 109;with_reducible refine(CA.out _).mono ?_;rintro e w9 ⟨rfl,rfl⟩)
   exact aH (v:=.int .i64 2) rfl rfl rfl ⟨by rw [HR.out];simp,HB.out⟩
  | true=>
   cases bb with
   | false=>
    clear hp hq
    go_wp2_with (go_at_call 109;(first | with_reducible refine(CA.out _).mono ?_ | with_reducible refine(CB.out _).mono ?_);rintro e w9 ⟨rfl,rfl⟩)
    exact aH (v:=.int .i64 2) rfl rfl rfl ⟨by rw [HR.out];simp,HB.out⟩
   | true=>
    cases pb with
    | false=>
     clear hp hq
     go_wp2_with (go_at_call 109;(first | with_reducible refine(CA.out _).mono ?_ | with_reducible refine(CB.out _).mono ?_);rintro e w9 ⟨rfl,rfl⟩)
     exact aH (v:=.int .i64 2) rfl rfl rfl ⟨by rw [HR.out];simp,HB.out⟩
    | true=>
     cases qb with
     | false=>
      have zo:(ot.toList==[])=false:=hq
      clear hp hq
      go_wp2_with (go_at_call 109;(first | with_reducible refine(CA.out _).mono ?_ | with_reducible refine(CB.out _).mono ?_);rintro e w9 ⟨rfl,rfl⟩)
      exact aH (v:=.int .i64 2) rfl rfl rfl ⟨by rw [HR.out];simp,HB.out⟩
     | true=>
      have zo:(ot.toList==[])=true:=hq
      clear hp hq
      go_wp2_with (go_at_call 109;(first | with_reducible refine(CA.out _).mono ?_ | with_reducible refine(CB.out _).mono ?_);rintro e w9 ⟨rfl,rfl⟩)
      exact aH (v:=.int .i64 0) rfl rfl rfl ⟨by rw [HR.out];simp,HB.out⟩
theorem AU(t a b:Int)(nm ot:ByteArray)(w:World)(h1:nm.size≤1000000)(h2:ot.size≤1000000)(tb ab bb pb qb:Bool)(ht:inB t 0 1099511627776=tb)(ha:inB a 0 0=ab)(hb:inB b 0 0=bb)(hp:nameB nm=pb)(hq:(ot.toList==[])=qb)(r:Int)(hr:r=bif tb && ab && bb && pb && qb then 0 else 2):
  Calls Tryz.prog 49 #[.agg #[.int .i64 8,.int .i64 t,.int .i64 a,.int .i64 b,.string nm,.string ot]] w fun e w'=> e=.returned (.int .i64 r)∧Below w.heap.size w w':=by
 have CT:=aa (fun W=> aY t 0 1099511627776 W)
 have CA:=aa (fun W=> aY a 0 0 W)
 have CB:=aa (fun W=> aY b 0 0 W)
 rw [ht] at CT
 rw [ha] at CA
 rw [hb] at CB
 have HR:=aa hr
 have CN:=aa (fun W=> bu nm W)
 rw [hp] at CN
 have x0:(w.alloc (.cells #[.int .i64 8,.int .i64 t,.int .i64 a,.int .i64 b,.string nm,.string ot] 29)).cell? ⟨w.heap.size,0,none⟩=some (.int .i64 8):=ah (au w _) rfl
 have x1:(w.alloc (.cells #[.int .i64 8,.int .i64 t,.int .i64 a,.int .i64 b,.string nm,.string ot] 29)).cell? ⟨w.heap.size,1,none⟩=some (.int .i64 t):=ah (au w _) rfl
 have x2:(w.alloc (.cells #[.int .i64 8,.int .i64 t,.int .i64 a,.int .i64 b,.string nm,.string ot] 29)).cell? ⟨w.heap.size,2,none⟩=some (.int .i64 a):=ah (au w _) rfl
 have x3:(w.alloc (.cells #[.int .i64 8,.int .i64 t,.int .i64 a,.int .i64 b,.string nm,.string ot] 29)).cell? ⟨w.heap.size,3,none⟩=some (.int .i64 b):=ah (au w _) rfl
 have x4:(w.alloc (.cells #[.int .i64 8,.int .i64 t,.int .i64 a,.int .i64 b,.string nm,.string ot] 29)).cell? ⟨w.heap.size,4,none⟩=some (.string nm):=ah (au w _) rfl
 have x5:(w.alloc (.cells #[.int .i64 8,.int .i64 t,.int .i64 a,.int .i64 b,.string nm,.string ot] 29)).cell? ⟨w.heap.size,5,none⟩=some (.string ot):=ah (au w _) rfl
 have xl:=ak (au w (.cells #[.int .i64 8,.int .i64 t,.int .i64 a,.int .i64 b,.string nm,.string ot] 29))
 have HB:Hid (Below w.heap.size w (w.alloc (.cells #[.int .i64 8,.int .i64 t,.int .i64 a,.int .i64 b,.string nm,.string ot] 29))):=bU
 have z0:=iq
 clear hr
 go_enter Tryz.func49,Tryz.ntmps49
 cases tb with
 | false=>
  clear ht ha hb hp hq
  go_wp2_with (go_at_call 109;with_reducible refine(CT.out _).mono ?_;rintro e w9 ⟨rfl,rfl⟩)
  exact aH (v:=.int .i64 2) rfl rfl rfl ⟨by rw [HR.out];simp,HB.out⟩
 | true=>
  clear ht ha hb
  go_upto_region 24 with(first | (go_at_call 109;with_reducible refine(CT.out _).mono ?_;rintro e w9 ⟨rfl,rfl⟩) | (go_at_call 48;refine(CN.out _).mono ?_;rintro e w9 ⟨rfl,hb9⟩;replace x0:=ag x0 hb9;replace x1:=ag x1 hb9;replace x2:=ag x2 hb9;replace x3:=ag x3 hb9;replace x4:=ag x4 hb9;replace x5:=ag x5 hb9;replace xl:=ar xl hb9.size;replace HB:=aa (ai HB.out hb9);clear hb9))
  cases ab with
  | false=>
   clear hp hq
   go_wp2_with (go_at_call 109;with_reducible refine(CA.out _).mono ?_;rintro e w9 ⟨rfl,rfl⟩)
   exact aH (v:=.int .i64 2) rfl rfl rfl ⟨by rw [HR.out];simp,HB.out⟩
  | true=>
   cases bb with
   | false=>
    clear hp hq
    go_wp2_with (go_at_call 109;(first | with_reducible refine(CA.out _).mono ?_ | with_reducible refine(CB.out _).mono ?_);rintro e w9 ⟨rfl,rfl⟩)
    exact aH (v:=.int .i64 2) rfl rfl rfl ⟨by rw [HR.out];simp,HB.out⟩
   | true=>
    cases pb with
    | false=>
     clear hp hq
     go_wp2_with (go_at_call 109;(first | with_reducible refine(CA.out _).mono ?_ | with_reducible refine(CB.out _).mono ?_);rintro e w9 ⟨rfl,rfl⟩)
     exact aH (v:=.int .i64 2) rfl rfl rfl ⟨by rw [HR.out];simp,HB.out⟩
    | true=>
     cases qb with
     | false=>
      have zo:(ot.toList==[])=false:=hq
      clear hp hq
      go_wp2_with (go_at_call 109;(first | with_reducible refine(CA.out _).mono ?_ | with_reducible refine(CB.out _).mono ?_);rintro e w9 ⟨rfl,rfl⟩)
      exact aH (v:=.int .i64 2) rfl rfl rfl ⟨by rw [HR.out];simp,HB.out⟩
     | true=>
      have zo:(ot.toList==[])=true:=hq
      clear hp hq
      go_wp2_with (go_at_call 109;(first | with_reducible refine(CA.out _).mono ?_ | with_reducible refine(CB.out _).mono ?_);rintro e w9 ⟨rfl,rfl⟩)
      exact aH (v:=.int .i64 0) rfl rfl rfl ⟨by rw [HR.out];simp,HB.out⟩
theorem AV(t a b:Int)(nm ot:ByteArray)(w:World)(h1:nm.size≤1000000)(h2:ot.size≤1000000)(tb ab bb pb qb:Bool)(ht:inB t 0 1099511627776=tb)(ha:inB a 0 0=ab)(hb:inB b 0 0=bb)(hp:(nm.toList==[])=pb)(hq:(ot.toList==[])=qb)(r:Int)(hr:r=bif tb && ab && bb && pb && qb then 0 else 2):
  Calls Tryz.prog 49 #[.agg #[.int .i64 9,.int .i64 t,.int .i64 a,.int .i64 b,.string nm,.string ot]] w fun e w'=> e=.returned (.int .i64 r)∧Below w.heap.size w w':=by
 have CT:=aa (fun W=> aY t 0 1099511627776 W)
 have CA:=aa (fun W=> aY a 0 0 W)
 have CB:=aa (fun W=> aY b 0 0 W)
 rw [ht] at CT
 rw [ha] at CA
 rw [hb] at CB
 have HR:=aa hr
 have x0:(w.alloc (.cells #[.int .i64 9,.int .i64 t,.int .i64 a,.int .i64 b,.string nm,.string ot] 29)).cell? ⟨w.heap.size,0,none⟩=some (.int .i64 9):=ah (au w _) rfl
 have x1:(w.alloc (.cells #[.int .i64 9,.int .i64 t,.int .i64 a,.int .i64 b,.string nm,.string ot] 29)).cell? ⟨w.heap.size,1,none⟩=some (.int .i64 t):=ah (au w _) rfl
 have x2:(w.alloc (.cells #[.int .i64 9,.int .i64 t,.int .i64 a,.int .i64 b,.string nm,.string ot] 29)).cell? ⟨w.heap.size,2,none⟩=some (.int .i64 a):=ah (au w _) rfl
 have x3:(w.alloc (.cells #[.int .i64 9,.int .i64 t,.int .i64 a,.int .i64 b,.string nm,.string ot] 29)).cell? ⟨w.heap.size,3,none⟩=some (.int .i64 b):=ah (au w _) rfl
 have x4:(w.alloc (.cells #[.int .i64 9,.int .i64 t,.int .i64 a,.int .i64 b,.string nm,.string ot] 29)).cell? ⟨w.heap.size,4,none⟩=some (.string nm):=ah (au w _) rfl
 have x5:(w.alloc (.cells #[.int .i64 9,.int .i64 t,.int .i64 a,.int .i64 b,.string nm,.string ot] 29)).cell? ⟨w.heap.size,5,none⟩=some (.string ot):=ah (au w _) rfl
 have xl:=ak (au w (.cells #[.int .i64 9,.int .i64 t,.int .i64 a,.int .i64 b,.string nm,.string ot] 29))
 have HB:Hid (Below w.heap.size w (w.alloc (.cells #[.int .i64 9,.int .i64 t,.int .i64 a,.int .i64 b,.string nm,.string ot] 29))):=bU
 have z0:=iq
 clear hr
 go_enter Tryz.func49,Tryz.ntmps49
 cases tb with
 | false=>
  clear ht ha hb hp hq
  go_wp2_with (go_at_call 109;with_reducible refine(CT.out _).mono ?_;rintro e w9 ⟨rfl,rfl⟩)
  exact aH (v:=.int .i64 2) rfl rfl rfl ⟨by rw [HR.out];simp,HB.out⟩
 | true=>
  clear ht ha hb
  go_upto_region 24 with(go_at_call 109;with_reducible refine(CT.out _).mono ?_;rintro e w9 ⟨rfl,rfl⟩)
  cases ab with
  | false=>
   clear hp hq
   go_wp2_with (go_at_call 109;with_reducible refine(CA.out _).mono ?_;rintro e w9 ⟨rfl,rfl⟩)
   exact aH (v:=.int .i64 2) rfl rfl rfl ⟨by rw [HR.out];simp,HB.out⟩
  | true=>
   cases bb with
   | false=>
    clear hp hq
    go_wp2_with (go_at_call 109;(first | with_reducible refine(CA.out _).mono ?_ | with_reducible refine(CB.out _).mono ?_);rintro e w9 ⟨rfl,rfl⟩)
    exact aH (v:=.int .i64 2) rfl rfl rfl ⟨by rw [HR.out];simp,HB.out⟩
   | true=>
    cases pb with
    | false=>
     have zn:(nm.toList==[])=false:=hp
     clear hp hq
     go_wp2_with (go_at_call 109;(first | with_reducible refine(CA.out _).mono ?_ | with_reducible refine(CB.out _).mono ?_);rintro e w9 ⟨rfl,rfl⟩)
     exact aH (v:=.int .i64 2) rfl rfl rfl ⟨by rw [HR.out];simp,HB.out⟩
    | true=>
     cases qb with
     | false=>
      have zn:(nm.toList==[])=true:=hp
      have zo:(ot.toList==[])=false:=hq
      clear hp hq
      go_wp2_with (go_at_call 109;(first | with_reducible refine(CA.out _).mono ?_ | with_reducible refine(CB.out _).mono ?_);rintro e w9 ⟨rfl,rfl⟩)
      exact aH (v:=.int .i64 2) rfl rfl rfl ⟨by rw [HR.out];simp,HB.out⟩
     | true=>
      have zn:(nm.toList==[])=true:=hp
      have zo:(ot.toList==[])=true:=hq
      clear hp hq
      go_wp2_with (go_at_call 109;(first | with_reducible refine(CA.out _).mono ?_ | with_reducible refine(CB.out _).mono ?_);rintro e w9 ⟨rfl,rfl⟩)
      exact aH (v:=.int .i64 0) rfl rfl rfl ⟨by rw [HR.out];simp,HB.out⟩
theorem rJ(k t a b:Int)(nm ot:ByteArray)(w:World)(h1:nm.size≤1000000)(h2:ot.size≤1000000):Calls Tryz.prog 49 #[.agg #[.int .i64 k,.int .i64 t,.int .i64 a,.int .i64 b,.string nm,.string ot]] w fun e w'=> e=.returned (.int .i64 (bif gy k t a b nm ot then 0 else 2))∧Below w.heap.size w w':=by
 by_cases hk:1≤k∧k≤9
 ·have e:gy k t a b nm ot= !gx k t a b nm ot:=by
   unfold gy
   rw [bF ⟨hk.1,hk.2,h1,h2⟩,Bool.true_and]
  rw [e]
  have hc:k=1∨k=2∨k=3∨k=4∨k=5∨k=6∨k=7∨k=8∨k=9:=by omega
  rcases hc with rfl | rfl | rfl | rfl | rfl | rfl | rfl | rfl | rfl
  ·rw [show gx 1 t a b nm ot=dH 1 4294967296 32 t a b (nameB nm) ((ot.toList==[]))from rfl,fu,Bool.not_not]
   exact AK t a b nm ot w h1 h2 _ _ _ _ _ rfl rfl rfl rfl rfl _ rfl
  ·rw [show gx 2 t a b nm ot=dH 0 1099511627776 1099511627776 t a b ((nm.toList==[])) ((ot.toList==[]))from rfl,fu,Bool.not_not]
   exact AL t a b nm ot w h1 h2 _ _ _ _ _ rfl rfl rfl rfl rfl _ rfl
  ·rw [show gx 3 t a b nm ot=dH 0 4294967296 0 t a b ((nm.toList==[])) ((ot.toList==[]))from rfl,fu,Bool.not_not]
   exact AM t a b nm ot w h1 h2 _ _ _ _ _ rfl rfl rfl rfl rfl _ rfl
  ·rw [show gx 4 t a b nm ot=dH 1 12 0 t a b ((nm.toList==[])) ((ot.toList==[]))from rfl,fu,Bool.not_not]
   exact AN t a b nm ot w h1 h2 _ _ _ _ _ rfl rfl rfl rfl rfl _ rfl
  ·rw [show gx 5 t a b nm ot=dH 0 0 0 t a b (modB nm) (nameB ot)from rfl,fu,Bool.not_not]
   exact AO t a b nm ot w h1 h2 _ _ _ _ _ rfl rfl rfl rfl rfl _ rfl
  ·rw [show gx 6 t a b nm ot=dH 0 0 0 t a b (modB nm) (nameB ot)from rfl,fu,Bool.not_not]
   exact AP t a b nm ot w h1 h2 _ _ _ _ _ rfl rfl rfl rfl rfl _ rfl
  ·rw [show gx 7 t a b nm ot=dH 0 0 0 t a b (nameB nm) ((ot.toList==[]))from rfl,fu,Bool.not_not]
   exact AQ t a b nm ot w h1 h2 _ _ _ _ _ rfl rfl rfl rfl rfl _ rfl
  ·rw [show gx 8 t a b nm ot=dH 0 0 0 t a b (nameB nm) ((ot.toList==[]))from rfl,fu,Bool.not_not]
   exact AU t a b nm ot w h1 h2 _ _ _ _ _ rfl rfl rfl rfl rfl _ rfl
  ·rw [show gx 9 t a b nm ot=dH 0 0 0 t a b ((nm.toList==[])) ((ot.toList==[]))from rfl,fu,Bool.not_not]
   exact AV t a b nm ot w h1 h2 _ _ _ _ _ rfl rfl rfl rfl rfl _ rfl
 ·have e:gy k t a b nm ot=false:=by
   unfold gy
   rw [bv (fun c=> hk ⟨c.1,c.2.1⟩)]
   rfl
  rw [e]
  by_cases c:k < 1
  ·clear hk e
   go_enter Tryz.func49,Tryz.ntmps49
   go_wp2_with fail
   exact aH (v:=.int .i64 2) rfl rfl rfl ⟨rfl,bU⟩
  ·have c9:k > 9:=by omega
   clear hk e
   go_enter Tryz.func49,Tryz.ntmps49
   go_wp2_with fail
   exact aH (v:=.int .i64 2) rfl rfl rfl ⟨rfl,bU⟩
end
end Go.Proofs.YtmpilgkfbibhlaaGreatDoor
