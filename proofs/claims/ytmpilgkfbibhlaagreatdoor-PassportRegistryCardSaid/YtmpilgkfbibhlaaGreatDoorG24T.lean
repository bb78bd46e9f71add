/-
 G24T
-/
import Derived.Test.YtmpilgkfbibhlaaGreatDoorG23T
set_option linter.unusedSimpArgs false
set_option linter.unusedVariables false
set_option maxRecDepth 100000
set_option maxHeartbeats 20000000
namespace Go.Proofs.YtmpilgkfbibhlaaGreatDoor
section
open Sx Go.RowKit Mr
theorem pu.step {a:Option Addr} {l:List Dd} {W w2:World} (h:pu a l W)(hb:Below W.heap.size W w2):pu a l w2:=fun hn=> by
 obtain⟨b,off,e1,e2,e3⟩:=h hn
 exact⟨b,off,e1,ar e2 hb.size,fun k x hk j u hj=> ag (e3 k x hk j u hj) hb⟩
theorem ep.bel {w0 W:World} {B R Q:Nat} {vb vb2:Value} {a a2:RegA} (h:ep w0 B R Q vb vb2 a a2 W):Below w0.heap.size w0 W:=by
 obtain⟨g,vp,vP,X,h⟩:=h
 exact h.rf.bel
theorem ep.start {w0 w W W2:World} {R Q pt:Nat} {bks:List Bk} {vb vb2:Value} {g:RegS} {vp vP:Value} (h0:Below w0.heap.size w0 w)(h:bW w.heap.size R vb (kJ pt bks) g vp W)(hb:Below W.heap.size W W2)(hq:W.heap.size≤Q)(hf:bC w0 (fun _=> False) Q vb2 (kJ pt bks) vP W2)(hw:Below w.heap.size w W):ep w0 w.heap.size R Q vb vb2 (kJ pt bks) (kJ pt bks) W2:=
 ⟨g,vp,vP,_,h.step hb,hf,⟨h0.size,Nat.le_trans hw.size hq⟩,(fun k hk=> hk.elim),fun k hk=> ⟨fun c=> c,fun e=> by have:=(h.ra.ownT hk).2.1;omega⟩⟩
theorem ep.copy {w0 Wc W W2:World} {B R Q R' Q':Nat} {vb vb2:Value} {a:RegA} {g g':RegS} {vp vP vp' vP':Value} {X:Nat→Prop} (h:Tw w0 B R Q vb vb2 a a g vp vP X Wc)(hp:bW Wc.heap.size R' vb a g' vp' W)(hb:Below Wc.heap.size Wc W)(hq:W.heap.size≤Q')(hf:bC w0 (fun k=> (X k∨W.heap.size≤k)∧k≠Q') Q' vb2 a vP' W2)(hb2:Below W.heap.size W W2):ep w0 Wc.heap.size R' Q' vb vb2 a a W2:=by
 refine⟨g',vp',vP',_,hp.step hb2,hf.narrow,⟨h.rf.bel.size,Nat.le_trans hb.size hq⟩,fun k hk=> hk.2,fun k hk=> ⟨fun c=> ?_,fun e=> ?_⟩⟩
 ·have h1:=hp.ra.ownT hk
  rcases c.1.1 with c | c
  ·have:=h.xs k c;omega
  ·have:=h1.2.1;omega
 ·have:=(hp.ra.ownT hk).2.1;omega
structure mP(w0 Wc:World)(R':Nat)(vb vb2:Value)(a:RegA)(g':RegS)(vp' dv:Value)(b0 b1 b2 b3:Bool)(v0 v1 v2 v3:Value)(W:World):Prop where
 bel:Below Wc.heap.size Wc W
 p:b0=false→bW Wc.heap.size R' vb a g' vp' W
 q:b0=true→∃ Q',v0=.pointer (some ⟨Q',0,none⟩)∧(b2=false→ep w0 Wc.heap.size R' Q' vb vb2 a a W)
 e1:b1=true→v1=dv
 e2:b2=true→v2=.bool true
 e3:b3=true→v3=.bool true
 n:b0=false→b2=false
theorem mP.mk1 {w0 Wc W:World} {R':Nat} {vb vb2:Value} {a:RegA} {g':RegS} {vp' dv:Value} {b0 b1 b2 b3:Bool} {v0 v1 v2 v3:Value} (h:mP w0 Wc R' vb vb2 a g' vp' dv b0 b1 b2 b3 v0 v1 v2 v3 W):mP w0 Wc R' vb vb2 a g' vp' dv b0 true b2 b3 v0 dv v2 v3 W:=⟨h.bel,h.p,h.q,fun _=> rfl,h.e2,h.e3,h.n⟩
theorem mP.mk0 {w0 Wc W W2:World} {B R Q R' Q':Nat} {vb vb2:Value} {a:RegA} {g g':RegS} {vp vP vp' vP' dv:Value} {X:Nat→Prop} {b1 b3:Bool} {v0 v1 v2 v3:Value} (ht:Tw w0 B R Q vb vb2 a a g vp vP X Wc)(h:mP w0 Wc R' vb vb2 a g' vp' dv false b1 false b3 v0 v1 v2 v3 W)(hq:W.heap.size≤Q')(hf:bC w0 (fun k=> (X k∨W.heap.size≤k)∧k≠Q') Q' vb2 a vP' W2)(hb2:Below W.heap.size W W2):
  mP w0 Wc R' vb vb2 a g' vp' dv true b1 false b3 (.pointer (some ⟨Q',0,none⟩)) v1 v2 v3 W2:=
 ⟨ai h.bel hb2,(fun e=> by cases e),(fun _=> ⟨Q',rfl,fun _=> ep.copy ht (h.p rfl) h.bel hq hf hb2⟩),h.e1,h.e2,h.e3,(fun e=> by cases e)⟩
theorem mP.mk2 {w0 Wc W W2:World} {R' Q':Nat} {vb vb2:Value} {a:RegA} {g':RegS} {vp' dv:Value} {b1 b3:Bool} {v1 v2 v3:Value} (h:mP w0 Wc R' vb vb2 a g' vp' dv true b1 false b3 (.pointer (some ⟨Q',0,none⟩)) v1 v2 v3 W)(hb:Below Wc.heap.size W W2):
  mP w0 Wc R' vb vb2 a g' vp' dv true b1 true b3 (.pointer (some ⟨Q',0,none⟩)) v1 (.bool true) v3 W2:=
 ⟨h.bel.trans hb,(fun e=> by cases e),(fun _=> ⟨Q',rfl,fun e=> by cases e⟩),h.e1,(fun _=> rfl),h.e3,(fun e=> by cases e)⟩
theorem mP.mk3 {w0 Wc W W2:World} {R':Nat} {vb vb2:Value} {a:RegA} {g':RegS} {vp' dv:Value} {b1:Bool} {v0 v1 v2 v3:Value} (h:mP w0 Wc R' vb vb2 a g' vp' dv true b1 true false v0 v1 v2 v3 W)(hb:Below W.heap.size W W2):
  mP w0 Wc R' vb vb2 a g' vp' dv true b1 true true v0 v1 v2 (.bool true) W2:=
 ⟨ai h.bel hb,(fun e=> by cases e),(fun _=> by obtain⟨Q',e,-⟩:=h.q rfl;exact⟨Q',e,fun e=> by cases e⟩),h.e1,h.e2,(fun _=> rfl),(fun e=> by cases e)⟩
theorem ko(d:Dd):(Tryz.prog.info? 74).map (·.size)=some (mq d).length:=by rw [xG];kernel_rfl
theorem iz {ab al:Option Addr} {bks:List Bk} {l:List Dd} {w:World} (pt cb cl at_:Nat)(hB:dS ab bks w)(hA:pu al l w)(hG:dn w)(hpt:pt < 18446744073709551616)(hat:at_ < 256)(h8:∀ d∈l,d.do_ < 256)(hl:bks.length≤9223372036854775807∧l.length≤9223372036854775807):
  Calls Tryz.prog 7 #[.int .u64 (pt:Int),.slice ab bks.length cb,.slice al l.length cl,.int .u8 (at_:Int)] w fun e w'=> e=.returned (.bool true)∧Below w.heap.size w w':=by
 have CB:=aa (tp cb hB hl.1)
 have HG:=aa hG
 have HA:=aa hA
 have H8:=aa h8
 have HBk:=aa hB
 have HLL:=aa hl
 clear hA hB hG h8 hl
 cases hbr:mB bks
 ·rw [hbr] at CB
  clear hbr
  go_enter Tryz.func7,Tryz.ntmps7
  go_wp2_with (first | (go_at_call 9;refine CB.out.mono ?_;rintro e w1 ⟨rfl,hb1⟩;have HB1:=aa hb1;clear hb1) | (go_at_call 10;refine(hU _ (dV HG.out HB1.out)).mono ?_;rintro e w9 ⟨rfl,hb9⟩;have HB9:=aa (ai HB1.out hb9);clear hb9))
  exact aH (v:=.bool true) rfl rfl rfl ⟨rfl,HB9.out⟩
 ·rw [hbr] at CB
  have hbk:=of_decide_eq_true hbr
  have hbl:bks.length≤1000000∧∀ bk∈bks,bk.2.length≤1000000:=⟨by omega,fun bk hb=> by have:=hbk.2 bk hb;omega⟩
  have HBL:=aa hbl
  clear hbr hbk hbl
  by_cases hs:secR pt bks=0
  rotate_left
  ·have CP:=aa (fun W (hW:Below w.heap.size w W)=> xo pt cb (HBk.out.step hW) HBL.out hs)
   have CR:=aa (fun W (hW:Below w.heap.size w W)=> vU pt cb hpt (HBk.out.step hW) HBL.out.1 HBL.out.2 hs)
   have hz:(secR pt bks==0)=false:=by simpa using hs
   generalize secR pt bks=z at*
   clear hs
   go_enter Tryz.func7,Tryz.ntmps7
   go_wp2_with (first | (go_at_call 9;refine CB.out.mono ?_;rintro e w1 ⟨rfl,hb1⟩;have HB1:=aa hb1;clear hb1) | (go_at_call 24;refine(CP.out _ HB1.out).mono ?_;rintro e w2 ⟨rfl,hb2⟩;have HB2:=aa (ai HB1.out hb2);clear hb2) | (go_at_call 25;refine(CR.out _ HB2.out).mono ?_;rintro e w3 ⟨rfl,hb3⟩;have HB3:=aa (ai HB2.out hb3);clear hb3) | (go_at_call 10;refine(hU _ (dV HG.out HB3.out)).mono ?_;rintro e w9 ⟨rfl,hb9⟩;have HB9:=aa (ai HB3.out hb9);clear hb9))
   exact aH (v:=.bool true) rfl rfl rfl ⟨rfl,HB9.out⟩
  ·have CP:=aa (fun W (hW:Below w.heap.size w W)=> yY pt cb (HBk.out.step hW) HBL.out hs)
   have CR:=aa (fun W (hW:Below w.heap.size w W)=> xT (w0:=w) pt cb hpt HBk.out hW HBL.out.1 HBL.out.2 hs)
   have HOK:=aa (xq hs)
   clear hs
   go_enter Tryz.func7,Tryz.ntmps7
   go_upto_region 5 with(first | (go_at_call 9;refine CB.out.mono ?_;rintro e w1 ⟨rfl,hb1⟩;have HB1:=aa hb1;clear hb1) | (go_at_call 24;refine(CP.out _ HB1.out).mono ?_;rintro e w2 ⟨R,vb,rfl,hr,hb2⟩;have HR2:=aa hr;have HY2:=aa hb2;have HB2:=aa (ai HB1.out hb2);clear hb2 hr) | (go_at_call 25;refine(CR.out _ HB2.out).mono ?_;rintro e w3 ⟨Q,rfl,hQ,hf,hb3⟩;have HT0:Hid (ep w w1.heap.size R Q vb (.slice ab bks.length cb) (kJ pt bks) (kJ pt bks) w3):=ep.start HB1.out HR2.out hb3 hQ hf HY2.out;have HB3:=aa (ai HB2.out hb3);clear hQ hf hb3))
   clear CB CP CR
   go_wp2_with fail
   go_loopw [13] (fun ix wr=> ∃ i:Nat,i≤l.length∧i≤60∧ix=.int .i64 i∧Hid (∃ a,ep w w1.heap.size R Q vb (.slice ab bks.length cb) a a wr∧dc a∧HdI a)) (fun ix _=> l.length - (intOf ix).toNat)
   case atStart=> exact⟨0,Nat.zero_le _,Nat.zero_le _,rfl,⟨kJ pt bks,HT0.out,HOK.out,fun p hp=> by cases hp⟩⟩
   case round=>
    obtain⟨i,hi,hj,rfl,HS⟩:=hrel
    obtain⟨a,hT,hO,hD⟩:=HS.out
    clear HT0 HOK
    by_cases hc:i < l.length
    ·by_cases hd:i < 60
     ·skip
      have c1:(i:Int) < l.length:=by omega
      have c2:(i:Int) < 60:=by omega
      have c0:(0:Int)≤i:=by omega
      obtain⟨d,hk⟩:∃ d,l[i]? =some d:=⟨l[i],bh hc⟩
      obtain⟨b,off,eal,hbb,hbc⟩:=HA.out (by rintro e;rw [e] at hc;simp at hc)
      obtain rfl:=eal
      have HDC:Hid (∀ W,Below w.heap.size w W→∀ (j:Nat) (u:Value),(mq d)[j]? =some u→W.cell? ⟨b,off+i*15+j,none⟩=some u):=fun W hW j u hj=> ag (hbc i d hk j u hj) hW
      have HBB:=aa hbb
      have HD8:=aa (H8.out d (aJ hk))
      have HBW:=aa hT.bel
      have HT:=aa hT
      have HO:=aa hO
      have HD:=aa hD
      clear hk hbb hbc hc hd hT hO hD HS
      rcases wi (w:=wr) d with hL | ⟨hdk,hL⟩
      ·have CLG:=aa hL
       clear hL
       go_wp2_with (first | (refine wpList_load_mid rfl 74 (.tmp 68) rfl b (off+i*15) rfl (mq d) _ (HDC.out _ HBW.out) Tryz.underlying74 rfl (ko d) ?_) | (go_at_call 26;refine CLG.out.mono ?_;rintro e w4 ⟨rfl,hb4⟩;have HB4:=aa (ai HBW.out hb4);have HY4:=aa hb4;clear hb4) | (go_at_call 10;refine(hU _ (dV HG.out HB4.out)).mono ?_;rintro e w9 ⟨rfl,hb9⟩;have HB9:=aa (ai HB4.out hb9);clear hb9))
       exact aH (v:=.bool true) rfl rfl rfl ⟨rfl,HB9.out⟩
      ·have CLG:=aa hL
       have HDK:=aa hdk
       clear hL hdk
       have hq1:IntKind.i64.wrap (at_:Int)=(at_:Int):=cC _ ⟨by omega,by omega⟩
       have hq2:Int.tmod (at_:Int) 60=((at_ % 60:Nat):Int):=by rw [Int.tmod_eq_emod_of_nonneg (by omega)];rfl
       have hq3:IntKind.i64.wrap ((at_ % 60:Nat):Int)=((at_ % 60:Nat):Int):=cC _ ⟨by omega,by omega⟩
       go_upto_region 14 with(first | (refine wpList_load_mid rfl 74 (.tmp 68) rfl b (off+i*15) rfl (mq d) _ (HDC.out _ HBW.out) Tryz.underlying74 rfl (ko d) ?_) | (go_at_call 26;refine CLG.out.mono ?_;rintro e w4 ⟨rfl,hb4⟩;have HB4:=aa (ai HBW.out hb4);have HY4:=aa hb4;clear hb4))
       have HT4:=aa (HT.out.step HY4.out)
       clear HT CLG HY4
       by_cases he:i=at_ % 60
       ·have he2:((i:Int)==((at_ % 60:Nat):Int))=true:=by rw [← he];simp
        obtain⟨g,vp,vP,X,htw⟩:=HT4.out
        have HTW:=aa htw
        have HNP:Hid (a.ps.length≤1000000):=by have:=HO.out.np;show _≤_;omega
        have CC:=aa (wm htw.rv HO.out)
        clear he htw
        go_upto_region 16 with(go_at_call 27;refine CC.out.mono ?_;rintro e w5 ⟨R',g',vp',rfl,hr5,hb5⟩;have HCP:=aa (ba hr5 hb5);clear hr5 hb5)
        clear CC he2 hq1 hq2 hq3
        refine iY 19 24 195 [(5,84),(9,88),(10,89),(16,95)] [(none,[]),(none,[]),(none,[]),(none,[]),(none,[]),(some 0,[]),(none,[]),(none,[]),(none,[]),(some 1,[]),(some 2,[0,1]),(none,[2]),(none,[]),(none,[]),(none,[]),(none,[]),(some 3,[0,2]),(none,[3]),(none,[])] [(79,(.pointer (some ⟨R',0,none⟩))),(80,(.bool false)),(81,(.bool false)),(82,(.pointer (some ⟨R',0,none⟩))),(83,(.pointer (some ⟨Q,0,none⟩))),(85,(.slice (some ⟨b,off,none⟩) l.length cl)),(86,(.int .i64 (i:Int))),(87,(.pointer (some ⟨b,off+i*15,none⟩))),(90,(.bool false)),(91,(.bool false)),(92,(.bool false)),(93,(.pointer (some ⟨R,0,none⟩))),(94,(.pointer (some ⟨Q,0,none⟩))),(96,(.bool false)),(97,(.bool false))] (fun bsE vsE W=> mP w w4 R' vb (.slice ab bks.length cb) a g' vp' (.agg (mq d).toArray) (bsE.getD 0 false) (bsE.getD 1 false) (bsE.getD 2 false) (bsE.getD 3 false) ((vsE.getD 0 undef)) ((vsE.getD 1 undef)) ((vsE.getD 2 undef)) ((vsE.getD 3 undef)) W) (by kernel_rfl) (by kernel_rfl) rfl rfl (by kernel_rfl) (by rfl) ?h0 ?each ?done
        case h0=>
         intro vsE hlv
         obtain⟨v0,v1,v2,v3,rfl⟩:=cK hlv
         exact⟨ai (Below.refl _ _) HCP.out.2.drew,(fun _=> HCP.out.1.step (Below.refl _ _).drew),(fun e=> by cases e),(fun e=> by cases e),(fun e=> by cases e),(fun e=> by cases e),(fun _=> rfl)⟩
        case each=>
         simp only [dp]
         refine⟨ay ⟨ax rfl,79,(.pointer (some ⟨R',0,none⟩)),rfl,by kernel_rfl,?_⟩,ay ⟨ax rfl,80,(.bool false),rfl,by kernel_rfl,?_⟩,ay ⟨ax rfl,81,(.bool false),rfl,by kernel_rfl,?_⟩,ay ⟨ay ⟨_,_,_,rfl,rfl,by kernel_rfl⟩,82,(.pointer (some ⟨R',0,none⟩)),rfl,by kernel_rfl,?_⟩,ay ⟨ay ⟨_,_,_,rfl,rfl,by kernel_rfl⟩,83,(.pointer (some ⟨Q,0,none⟩)),rfl,by kernel_rfl,?_⟩,⟨ay ⟨_,_,_,rfl,rfl,by kernel_rfl⟩,ax ⟨84,rfl,?q1_5⟩⟩,ay ⟨ay ⟨_,_,_,rfl,rfl,by kernel_rfl⟩,85,(.slice (some ⟨b,off,none⟩) l.length cl),rfl,by kernel_rfl,?_⟩,ay ⟨ay ⟨_,_,_,rfl,rfl,by kernel_rfl⟩,86,(.int .i64 (i:Int)),rfl,by kernel_rfl,?_⟩,ay ⟨ay ⟨_,_,_,rfl,rfl,by kernel_rfl⟩,87,(.pointer (some ⟨b,off+i*15,none⟩)),rfl,by kernel_rfl,?_⟩,⟨ay ⟨_,_,_,rfl,rfl,by kernel_rfl⟩,ax ⟨88,rfl,?q1_9⟩⟩,⟨ay ⟨_,_,_,rfl,rfl,by kernel_rfl⟩,ax ⟨89,rfl,?q1_10⟩⟩,ay ⟨ay ⟨_,_,_,rfl,rfl,by kernel_rfl⟩,90,(.bool false),rfl,by kernel_rfl,?q1_11⟩,ay ⟨ax rfl,91,(.bool false),rfl,by kernel_rfl,?_⟩,ay ⟨ax rfl,92,(.bool false),rfl,by kernel_rfl,?_⟩,ay ⟨ay ⟨_,_,_,rfl,rfl,by kernel_rfl⟩,93,(.pointer (some ⟨R,0,none⟩)),rfl,by kernel_rfl,?_⟩,ay ⟨ay ⟨_,_,_,rfl,rfl,by kernel_rfl⟩,94,(.pointer (some ⟨Q,0,none⟩)),rfl,by kernel_rfl,?_⟩,⟨ay ⟨_,_,_,rfl,rfl,by kernel_rfl⟩,ax ⟨95,rfl,?q1_16⟩⟩,ay ⟨ay ⟨_,_,_,rfl,rfl,by kernel_rfl⟩,96,(.bool false),rfl,by kernel_rfl,?q1_17⟩,ay ⟨ax rfl,97,(.bool false),rfl,by kernel_rfl,?_⟩,trivial⟩
         case q1_5=>
          intro bsE vsE W hlb hlv hnd hbk h
          obtain⟨b0,b1,b2,b3,rfl⟩:=cK hlb
          obtain⟨v0,v1,v2,v3,rfl⟩:=cK hlv
          obtain rfl:b0=false:=hbk
          replace h:mP w w4 R' vb (.slice ab bks.length cb) a g' vp' (.agg (mq d).toArray) false b1 b2 b3 (v0) (v1) (v2) (v3) W:=h
          clear hnd
          have HST:=aa h
          obtain rfl:=h.n rfl
          intro K Q hK
          simp only [az,updAll,Act.put,aU,aV,aW,aX] at hK ⊢
          go_wp2_with (go_at_call 29;refine(tf (HTW.out.rf.step h.bel) HNP.out).mono ?_;rintro en w9 ⟨Q',vP',rfl,hq',hf',hb'⟩)
          all_goals(have hm:=h.mk0 HTW.out hq' hf' hb')
          all_goals(first | exact hK _ _ hm | exact hm)
         case q1_9=>
          intro bsE vsE W hlb hlv hnd hbk h
          obtain⟨b0,b1,b2,b3,rfl⟩:=cK hlb
          obtain⟨v0,v1,v2,v3,rfl⟩:=cK hlv
          obtain rfl:b1=false:=hbk
          replace h:mP w w4 R' vb (.slice ab bks.length cb) a g' vp' (.agg (mq d).toArray) b0 false b2 b3 (v0) (v1) (v2) (v3) W:=h
          clear hnd
          have HST:=aa h
          skip
          intro K Q hK
          simp only [az,updAll,Act.put,aU,aV,aW,aX] at hK ⊢
          refine wp_load_mid 74 (.tmp 87) rfl b (off+i*15) rfl (mq d) _ (HDC.out _ (ai HB4.out h.bel)) Tryz.underlying74 rfl (ko d) ?_
          exact hK _ _ h.mk1
         case q1_10=>
          intro bsE vsE W hlb hlv hnd hbk h
          obtain⟨b0,b1,b2,b3,rfl⟩:=cK hlb
          obtain⟨v0,v1,v2,v3,rfl⟩:=cK hlv
          obtain rfl:b0=true:=hnd 0 (by simp)
          obtain rfl:b1=true:=hnd 1 (by simp)
          obtain rfl:b2=false:=hbk
          replace h:mP w w4 R' vb (.slice ab bks.length cb) a g' vp' (.agg (mq d).toArray) true true false b3 (v0) (v1) (v2) (v3) W:=h
          clear hnd
          have HST:=aa h
          obtain⟨Q',eq,hTq⟩:=h.q rfl;subst eq;obtain rfl:=h.e1 rfl
          intro K Q hK
          simp only [az,updAll,Act.put,aU,aV,aW,aX] at hK ⊢
          go_wp2_with (go_at_call 28;refine(mA (hTq rfl) HO.out HD.out HG.out d HDK.out HD8.out).mono ?_;rintro en w9 ⟨rfl,-,hb9⟩)
          all_goals(have hm:=h.mk2 hb9)
          all_goals(first | exact hK _ _ hm | exact hm)
         case q1_11=>
          intro bsE vsE W hlb hlv hnd h
          obtain⟨b0,b1,b2,b3,rfl⟩:=cK hlb
          obtain⟨v0,v1,v2,v3,rfl⟩:=cK hlv
          obtain rfl:b2=true:=hnd 2 (by simp)
          replace h:mP w w4 R' vb (.slice ab bks.length cb) a g' vp' (.agg (mq d).toArray) b0 b1 true b3 (v0) (v1) (v2) (v3) W:=h
          clear hnd
          have HST:=aa h
          obtain rfl:=h.e2 rfl
          intro K Q hK
          simp only [az,updAll,Act.put,aU,aV,aW,aX] at hK ⊢
          go_wp2_with (fail)
          all_goals(first | exact hK _ h | exact h)
         case q1_16=>
          intro bsE vsE W hlb hlv hnd hbk h
          obtain⟨b0,b1,b2,b3,rfl⟩:=cK hlb
          obtain⟨v0,v1,v2,v3,rfl⟩:=cK hlv
          obtain rfl:b0=true:=hnd 0 (by simp)
          obtain rfl:b2=true:=hnd 2 (by simp)
          obtain rfl:b3=false:=hbk
          replace h:mP w w4 R' vb (.slice ab bks.length cb) a g' vp' (.agg (mq d).toArray) true b1 true false (v0) (v1) (v2) (v3) W:=h
          clear hnd
          have HST:=aa h
          skip
          intro K Q hK
          simp only [az,updAll,Act.put,aU,aV,aW,aX] at hK ⊢
          go_wp2_with (go_at_call 30;refine(alike_any (HT4.out.step h.bel) HO.out).mono ?_;rintro en w9 ⟨rfl,hb9⟩)
          all_goals(have hm:=h.mk3 hb9)
          all_goals(first | exact hK _ _ hm | exact hm)
         case q1_17=>
          intro bsE vsE W hlb hlv hnd h
          obtain⟨b0,b1,b2,b3,rfl⟩:=cK hlb
          obtain⟨v0,v1,v2,v3,rfl⟩:=cK hlv
          obtain rfl:b3=true:=hnd 3 (by simp)
          replace h:mP w w4 R' vb (.slice ab bks.length cb) a g' vp' (.agg (mq d).toArray) b0 b1 b2 true (v0) (v1) (v2) (v3) W:=h
          clear hnd
          have HST:=aa h
          obtain rfl:=h.e3 rfl
          intro K Q hK
          simp only [az,updAll,Act.put,aU,aV,aW,aX] at hK ⊢
          go_wp2_with (fail)
          all_goals(first | exact hK _ h | exact h)
         all_goals
          intro bsE vsE W hlb hlv hnd h
          obtain⟨b0,b1,b2,b3,rfl⟩:=cK hlb
          obtain⟨v0,v1,v2,v3,rfl⟩:=cK hlv
          replace h:mP w w4 R' vb (.slice ab bks.length cb) a g' vp' (.agg (mq d).toArray) b0 b1 b2 b3 (v0) (v1) (v2) (v3) W:=h
          clear hnd
          have HST:=aa h
          skip
          intro K Q hK
          simp only [az,updAll,Act.put,aU,aV,aW,aX] at hK ⊢
          go_wp2_with (fail)
          all_goals(first | exact hK _ h | exact h)
        case done=>
         intro vsE W hlv h
         obtain⟨v0,v1,v2,v3,rfl⟩:=cK hlv
         replace h:mP w w4 R' vb (.slice ab bks.length cb) a g' vp' (.agg (mq d).toArray) true true true true (v0) (v1) (v2) (v3) W:=h
         have HST:=aa h
         have HY9:=aa h.bel
         clear h HST
         simp only [az,updAll,Act.put,aU,aV,aW,aX]
         have HT:=aa (HT4.out.step HY9.out)
         have HBW2:=aa (ai HB4.out HY9.out)
         clear HTW HNP HT4 HCP HY9
         have DO:=aa (mA HT.out HO.out HD.out HG.out d HDK.out HD8.out)
         go_upto_region 20 with(first | (refine wpList_load_mid rfl 74 (.tmp 102) rfl b (off+i*15) rfl (mq d) _ (HDC.out _ HBW2.out) Tryz.underlying74 rfl (ko d) ?_) | (go_at_call 28;refine DO.out.mono ?_;rintro e w5 ⟨rfl,hT2,-⟩;have HT2:=aa hT2;have HBD:=aa hT2.bel;clear hT2))
         have HO2:=aa (vG HO.out d)
         have HD2:=aa (HD.out.do_ HO.out d)
         have HB6:=aa (Below.refl w5.heap.size w5)
         clear DO
         have x10:=HDC.out _ (ai HBD.out HB6.out) 10 (.string d.md) rfl;have x2:=HDC.out _ (ai HBD.out HB6.out) 2 (.string d.nm) rfl;have bl:=ar HBB.out (ai HBD.out HB6.out).size
         go_wp2_with ((first | (go_at_call 23;refine(we (HT2.out.step HB6.out) HO2.out HG.out d.md (by have:=HDK.out.md;omega)).mono ?_;rintro e w6 ⟨rfl,hbn⟩) | (go_at_call 31;refine(wh (HT2.out.step HB6.out) HO2.out d.md (by have:=HDK.out.md;omega)).mono ?_;rintro e w6 ⟨rfl,hbn⟩) | (go_at_call 16;refine(mC (HT2.out.step HB6.out) HO2.out d.nm).mono ?_;rintro e w6 ⟨v6,rfl,-,hbn⟩) | (go_at_call 32;refine(mD (HT2.out.step HB6.out) HO2.out d.nm).mono ?_;rintro e w6 ⟨v6,rfl,-,hbn⟩) | (go_at_call 33;refine(qQ (HT2.out.step HB6.out) HO2.out d.nm).mono ?_;rintro e w6 ⟨rfl,hbn⟩) | (go_at_call 34;refine(qR (HT2.out.step HB6.out) HO2.out d.nm).mono ?_;rintro e w6 ⟨rfl,hbn⟩));have HB9:=aa (ai HB6.out hbn);clear HB6 hbn x10 x2 bl;have HB6:=HB9;clear HB9;have x10:=HDC.out _ (ai HBD.out HB6.out) 10 (.string d.md) rfl;have x2:=HDC.out _ (ai HBD.out HB6.out) 2 (.string d.nm) rfl;have bl:=ar HBB.out (ai HBD.out HB6.out).size)
         exact⟨⟨i+1,by omega,by omega,by push_cast;rfl,⟨rK a d,HT2.out.step HB6.out,HO2.out,HD2.out⟩⟩,by simp [intOf];omega⟩
       ·have he2:¬ (i:Int)=((at_ % 60:Nat):Int):=fun c=> he (by omega)
        have he3:((i:Int)==((at_ % 60:Nat):Int))=false:=by simpa using he2
        clear he
        go_upto_region 18 with fail
        clear he2 he3 hq1 hq2 hq3
        have HT:=HT4
        have HBW2:=HB4
        clear HT4
        have DO:=aa (mA HT.out HO.out HD.out HG.out d HDK.out HD8.out)
        go_upto_region 20 with(first | (refine wpList_load_mid rfl 74 (.tmp 102) rfl b (off+i*15) rfl (mq d) _ (HDC.out _ HBW2.out) Tryz.underlying74 rfl (ko d) ?_) | (go_at_call 28;refine DO.out.mono ?_;rintro e w5 ⟨rfl,hT2,-⟩;have HT2:=aa hT2;have HBD:=aa hT2.bel;clear hT2))
        have HO2:=aa (vG HO.out d)
        have HD2:=aa (HD.out.do_ HO.out d)
        have HB6:=aa (Below.refl w5.heap.size w5)
        clear DO
        have x10:=HDC.out _ (ai HBD.out HB6.out) 10 (.string d.md) rfl;have x2:=HDC.out _ (ai HBD.out HB6.out) 2 (.string d.nm) rfl;have bl:=ar HBB.out (ai HBD.out HB6.out).size
        go_wp2_with ((first | (go_at_call 23;refine(we (HT2.out.step HB6.out) HO2.out HG.out d.md (by have:=HDK.out.md;omega)).mono ?_;rintro e w6 ⟨rfl,hbn⟩) | (go_at_call 31;refine(wh (HT2.out.step HB6.out) HO2.out d.md (by have:=HDK.out.md;omega)).mono ?_;rintro e w6 ⟨rfl,hbn⟩) | (go_at_call 16;refine(mC (HT2.out.step HB6.out) HO2.out d.nm).mono ?_;rintro e w6 ⟨v6,rfl,-,hbn⟩) | (go_at_call 32;refine(mD (HT2.out.step HB6.out) HO2.out d.nm).mono ?_;rintro e w6 ⟨v6,rfl,-,hbn⟩) | (go_at_call 33;refine(qQ (HT2.out.step HB6.out) HO2.out d.nm).mono ?_;rintro e w6 ⟨rfl,hbn⟩) | (go_at_call 34;refine(qR (HT2.out.step HB6.out) HO2.out d.nm).mono ?_;rintro e w6 ⟨rfl,hbn⟩));have HB9:=aa (ai HB6.out hbn);clear HB6 hbn x10 x2 bl;have HB6:=HB9;clear HB9;have x10:=HDC.out _ (ai HBD.out HB6.out) 10 (.string d.md) rfl;have x2:=HDC.out _ (ai HBD.out HB6.out) 2 (.string d.nm) rfl;have bl:=ar HBB.out (ai HBD.out HB6.out).size)
        exact⟨⟨i+1,by omega,by omega,by push_cast;rfl,⟨rK a d,HT2.out.step HB6.out,HO2.out,HD2.out⟩⟩,by simp [intOf];omega⟩
     ·have c1:(i:Int) < l.length:=by omega
      have c2:¬ (i:Int) < 60:=by omega
      clear hd hc
      have HT9:=aa hT
      have HO9:=aa hO
      clear hT hO hD HS
      go_wp2_with (first | (go_at_call 30;refine(alike_any HT9.out HO9.out).mono ?_;rintro e w7 ⟨rfl,hb7⟩;have HB7:=aa (ai HT9.out.bel hb7);clear hb7) | (go_at_call 10;refine(hU _ (dV HG.out HB7.out)).mono ?_;rintro e w9 ⟨rfl,hb9⟩;have HB9:=aa (ai HB7.out hb9);clear hb9))
      exact aH (v:=.bool true) rfl rfl rfl ⟨rfl,HB9.out⟩
    ·have c1:¬ (i:Int) < l.length:=by omega
     clear hc
     have HT9:=aa hT
     have HO9:=aa hO
     clear hT hO hD HS
     go_wp2_with (first | (go_at_call 30;refine(alike_any HT9.out HO9.out).mono ?_;rintro e w7 ⟨rfl,hb7⟩;have HB7:=aa (ai HT9.out.bel hb7);clear hb7) | (go_at_call 10;refine(hU _ (dV HG.out HB7.out)).mono ?_;rintro e w9 ⟨rfl,hb9⟩;have HB9:=aa (ai HB7.out hb9);clear hb9))
     exact aH (v:=.bool true) rfl rfl rfl ⟨rfl,HB9.out⟩
end
end Go.Proofs.YtmpilgkfbibhlaaGreatDoor
