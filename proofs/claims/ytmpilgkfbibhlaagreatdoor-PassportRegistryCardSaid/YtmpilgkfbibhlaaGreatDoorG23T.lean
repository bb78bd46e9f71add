/-
 G23T
-/
import Derived.Test.YtmpilgkfbibhlaaGreatDoorG22T
set_option linter.unusedSimpArgs false
set_option linter.unusedVariables false
set_option maxRecDepth 100000
set_option maxHeartbeats 20000000
namespace Go.Proofs.YtmpilgkfbibhlaaGreatDoor
section
open Go.RowKit Mr
def iZ(l:List ByteArray):List ByteArray:=l.filter fun x=> !(x.toList==[])
theorem tj {B:Nat} {v:Value} {l:List ByteArray} {w:World} (ho:w.ownsRow B 9 1 v l.length (l.map Value.string))(hn:l≠[])(hB:B≤w.heap.size)(hl:l.length≤1000000):
  Calls Tryz.prog 90 #[v,.func (.func 91) #[] #[]] w fun e w'=> ∃ b c,e=.returned (.slice (some ⟨b,0,none⟩) (iZ l).length c)∧(iZ l).length≤c∧b < w'.heap.size∧(∀ (k:Nat) (t:ByteArray),(iZ l)[k]? =some t→w'.cell? ⟨b,k,none⟩=some (.string t))∧Below B w w':=by
 have eg:∀ args w,(callFunc 91 args).run Tryz.prog w=.ok (.enter 91 args) w:=enters_of Tryz.func91 (by kernel_rfl) rfl
 obtain⟨-,h2⟩:=ho
 have hnl:l.length≠0:=fun e=> hn (eF e)
 rcases h2 with⟨-,h3⟩ | ⟨g,cap,cur,rfl,q2,q3,q4,q5,q6,q7⟩
 ·exact absurd h3 hnl
 have hcur:∀ j,j < l.length→cur[j]? =some (.string (l.getD j ByteArray.empty)):=fun j hj=> by
  have hj2:(l.map Value.string)[j]? =some (.string (l.getD j ByteArray.empty)):=by
   rw [bX,di,bh hj];rfl
  rw [← q7,List.getElem?_take_of_lt (by simpa using hj)] at hj2
  simpa using hj2
 have hds:l.toArray.size=l.length:=by simp
 have hH:Sort.Holds Value.string w g 0 l.toArray:=fun j hj=> by
  rw [hds] at hj
  refine⟨?_,aR q3⟩
  rw [ah q3 (by rw [Nat.zero_add];exact hcur j hj)]
  simp [di,hj]
 have hcl:∀ (x:ByteArray) (W:World),Calls Tryz.prog 91 #[.string x] W fun e w'=> e=.returned (.bool (x.toList==[]))∧∃ q,w'=W.drewN q:=by
  intro x W
  go_enter Tryz.func91,Tryz.ntmps91
  go_wp2
  go_ret
  exact⟨by first | rfl | (simp;done),0,rfl⟩
 have hp:PredAt Tryz.prog 91 #[] Value.string (fun t=> t.toList==[]) w:=fun W x hW=> hcl x W
 have hpo:PredOver Tryz.prog 91 #[] Value.string (fun t=> t.toList==[]) g 0 l.toArray.size w:=fun n os dk x _=> hcl x _
 have hcon:=AnyE.slices_DeleteFunc jm Value.string (fun _=> rfl) (fun t=> t.toList==[]) 91 #[] eg ⟨#[]⟩ (fun w=> Tryz.zeroValue9 w) g 0 cap l.toArray w hp hpo hH (by rw [hds];omega) (by rw [hds];omega)
 rw [hds] at hcon
 refine hcon.mono fun e w' q=> ?_
 obtain⟨rfl,q,rfl⟩:=q
 have hdr:(l.filter fun x=> !(x.toList==[]))=iZ l:=rfl
 rw [hdr]
 have hle:(iZ l).length≤l.length:=oD _ _
 have hb:=mQ (enc:=Value.string) (b:=g) (off:=0) (d:=(iZ l++List.replicate (l.length - (iZ l).length) (⟨#[]⟩:ByteArray)).toArray) (w:=Sort.ahead w q) q3
 refine⟨g,cap,rfl,by omega,ak hb,fun k t hk=> ah hb ?_,Below.trans (b:=Sort.ahead w q) ⟨rfl,rfl,rfl,bz _,fun _ _=> rfl⟩ (jI (by omega))⟩
 have hkl:k < (iZ l).length:=(aB hk).1
 have hcl2:k < cur.size:=by rw [q6];omega
 unfold Sort.putCells
 rw [Array.getElem?_mapIdx,Array.getElem?_eq_getElem hcl2]
 have hsz2:(iZ l++List.replicate (l.length - (iZ l).length) (⟨#[]⟩:ByteArray)).toArray.size=l.length:=by simp;omega
 simp only [Option.map_some]
 rw [aG ⟨Nat.zero_le _,by rw [hsz2];omega⟩,Nat.sub_zero]
 congr 2
 rw [getElem!_pos _ _ (by rw [hsz2];omega)]
 simp only [List.getElem_toArray]
 rw [List.getElem_append_left hkl]
 rw [bh hkl] at hk
 exact bD hk
end
section
open Sx Go.RowKit Mr
def t2:ByteArray:=⟨#[50]⟩
theorem zA:gy 1 5 1000 2 ⟨#[98,49]⟩ ⟨#[]⟩=true:=by kernel_rfl
theorem ox:(⟨(Lib.itoa 5).toArray⟩:ByteArray)=⟨#[53]⟩∧(⟨(Lib.itoa 1000).toArray⟩:ByteArray)=⟨#[49,48,48,48]⟩∧(⟨(Lib.itoa 2).toArray⟩:ByteArray)=⟨#[50]⟩:=⟨by kernel_rfl,by kernel_rfl,by kernel_rfl⟩
theorem rM {W:World} {B E sz n:Nat} {v:Value} {xs:List Value} (h:W.ownsRow B E sz v n xs):∃ a c,v=.slice a n c:=by
 obtain⟨-,h2⟩:=h
 rcases h2 with⟨e1,e2⟩ | ⟨PB,cp,cur,q1,-⟩
 ·exact⟨none,0,by rw [e1,e2]⟩
 ·exact⟨_,cp,q1⟩
theorem qP {W:World} {cs:List Value} {t:TypeId} {n:Nat}:n*1≠0→∃ p off,(some (⟨W.heap.size,0,none⟩:Addr))=some ⟨p,off,none⟩∧∀ (j:Nat) (u:Value),cs[j]? =some u→(W.alloc (.cells cs.toArray t)).cell? ⟨p,off+j,none⟩=some u:=fun _=>
 ⟨_,0,rfl,fun j u hu=> ah (au W _) (by rw [Nat.zero_add];simpa using hu)⟩
theorem vW {a b:ByteArray}:∀ u∈[Value.string a,.string b],u.oneCell'=true:=by
 intro u hu
 simp only [List.mem_cons,List.not_mem_nil,or_false] at hu
 rcases hu with rfl | rfl <;> rfl
theorem xX:iZ [⟨#[109,97,100,101]⟩,⟨#[53]⟩,⟨#[49,48,48,48]⟩,⟨#[50]⟩,⟨#[98,49]⟩,⟨#[]⟩]=[⟨#[109,97,100,101]⟩,⟨#[53]⟩,⟨#[49,48,48,48]⟩,⟨#[50]⟩,⟨#[98,49]⟩]:=by kernel_rfl
theorem xY:(⟨(Lib.join (([⟨#[109,97,100,101]⟩,⟨#[53]⟩,⟨#[49,48,48,48]⟩,⟨#[50]⟩,⟨#[98,49]⟩]:List ByteArray).map (·.data.toList)) (⟨#[32]⟩:ByteArray).data.toList).toArray⟩:ByteArray)=⟨#[109,97,100,101,32,53,32,49,48,48,48,32,50,32,98,49]⟩:=by kernel_rfl
theorem vX:(Lib.join (([⟨#[109,97,100,101]⟩,⟨#[53]⟩,⟨#[49,48,48,48]⟩,⟨#[50]⟩,⟨#[98,49]⟩]:List ByteArray).map (·.data.toList)) (⟨#[32]⟩:ByteArray).data.toList).length≤140737488355328:=by
 have h:(Lib.join (([⟨#[109,97,100,101]⟩,⟨#[53]⟩,⟨#[49,48,48,48]⟩,⟨#[50]⟩,⟨#[98,49]⟩]:List ByteArray).map (·.data.toList)) (⟨#[32]⟩:ByteArray).data.toList).length=16:=by kernel_rfl
 omega
structure E8(w1:World)(ve:Value)(xs:List Value)(u1 u2:Value)(bm b0 b1 b2 b3 b4:Bool)(vm v0 v1 v2 v3 v4:Value)(W:World):Prop where
 p:Below w1.heap.size w1 W
 a:b3=false→W.ownsRow w1.heap.size 9 1 ve 2 xs
 z:b3=true→W.ownsRow w1.heap.size 9 1 v3 4 (xs++[u1,u2])
 r0:b0=true→v0=u1
 r1:b1=true→v1=u2
 r2:b2=true→b3=false→∃ g,v2=.slice (some ⟨g,0,none⟩) 2 2∧W.heap[g]? =some (.cells #[u1,u2] 9 (0,0))
 r4:b4=true→v4=v3
 n0:b0=false→b2=false
 n1:b1=false→b2=false
 n2:b2=false→b3=false
 n3:b3=false→b4=false
 rm:bm=true→vm=ve
 i4:b4=false→v4=ve
 nm:bm=false→b3=false
section
variable {w1 W w2:World} {ve u1 u2 vm v0 v1 v2 v3 v4:Value} {xs:List Value} {bm b0 b1 b2 b3 b4:Bool}
theorem E8.mk0(h:E8 w1 ve xs u1 u2 bm false b1 b2 b3 b4 vm v0 v1 v2 v3 v4 W)(hb:Below W.heap.size W w2):E8 w1 ve xs u1 u2 bm true b1 b2 b3 b4 vm u1 v1 v2 v3 v4 w2:=by
 have h2:=h.n0 rfl
 subst h2
 have h3:=h.n2 rfl
 subst h3
 have h4:=h.n3 rfl
 subst h4
 exact⟨ai h.p hb,fun e=> aD (h.a e) hb,(fun e=> by cases e),(fun _=> rfl),h.r1,(fun e=> by cases e),(fun e=> by cases e),(fun e=> by cases e),(fun _=> rfl),(fun _=> rfl),(fun _=> rfl),h.rm,h.i4,(fun _=> rfl)⟩
theorem E8.mk1(h:E8 w1 ve xs u1 u2 bm b0 false b2 b3 b4 vm v0 v1 v2 v3 v4 W)(hb:Below W.heap.size W w2):E8 w1 ve xs u1 u2 bm b0 true b2 b3 b4 vm v0 u2 v2 v3 v4 w2:=by
 have h2:=h.n1 rfl
 subst h2
 have h3:=h.n2 rfl
 subst h3
 have h4:=h.n3 rfl
 subst h4
 exact⟨ai h.p hb,fun e=> aD (h.a e) hb,(fun e=> by cases e),h.r0,(fun _=> rfl),(fun e=> by cases e),(fun e=> by cases e),(fun _=> rfl),(fun e=> by cases e),(fun _=> rfl),(fun _=> rfl),h.rm,h.i4,(fun _=> rfl)⟩
theorem E8.mk2(h:E8 w1 ve xs u1 u2 bm true true false b3 b4 vm v0 v1 v2 v3 v4 W):E8 w1 ve xs u1 u2 bm true true true b3 b4 vm v0 v1 (.slice (some ⟨W.heap.size,0,none⟩) 2 2) v3 v4 (W.alloc (.cells #[u1,u2] 9)):=by
 have h3:=h.n2 rfl
 subst h3
 have h4:=h.n3 rfl
 subst h4
 have hb:Below W.heap.size W (W.alloc (.cells #[u1,u2] 9)):=aK (Below.refl _ _) _
 exact⟨ai h.p hb,fun e=> aD (h.a e) hb,(fun e=> by cases e),h.r0,h.r1,(fun _ _=> ⟨_,rfl,au W _⟩),(fun e=> by cases e),(fun e=> by cases e),(fun e=> by cases e),(fun e=> by cases e),(fun _=> rfl),h.rm,h.i4,(fun _=> rfl)⟩
theorem E8.app(hbm:bm=true){o:Oper} {a:Act} {K:Act→World→Prop} {Q:Exit→Act→World→Prop} (h1:u1.oneCell'=true)(h2:u2.oneCell'=true)(h:E8 w1 ve xs u1 u2 bm b0 b1 true false false vm v0 v1 v2 v3 v4 W)
  (s p:Operand) (ho:o.op=.call { callee:=.builtin .append,args:=#[s,p],argTypes:=#[47,47] }) (hs:a.eval s=ve) (hp:a.eval p=v2)
  (hK:∀ v' W',E8 w1 ve xs u1 u2 bm b0 b1 true true false vm v0 v1 v2 v' v4 W'→K (a.put o.dst v') W'):o.wp Tryz.prog a W K Q:=by
 obtain⟨i0,hi,hz0,hz1,hz2⟩:=info_parts ia
 obtain⟨g,rfl,hg⟩:=h.r2 rfl rfl
 have hown:=h.a rfl
 refine fc (P:=Tryz.prog) W s p 47 ho w1.heap.size 9 i0 (.string ⟨#[]⟩) 1 16 Tryz.underlying47 hi hz0 hz1 hz2 rfl (by decide) ve 2 xs hs hown (some ⟨g,0,none⟩) 2 2 [u1,u2] hp rfl (fun _=> ⟨g,0,rfl,fun j u hu=> ah hg (by rw [Nat.zero_add];simpa using hu)⟩) (fun u hu=> ?_) (by unfold maxLen;omega) (by omega) h.p.size fun v' W' q1 q2 q3=> hK v' W' ?_
 ·simp only [List.mem_cons,List.not_mem_nil,or_false] at hu
  rcases hu with rfl | rfl
  ·exact h1
  ·exact h2
 ·exact⟨h.p.grown q2 h.p.size (fun k hk=> (World.ownsRow.lt hown k hk).1),(fun e=> by cases e),(fun _=> q1),h.r0,h.r1,(fun _ e=> by cases e),(fun e=> by cases e),h.n0,h.n1,(fun e=> by cases e),(fun e=> by cases e),h.rm,h.i4,(fun e=> by subst e;exact absurd hbm (by decide))⟩
end
theorem vZ(w:World)(hG:dn w):Calls Tryz.prog 37 #[.agg #[.int .i64 1,.int .i64 5,.int .i64 1000,.int .i64 2,.string ⟨#[98,49]⟩,.string ⟨#[]⟩]] w fun e w'=> e=.returned (.tuple #[.string ⟨#[109,97,100,101,32,53,32,49,48,48,48,32,50,32,98,49]⟩,.int .i64 0])∧Below w.heap.size w w':=by
 have HG:=aa hG
 have HB0:Hid (Below w.heap.size w (w.alloc (.cells #[.int .i64 1,.int .i64 5,.int .i64 1000,.int .i64 2,.string ⟨#[98,49]⟩,.string ⟨#[]⟩] 29))):=aK (Below.refl _ _) _
 have HX0:=aa (au w (.cells #[.int .i64 1,.int .i64 5,.int .i64 1000,.int .i64 2,.string ⟨#[98,49]⟩,.string ⟨#[]⟩] 29))
 have CK:Hid (∀ W,Below w.heap.size w W→Calls Tryz.prog 42 #[.agg #[.int .i64 1,.int .i64 5,.int .i64 1000,.int .i64 2,.string ⟨#[98,49]⟩,.string ⟨#[]⟩]] W fun e w'=> e=.returned (.int .i64 0)∧Below W.heap.size W w'):=fun W hW=> by
  have h:=nc 1 5 1000 2 ⟨#[98,49]⟩ ⟨#[]⟩ W (dV hG hW) (by decide) (by decide)
  rw [zA] at h
  exact h
 have CM:Hid (∀ n:Int,(n=5∨n=1000∨n=2)→∀ W,Below w.heap.size w W→Calls Tryz.prog 88 #[.int .i64 n,.int .i64 10] W fun e w'=> e=.returned (.string ⟨(Lib.itoa n).toArray⟩)∧Below W.heap.size W w'):=fun n hn W hW=> wO n (by omega) (by omega) W (dV hG hW).1
 have C5:=aa (CM.out 5 (by omega))
 have C1:=aa (CM.out 1000 (by omega))
 have C2:=aa (CM.out 2 (by omega))
 rw [ox.1] at C5
 rw [ox.2.1] at C1
 rw [ox.2.2] at C2
 have CF:Hid (∀ W,Calls Tryz.prog 87 #[.int .i64 1] W fun en w'=> ∃ B,en=.returned (.pointer (some ⟨B,6,none⟩))∧(w'.cell? ⟨B,6,none⟩=some (.string ⟨#[109,97,100,101]⟩)∧B < w'.heap.size)∧Below W.heap.size W w'):=fun W=> (na 1 (by decide) W).mono fun e w' q=> by
  obtain⟨B,e1,q2,q3⟩:=q
  exact⟨B,e1,⟨q2.2 6 _ rfl,q2.1⟩,q3⟩
 clear CM hG
 go_enter Tryz.func37,Tryz.ntmps37
 go_upto_region 4 with(go_at_call 42;refine(CK.out _ HB0.out).mono ?_;rintro e w1 ⟨rfl,hb⟩;have HB1:=aa (ai HB0.out hb);have HX1:=aa (an HX0.out hb);clear hb)
 obtain⟨x0,x1,x2,x3,x4,x5⟩:=bG HX1.out
 have xl:=ak HX1.out
 clear HB0 HX0
 go_cut [5] from 11 to 20 (fun s5 W=> ∃ g,s5=.slice (some ⟨g,0,none⟩) 2 2∧Hid (W.heap[g]? =some (.cells #[.string ⟨#[109,97,100,101]⟩,.string ⟨#[53]⟩] 9 (0,0))∧w1.heap.size≤g)∧Hid (Below w1.heap.size w1 W))
 case first=>
  have hbw:Below w1.heap.size w1 w1.drew:=(Below.refl _ _).drew
  go_region_with (first | (go_at_call 87;refine(CF.out _).mono ?_;rintro e w9 ⟨B,rfl,⟨hF,hF2⟩,hb⟩;have hbw:=ai hbw hb;have z0:=ag x0 hbw;have z1:=ag x1 hbw;have zl:=ar xl hbw.size) | (go_at_call 88;refine(C5.out _ (ai HB1.out hbw)).mono ?_;rintro e w9 ⟨rfl,hb⟩;(try have hF:=ag hF hb);(try have hF2:=ar hF2 hb.size);have hbw:=ai hbw hb;have z0:=ag x0 hbw;have z1:=ag x1 hbw;have zl:=ar xl hbw.size))
  all_goals
   go_wp2_with fail
   go_meet
   exact⟨_,rfl,⟨au _ _,hbw.size⟩,ai hbw (aK (Below.refl _ _) _)⟩
 case rest=>
  obtain⟨g,rfl,HG1,HW4⟩:=hcut
  have HO2:Hid (wc.ownsRow w1.heap.size 9 1 (.slice (some ⟨g,0,none⟩) 2 2) 2 [.string ⟨#[109,97,100,101]⟩,.string ⟨#[53]⟩]):=⟨rfl,ay ⟨g,2,_,rfl,HG1.out.2,HG1.out.1,bz _,by decide,rfl,rfl⟩⟩
  have z0:=ag x0 HW4.out
  have zl:=ar xl HW4.out.size
  go_upto_region 8 with fail
  clear z0 zl
  refine eA 9 5 [(3,29),(6,32),(7,33),(8,34)] [(none,[]),(none,[]),(none,[]),(some 0,[]),(none,[]),(none,[]),(some 1,[]),(some 2,[0,1]),(some 3,[2])] [(26,(.slice (some ⟨g,0,none⟩) 2 2)),(27,(.pointer (some ⟨w.heap.size,2,none⟩))),(28,(.int .i64 1000)),(30,(.pointer (some ⟨w.heap.size,3,none⟩))),(31,(.int .i64 2))] (fun bsE vsE W=> E8 w1 (.slice (some ⟨g,0,none⟩) 2 2) [.string ⟨#[109,97,100,101]⟩,.string ⟨#[53]⟩] (.string ⟨#[49,48,48,48]⟩) (.string ⟨#[50]⟩) true (bsE.getD 0 false) (bsE.getD 1 false) (bsE.getD 2 false) (bsE.getD 3 false) false (.slice (some ⟨g,0,none⟩) 2 2) ((vsE.getD 0 undef)) ((vsE.getD 1 undef)) ((vsE.getD 2 undef)) ((vsE.getD 3 undef)) (.slice (some ⟨g,0,none⟩) 2 2) W) (by kernel_rfl) (by kernel_rfl) rfl (by kernel_rfl) (by kernel_rfl) (by simp) (by rfl) ?h0 ?each ?tail
  case h0=>
   intro vsE hlv
   obtain⟨v0,v1,v2,v3,rfl⟩:=cK hlv
   exact⟨ai HW4.out (Below.refl _ _).drew,(fun _=> aD HO2.out (Below.refl _ _).drew),(fun e=> by cases e),(fun e=> by cases e),(fun e=> by cases e),(fun e=> by cases e),(fun e=> by cases e),(fun _=> rfl),(fun _=> rfl),(fun _=> rfl),(fun _=> rfl),(fun _=> rfl),(fun _=> rfl),(fun e=> by cases e)⟩
  case each=>
   simp only [List.take_succ_cons,List.take_zero,dp]
   refine⟨⟨26,(.slice (some ⟨g,0,none⟩) 2 2),rfl,by kernel_rfl,?_⟩,⟨27,(.pointer (some ⟨w.heap.size,2,none⟩)),rfl,by kernel_rfl,?_⟩,⟨28,(.int .i64 1000),rfl,by kernel_rfl,?_⟩,⟨29,rfl,?q1_3⟩,⟨30,(.pointer (some ⟨w.heap.size,3,none⟩)),rfl,by kernel_rfl,?_⟩,⟨31,(.int .i64 2),rfl,by kernel_rfl,?_⟩,⟨32,rfl,?q1_6⟩,⟨33,rfl,?q1_7⟩,⟨34,rfl,?q1_8⟩,trivial⟩
   case q1_3=>
    intro bsE vsE W hlb hlv hnd hbk h
    obtain⟨b0,b1,b2,b3,rfl⟩:=cK hlb
    obtain⟨v0,v1,v2,v3,rfl⟩:=cK hlv
    obtain rfl:b0=false:=hbk
    replace h:E8 w1 (.slice (some ⟨g,0,none⟩) 2 2) [.string ⟨#[109,97,100,101]⟩,.string ⟨#[53]⟩] (.string ⟨#[49,48,48,48]⟩) (.string ⟨#[50]⟩) true false b1 b2 b3 false (.slice (some ⟨g,0,none⟩) 2 2) (v0) (v1) (v2) (v3) (.slice (some ⟨g,0,none⟩) 2 2) W:=h
    clear hnd
    have HST:=aa h
    skip
    intro K Q hK
    simp only [az,updAll,Act.put,aU,aV,aW,aX] at hK ⊢
    go_wp2_with (go_at_call 88;refine(C1.out _ (ai HB1.out h.p)).mono ?_;rintro en w9 ⟨rfl,hb9⟩)
    all_goals(have hm:=h.mk0 hb9)
    all_goals(first | exact hK _ _ hm | exact hm)
   case q1_6=>
    intro bsE vsE W hlb hlv hnd hbk h
    obtain⟨b0,b1,b2,b3,rfl⟩:=cK hlb
    obtain⟨v0,v1,v2,v3,rfl⟩:=cK hlv
    obtain rfl:b1=false:=hbk
    replace h:E8 w1 (.slice (some ⟨g,0,none⟩) 2 2) [.string ⟨#[109,97,100,101]⟩,.string ⟨#[53]⟩] (.string ⟨#[49,48,48,48]⟩) (.string ⟨#[50]⟩) true b0 false b2 b3 false (.slice (some ⟨g,0,none⟩) 2 2) (v0) (v1) (v2) (v3) (.slice (some ⟨g,0,none⟩) 2 2) W:=h
    clear hnd
    have HST:=aa h
    skip
    intro K Q hK
    simp only [az,updAll,Act.put,aU,aV,aW,aX] at hK ⊢
    go_wp2_with (go_at_call 88;refine(C2.out _ (ai HB1.out h.p)).mono ?_;rintro en w9 ⟨rfl,hb9⟩)
    all_goals(have hm:=h.mk1 hb9)
    all_goals(first | exact hK _ _ hm | exact hm)
   case q1_7=>
    intro bsE vsE W hlb hlv hnd hbk h
    obtain⟨b0,b1,b2,b3,rfl⟩:=cK hlb
    obtain⟨v0,v1,v2,v3,rfl⟩:=cK hlv
    obtain rfl:b0=true:=hnd 0 (by simp)
    obtain rfl:b1=true:=hnd 1 (by simp)
    obtain rfl:b2=false:=hbk
    replace h:E8 w1 (.slice (some ⟨g,0,none⟩) 2 2) [.string ⟨#[109,97,100,101]⟩,.string ⟨#[53]⟩] (.string ⟨#[49,48,48,48]⟩) (.string ⟨#[50]⟩) true true true false b3 false (.slice (some ⟨g,0,none⟩) 2 2) (v0) (v1) (v2) (v3) (.slice (some ⟨g,0,none⟩) 2 2) W:=h
    clear hnd
    have HST:=aa h
    obtain rfl:=h.r0 rfl;obtain rfl:=h.r1 rfl;have hm:=h.mk2
    intro K Q hK
    simp only [az,updAll,Act.put,aU,aV,aW,aX] at hK ⊢
    go_wp2_with fail
    all_goals(first | exact hK _ _ hm | exact hm)
   case q1_8=>
    intro bsE vsE W hlb hlv hnd hbk h
    obtain⟨b0,b1,b2,b3,rfl⟩:=cK hlb
    obtain⟨v0,v1,v2,v3,rfl⟩:=cK hlv
    obtain rfl:b2=true:=hnd 2 (by simp)
    obtain rfl:b3=false:=hbk
    replace h:E8 w1 (.slice (some ⟨g,0,none⟩) 2 2) [.string ⟨#[109,97,100,101]⟩,.string ⟨#[53]⟩] (.string ⟨#[49,48,48,48]⟩) (.string ⟨#[50]⟩) true b0 b1 true false false (.slice (some ⟨g,0,none⟩) 2 2) (v0) (v1) (v2) (v3) (.slice (some ⟨g,0,none⟩) 2 2) W:=h
    clear hnd
    have HST:=aa h
    skip
    intro K Q hK
    simp only [az,updAll,Act.put,aU,aV,aW,aX] at hK ⊢
    exact h.app rfl rfl rfl (.tmp 26) (.tmp 33) rfl rfl rfl hK
   all_goals
    intro bsE vsE W hlb hlv hnd h
    obtain⟨b0,b1,b2,b3,rfl⟩:=cK hlb
    obtain⟨v0,v1,v2,v3,rfl⟩:=cK hlv
    replace h:E8 w1 (.slice (some ⟨g,0,none⟩) 2 2) [.string ⟨#[109,97,100,101]⟩,.string ⟨#[53]⟩] (.string ⟨#[49,48,48,48]⟩) (.string ⟨#[50]⟩) true b0 b1 b2 b3 false (.slice (some ⟨g,0,none⟩) 2 2) (v0) (v1) (v2) (v3) (.slice (some ⟨g,0,none⟩) 2 2) W:=h
    clear hnd
    have HST:=aa h
    have z2:=ag x2 h.p;have z3:=ag x3 h.p;have zl:=ar xl h.p.size
    intro K Q hK
    simp only [az,updAll,Act.put,aU,aV,aW,aX] at hK ⊢
    go_wp2_with (fail)
    all_goals(first | exact hK _ h | exact h)
  case tail=>
   intro vsE W hlv h
   obtain⟨v0,v1,v2,v3,rfl⟩:=cK hlv
   replace h:E8 w1 (.slice (some ⟨g,0,none⟩) 2 2) [.string ⟨#[109,97,100,101]⟩,.string ⟨#[53]⟩] (.string ⟨#[49,48,48,48]⟩) (.string ⟨#[50]⟩) true true true true true false (.slice (some ⟨g,0,none⟩) 2 2) (v0) (v1) (v2) (v3) (.slice (some ⟨g,0,none⟩) 2 2) W:=h
   have HST:=aa h
   have hO4:W.ownsRow w1.heap.size 9 1 v3 4 ([.string ⟨#[109,97,100,101]⟩,.string ⟨#[53]⟩]++[(.string ⟨#[49,48,48,48]⟩),(.string ⟨#[50]⟩)]):=h.z rfl
   obtain⟨a4,c4,e4⟩:=rM hO4
   subst e4
   have HO4:=aa hO4
   have HW8:=aa h.p
   have z4:=ag x4 HW8.out
   have z5:=ag x5 HW8.out
   have zl:=ar xl HW8.out.size
   obtain⟨i0,hi,hz0,hz1,hz2⟩:=info_parts ia
   clear h HST hO4
   refine eQ rfl rfl ?_
   simp only [az,updAll,Act.put,aU,aV,aW,aX]
   go_upto_region 12 with fail
   go_upto_region 13 with(at_builtin;refine bM _ rfl (.tmp 44) (.tmp 49) 47 rfl w1.heap.size 9 i0 (.string ⟨#[]⟩) 1 16 Tryz.underlying47 hi hz0 hz1 hz2 rfl (by decide) _ 4 _ rfl (aD HO4.out (aK (Below.refl _ _) (.cells #[.string ⟨#[98,49]⟩,.string ⟨#[]⟩] 9))) (some ⟨W.heap.size,0,none⟩) 2 2 [.string ⟨#[98,49]⟩,.string ⟨#[]⟩] rfl rfl qP vW (by unfold maxLen;omega) (by omega) (by have:=HW8.out.size;simp;omega) ?_;intro v' w5 hown hgrow hat;have hb5:Below w1.heap.size w1 w5:=(ai HW8.out (aK (Below.refl _ _) (.cells #[.string ⟨#[98,49]⟩,.string ⟨#[]⟩] 9))).grown hgrow (by have:=HW8.out.size;simp;omega) (fun k hk=> (World.ownsRow.lt HO4.out k hk).1);have hO6:w5.ownsRow w1.heap.size 9 1 v' 6 (([⟨#[109,97,100,101]⟩,⟨#[53]⟩,⟨#[49,48,48,48]⟩,⟨#[50]⟩,⟨#[98,49]⟩,⟨#[]⟩]:List ByteArray).map Value.string):=hown;obtain⟨a6,c6,e6⟩:=rM hO6;subst e6;have CD0:=tj (l:=[⟨#[109,97,100,101]⟩,⟨#[53]⟩,⟨#[49,48,48,48]⟩,⟨#[50]⟩,⟨#[98,49]⟩,⟨#[]⟩]) hO6 (by simp) hb5.size (by simp);rw [xX] at CD0;have CD:=aa CD0;clear CD0;have HB5:=aa hb5;clear hown hgrow hat hb5 hO6)
   clear CK C5 C1 C2 CF z4 z5 zl
   go_wp2_with (first | (go_at_call 90;refine CD.out.mono ?_;rintro e w6 ⟨b6,c7,rfl,hcp,hlt,hcs,hb6⟩;have CJ:=aa (uv b6 0 c7 [⟨#[109,97,100,101]⟩,⟨#[53]⟩,⟨#[49,48,48,48]⟩,⟨#[50]⟩,⟨#[98,49]⟩] ⟨#[32]⟩ w6 (fun j x hx=> by rw [Nat.zero_add];exact hcs j x hx) hlt (by simp) hcp vX);rw [xY] at CJ;have HB6:=aa (HB5.out.trans hb6);clear hcs hcp hlt hb6) | (go_at_call 89;refine CJ.out.mono ?_;rintro e w7 ⟨rfl,hb7⟩))
   exact bc (v:=.tuple #[.string ⟨#[109,97,100,101,32,53,32,49,48,48,48,32,50,32,98,49]⟩,.int .i64 0]) (by simp only [results,Tryz.results37];go_simp) rfl ⟨rfl,ai HB1.out (ai HB6.out hb7)⟩
end
section
open Sx Go.RowKit
theorem AW:mG [5]:=fun k=> by
 match k with
 | 0=> decide
 | k+1=> simp
theorem xZ(W:World)(x:Nat)(T:TypeId):ew (some ⟨W.heap.size,0,none⟩) [x] (W.alloc (.cells #[.int .u8 x] T)):=fun _=> by
 refine⟨_,0,rfl,by simp,fun k hk=> ?_⟩
 obtain rfl:k=0:=by simpa using hk
 go_simp
theorem zB:ge 0 2 [5]=(30,0):=by rfl
theorem hU(w:World)(hG:dn w):Calls Tryz.prog 10 #[] w fun e w'=> e=.returned (.bool true)∧Below w.heap.size w w':=by
 have CD:=aa (fun W=> pI 0 2 1 (some ⟨w.heap.size,0,none⟩) [5] W (by decide) AW (by decide))
 rw [zB] at CD
 have CT:=aa (fun W hG=> vZ W hG)
 have HB:=aa (xZ w 5 5)
 have HG:=aa hG
 clear hG
 go_enter Tryz.func10,Tryz.ntmps10
 go_wp2_with (first | (go_at_call 36;refine(CD.out _ HB.out).mono ?_;rintro e w1 ⟨rfl,hb1⟩;have kb1:Below w.heap.size w w1:=((Below.refl _ _).alloc (bz _) _).trans (hb1.mono (by simp))) | (go_at_call 37;refine(CT.out _ (sd HG.out kb1)).mono ?_;rintro e w2 ⟨rfl,hb2⟩))
 go_ret
 exact⟨rfl,ai kb1 hb2⟩
end
section
open Sx Go.RowKit Mr
def Ak(nm ot:ByteArray):Bool:=decide (nm.size≤100∧ot.size≤100)
theorem short_any(k t a b:Int)(nm ot:ByteArray)(w:World):
  Calls Tryz.prog 11 #[.agg #[.int .i64 k,.int .i64 t,.int .i64 a,.int .i64 b,.string nm,.string ot]] w fun e w'=> e=.returned (.bool (Ak nm ot))∧Below w.heap.size w w':=by
 unfold Ak
 by_cases h1:nm.size≤100
 ·by_cases h2:ot.size≤100
  ·rw [bF ⟨h1,h2⟩]
   have h3:(nm.size:Int)≤100:=by omega
   have h4:(ot.size:Int)≤100:=by omega
   clear h1 h2
   go_enter Tryz.func11,Tryz.ntmps11
   go_wp2_with fail
   go_ret
   exact⟨rfl,(by repeat' (first | exact Below.refl _ _ | assumption | apply aI | apply bg | apply aK | (refine cB ?_ ?_ _) | (refine ai ?_ (by assumption)) | omega | (simp <;> omega)))⟩
  ·rw [bv (fun h=> h2 h.2)]
   have h3:(nm.size:Int)≤100:=by omega
   have h4:¬ (ot.size:Int)≤100:=by omega
   have h5:100 < (ot.size:Int):=by omega
   clear h1 h2
   go_enter Tryz.func11,Tryz.ntmps11
   go_wp2_with fail
   go_ret
   exact⟨rfl,(by repeat' (first | exact Below.refl _ _ | assumption | apply aI | apply bg | apply aK | (refine cB ?_ ?_ _) | (refine ai ?_ (by assumption)) | omega | (simp <;> omega)))⟩
 ·rw [bv (fun h=> h1 h.1)]
  have h3:¬ (nm.size:Int)≤100:=by omega
  have h5:100 < (nm.size:Int):=by omega
  clear h1
  go_enter Tryz.func11,Tryz.ntmps11
  go_wp2_with fail
  go_ret
  exact⟨rfl,(by repeat' (first | exact Below.refl _ _ | assumption | apply aI | apply bg | apply aK | (refine cB ?_ ?_ _) | (refine ai ?_ (by assumption)) | omega | (simp <;> omega)))⟩
def mB(bks:List Bk):Bool:=decide (bks.length≤20∧∀ bk∈bks,bk.2.length≤300)
theorem tp {a:Option Addr} {bks:List Bk} {w:World} (c:Nat)(h:dS a bks w)(hl:bks.length≤9223372036854775807):Calls Tryz.prog 9 #[.slice a bks.length c] w fun e w'=> e=.returned (.bool (mB bks))∧Below w.heap.size w w':=by
 by_cases h1:20 < bks.length
 ·have h2:(20:Int) < bks.length:=by omega
  have HF:Hid (mB bks=false):=bv (fun e=> by have:=e.1;omega)
  clear h h1 hl
  go_enter Tryz.func9,Tryz.ntmps9
  go_wp2_with fail
  exact aH (v:=.bool false) rfl rfl rfl ⟨by rw [HF.out],Below.refl _ _⟩
 ·have h2:¬ (20:Int) < bks.length:=by omega
  have H:=aa h
  have HL:=aa h1
  have h20:bks.length≤20:=by omega
  clear h h1 hl
  go_enter Tryz.func9,Tryz.ntmps9
  go_wp2_with fail
  clear h2
  go_loopw [3] (fun ix wr=> ∃ i:Nat,i≤bks.length∧ix=.int .i64 i∧Hid (∀ bk∈bks.take i,bk.2.length≤300)∧Hid (Below w.heap.size w wr)) (fun ix _=> bks.length - (intOf ix).toNat)
  case atStart=> exact⟨0,by omega,rfl,(fun bk hbk=> by simp at hbk),Below.refl _ _⟩
  case round=>
   obtain⟨i,hi,rfl,HQ,HW⟩:=hrel
   by_cases hc:i < bks.length
   ·have c1:(i:Int) < bks.length:=by omega
    have c0:(0:Int)≤i:=by omega
    obtain⟨bk,hk⟩:∃ bk,bks[i]? =some bk:=⟨bks[i],bh hc⟩
    obtain⟨b,off,rfl,hb0,hcs⟩:=H.out (by rintro rfl;simp at hc)
    obtain⟨s0,vp,s1,hpv⟩:=hcs i bk hk
    obtain⟨ap,cp,rfl,hpc⟩:=hpv
    have g1:=ag s1 HW.out
    have HK:=aa hk
    clear hcs hpc s0 s1 hk hc hb0
    by_cases h3:bk.2.length≤300
    ·have h4:¬ (300:Int) < bk.2.length:=by omega
     have HQ2:Hid (∀ bk∈bks.take (i+1),bk.2.length≤300):=fun b9 hb9=> by
      rw [List.take_add_one,HK.out] at hb9
      rcases List.mem_append.1 hb9 with q | q
      ·exact HQ.out b9 q
      ·have e9:b9=bk:=by simpa using q
       rw [e9];exact h3
     clear h3
     go_wp2_with fail
     exact⟨⟨i+1,by omega,by push_cast;rfl,HQ2,HW⟩,by simp [intOf];omega⟩
    ·have h4:(300:Int) < bk.2.length:=by omega
     have HF:Hid (mB bks=false):=bv (fun e=> h3 (e.2 bk (aJ HK.out)))
     clear h3
     go_wp2_with fail
     exact aH (v:=.bool false) rfl rfl rfl ⟨by rw [HF.out],HW.out⟩
   ·obtain rfl:i=bks.length:=by omega
    have HQ2:Hid (∀ bk∈bks,bk.2.length≤300):=by have q:=HQ.out;rw [List.take_of_length_le (bz _)] at q;exact q
    have HF:Hid (mB bks=true):=bF ⟨h20,HQ2.out⟩
    clear hc
    go_wp2_with fail
    exact aH (v:=.bool true) rfl rfl rfl ⟨by rw [HF.out],HW.out⟩
end
section
open Sx Go.RowKit Mr
open Go.ChangeShapes Go.WideShapes Go.ChangeAt Go.Deep
def zK(a:RegA)(m:ByteArray):ByteArray×Int:=if modB m=false then(⟨#[]⟩,2)else match a.ps[whereA m a]? with
 | none=> (⟨#[]⟩,5)
 | some p=> (p.1,0)
def zL(a:RegA)(nm:ByteArray):Int×Int:=match a.ps[findA nm a]? with
 | none=> (0,5)
 | some p=> (gradeP (lf p),0)
def wu(a:RegA)(nm:ByteArray):List bR×Int:=match a.ps[findA nm a]? with
 | none=> ([],5)
 | some p=> (p.2,0)
section
variable {w0 W:World} {B R Q:Nat} {vb vb2:Value} {a:RegA}
theorem jf {l:List (ByteArray×List bR)} {i:Nat} (h:l[i]? =none):¬ i < l.length:=by have:=List.getElem?_eq_none_iff.1 h;omega
theorem we(h:ep w0 B R Q vb vb2 a a W)(ho:dc a)(hG:dn w0)(m:ByteArray)(hm:m.size≤1000000):Calls Tryz.prog 23 #[.pointer (some ⟨R,0,none⟩),.string m] W fun en w'=> en=.returned (.tuple #[.string (zK a m).1,.int .i64 (zK a m).2])∧Below W.heap.size W w':=by
 have hg:=h.glob hG
 obtain⟨g,vp,vP,X,h⟩:=h
 unfold zK
 cases h2:modB m with
 | false=> rw [aG rfl];exact sy h.rv ho hg m hm h2
 | true=>
  rw [aA (show ¬ (true=false)from by decide)]
  cases hp:a.ps[whereA m a]? with
  | none=> exact vj h.rv ho hg m hm h2 (jf hp)
  | some p=> exact sA h.rv ho hg m hm h2 p hp
theorem wh(h:ep w0 B R Q vb vb2 a a W)(ho:dc a)(m:ByteArray)(hm:m.size≤1000000):Calls Tryz.prog 31 #[.pointer (some ⟨Q,0,none⟩),.string m] W fun en w'=> en=.returned (.tuple #[.string (zK a m).1,.int .i64 (zK a m).2])∧Below W.heap.size W w':=by
 obtain⟨g,vp,vP,X,h⟩:=h
 unfold zK
 cases h2:modB m with
 | false=> rw [aG rfl];exact qE h.rf m hm h2
 | true=>
  rw [aA (show ¬ (true=false)from by decide)]
  cases hp:a.ps[whereA m a]? with
  | none=> exact sX h.rf ho.toji m hm h2 (jf hp)
  | some p=> exact qF h.rf ho.toji m hm h2 p hp
theorem qQ(h:ep w0 B R Q vb vb2 a a W)(ho:dc a)(nm:ByteArray):Calls Tryz.prog 33 #[.pointer (some ⟨R,0,none⟩),.string nm] W fun en w'=> en=.returned (.tuple #[.int .i64 (zL a nm).1,.int .i64 (zL a nm).2])∧Below W.heap.size W w':=by
 obtain⟨g,vp,vP,X,h⟩:=h
 unfold zL
 cases hp:a.ps[findA nm a]? with
 | none=> exact sM h.rv ho nm (jf hp)
 | some p=> exact qh h.rv ho nm p hp
theorem qR(h:ep w0 B R Q vb vb2 a a W)(ho:dc a)(nm:ByteArray):Calls Tryz.prog 34 #[.pointer (some ⟨Q,0,none⟩),.string nm] W fun en w'=> en=.returned (.tuple #[.int .i64 (zL a nm).1,.int .i64 (zL a nm).2])∧Below W.heap.size W w':=by
 have hnp:=ho.np
 obtain⟨g,vp,vP,X,h⟩:=h
 unfold zL
 cases hp:a.ps[findA nm a]? with
 | none=> exact qD h.rf nm (by omega) (jf hp)
 | some p=>
  have hn:=kj hp
  subst hn
  exact pp h.rf ho p hp
theorem rN {W:World} {B E sz:Nat}:W.ownsRow B E sz (.slice none 0 0) 0 []:=⟨by simp,ax ⟨rfl,rfl⟩⟩
theorem mC(h:ep w0 B R Q vb vb2 a a W)(ho:dc a)(nm:ByteArray):Calls Tryz.prog 16 #[.pointer (some ⟨R,0,none⟩),.string nm] W fun en w'=> ∃ v',en=.returned (.tuple #[v',.int .i64 (wu a nm).2])∧w'.ownsRow W.heap.size 31 10 v' (wu a nm).1.length (bK (wu a nm).1)∧Below W.heap.size W w':=by
 obtain⟨g,vp,vP,X,h⟩:=h
 unfold wu
 cases hp:a.ps[findA nm a]? with
 | none=> exact(qa h.rv ho nm (jf hp)).mono fun en w' q=> ⟨_,q.1,rN,q.2⟩
 | some p=> exact oY h.rv ho nm p hp
theorem mD(h:ep w0 B R Q vb vb2 a a W)(ho:dc a)(nm:ByteArray):Calls Tryz.prog 32 #[.pointer (some ⟨Q,0,none⟩),.string nm] W fun en w'=> ∃ v',en=.returned (.tuple #[v',.int .i64 (wu a nm).2])∧w'.ownsRow W.heap.size 31 10 v' (wu a nm).1.length (bK (wu a nm).1)∧Below W.heap.size W w':=by
 have hnp:=ho.np
 obtain⟨g,vp,vP,X,h⟩:=h
 unfold wu
 cases hp:a.ps[findA nm a]? with
 | none=> exact(pm h.rf nm (by omega) (jf hp)).mono fun en w' q=> ⟨_,q.1,rN,q.2⟩
 | some p=> exact ou h.rf nm (by omega) p hp (by have:=(ho.p p (aJ hp)).1;omega)
theorem yc(ho:dc a)(nm:ByteArray):(wu a nm).1.length≤1000000:=by
 unfold wu
 cases hp:a.ps[findA nm a]? with
 | none=> exact Nat.zero_le _
 | some p=> have:=(ho.p p (aJ hp)).1;show p.2.length≤1000000;omega
theorem nK {W:World} {B c:Nat} {ad:Option Addr} {es:List bR} (h:W.ownsRow B 31 10 (.slice ad es.length c) es.length (bK es)):iP ad es W:=(gX.of_own (X:=fun _=> True) h (fun _ _=> trivial)).at_
theorem Am(h:ep w0 B R Q vb vb2 a a W)(ho:dc a)(b:Int):Calls Tryz.prog 17 #[.pointer (some ⟨R,0,none⟩),.int .i64 b] W fun en w'=> en=.returned (.int .i64 (leftA a b))∧Below W.heap.size W w':=by
 obtain⟨g,vp,vP,X,h⟩:=h
 have h9:=jX h.rv.ra (h.rv.ok ho.toji) b
 rw [jZ,h.rv.abs] at h9
 exact h9
theorem An(h:ep w0 B R Q vb vb2 a a W)(ho:dc a)(b:Int):Calls Tryz.prog 80 #[.pointer (some ⟨Q,0,none⟩),.int .i64 b] W fun en w'=> en=.returned (.int .i64 (leftA a b))∧Below W.heap.size W w':=by
 obtain⟨g,vp,vP,X,h⟩:=h
 exact dC h.rf ho.toji b
theorem zC(h:ep w0 B R Q vb vb2 a a W)(ho:dc a):Calls Tryz.prog 77 #[.pointer (some ⟨R,0,none⟩)] W fun e w'=> ∃ v',e=.returned v'∧w'.ownsRow W.heap.size 9 1 v' (a.ps.map (·.1)).length ((a.ps.map (·.1)).map Value.string)∧Below W.heap.size W w':=by
 obtain⟨g,vp,vP,X,h⟩:=h
 rw [List.length_map,List.map_map]
 exact tg h.rv ho
theorem zD(h:ep w0 B R Q vb vb2 a a W)(ho:dc a):Calls Tryz.prog 78 #[.pointer (some ⟨Q,0,none⟩)] W fun e w'=> ∃ v',e=.returned v'∧w'.ownsRow W.heap.size 9 1 v' (a.ps.map (·.1)).length ((a.ps.map (·.1)).map Value.string)∧Below W.heap.size W w':=by
 have hnp:=ho.np
 obtain⟨g,vp,vP,X,h⟩:=h
 rw [List.length_map,List.map_map]
 exact ql h.rf (by omega)
end
theorem alike_any {w0 W:World} {B R Q:Nat} {vb vb2:Value} {a:RegA} (h:ep w0 B R Q vb vb2 a a W)(ho:dc a):Calls Tryz.prog 30 #[.pointer (some ⟨R,0,none⟩),.pointer (some ⟨Q,0,none⟩)] W fun e w'=> e=.returned (.bool true)∧Below W.heap.size W w':=by
 have HT:=aa h
 have HO:=aa ho
 have hnp:=ho.np
 clear h ho
 go_enter Tryz.func30,Tryz.ntmps30
 go_upto_region 4 with(first | (go_at_call 77;refine(zC HT.out HO.out).mono ?_;rintro e w1 ⟨v1,rfl,ho1,hb1⟩;have HO1:=aa ho1;have HB1:=aa hb1;clear ho1 hb1) | (go_at_call 78;refine(zD (HT.out.step HB1.out) HO.out).mono ?_;rintro e w2 ⟨v2,rfl,ho2,hb2⟩;have HO2:=aa (aD HO1.out hb2);have HB2:=aa (ai HB1.out hb2);have CT:=aa (mz (bH.of_own HO2.out) (bH.of_own ho2) (by rw [List.length_map];have:=HO.out.np;omega));clear ho2 hb2) | (go_at_call 76;refine CT.out.mono ?_;rintro e w3 ⟨rfl,hb3⟩;have HO3:=aa (aD HO2.out hb3);have HB3:=aa (ai HB2.out hb3);clear hb3))
 obtain⟨l,hl⟩:∃ l,a.ps.map (·.1)=l:=⟨_,rfl⟩
 rw [hl] at HO3
 have hll:l.length≤100:=by rw [← hl,List.length_map];exact hnp
 obtain⟨aN,cN,eN⟩:=aP HO3.out
 subst eN
 clear hl CT HO1 HO2
 go_wp2_with fail
 go_loopw [6] (fun ix wr=> ∃ i:Nat,i≤l.length∧ix=.int .i64 i∧Hid (Below w3.heap.size w3 wr)) (fun ix _=> l.length - (intOf ix).toNat)
 case atStart=> exact⟨0,Nat.zero_le _,rfl,Below.refl _ _⟩
 case round=>
  obtain⟨i,hi,rfl,HW⟩:=hrel
  by_cases hc:i < l.length
  ·have k1:(i:Int) < l.length:=by omega
   have k0:(0:Int)≤i:=by omega
   obtain⟨nm,hn⟩:∃ nm,l[i]? =some nm:=⟨l[i],bh hc⟩
   obtain⟨bN,eb,lb,hcN⟩:=eD (b:=0) HO3.out (by omega)
   obtain rfl:=eb
   have HW0:=aa (ai HB3.out HW.out)
   have HG1:Hid (wr.cell? ⟨bN,i,none⟩=some (.string nm)):=ag (hcN i _ (by rw [bX,hn];rfl)) HW.out
   have HGL:=aa (ar lb HW.out.size)
   have HB:=aa (Below.refl wr.heap.size wr)
   have g1:=ag HG1.out HB.out;have gl:=ar HGL.out HB.out.size
   clear hn lb hcN hc
   go_wp2_with ((first | (go_at_call 16;refine(mC (HT.out.step (ai HW0.out HB.out)) HO.out nm).mono ?_;rintro e w1 ⟨v4,rfl,ho4,hbn⟩;have HE4:=aa ho4;clear ho4) | (go_at_call 32;refine(mD (HT.out.step (ai HW0.out HB.out)) HO.out nm).mono ?_;rintro e w1 ⟨v5,rfl,ho5,hbn⟩;have HE4b:=aa (aD HE4.out hbn);have HE5:=aa ho5;clear ho5) | (go_at_call 33;refine(qQ (HT.out.step (ai HW0.out HB.out)) HO.out nm).mono ?_;rintro e w1 ⟨rfl,hbn⟩;have HE4c:=aa (aD HE4b.out hbn);have HE5c:=aa (aD HE5.out hbn)) | (go_at_call 34;refine(qR (HT.out.step (ai HW0.out HB.out)) HO.out nm).mono ?_;rintro e w1 ⟨rfl,hbn⟩;have HE4d:=aa (aD HE4c.out hbn);have HE5d:=aa (aD HE5c.out hbn);obtain⟨x4,c4,y4⟩:=aP HE4d.out;obtain⟨x5,c5,y5⟩:=aP HE5d.out;subst y4 y5;have CS:=aa (td c4 c5 (nK HE4d.out) (nK HE5d.out) (yc HO.out nm))) | (go_at_call 79;refine CS.out.mono ?_;rintro e w1 ⟨rfl,hbn⟩));have HB9:=aa (ai HB.out hbn);clear HB hbn g1 gl;have HB:=HB9;clear HB9;have g1:=ag HG1.out HB.out;have gl:=ar HGL.out HB.out.size)
   exact⟨⟨i+1,by omega,by push_cast;rfl,ai HW.out HB.out⟩,by simp [intOf];omega⟩
  ·obtain rfl:i=l.length:=by omega
   have HW0:=aa (ai HB3.out HW.out)
   clear hc HW
   go_wp2_with fail
   go_loopw [15] (fun ix wr=> ∃ z:Int,-1≤z∧z≤9∧ix=.int .i64 z∧Hid (Below W.heap.size W wr)) (fun ix _=> (9 - intOf ix).toNat)
   case atStart=> exact⟨-1,by omega,by omega,rfl,HW0⟩
   case round=>
    clear HW0
    obtain⟨z,hz0,hz,rfl,HB⟩:=hrel
    by_cases hc:z < 9
    ·have hzw:IntKind.i64.wrap (z+1)=z+1:=cC _ ⟨by omega,by omega⟩
     go_wp2_with ((first | (go_at_call 17;refine(Am (HT.out.step HB.out) HO.out z).mono ?_) | (go_at_call 80;refine(An (HT.out.step HB.out) HO.out z).mono ?_));rintro e w1 ⟨rfl,hbn⟩;have HB9:=aa (ai HB.out hbn);clear HB hbn;have HB:=HB9;clear HB9)
     exact⟨⟨z+1,by omega,by omega,rfl,HB⟩,by simp [intOf];omega⟩
    ·obtain rfl:z=9:=by omega
     clear hc
     go_wp2_with fail
     exact aH (v:=.bool true) rfl rfl rfl ⟨rfl,HB.out⟩
theorem zE {w:World} (do_:Nat)(by_:Int)(nm:ByteArray)(k t ea eb:Int)(n1 ot:ByteArray)(at_:Int)(md bt:ByteArray)(t0 t1:Int)(rs:ByteArray)(h0:¬ nm.size≤100):Calls Tryz.prog 26 #[.agg #[.int .u8 (do_:Int),.int .i64 by_,.string nm,.int .i64 k,.int .i64 t,.int .i64 ea,.int .i64 eb,.string n1,.string ot,.int .i64 at_,.string md,.string bt,.int .i64 t0,.int .i64 t1,.string rs]] w fun e w'=> e=.returned (.bool true)∧Below w.heap.size w w':=by
 have g0:(nm.size:Int) > 100:=by omega
 have CSH:=aa (fun W=> short_any k t ea eb n1 ot W)
 clear h0
 have HX:=aa (au w (.cells #[.int .u8 (do_:Int),.int .i64 by_,.string nm,.int .i64 k,.int .i64 t,.int .i64 ea,.int .i64 eb,.string n1,.string ot,.int .i64 at_,.string md,.string bt,.int .i64 t0,.int .i64 t1,.string rs] 74))
 have HB:=aa (bU (W:=w) (o:=(.cells #[.int .u8 (do_:Int),.int .i64 by_,.string nm,.int .i64 k,.int .i64 t,.int .i64 ea,.int .i64 eb,.string n1,.string ot,.int .i64 at_,.string md,.string bt,.int .i64 t0,.int .i64 t1,.string rs] 74)))
 go_enter Tryz.func26,Tryz.ntmps26
 go_upto_region 1 with fail
 generalize w.alloc (.cells #[.int .u8 (do_:Int),.int .i64 by_,.string nm,.int .i64 k,.int .i64 t,.int .i64 ea,.int .i64 eb,.string n1,.string ot,.int .i64 at_,.string md,.string bt,.int .i64 t0,.int .i64 t1,.string rs] 74)=W0 at*
 obtain⟨x0,x1,x2,x3,x4,x5,x6,x7,x8,x9,x10,x11,x12,x13,x14⟩:=e7 HX.out;have xl:=ak HX.out
 go_wp2_with fail
 exact aH (v:=.bool true) rfl rfl rfl ⟨rfl,HB.out⟩
theorem zF {w:World} (do_:Nat)(by_:Int)(nm:ByteArray)(k t ea eb:Int)(n1 ot:ByteArray)(at_:Int)(md bt:ByteArray)(t0 t1:Int)(rs:ByteArray)(h0:nm.size≤100)(h1:¬ md.size≤100):Calls Tryz.prog 26 #[.agg #[.int .u8 (do_:Int),.int .i64 by_,.string nm,.int .i64 k,.int .i64 t,.int .i64 ea,.int .i64 eb,.string n1,.string ot,.int .i64 at_,.string md,.string bt,.int .i64 t0,.int .i64 t1,.string rs]] w fun e w'=> e=.returned (.bool true)∧Below w.heap.size w w':=by
 have g0:¬ (nm.size:Int) > 100:=by omega
 have g1:(md.size:Int) > 100:=by omega
 have CSH:=aa (fun W=> short_any k t ea eb n1 ot W)
 clear h0 h1
 have HX:=aa (au w (.cells #[.int .u8 (do_:Int),.int .i64 by_,.string nm,.int .i64 k,.int .i64 t,.int .i64 ea,.int .i64 eb,.string n1,.string ot,.int .i64 at_,.string md,.string bt,.int .i64 t0,.int .i64 t1,.string rs] 74))
 have HB:=aa (bU (W:=w) (o:=(.cells #[.int .u8 (do_:Int),.int .i64 by_,.string nm,.int .i64 k,.int .i64 t,.int .i64 ea,.int .i64 eb,.string n1,.string ot,.int .i64 at_,.string md,.string bt,.int .i64 t0,.int .i64 t1,.string rs] 74)))
 go_enter Tryz.func26,Tryz.ntmps26
 go_upto_region 1 with fail
 generalize w.alloc (.cells #[.int .u8 (do_:Int),.int .i64 by_,.string nm,.int .i64 k,.int .i64 t,.int .i64 ea,.int .i64 eb,.string n1,.string ot,.int .i64 at_,.string md,.string bt,.int .i64 t0,.int .i64 t1,.string rs] 74)=W0 at*
 obtain⟨x0,x1,x2,x3,x4,x5,x6,x7,x8,x9,x10,x11,x12,x13,x14⟩:=e7 HX.out;have xl:=ak HX.out
 go_wp2_with fail
 exact aH (v:=.bool true) rfl rfl rfl ⟨rfl,HB.out⟩
theorem zG {w:World} (do_:Nat)(by_:Int)(nm:ByteArray)(k t ea eb:Int)(n1 ot:ByteArray)(at_:Int)(md bt:ByteArray)(t0 t1:Int)(rs:ByteArray)(h0:nm.size≤100)(h1:md.size≤100)(h2:¬ bt.size≤100):Calls Tryz.prog 26 #[.agg #[.int .u8 (do_:Int),.int .i64 by_,.string nm,.int .i64 k,.int .i64 t,.int .i64 ea,.int .i64 eb,.string n1,.string ot,.int .i64 at_,.string md,.string bt,.int .i64 t0,.int .i64 t1,.string rs]] w fun e w'=> e=.returned (.bool true)∧Below w.heap.size w w':=by
 have g0:¬ (nm.size:Int) > 100:=by omega
 have g1:¬ (md.size:Int) > 100:=by omega
 have g2:(bt.size:Int) > 100:=by omega
 have CSH:=aa (fun W=> short_any k t ea eb n1 ot W)
 clear h0 h1 h2
 have HX:=aa (au w (.cells #[.int .u8 (do_:Int),.int .i64 by_,.string nm,.int .i64 k,.int .i64 t,.int .i64 ea,.int .i64 eb,.string n1,.string ot,.int .i64 at_,.string md,.string bt,.int .i64 t0,.int .i64 t1,.string rs] 74))
 have HB:=aa (bU (W:=w) (o:=(.cells #[.int .u8 (do_:Int),.int .i64 by_,.string nm,.int .i64 k,.int .i64 t,.int .i64 ea,.int .i64 eb,.string n1,.string ot,.int .i64 at_,.string md,.string bt,.int .i64 t0,.int .i64 t1,.string rs] 74)))
 go_enter Tryz.func26,Tryz.ntmps26
 go_upto_region 1 with fail
 generalize w.alloc (.cells #[.int .u8 (do_:Int),.int .i64 by_,.string nm,.int .i64 k,.int .i64 t,.int .i64 ea,.int .i64 eb,.string n1,.string ot,.int .i64 at_,.string md,.string bt,.int .i64 t0,.int .i64 t1,.string rs] 74)=W0 at*
 obtain⟨x0,x1,x2,x3,x4,x5,x6,x7,x8,x9,x10,x11,x12,x13,x14⟩:=e7 HX.out;have xl:=ak HX.out
 go_wp2_with fail
 exact aH (v:=.bool true) rfl rfl rfl ⟨rfl,HB.out⟩
theorem zH {w:World} (do_:Nat)(by_:Int)(nm:ByteArray)(k t ea eb:Int)(n1 ot:ByteArray)(at_:Int)(md bt:ByteArray)(t0 t1:Int)(rs:ByteArray)(h0:nm.size≤100)(h1:md.size≤100)(h2:bt.size≤100)(h3:¬ rs.size≤100):Calls Tryz.prog 26 #[.agg #[.int .u8 (do_:Int),.int .i64 by_,.string nm,.int .i64 k,.int .i64 t,.int .i64 ea,.int .i64 eb,.string n1,.string ot,.int .i64 at_,.string md,.string bt,.int .i64 t0,.int .i64 t1,.string rs]] w fun e w'=> e=.returned (.bool true)∧Below w.heap.size w w':=by
 have g0:¬ (nm.size:Int) > 100:=by omega
 have g1:¬ (md.size:Int) > 100:=by omega
 have g2:¬ (bt.size:Int) > 100:=by omega
 have g3:(rs.size:Int) > 100:=by omega
 have CSH:=aa (fun W=> short_any k t ea eb n1 ot W)
 clear h0 h1 h2 h3
 have HX:=aa (au w (.cells #[.int .u8 (do_:Int),.int .i64 by_,.string nm,.int .i64 k,.int .i64 t,.int .i64 ea,.int .i64 eb,.string n1,.string ot,.int .i64 at_,.string md,.string bt,.int .i64 t0,.int .i64 t1,.string rs] 74))
 have HB:=aa (bU (W:=w) (o:=(.cells #[.int .u8 (do_:Int),.int .i64 by_,.string nm,.int .i64 k,.int .i64 t,.int .i64 ea,.int .i64 eb,.string n1,.string ot,.int .i64 at_,.string md,.string bt,.int .i64 t0,.int .i64 t1,.string rs] 74)))
 go_enter Tryz.func26,Tryz.ntmps26
 go_upto_region 1 with fail
 generalize w.alloc (.cells #[.int .u8 (do_:Int),.int .i64 by_,.string nm,.int .i64 k,.int .i64 t,.int .i64 ea,.int .i64 eb,.string n1,.string ot,.int .i64 at_,.string md,.string bt,.int .i64 t0,.int .i64 t1,.string rs] 74)=W0 at*
 obtain⟨x0,x1,x2,x3,x4,x5,x6,x7,x8,x9,x10,x11,x12,x13,x14⟩:=e7 HX.out;have xl:=ak HX.out
 go_wp2_with fail
 exact aH (v:=.bool true) rfl rfl rfl ⟨rfl,HB.out⟩
theorem zI {w:World} (do_:Nat)(by_:Int)(nm:ByteArray)(k t ea eb:Int)(n1 ot:ByteArray)(at_:Int)(md bt:ByteArray)(t0 t1:Int)(rs:ByteArray)(h0:nm.size≤100)(h1:md.size≤100)(h2:bt.size≤100)(h3:rs.size≤100)(h4:Ak n1 ot=false):Calls Tryz.prog 26 #[.agg #[.int .u8 (do_:Int),.int .i64 by_,.string nm,.int .i64 k,.int .i64 t,.int .i64 ea,.int .i64 eb,.string n1,.string ot,.int .i64 at_,.string md,.string bt,.int .i64 t0,.int .i64 t1,.string rs]] w fun e w'=> e=.returned (.bool true)∧Below w.heap.size w w':=by
 have g0:¬ (nm.size:Int) > 100:=by omega
 have g1:¬ (md.size:Int) > 100:=by omega
 have g2:¬ (bt.size:Int) > 100:=by omega
 have g3:¬ (rs.size:Int) > 100:=by omega
 have CSH:=aa (fun W=> short_any k t ea eb n1 ot W)
 rw [h4] at CSH
 clear h0 h1 h2 h3 h4
 have HX:=aa (au w (.cells #[.int .u8 (do_:Int),.int .i64 by_,.string nm,.int .i64 k,.int .i64 t,.int .i64 ea,.int .i64 eb,.string n1,.string ot,.int .i64 at_,.string md,.string bt,.int .i64 t0,.int .i64 t1,.string rs] 74))
 have HB:=aa (bU (W:=w) (o:=(.cells #[.int .u8 (do_:Int),.int .i64 by_,.string nm,.int .i64 k,.int .i64 t,.int .i64 ea,.int .i64 eb,.string n1,.string ot,.int .i64 at_,.string md,.string bt,.int .i64 t0,.int .i64 t1,.string rs] 74)))
 go_enter Tryz.func26,Tryz.ntmps26
 go_upto_region 1 with fail
 generalize w.alloc (.cells #[.int .u8 (do_:Int),.int .i64 by_,.string nm,.int .i64 k,.int .i64 t,.int .i64 ea,.int .i64 eb,.string n1,.string ot,.int .i64 at_,.string md,.string bt,.int .i64 t0,.int .i64 t1,.string rs] 74)=W0 at*
 obtain⟨x0,x1,x2,x3,x4,x5,x6,x7,x8,x9,x10,x11,x12,x13,x14⟩:=e7 HX.out;have xl:=ak HX.out
 go_wp2_with (go_at_call 11;refine(CSH.out _).mono ?_;rintro e w3 ⟨rfl,hb3⟩;have HB3:=aa (ai HB.out hb3);clear hb3)
 exact aH (v:=.bool true) rfl rfl rfl ⟨rfl,HB3.out⟩
theorem zJ {w:World} (do_:Nat)(by_:Int)(nm:ByteArray)(k t ea eb:Int)(n1 ot:ByteArray)(at_:Int)(md bt:ByteArray)(t0 t1:Int)(rs:ByteArray)(h0:nm.size≤100)(h1:md.size≤100)(h2:bt.size≤100)(h3:rs.size≤100)(h4:Ak n1 ot=true):Calls Tryz.prog 26 #[.agg #[.int .u8 (do_:Int),.int .i64 by_,.string nm,.int .i64 k,.int .i64 t,.int .i64 ea,.int .i64 eb,.string n1,.string ot,.int .i64 at_,.string md,.string bt,.int .i64 t0,.int .i64 t1,.string rs]] w fun e w'=> e=.returned (.bool false)∧Below w.heap.size w w':=by
 have g0:¬ (nm.size:Int) > 100:=by omega
 have g1:¬ (md.size:Int) > 100:=by omega
 have g2:¬ (bt.size:Int) > 100:=by omega
 have g3:¬ (rs.size:Int) > 100:=by omega
 have CSH:=aa (fun W=> short_any k t ea eb n1 ot W)
 rw [h4] at CSH
 clear h0 h1 h2 h3 h4
 have HX:=aa (au w (.cells #[.int .u8 (do_:Int),.int .i64 by_,.string nm,.int .i64 k,.int .i64 t,.int .i64 ea,.int .i64 eb,.string n1,.string ot,.int .i64 at_,.string md,.string bt,.int .i64 t0,.int .i64 t1,.string rs] 74))
 have HB:=aa (bU (W:=w) (o:=(.cells #[.int .u8 (do_:Int),.int .i64 by_,.string nm,.int .i64 k,.int .i64 t,.int .i64 ea,.int .i64 eb,.string n1,.string ot,.int .i64 at_,.string md,.string bt,.int .i64 t0,.int .i64 t1,.string rs] 74)))
 go_enter Tryz.func26,Tryz.ntmps26
 go_upto_region 1 with fail
 generalize w.alloc (.cells #[.int .u8 (do_:Int),.int .i64 by_,.string nm,.int .i64 k,.int .i64 t,.int .i64 ea,.int .i64 eb,.string n1,.string ot,.int .i64 at_,.string md,.string bt,.int .i64 t0,.int .i64 t1,.string rs] 74)=W0 at*
 obtain⟨x0,x1,x2,x3,x4,x5,x6,x7,x8,x9,x10,x11,x12,x13,x14⟩:=e7 HX.out;have xl:=ak HX.out
 go_wp2_with (go_at_call 11;refine(CSH.out _).mono ?_;rintro e w3 ⟨rfl,hb3⟩;have HB3:=aa (ai HB.out hb3);clear hb3)
 exact aH (v:=.bool false) rfl rfl rfl ⟨rfl,HB3.out⟩
theorem wi {w:World} (d:Dd):(Calls Tryz.prog 26 #[.agg (mq d).toArray] w fun e w'=> e=.returned (.bool true)∧Below w.heap.size w w')∨(vF d∧Calls Tryz.prog 26 #[.agg (mq d).toArray] w fun e w'=> e=.returned (.bool false)∧Below w.heap.size w w'):=by
 obtain⟨do_,by_,nm,⟨k,t,ea,eb,n1,ot⟩,at_,md,bt,t0,t1,rs⟩:=d
 by_cases h0:nm.size≤100
 ·by_cases h1:md.size≤100
  ·by_cases h2:bt.size≤100
   ·by_cases h3:rs.size≤100
    ·cases h4:Ak n1 ot with
     | false=> exact ax (zI do_ by_ nm k t ea eb n1 ot at_ md bt t0 t1 rs h0 h1 h2 h3 h4)
     | true=> exact ay ⟨⟨h0,h1,h2,h3,(of_decide_eq_true h4).1,(of_decide_eq_true h4).2⟩,zJ do_ by_ nm k t ea eb n1 ot at_ md bt t0 t1 rs h0 h1 h2 h3 h4⟩
    ·exact ax (zH do_ by_ nm k t ea eb n1 ot at_ md bt t0 t1 rs h0 h1 h2 h3)
   ·exact ax (zG do_ by_ nm k t ea eb n1 ot at_ md bt t0 t1 rs h0 h1 h2)
  ·exact ax (zF do_ by_ nm k t ea eb n1 ot at_ md bt t0 t1 rs h0 h1)
 ·exact ax (zE do_ by_ nm k t ea eb n1 ot at_ md bt t0 t1 rs h0)
def pu(a:Option Addr)(l:List Dd)(W:World):Prop:=l≠[]→∃ b off,a=some ⟨b,off,none⟩∧b < W.heap.size∧∀ (k:Nat) (x:Dd),l[k]? =some x→∀ (j:Nat) (u:Value),(mq x)[j]? =some u→W.cell? ⟨b,off+k*15+j,none⟩=some u
section
variable {H:Type} {enc:TypeId×Value→H} {W:World} {held:Bool}
theorem wj {n:Int} (h:(Lit.int .u8 n).wf=true):∃ k:Nat,n=(k:Int)∧k < 256:=by
 simp only [Lit.wf,Bool.and_eq_true,decide_eq_true_eq] at h
 have h1:(0:Int)≤n:=h.1
 have h2:n≤255:=h.2
 exact⟨n.toNat,by omega,by omega⟩
theorem wl {n:Nat} {cs:List Value} {x:DataW H×List MemPlace} (h:DataW.trod enc Tryz.prog W 0 (fun _=> true) held n 74 cs=some x):∃ y:Dd,cs=mq y∧y.do_ < 256:=by
 obtain⟨xs,k,hk,hxy,hcl,hxl,hf⟩:=DataW.trod_struct Tryz.underlying74 h
 rw [show Tryz.prog.cellsOf 74=15 by kernel_rfl] at hcl
 match xs,hxl,cs,hcl with
 | [y0,y1,y2,y3,y4,y5,y6,y7,y8,y9],_,[v0,v1,v2,v3,v4,v5,v6,v7,v8,v9,v10,v11,v12,v13,v14],_=>
  have g0:=hf 0 _ rfl
  have g1:=hf 1 _ rfl
  have g2:=hf 2 _ rfl
  have g3:=hf 3 _ rfl
  have g4:=hf 4 _ rfl
  have g5:=hf 5 _ rfl
  have g6:=hf 6 _ rfl
  have g7:=hf 7 _ rfl
  have g8:=hf 8 _ rfl
  have g9:=hf 9 _ rfl
  have k0:Tryz.prog.cellsOf 5=1:=by kernel_rfl
  have k1:Tryz.prog.cellsOf 3=1:=by kernel_rfl
  have k2:Tryz.prog.cellsOf 9=1:=by kernel_rfl
  have k3:Tryz.prog.cellsOf 29=6:=by kernel_rfl
  have k4:Tryz.prog.cellsOf 2=1:=by kernel_rfl
  simp only [List.getElem_toArray,List.getElem_cons_zero,List.getElem_cons_succ] at g0 g1 g2 g3 g4 g5 g6 g7 g8 g9
  rw [k0] at g0
  rw [k1] at g1
  rw [k2] at g2 g5 g6 g9
  rw [k3] at g3
  rw [k4] at g4 g7 g8
  simp only [List.drop_zero,List.drop_succ_cons,List.take_succ_cons,List.take_zero,List.getElem?_cons_zero,List.getElem?_cons_succ] at g0 g1 g2 g3 g4 g5 g6 g7 g8 g9
  obtain⟨a0,b0,-,w0⟩:=DataW.trod_int Tryz.underlying5 g0
  obtain⟨a1,b1,-,-⟩:=DataW.trod_int Tryz.underlying3 g1
  obtain⟨a2,b2,-,-⟩:=DataW.trod_string Tryz.underlying9 g2
  obtain⟨e,he⟩:=sT g3
  obtain⟨ek,et,ea,eb,en,eo⟩:=e
  obtain⟨a4,b4,-,-⟩:=DataW.trod_int Tryz.underlying2 g4
  obtain⟨a5,b5,-,-⟩:=DataW.trod_string Tryz.underlying9 g5
  obtain⟨a6,b6,-,-⟩:=DataW.trod_string Tryz.underlying9 g6
  obtain⟨a7,b7,-,-⟩:=DataW.trod_int Tryz.underlying2 g7
  obtain⟨a8,b8,-,-⟩:=DataW.trod_int Tryz.underlying2 g8
  obtain⟨a9,b9,-,-⟩:=DataW.trod_string Tryz.underlying9 g9
  simp only [gg,List.cons.injEq,and_true] at he b0 b1 b2 b4 b5 b6 b7 b8 b9
  obtain⟨e0,e1,e2,e3,e4,e5⟩:=he
  obtain⟨p0,rfl,q0⟩:=wj w0
  subst e0 e1 e2 e3 e4 e5 b0 b1 b2 b4 b5 b6 b7 b8 b9
  exact⟨⟨p0,a1,a2,(ek,et,ea,eb,en,eo),a4,a5,a6,a7,a8,a9⟩,rfl,q0⟩
theorem qS {n:Nat} {v:Value} {x:DataW H×List MemPlace} (h:DataW.trod enc Tryz.prog W 0 (fun _=> true) held n 66 [v]=some x):
  ∃ (a:Option Addr) (c:Nat) (l:List Dd),v=.slice a l.length c∧l.length≤c∧c≤maxLen∧(∀ q∈l,q.do_ < 256)∧pu a l W:=by
 haveI:Inhabited Dd:=⟨⟨0,0,⟨#[]⟩,(0,0,0,0,⟨#[]⟩,⟨#[]⟩),0,⟨#[]⟩,⟨#[]⟩,0,0,⟨#[]⟩⟩⟩
 exact nA (cells:=mq) (Ok:=fun q=> q.do_ < 256) (sz:=15) Tryz.underlying66 (by kernel_rfl) (by decide) (fun h=> wl h) h
end
end
section
open Sx Go.RowKit Mr
theorem bW.one {B R:Nat} {a:RegA} {g:RegS} {vb vp:Value} {w:World} (h:bW B R vb a g vp w):∀ u∈flatK g.qs,u.oneCell'=true:=fun u hu=> by
 unfold flatK at hu
 obtain⟨q,hq,h2⟩:=List.mem_flatMap.1 hu
 obtain⟨⟨a1,c1,e1,-⟩,⟨a2,c2,e2,-⟩,-⟩:=h.ra.ms q hq
 obtain⟨a3,c3,e3⟩:=aP (h.ra.es q hq)
 exact vT q (by rw [e1];rfl) (by rw [e2];rfl) (by rw [e3];rfl) u h2
theorem wt.fin {B R0 N R:Nat} {a:RegA} {g0 g:RegS} {vb vp0 vp:Value} {w W:World} (h0:bW B R0 vb a g0 vp0 w)(ho:dc a)(h:wt N R g0.qs.length g0 g vb vp w W):bW w.heap.size R vb a g vp W:=by
 have key:∀ (j:Nat) (q:PkV),g.qs[j]? =some q→∃ q0,g0.qs[j]? =some q0∧q.nm=q0.nm∧q.life=q0.life∧q.hd=q0.hd∧q.es=q0.es∧bH q.vm q.life.ms W∧bH q.vo q.life.os W∧W.ownsRow N 31 10 q.ve q.es.length (bK q.es):=fun j q hq=> by
  have hjl:=(aB hq).1
  obtain⟨q8,hq8⟩:∃ q8,g0.qs[j]? =some q8:=⟨_,bh (by rw [← h.pt.2.2.2];exact hjl)⟩
  obtain⟨q7,z1,z2,z3,z4,z5,-,z7⟩:=h.qs j q8 hq8
  rw [hq] at z1
  obtain rfl:=bD z1
  exact⟨q8,hq8,z2,z3,z4,z5,z7 (by rw [← h.pt.2.2.2];exact hjl)⟩
 have hmap:g.qs.map (fun q=> (q.nm,q.es))=g0.qs.map (fun q=> (q.nm,q.es)):=by
  refine List.ext_getElem? fun j=> ?_
  rw [bX,bX]
  cases hq:g.qs[j]? with
  | none=> rw [List.getElem?_eq_none (by have:=List.getElem?_eq_none_iff.1 hq;have:=h.pt.2.2.2;omega)]
  | some q=>
   obtain⟨q0,e0,e1,-,-,e2,-⟩:=key j q hq
   rw [e0]
   show some (q.nm,q.es)=some (q0.nm,q0.es)
   rw [e1,e2]
 obtain⟨p1,p2,p3,p4⟩:=h.pt
 refine⟨⟨h.reg,by rw [p3];exact h0.ra.u8,?_,dE h.row h.hN.1,fun q hq=> ?_,fun q hq=> ?_,fun j k p q hjk hp hq=> ?_,Nat.le_trans h.hN.1 h.hN.2⟩,?_,fun q hq=> ?_⟩
 ·rw [p2]
  obtain⟨ab,cb,e1,e2⟩:=h0.ra.bk
  exact⟨ab,cb,e1,(dJ.of_below h.bel).books e2⟩
 ·obtain⟨j,hj⟩:=List.getElem?_of_mem hq
  obtain⟨q0,e0,e1,e2,-,-,z1,z2,-⟩:=key j q hj
  refine⟨z1,z2,fun hn=> ?_⟩
  rw [e2,(h0.lf q0 (aJ e0)).1,iG] at hn
  exact absurd (eF hn) (qg (ho.ne (q0.nm,q0.es) (aJ (h0.put e0))))
 ·obtain⟨j,hj⟩:=List.getElem?_of_mem hq
  obtain⟨q0,-,-,-,-,-,-,-,z3⟩:=key j q hj
  exact dE z3 h.hN.1
 ·exact h.far j k p q hjk (by have:=(aB hp).1;omega) (by have:=(aB hq).1;omega) hp hq
 ·rw [← h0.abs]
  unfold RegS.abs
  rw [p1,p2,p3,hmap]
 ·obtain⟨j,hj⟩:=List.getElem?_of_mem hq
  obtain⟨q0,e0,e1,e2,e3,e4,-⟩:=key j q hj
  obtain⟨f1,f2⟩:=h0.lf q0 (aJ e0)
  rw [e1,e2,e3,e4,p1]
  exact⟨f1,f2⟩
theorem kM {g:RegS} {vb vp:Value} (h8:g.used.length=8):(dW g vb vp).toArray[10]? =some vp:=by simp [dW,h8]
theorem nL {g:RegS} {vb vp v:Value} (h8:g.used.length=8):(dW g vb vp).toArray.setIfInBounds 10 v=(dW g vb v).toArray:=by
 rw [List.setIfInBounds_toArray]
 congr 1
 unfold dW
 rw [List.set_append_right _ _ (by simp [h8])]
 simp [h8]
theorem wm {B R:Nat} {a:RegA} {g:RegS} {vb vp:Value} {w:World} (h:bW B R vb a g vp w)(ho:dc a):Calls Tryz.prog 27 #[.pointer (some ⟨R,0,none⟩)] w fun e w'=> ∃ R' g' vp',e=.returned (.pointer (some ⟨R',0,none⟩))∧bW w.heap.size R' vb a g' vp' w'∧Below w.heap.size w w':=by
 have hok:=h.ok ho.toji
 have hqn:g.qs.length≤100:=by have:=h.len;have:=ho.np;omega
 have CV:=aa (dm h.ra hok.pt.1)
 have CK:=aa (fun W (hW:Below w.heap.size w W)=> qO (aD h.ra.row hW) (by omega) h.one)
 have HRL:=aa (ak h.ra.reg)
 have HLD:Hid (w.rangeAt R 0 (dW g vb vp)):=fun j v hv=> ah h.ra.reg (by rw [Nat.zero_add,List.getElem?_toArray];exact hv)
 have HU8:=aa h.ra.u8
 have HRCL:Hid ((dW g vb vp).length=11):=by unfold Hid dW;simp [h.ra.u8]
 have HONE:Hid ((dW g vb vp).toArray.all (·.oneCell')=true):=all_oneCell_toArray fun u hu=> by
  obtain⟨ab,cb,rfl,-⟩:=h.ra.bk
  obtain⟨pa,cp,rfl⟩:=h.ra.vpS
  unfold dW at hu
  simp only [List.cons_append,List.nil_append,List.mem_cons,List.mem_append,List.mem_map,List.not_mem_nil,or_false] at hu
  rcases hu with rfl | rfl | ⟨n,-,rfl⟩ | rfl <;> rfl
 have HRCS:Hid ((dW g vb vp).toArray.size=11):=List.size_toArray.trans HRCL.out
 obtain⟨pa,cp,rfl⟩:=h.ra.vpS
 have H:=aa h
 have HO:=aa ho
 clear h ho hok
 go_enter Tryz.func27,Tryz.ntmps27
 go_upto_region 4 with(first | (go_at_call 56;refine CV.out.mono ?_;rintro e w1 ⟨rfl,hbn⟩;have HB1:=aa hbn;have cR:=ar HRL.out hbn.size;have HLD1:=aa (fun j v hv=> ag (HLD.out j v hv) hbn);clear hbn) | (refine wpList_load_mid rfl 121 (.tmp 10) rfl R 0 rfl (dW g vb (.slice pa g.qs.length cp)) _ HLD1.out Tryz.underlying121 rfl (by rw [HRCL.out];kernel_rfl) ?_) | (refine wpList_store_mid rfl 121 (.tmp 3) (.tmp 11) rfl w1.heap.size 0 (dW g vb (.slice pa g.qs.length cp)).toArray rfl rfl (by rw [HRCS.out];exact gC rfl) (by rw [HRCS.out];kernel_rfl) HONE.out ?_))
 have HR1:Hid (((w1.alloc (.cells #[.int .u64 0,.slice none 0 0,.int .i64 0,.int .i64 0,.int .i64 0,.int .i64 0,.int .i64 0,.int .i64 0,.int .i64 0,.int .i64 0,.slice none 0 0] 121)).setCells w1.heap.size 0 (dW g vb (.slice pa g.qs.length cp))).heap[w1.heap.size]? =some (.cells (dW g vb (.slice pa g.qs.length cp)).toArray 121 (0,0))):=kn (au w1 _) (by rw [HRCL.out];rfl)
 have HB2:Hid (Below w.heap.size w ((w1.alloc (.cells #[.int .u64 0,.slice none 0 0,.int .i64 0,.int .i64 0,.int .i64 0,.int .i64 0,.int .i64 0,.int .i64 0,.int .i64 0,.int .i64 0,.slice none 0 0] 121)).setCells w1.heap.size 0 (dW g vb (.slice pa g.qs.length cp)))):=fJ _ _ (aK HB1.out _) HB1.out.size
 generalize(w1.alloc (.cells #[.int .u64 0,.slice none 0 0,.int .i64 0,.int .i64 0,.int .i64 0,.int .i64 0,.int .i64 0,.int .i64 0,.int .i64 0,.int .i64 0,.slice none 0 0] 121)).setCells w1.heap.size 0 (dW g vb (.slice pa g.qs.length cp))=W2 at*
 have HN1:=aa HB1.out.size
 have HR9:=aa (ak HR1.out)
 generalize w1.heap.size=R1 at*
 have c10:=ag H.out.ra.cells.2.2.1 HB2.out
 have cR2:=ar HRL.out HB2.out.size
 clear cR HLD1 HB1
 go_upto_region 5 with(go_at_call 70;refine(CK.out _ HB2.out).mono ?_;rintro e w2 ⟨v2,rfl,hO2,hbn⟩;obtain⟨a2,c2,e2⟩:=aP hO2;subst e2;have HO2:=aa hO2;have HX2:=aa hbn;have HR2:=aa (an HR1.out hbn);have d10:=ah (o:=10) HR2.out (kM HU8.out);have f10:=aR (o:=10) HR2.out;have lR2:=ak HR2.out;clear hO2 hbn)
 have HP0:Hid (∃ g1,wt R1 R1 0 g g1 vb (.slice a2 g.qs.length c2) w (w2.setCell ⟨R1,10,none⟩ (.slice a2 g.qs.length c2))):=⟨g,(ai HB2.out HX2.out).setCell (by show w.heap.size≤R1;exact HN1.out) _,⟨HN1.out,bz _⟩,by rw [← nL HU8.out];exact bn HR2.out,⟨rfl,rfl,rfl,rfl⟩,dE (dG HO2.out HR2.out (by decide)) (Nat.le_of_lt HR9.out),fun j q0 hj=> ⟨q0,hj,rfl,rfl,rfl,rfl,fun _=> rfl,fun c=> by omega⟩,fun j k p q _ c=> by omega⟩
 have HR3:Hid ((w2.setCell ⟨R1,10,none⟩ (.slice a2 g.qs.length c2)).heap[R1]? =some (.cells (dW g vb (.slice a2 g.qs.length c2)).toArray 121 (0,0))):=by unfold Hid;rw [← nL HU8.out];exact bn HR2.out
 generalize w2.setCell ⟨R1,10,none⟩ (.slice a2 g.qs.length c2)=W3 at*
 have e10:=ah (o:=10) HR3.out (kM HU8.out)
 have lR3:=ak HR3.out
 clear d10 f10 lR2 c10 cR2 HR2 HO2 HX2 HR1 HR9 CK CV
 go_wp2_with fail
 clear e10 lR3 HR3
 go_loopw [21] (fun ix wr=> ∃ i:Nat,i≤g.qs.length∧ix=.int .i64 i∧Hid (∃ g1,wt R1 R1 i g g1 vb (.slice a2 g.qs.length c2) w wr)) (fun ix _=> g.qs.length - (intOf ix).toNat)
 case atStart=> exact⟨0,by omega,rfl,HP0⟩
 case round=>
  obtain⟨i,hi,rfl,HP⟩:=hrel
  obtain⟨g1,hP⟩:=HP.out
  by_cases hc:i < g.qs.length
  ·have k1:(i:Int) < g.qs.length:=by omega
   have k0:(0:Int)≤i:=by omega
   obtain⟨q0,hq0⟩:∃ q0,g.qs[i]? =some q0:=⟨g.qs[i],bh hc⟩
   obtain⟨hC,h1⟩:=hP.open_ hq0
   have hl1:=hP.pt.2.2.2
   have e10:=ah (o:=10) hP.reg (kM (by rw [hP.pt.2.2.1];exact HU8.out))
   have lR3:=ak hP.reg
   obtain⟨PB,e2⟩:∃ PB,a2=some ⟨PB,0,none⟩:=by
    rcases hP.row.2 with⟨e1,-⟩ | ⟨g9,cap,cur,q1,-⟩
    ·injection e1 with _ e1 _;omega
    ·injection q1 with q1 _ _;exact⟨g9,q1⟩
   subst e2
   have HI:Hid (i < g1.qs.length):=by show i < g1.qs.length;omega
   have hq0m:=aJ hq0
   have CE:Hid (∀ W,Below w.heap.size w W→Calls Tryz.prog 58 #[q0.ve] W fun e w'=> ∃ v',e=.returned v'∧w'.ownsRow W.heap.size 31 10 v' q0.es.length (bK q0.es)∧Below W.heap.size W w'):=fun W hW=> lW (aD (H.out.ra.es q0 hq0m) hW) (by have:=(HO.out.p (q0.nm,q0.es) (aJ (H.out.put hq0))).1;dsimp only at this;omega)
   have hbl:=HO.out.toji.life (aJ (H.out.put hq0))
   have hlf:q0.life=lf (q0.nm,q0.es):=(H.out.lf q0 hq0m).1
   have CM:Hid (∀ W,Below w.heap.size w W→Calls Tryz.prog 71 #[q0.vm] W fun e w'=> ∃ v',e=.returned v'∧w'.ownsRow W.heap.size 9 1 v' q0.life.ms.length (q0.life.ms.map Value.string)∧Below W.heap.size W w'):=fun W hW=> clone_any ((H.out.ra.ms q0 hq0m).1.step hW) (by rw [hlf];have:=hbl.2.1;omega)
   have COs:Hid (∀ W,Below w.heap.size w W→Calls Tryz.prog 71 #[q0.vo] W fun e w'=> ∃ v',e=.returned v'∧w'.ownsRow W.heap.size 9 1 v' q0.life.os.length (q0.life.os.map Value.string)∧Below W.heap.size W w'):=fun W hW=> clone_any ((H.out.ra.ms q0 hq0m).2.1.step hW) (by rw [hlf];have:=hbl.2.2;omega)
   have HQ0:=aa hq0
   have H1:=aa h1
   have HC:=aa hC
   have HPP:=aa hP
   clear hq0 hq0m hbl hlf h1 hC hP hc hl1
   go_upto_region 9 with fail
   clear e10 lR3
   refine bo 31 32 57 [(6,34),(7,35),(12,40),(13,41),(18,46),(19,47),(22,63),(26,64),(30,65)] [(none,[]),(none,[]),(none,[]),(none,[]),(none,[]),(none,[]),(some 0,[]),(some 1,[0]),(none,[]),(none,[]),(none,[]),(none,[]),(some 2,[]),(some 3,[2]),(none,[]),(none,[]),(none,[]),(none,[]),(some 4,[]),(some 5,[4]),(none,[]),(none,[]),(some 6,[1]),(none,[]),(none,[]),(none,[]),(some 7,[3]),(none,[]),(none,[]),(none,[]),(some 8,[5])] [(28,(.pointer (some ⟨PB,i*20,none⟩))),(29,(.pointer (some ⟨PB,i*20,none⟩))),(30,(.pointer (some ⟨PB,i*20,none⟩))),(31,(.pointer (some ⟨PB,i*20,none⟩))),(32,(.pointer (some ⟨PB,i*20,none⟩))),(33,(.pointer (some ⟨PB,i*20+19,none⟩))),(36,(.pointer (some ⟨PB,i*20,none⟩))),(37,(.pointer (some ⟨PB,i*20,none⟩))),(38,(.pointer (some ⟨PB,i*20,none⟩))),(39,(.pointer (some ⟨PB,i*20+9,none⟩))),(42,(.pointer (some ⟨PB,i*20,none⟩))),(43,(.pointer (some ⟨PB,i*20,none⟩))),(44,(.pointer (some ⟨PB,i*20,none⟩))),(45,(.pointer (some ⟨PB,i*20+10,none⟩))),(48,(.pointer (some ⟨PB,i*20,none⟩))),(49,(.pointer (some ⟨PB,i*20+19,none⟩))),(50,(.pointer (some ⟨PB,i*20,none⟩))),(51,(.pointer (some ⟨PB,i*20,none⟩))),(52,(.pointer (some ⟨PB,i*20+9,none⟩))),(53,(.pointer (some ⟨PB,i*20,none⟩))),(54,(.pointer (some ⟨PB,i*20,none⟩))),(55,(.pointer (some ⟨PB,i*20+10,none⟩)))] (fun bsE vsE W=> fR (jF R1 R1 i g1 vb (.slice (some ⟨PB,0,none⟩) g.qs.length c2) w) wr.heap.size q0 (bsE.getD 0 false) (bsE.getD 1 false) (bsE.getD 2 false) (bsE.getD 3 false) (bsE.getD 4 false) (bsE.getD 5 false) (bsE.getD 6 false) (bsE.getD 7 false) (bsE.getD 8 false) ((vsE.getD 0 undef)) ((vsE.getD 1 undef)) ((vsE.getD 2 undef)) ((vsE.getD 3 undef)) ((vsE.getD 4 undef)) ((vsE.getD 5 undef)) W) (by kernel_rfl) (by kernel_rfl) rfl rfl (by kernel_rfl) (by rfl) ?h0 ?each ?done
   case h0=>
    intro vsE hlv
    obtain⟨v0,v1,v2,v3,v4,v5,v6,v7,v8,rfl⟩:=mF hlv
    exact⟨HC.out.step (Below.refl _ _).drew,(fun e=> by cases e),(fun e=> by cases e),(fun e=> by cases e),(fun e=> by cases e),(fun e=> by cases e),(fun e=> by cases e),(fun _=> rfl),(fun _=> rfl),(fun _=> rfl),(fun _=> rfl),(fun _=> rfl),(fun _=> rfl),bz _⟩
   case each=>
    simp only [dp]
    refine⟨⟨28,(.pointer (some ⟨PB,i*20,none⟩)),rfl,by kernel_rfl,?_⟩,⟨29,(.pointer (some ⟨PB,i*20,none⟩)),rfl,by kernel_rfl,?_⟩,⟨30,(.pointer (some ⟨PB,i*20,none⟩)),rfl,by kernel_rfl,?_⟩,⟨31,(.pointer (some ⟨PB,i*20,none⟩)),rfl,by kernel_rfl,?_⟩,⟨32,(.pointer (some ⟨PB,i*20,none⟩)),rfl,by kernel_rfl,?_⟩,⟨33,(.pointer (some ⟨PB,i*20+19,none⟩)),rfl,by kernel_rfl,?_⟩,ax ⟨34,rfl,?q1_6⟩,ax ⟨35,rfl,?q1_7⟩,⟨36,(.pointer (some ⟨PB,i*20,none⟩)),rfl,by kernel_rfl,?_⟩,⟨37,(.pointer (some ⟨PB,i*20,none⟩)),rfl,by kernel_rfl,?_⟩,⟨38,(.pointer (some ⟨PB,i*20,none⟩)),rfl,by kernel_rfl,?_⟩,⟨39,(.pointer (some ⟨PB,i*20+9,none⟩)),rfl,by kernel_rfl,?_⟩,ax ⟨40,rfl,?q1_12⟩,ax ⟨41,rfl,?q1_13⟩,⟨42,(.pointer (some ⟨PB,i*20,none⟩)),rfl,by kernel_rfl,?_⟩,⟨43,(.pointer (some ⟨PB,i*20,none⟩)),rfl,by kernel_rfl,?_⟩,⟨44,(.pointer (some ⟨PB,i*20,none⟩)),rfl,by kernel_rfl,?_⟩,⟨45,(.pointer (some ⟨PB,i*20+10,none⟩)),rfl,by kernel_rfl,?_⟩,ax ⟨46,rfl,?q1_18⟩,ax ⟨47,rfl,?q1_19⟩,⟨48,(.pointer (some ⟨PB,i*20,none⟩)),rfl,by kernel_rfl,?_⟩,⟨49,(.pointer (some ⟨PB,i*20+19,none⟩)),rfl,by kernel_rfl,?_⟩,ay ⟨rfl,?q1_22⟩,⟨50,(.pointer (some ⟨PB,i*20,none⟩)),rfl,by kernel_rfl,?_⟩,⟨51,(.pointer (some ⟨PB,i*20,none⟩)),rfl,by kernel_rfl,?_⟩,⟨52,(.pointer (some ⟨PB,i*20+9,none⟩)),rfl,by kernel_rfl,?_⟩,ay ⟨rfl,?q1_26⟩,⟨53,(.pointer (some ⟨PB,i*20,none⟩)),rfl,by kernel_rfl,?_⟩,⟨54,(.pointer (some ⟨PB,i*20,none⟩)),rfl,by kernel_rfl,?_⟩,⟨55,(.pointer (some ⟨PB,i*20+10,none⟩)),rfl,by kernel_rfl,?_⟩,ay ⟨rfl,?q1_30⟩,trivial⟩
    case q1_6=>
     intro bsE vsE W hlb hlv hnd hbk h
     obtain⟨b0,b1,b2,b3,b4,b5,b6,b7,b8,rfl⟩:=mF hlb
     obtain⟨v0,v1,v2,v3,v4,v5,v6,v7,v8,rfl⟩:=mF hlv
     obtain rfl:b0=false:=hbk
     replace h:fR (jF R1 R1 i g1 vb (.slice (some ⟨PB,0,none⟩) g.qs.length c2) w) wr.heap.size q0 false b1 b2 b3 b4 b5 b6 b7 b8 (v0) (v1) (v2) (v3) (v4) (v5) W:=h
     clear hnd
     have HST:=aa h
     obtain rfl:=h.m0 rfl;obtain rfl:=h.n0 rfl;have hat:=h.s.at_ HI.out (PB:=PB) rfl;have lB:=hat.1;have cc:W.cell? ⟨PB,i*20+19,none⟩=some q0.ve:=hat.2.2.1;clear hat
     intro K Q hK
     simp only [az,updAll,Act.put,aU,aV,aW,aX] at hK ⊢
     go_wp2_with fail
     all_goals(have hm:=h.ld0)
     all_goals(first | exact hK _ _ hm | exact hm)
    case q1_7=>
     intro bsE vsE W hlb hlv hnd hbk h
     obtain⟨b0,b1,b2,b3,b4,b5,b6,b7,b8,rfl⟩:=mF hlb
     obtain⟨v0,v1,v2,v3,v4,v5,v6,v7,v8,rfl⟩:=mF hlv
     obtain rfl:b0=true:=hnd 0 (by simp)
     obtain rfl:b1=false:=hbk
     replace h:fR (jF R1 R1 i g1 vb (.slice (some ⟨PB,0,none⟩) g.qs.length c2) w) wr.heap.size q0 true false b2 b3 b4 b5 b6 b7 b8 (v0) (v1) (v2) (v3) (v4) (v5) W:=h
     clear hnd
     have HST:=aa h
     obtain rfl:=h.e0 rfl;obtain rfl:=h.n0 rfl
     intro K Q hK
     simp only [az,updAll,Act.put,aU,aV,aW,aX] at hK ⊢
     go_wp2_with (go_at_call 58;refine(CE.out _ h.s.bel).mono ?_;rintro en w9 ⟨v9,rfl,ho9,hb9⟩)
     all_goals(have hm:=h.cl0 (fun _ _ _ h9 hb=> h9.step hb) hb9 ho9)
     all_goals(first | exact hK _ _ hm | exact hm)
    case q1_12=>
     intro bsE vsE W hlb hlv hnd hbk h
     obtain⟨b0,b1,b2,b3,b4,b5,b6,b7,b8,rfl⟩:=mF hlb
     obtain⟨v0,v1,v2,v3,v4,v5,v6,v7,v8,rfl⟩:=mF hlv
     obtain rfl:b2=false:=hbk
     replace h:fR (jF R1 R1 i g1 vb (.slice (some ⟨PB,0,none⟩) g.qs.length c2) w) wr.heap.size q0 b0 b1 false b3 b4 b5 b6 b7 b8 (v0) (v1) (v2) (v3) (v4) (v5) W:=h
     clear hnd
     have HST:=aa h
     obtain rfl:=h.m1 rfl;obtain rfl:=h.n1 rfl;have hat:=h.s.at_ HI.out (PB:=PB) rfl;have lB:=hat.1;have cc:W.cell? ⟨PB,i*20+9,none⟩=some q0.vm:=hat.2.2.2.1;clear hat
     intro K Q hK
     simp only [az,updAll,Act.put,aU,aV,aW,aX] at hK ⊢
     go_wp2_with fail
     all_goals(have hm:=h.ld1)
     all_goals(first | exact hK _ _ hm | exact hm)
    case q1_13=>
     intro bsE vsE W hlb hlv hnd hbk h
     obtain⟨b0,b1,b2,b3,b4,b5,b6,b7,b8,rfl⟩:=mF hlb
     obtain⟨v0,v1,v2,v3,v4,v5,v6,v7,v8,rfl⟩:=mF hlv
     obtain rfl:b2=true:=hnd 2 (by simp)
     obtain rfl:b3=false:=hbk
     replace h:fR (jF R1 R1 i g1 vb (.slice (some ⟨PB,0,none⟩) g.qs.length c2) w) wr.heap.size q0 b0 b1 true false b4 b5 b6 b7 b8 (v0) (v1) (v2) (v3) (v4) (v5) W:=h
     clear hnd
     have HST:=aa h
     obtain rfl:=h.e1 rfl;obtain rfl:=h.n1 rfl
     intro K Q hK
     simp only [az,updAll,Act.put,aU,aV,aW,aX] at hK ⊢
     go_wp2_with (go_at_call 71;refine(CM.out _ h.s.bel).mono ?_;rintro en w9 ⟨v9,rfl,ho9,hb9⟩)
     all_goals(have hm:=h.cl1 (fun _ _ _ h9 hb=> h9.step hb) hb9 ho9)
     all_goals(first | exact hK _ _ hm | exact hm)
    case q1_18=>
     intro bsE vsE W hlb hlv hnd hbk h
     obtain⟨b0,b1,b2,b3,b4,b5,b6,b7,b8,rfl⟩:=mF hlb
     obtain⟨v0,v1,v2,v3,v4,v5,v6,v7,v8,rfl⟩:=mF hlv
     obtain rfl:b4=false:=hbk
     replace h:fR (jF R1 R1 i g1 vb (.slice (some ⟨PB,0,none⟩) g.qs.length c2) w) wr.heap.size q0 b0 b1 b2 b3 false b5 b6 b7 b8 (v0) (v1) (v2) (v3) (v4) (v5) W:=h
     clear hnd
     have HST:=aa h
     obtain rfl:=h.m2 rfl;obtain rfl:=h.n2 rfl;have hat:=h.s.at_ HI.out (PB:=PB) rfl;have lB:=hat.1;have cc:W.cell? ⟨PB,i*20+10,none⟩=some q0.vo:=hat.2.2.2.2;clear hat
     intro K Q hK
     simp only [az,updAll,Act.put,aU,aV,aW,aX] at hK ⊢
     go_wp2_with fail
     all_goals(have hm:=h.ld2)
     all_goals(first | exact hK _ _ hm | exact hm)
    case q1_19=>
     intro bsE vsE W hlb hlv hnd hbk h
     obtain⟨b0,b1,b2,b3,b4,b5,b6,b7,b8,rfl⟩:=mF hlb
     obtain⟨v0,v1,v2,v3,v4,v5,v6,v7,v8,rfl⟩:=mF hlv
     obtain rfl:b4=true:=hnd 4 (by simp)
     obtain rfl:b5=false:=hbk
     replace h:fR (jF R1 R1 i g1 vb (.slice (some ⟨PB,0,none⟩) g.qs.length c2) w) wr.heap.size q0 b0 b1 b2 b3 true false b6 b7 b8 (v0) (v1) (v2) (v3) (v4) (v5) W:=h
     clear hnd
     have HST:=aa h
     obtain rfl:=h.e2 rfl;obtain rfl:=h.n2 rfl
     intro K Q hK
     simp only [az,updAll,Act.put,aU,aV,aW,aX] at hK ⊢
     go_wp2_with (go_at_call 71;refine(COs.out _ h.s.bel).mono ?_;rintro en w9 ⟨v9,rfl,ho9,hb9⟩)
     all_goals(have hm:=h.cl2 (fun _ _ _ h9 hb=> h9.step hb) hb9 ho9)
     all_goals(first | exact hK _ _ hm | exact hm)
    case q1_22=>
     intro bsE vsE W hlb hlv hnd hbk h
     obtain⟨b0,b1,b2,b3,b4,b5,b6,b7,b8,rfl⟩:=mF hlb
     obtain⟨v0,v1,v2,v3,v4,v5,v6,v7,v8,rfl⟩:=mF hlv
     obtain rfl:b1=true:=hnd 1 (by simp)
     obtain rfl:b6=false:=hbk
     replace h:fR (jF R1 R1 i g1 vb (.slice (some ⟨PB,0,none⟩) g.qs.length c2) w) wr.heap.size q0 b0 true b2 b3 b4 b5 false b7 b8 (v0) (v1) (v2) (v3) (v4) (v5) W:=h
     clear hnd
     have HST:=aa h
     obtain⟨a9,c9,e9⟩:=aP (h.r0 rfl);subst e9;have hat:=h.s.at_ HI.out (PB:=PB) rfl;have lB:=hat.1;have cc:=hat.2.2.1;have ff:=hat.2.1 (i*20+19);have hm:=h.st0 HI.out (PB:=PB) rfl;clear hat
     intro K Q hK
     simp only [az,updAll,Act.put,aU,aV,aW,aX] at hK ⊢
     go_wp2_with fail
     all_goals(first | exact hK _ hm | exact hm)
    case q1_26=>
     intro bsE vsE W hlb hlv hnd hbk h
     obtain⟨b0,b1,b2,b3,b4,b5,b6,b7,b8,rfl⟩:=mF hlb
     obtain⟨v0,v1,v2,v3,v4,v5,v6,v7,v8,rfl⟩:=mF hlv
     obtain rfl:b3=true:=hnd 3 (by simp)
     obtain rfl:b7=false:=hbk
     replace h:fR (jF R1 R1 i g1 vb (.slice (some ⟨PB,0,none⟩) g.qs.length c2) w) wr.heap.size q0 b0 b1 b2 true b4 b5 b6 false b8 (v0) (v1) (v2) (v3) (v4) (v5) W:=h
     clear hnd
     have HST:=aa h
     obtain⟨a9,c9,e9⟩:=aP (h.r1 rfl);subst e9;have hat:=h.s.at_ HI.out (PB:=PB) rfl;have lB:=hat.1;have cc:=hat.2.2.2.1;have ff:=hat.2.1 (i*20+9);have hm:=h.st1 HI.out (PB:=PB) rfl;clear hat
     intro K Q hK
     simp only [az,updAll,Act.put,aU,aV,aW,aX] at hK ⊢
     go_wp2_with fail
     all_goals(first | exact hK _ hm | exact hm)
    case q1_30=>
     intro bsE vsE W hlb hlv hnd hbk h
     obtain⟨b0,b1,b2,b3,b4,b5,b6,b7,b8,rfl⟩:=mF hlb
     obtain⟨v0,v1,v2,v3,v4,v5,v6,v7,v8,rfl⟩:=mF hlv
     obtain rfl:b5=true:=hnd 5 (by simp)
     obtain rfl:b8=false:=hbk
     replace h:fR (jF R1 R1 i g1 vb (.slice (some ⟨PB,0,none⟩) g.qs.length c2) w) wr.heap.size q0 b0 b1 b2 b3 b4 true b6 b7 false (v0) (v1) (v2) (v3) (v4) (v5) W:=h
     clear hnd
     have HST:=aa h
     obtain⟨a9,c9,e9⟩:=aP (h.r2 rfl);subst e9;have hat:=h.s.at_ HI.out (PB:=PB) rfl;have lB:=hat.1;have cc:=hat.2.2.2.2;have ff:=hat.2.1 (i*20+10);have hm:=h.st2 HI.out (PB:=PB) rfl;clear hat
     intro K Q hK
     simp only [az,updAll,Act.put,aU,aV,aW,aX] at hK ⊢
     go_wp2_with fail
     all_goals(first | exact hK _ hm | exact hm)
    all_goals
     intro bsE vsE W hlb hlv hnd h
     obtain⟨b0,b1,b2,b3,b4,b5,b6,b7,b8,rfl⟩:=mF hlb
     obtain⟨v0,v1,v2,v3,v4,v5,v6,v7,v8,rfl⟩:=mF hlv
     replace h:fR (jF R1 R1 i g1 vb (.slice (some ⟨PB,0,none⟩) g.qs.length c2) w) wr.heap.size q0 b0 b1 b2 b3 b4 b5 b6 b7 b8 (v0) (v1) (v2) (v3) (v4) (v5) W:=h
     clear hnd
     have HST:=aa h
     skip
     intro K Q hK
     simp only [az,updAll,Act.put,aU,aV,aW,aX] at hK ⊢
     go_wp2_with (fail)
     all_goals(first | exact hK _ h | exact h)
   case done=>
    intro vsE W hlv h
    obtain⟨v0,v1,v2,v3,v4,v5,v6,v7,v8,rfl⟩:=mF hlv
    replace h:fR (jF R1 R1 i g1 vb (.slice (some ⟨PB,0,none⟩) g.qs.length c2) w) wr.heap.size q0 true true true true true true true true true (v0) (v1) (v2) (v3) (v4) (v5) W:=h
    have HST:=aa h
    have HS:=aa h
    clear h HST
    simp only [az,updAll,Act.put,aU,aV,aW,aX]
    have HP9:Hid (∃ g2,wt R1 R1 (i+1) g g2 vb (.slice (some ⟨PB,0,none⟩) g.qs.length c2) w W):=⟨_,HPP.out.close_ HQ0.out H1.out HS.out.s (bz _) (by have:=ak HPP.out.reg;omega) (HS.out.r0 rfl) (HS.out.r1 rfl) (HS.out.r2 rfl)⟩
    clear HS HPP HQ0 H1 HC CE CM COs HI HP
    go_wp2_with fail
    exact⟨⟨i+1,by omega,by push_cast;rfl,HP9⟩,by simp [intOf];omega⟩
  ·obtain rfl:i=g.qs.length:=by omega
   clear hc
   go_wp2_with fail
   exact bc (v:=.pointer (some ⟨R1,0,none⟩)) (by simp only [results,Tryz.results27];go_simp) rfl ⟨R1,g1,_,rfl,hP.fin H.out HO.out,hP.bel⟩
end
end Go.Proofs.YtmpilgkfbibhlaaGreatDoor
