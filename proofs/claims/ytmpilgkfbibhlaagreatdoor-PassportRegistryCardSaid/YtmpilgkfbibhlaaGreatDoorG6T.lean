/-
 G6T
-/
import Derived.Test.YtmpilgkfbibhlaaGreatDoorG5T
import Derived.Lib.AppendIntMem
import Derived.ProofKit
import Derived.OpenShut
import Derived.Deep.Slices
set_option linter.unusedSimpArgs false
set_option linter.unusedVariables false
set_option maxRecDepth 100000
set_option maxHeartbeats 20000000
namespace Go.Proofs.YtmpilgkfbibhlaaGreatDoor
section
open Sx Go.RowKit
theorem dV {w w':World} (h:dn w)(hb:Below w.heap.size w w'):dn w':=
 ⟨h.1.kept fun g hg=> hb.block g (h.2 g hg).2,fun g hg=> ⟨by have:=(h.2 g hg).2;have:=hb.size;omega,ar (h.2 g hg).2 hb.size⟩⟩
def modB(s:ByteArray):Bool:=(cE s).2.2 && (match nU (cE s).2.1 with
 | some v=> decide (0≤v∧v < 32) && (Lib.itoa v==(cE s).2.1.toList) && nameB (cE s).1
 | none=> false)
theorem ut(n:Int)(h0:-9223372036854775808≤n)(h1:n≤9223372036854775807)(w:World)(hG:ir w):
  Calls Tryz.prog 106 #[.int .i64 n] w fun e w'=> e=.returned (.string ⟨(Lib.itoa n).toArray⟩)∧Below w.heap.size w w':=by
 refine(Any.strconv_Itoa ub n h0 h1 w hG.tab).mono fun e w'=> ?_
 rintro⟨rfl,k,os,rfl⟩
 exact⟨rfl,Lib.below_grow _ _ (bz _) _ _⟩
theorem sa(s:ByteArray):(cE s).1.size≤s.size∧(cE s).2.1.size≤s.size:=by
 unfold cE
 split
 ·simp only [ByteArray.size_extract]
  omega
 ·exact⟨bz _,Nat.zero_le _⟩
theorem yA(w:World)(n:Nat):Below w.heap.size w (w.drewN n):=by
 repeat' (first | exact Below.refl _ _ | apply aI)
theorem ef(s:ByteArray)(w:World)(hs:s.size≤1000000)(hG:dn w):Calls Tryz.prog 67 #[.string s] w fun e w'=> e=.returned (.tuple #[.string (cE s).1,.bool (modB s)])∧Below w.heap.size w w':=by
 have CC:Hid (∀ W,Calls Tryz.prog 119 #[.string s,.string ⟨#[58]⟩] W fun e w'=> e=.returned (.tuple #[.string (cE s).1,.string (cE s).2.1,.bool (cE s).2.2])∧Below W.heap.size W w'):=fun W=> (wL s W hs).mono fun e w' h=> ⟨h.1,by obtain⟨n,rfl⟩:=h.2;exact yA W n⟩
 have hz:=sa s
 have CA:=aa (fun W hG=> uq (cE s).2.1 W (by omega) hG)
 have CN:=aa (fun W=> eR (cE s).1 W (by omega))
 have HG:=aa hG
 unfold modB
 clear hG hz hs
 generalize(cE s).1=x1 at*
 generalize(cE s).2.1=x2 at*
 generalize hx3:(cE s).2.2=x3 at*
 clear hx3
 cases x3 with
 | false=>
  simp only [Bool.false_and]
  go_enter Tryz.func67,Tryz.ntmps67
  go_wp2_with (first
   | (go_at_call 119;refine(CC.out _).mono ?_;rintro e w1 ⟨rfl,hb1⟩)
   | (go_at_call 120;refine(CA.out _ (dV HG.out hb1).1).mono ?_;rintro e w2 ⟨⟨v,x,rfl,hx⟩,hb2⟩;have K2:=ai hb1 hb2))
  exact bc (v:=.tuple #[.string x1,.bool false]) (by simp only [results,Tryz.results67];go_simp) rfl ⟨rfl,K2⟩
 | true=>
  cases hn:nU x2 with
  | none=>
   have CA2:Hid (∀ W,ir W→Calls Tryz.prog 120 #[.string x2] W fun e w'=> (∃ v t p,e=.returned (.tuple #[.int .i64 v,.iface t p]))∧Below W.heap.size W w'):=fun W h=> (CA.out W h).mono fun e w' h=> by
    obtain⟨⟨v,x,rfl,hx⟩,hb⟩:=h
    rcases hx with⟨h1,h2⟩ | ⟨_,t,p,rfl⟩
    ·rw [hn] at h1;cases h1
    ·exact⟨⟨v,t,p,rfl⟩,hb⟩
   clear CA hn
   go_enter Tryz.func67,Tryz.ntmps67
   go_wp2_with (first
    | (go_at_call 119;refine(CC.out _).mono ?_;rintro e w1 ⟨rfl,hb1⟩)
    | (go_at_call 120;refine(CA2.out _ (dV HG.out hb1).1).mono ?_;rintro e w2 ⟨⟨v,t,p,rfl⟩,hb2⟩;have K2:=ai hb1 hb2))
   exact bc (v:=.tuple #[.string x1,.bool false]) (by simp only [results,Tryz.results67];go_simp) rfl ⟨rfl,K2⟩
  | some v=>
   have CA2:Hid (∀ W,ir W→Calls Tryz.prog 120 #[.string x2] W fun e w'=> e=.returned (.tuple #[.int .i64 v,.nilIface])∧Below W.heap.size W w'):=fun W h=> (CA.out W h).mono fun e w' h=> by
    obtain⟨⟨v2,x,rfl,hx⟩,hb⟩:=h
    rcases hx with⟨h1,rfl⟩ | ⟨h1,_⟩
    ·rw [hn] at h1;obtain rfl:=bD h1;exact⟨rfl,hb⟩
    ·rw [hn] at h1;cases h1
   clear CA hn
   dsimp only
   by_cases hv:0≤v∧v < 32
   ·rw [bF hv]
    have CI:=aa (fun W hG=> ut v (by omega) (by omega) W hG)
    obtain⟨hv1,hv2⟩:=hv
    generalize Lib.itoa v=it at*
    cases hi:(it==x2.toList)with
    | true=>
     simp only [Bool.true_and]
     go_enter Tryz.func67,Tryz.ntmps67
     go_wp2_with (first
      | (go_at_call 119;refine(CC.out _).mono ?_;rintro e w1 ⟨rfl,hb1⟩)
      | (go_at_call 120;refine(CA2.out _ (dV HG.out hb1).1).mono ?_;rintro e w2 ⟨rfl,hb2⟩;have K2:=ai hb1 hb2)
      | (go_at_call 106;refine(CI.out _ (dV HG.out K2).1).mono ?_;rintro e w3 ⟨rfl,hb3⟩;have K3:=ai K2 hb3)
      | (go_at_call 39;refine(CN.out _).mono ?_;rintro e w4 ⟨rfl,hb4⟩;have K4:=ai K3 hb4))
     exact bc (v:=.tuple #[.string x1,.bool (nameB x1)]) (by simp only [results,Tryz.results67];go_simp) rfl ⟨rfl,K4⟩
    | false=>
     simp only [Bool.true_and,Bool.false_and]
     go_enter Tryz.func67,Tryz.ntmps67
     go_wp2_with (first
      | (go_at_call 119;refine(CC.out _).mono ?_;rintro e w1 ⟨rfl,hb1⟩)
      | (go_at_call 120;refine(CA2.out _ (dV HG.out hb1).1).mono ?_;rintro e w2 ⟨rfl,hb2⟩;have K2:=ai hb1 hb2)
      | (go_at_call 106;refine(CI.out _ (dV HG.out K2).1).mono ?_;rintro e w3 ⟨rfl,hb3⟩;have K3:=ai K2 hb3))
     exact bc (v:=.tuple #[.string x1,.bool false]) (by simp only [results,Tryz.results67];go_simp) rfl ⟨rfl,K3⟩
   ·rw [bv hv]
    simp only [Bool.true_and,Bool.false_and]
    have hv2:v < 0∨(0≤v∧32≤v):=by omega
    clear hv
    rcases hv2 with h | ⟨h,h2⟩
    all_goals
     go_enter Tryz.func67,Tryz.ntmps67
     go_wp2_with (first
      | (go_at_call 119;refine(CC.out _).mono ?_;rintro e w1 ⟨rfl,hb1⟩)
      | (go_at_call 120;refine(CA2.out _ (dV HG.out hb1).1).mono ?_;rintro e w2 ⟨rfl,hb2⟩;have K2:=ai hb1 hb2))
     exact bc (v:=.tuple #[.string x1,.bool false]) (by simp only [results,Tryz.results67];go_simp) rfl ⟨rfl,K2⟩
theorem pH(s:ByteArray)(w:World)(hs:s.size≤1000000)(hG:dn w):Calls Tryz.prog 126 #[.string s] w fun e w'=> e=.returned (.bool (modB s))∧Below w.heap.size w w':=by
 have C:=aa (ef s w hs hG)
 generalize modB s=R at*
 go_enter Tryz.func126,Tryz.ntmps126
 go_wp2_with (go_at_call 67;refine(C.out).mono ?_;rintro e w1 ⟨rfl,hb1⟩)
 go_ret
 exact⟨rfl,hb1⟩
theorem empty_any(s:ByteArray)(w:World):Calls Tryz.prog 91 #[.string s] w fun e w'=> e=.returned (.bool (s.toList==[]))∧Below w.heap.size w w':=by
 go_enter Tryz.func91,Tryz.ntmps91
 go_wp2
 go_ret
 exact⟨by first | rfl | (simp;done),Below.refl _ _⟩
end
section
open Go.Shelf
def lays156_ren:Go.Shelf.Ren:=⟨fun | 156=> 89 | 165=> 128 | 166=> 129 | 169=> 130 | 240=> 154 | 241=> 155 | 276=> 170 | 277=> 171 | n=> n,fun | 31=> 47 | 9=> 9 | 3=> 3 | 4=> 4 | 0=> 0 | 20=> 20 | 72=> 200 | 76=> 186 | 70=> 198 | 37=> 88 | 75=> 185 | 127=> 225 | 164=> 242 | 5=> 5 | 80=> 202 | n=> n,fun | n=> n⟩
theorem wM:Go.Proofs.Lays.n156 Tryz.prog lays156_ren:={
 mixed:=by kernel_rfl
 f156:=Tryz.func89.trans (congrArg some (by kernel_rfl))
 f165:=Tryz.func128.trans (congrArg some (by kernel_rfl))
 f166:=Tryz.func129.trans (congrArg some (by kernel_rfl))
 f169:=Tryz.func130.trans (congrArg some (by kernel_rfl))
 f240:=Tryz.func154.trans (congrArg some (by kernel_rfl))
 f241:=Tryz.func155.trans (congrArg some (by kernel_rfl))
 f276:=Tryz.func170.trans (congrArg some (by kernel_rfl))
 f277:=Tryz.func171.trans (congrArg some (by kernel_rfl))
 t0:=Tryz.underlying0
 a0:=Tryz.isAgg0
 z0:=Tryz.sizeOf0
 v0:=Tryz.zeroValue0
 t3:=Tryz.underlying3
 a3:=Tryz.isAgg3
 z3:=Tryz.sizeOf3
 v3:=Tryz.zeroValue3
 t4:=Tryz.underlying4
 a4:=Tryz.isAgg4
 z4:=Tryz.sizeOf4
 v4:=Tryz.zeroValue4
 t9:=Tryz.underlying9
 a9:=Tryz.isAgg9
 z9:=Tryz.sizeOf9
 v9:=Tryz.zeroValue9
 t20:=Tryz.underlying20
 a20:=Tryz.isAgg20
 z20:=Tryz.sizeOf20
 v20:=Tryz.zeroValue20
 t31:=Tryz.underlying47
 a31:=Tryz.isAgg47
 z31:=Tryz.sizeOf47
 v31:=Tryz.zeroValue47
 t37:=Tryz.underlying88
 a37:=Tryz.isAgg88
 z37:=Tryz.sizeOf88
 v37:=Tryz.zeroValue88
 t70:=Tryz.underlying198
 a70:=Tryz.isAgg198
 z70:=Tryz.sizeOf198
 v70:=Tryz.zeroValue198
 t72:=Tryz.underlying200
 a72:=Tryz.isAgg200
 z72:=Tryz.sizeOf200
 v72:=Tryz.zeroValue200
 t75:=Tryz.underlying185
 a75:=Tryz.isAgg185
 z75:=Tryz.sizeOf185
 v75:=Tryz.zeroValue185
 t76:=Tryz.underlying186
 a76:=Tryz.isAgg186
 z76:=Tryz.sizeOf186
 v76:=Tryz.zeroValue186
 t127:=Tryz.underlying225
 a127:=Tryz.isAgg225
 z127:=Tryz.sizeOf225
 v127:=Tryz.zeroValue225
 t164:=Tryz.underlying242
 a164:=Tryz.isAgg242
 z164:=Tryz.sizeOf242
 v164:=Tryz.zeroValue242 }
theorem Builder_Extra_156:Builder.Extra Tryz.prog lays156_ren:={
 sizeBuilder:=by kernel_rfl
 liesBuilder:=by kernel_rfl
 t5:=Tryz.underlying5
 a5:=Tryz.isAgg5
 z5:=Tryz.sizeOf5
 v5:=Tryz.zeroValue5
 infoByte:=by kernel_rfl
 cellsByte:=by kernel_rfl
 sizeByte:=by kernel_rfl
 neB5:=by decide }
def laysM173_ren:Go.Shelf.Ren:=⟨fun | 173=> 88 | 246=> 127 | 283=> 150 | 284=> 151 | 285=> 152 | 286=> 153 | 129=> 166 | 317=> 165 | 318=> 167 | 319=> 168 | 320=> 169 | 337=> 182 | 338=> 183 | n=> n,fun | 2=> 2 | 3=> 3 | 9=> 9 | 4=> 4 | 171=> 220 | 0=> 0 | 53=> 22 | 37=> 88 | 5=> 5 | 173=> 223 | 212=> 238 | 51=> 239 | 20=> 20 | 213=> 240 | 46=> 167 | 232=> 260 | 233=> 261 | n=> n,fun | 17=> 0 | 18=> 5 | 19=> 6 | n=> n⟩
theorem uu:Go.Proofs.LaysM.n173 Tryz.prog laysM173_ren:={
 mixed:=by kernel_rfl
 f129:=Tryz.func166.trans (congrArg some (by kernel_rfl))
 f173:=Tryz.func88.trans (congrArg some (by kernel_rfl))
 f246:=Tryz.func127.trans (congrArg some (by kernel_rfl))
 f283:=Tryz.func150.trans (congrArg some (by kernel_rfl))
 f284:=Tryz.func151.trans (congrArg some (by kernel_rfl))
 f285:=Tryz.func152.trans (congrArg some (by kernel_rfl))
 f286:=Tryz.func153.trans (congrArg some (by kernel_rfl))
 f317:=Tryz.func165.trans (congrArg some (by kernel_rfl))
 f318:=Tryz.func167.trans (congrArg some (by kernel_rfl))
 f319:=Tryz.func168.trans (congrArg some (by kernel_rfl))
 f320:=Tryz.func169.trans (congrArg some (by kernel_rfl))
 f337:=Tryz.func182.trans (congrArg some (by kernel_rfl))
 f338:=Tryz.func183.trans (congrArg some (by kernel_rfl))
 t0:=Tryz.underlying0
 a0:=Tryz.isAgg0
 z0:=Tryz.sizeOf0
 v0:=Tryz.zeroValue0
 t2:=Tryz.underlying2
 a2:=Tryz.isAgg2
 z2:=Tryz.sizeOf2
 v2:=Tryz.zeroValue2
 t3:=Tryz.underlying3
 a3:=Tryz.isAgg3
 z3:=Tryz.sizeOf3
 v3:=Tryz.zeroValue3
 t4:=Tryz.underlying4
 a4:=Tryz.isAgg4
 z4:=Tryz.sizeOf4
 v4:=Tryz.zeroValue4
 t5:=Tryz.underlying5
 a5:=Tryz.isAgg5
 z5:=Tryz.sizeOf5
 v5:=Tryz.zeroValue5
 t9:=Tryz.underlying9
 a9:=Tryz.isAgg9
 z9:=Tryz.sizeOf9
 v9:=Tryz.zeroValue9
 t20:=Tryz.underlying20
 a20:=Tryz.isAgg20
 z20:=Tryz.sizeOf20
 v20:=Tryz.zeroValue20
 t37:=Tryz.underlying88
 a37:=Tryz.isAgg88
 z37:=Tryz.sizeOf88
 v37:=Tryz.zeroValue88
 t46:=Tryz.underlying167
 a46:=Tryz.isAgg167
 z46:=Tryz.sizeOf167
 v46:=Tryz.zeroValue167
 t51:=Tryz.underlying239
 a51:=Tryz.isAgg239
 z51:=Tryz.sizeOf239
 v51:=Tryz.zeroValue239
 t53:=Tryz.underlying22
 a53:=Tryz.isAgg22
 z53:=Tryz.sizeOf22
 v53:=Tryz.zeroValue22
 t171:=Tryz.underlying220
 a171:=Tryz.isAgg220
 z171:=Tryz.sizeOf220
 v171:=Tryz.zeroValue220
 t173:=Tryz.underlying223
 a173:=Tryz.isAgg223
 z173:=Tryz.sizeOf223
 v173:=Tryz.zeroValue223
 t212:=Tryz.underlying238
 a212:=Tryz.isAgg238
 z212:=Tryz.sizeOf238
 v212:=Tryz.zeroValue238
 t213:=Tryz.underlying240
 a213:=Tryz.isAgg240
 z213:=Tryz.sizeOf240
 t232:=Tryz.underlying260
 a232:=Tryz.isAgg260
 z232:=Tryz.sizeOf260
 v232:=Tryz.zeroValue260
 t233:=Tryz.underlying261
 a233:=Tryz.isAgg261
 z233:=Tryz.sizeOf261
 v233:=Tryz.zeroValue261
 g17:=by kernel_rfl
 g18:=by kernel_rfl
 g19:=by kernel_rfl
 i0:=by kernel_rfl
 i2:=by kernel_rfl
 i3:=by kernel_rfl
 i4:=by kernel_rfl
 i5:=by kernel_rfl
 i9:=by kernel_rfl
 i20:=by kernel_rfl
 i37:=by kernel_rfl
 i46:=by kernel_rfl
 i51:=by kernel_rfl
 i53:=by kernel_rfl
 i171:=by kernel_rfl
 i173:=by kernel_rfl
 i212:=by kernel_rfl
 i232:=by kernel_rfl
 i233:=by kernel_rfl
 m17:=by kernel_rfl
 m18:=by kernel_rfl
 m19:=by kernel_rfl }
end
section
open Sx Go.RowKit
theorem wO(n:Int)(h0:-9223372036854775808≤n)(h1:n≤9223372036854775807)(w:World)(hG:ir w):
  Calls Tryz.prog 88 #[.int .i64 n,.int .i64 10] w fun e w'=> e=.returned (.string ⟨(Lib.itoa n).toArray⟩)∧Below w.heap.size w w':=by
 refine(Any.strconv_FormatInt_10 uu n h0 h1 w hG.tab).mono fun e w'=> ?_
 rintro⟨rfl,k,os,rfl⟩
 exact⟨rfl,Lib.below_grow _ _ (bz _) _ _⟩
theorem uv(bk o c:Nat)(xs:List ByteArray)(sep:ByteArray)(w:World)(hcells:∀ (j:Nat) x,xs[j]? =some x→w.cell? ⟨bk,o+j,none⟩=some (.string x))(hbk:bk < w.heap.size)(hN:xs.length≤140737488355328)(hcap:xs.length≤c)(hlen:(Lib.join (xs.map (·.data.toList)) sep.data.toList).length≤140737488355328):
  Calls Tryz.prog 89 #[.slice (some ⟨bk,o,none⟩) xs.length c,.string sep] w fun e w'=> e=.returned (.string ⟨(Lib.join (xs.map (·.data.toList)) sep.data.toList).toArray⟩)∧Below w.heap.size w w':=
 Any.strings_Join wM Builder_Extra_156 bk o c xs sep w hcells hbk hN hcap hlen
end
section
open Go.RowKit
theorem ew.at_ {a:Option Addr} {m:List Nat} {W:World} (h:ew a m W):jp a m W.heap.size W.heap.size W:=fun hn=> by
 obtain⟨b,off,rfl,h1,h2⟩:=h hn
 exact⟨b,off,rfl,⟨h1,by omega⟩,h2⟩
theorem ig(p b x bf off cap:Nat)(a:Option Addr)(m:List Nat)(w:World)(hp0:0 < p)(hp:p < 2147483648)(hx:x < 2147483648)(hb1:1≤b)(hb3:b≤3)(hB:mG m)(hlen:m.length≤2000)
  (hbf:bf < w.heap.size) (hP:w.cell? ⟨bf,off,none⟩=some (.int .u64 p)) (hQ:w.cell? ⟨bf,off+1,none⟩=some (.int .i64 b)) (hA:ew a m w):
  Calls Tryz.prog 41 #[.pointer (some ⟨bf,off,none⟩),.int .u64 x,.slice a m.length cap] w fun e w'=> e=.returned (.int .u64 (dig p b x m))∧Below w.heap.size w w':=
 callsIn_wide.1 (rY p b x bf off cap a m w hp0 hp hx hb1 hb3 hB hlen hbf hP hQ hA.at_)
theorem pI(n:Int)(x c:Nat)(a:Option Addr)(m:List Nat)(w:World)(hx:x < 18446744073709551616)(hB:mG m)(hlen:m.length≤2000)(hA:ew a m w):
  Calls Tryz.prog 36 #[.int .i64 n,.int .u64 x,.slice a m.length c] w fun e w'=> e=.returned (.tuple #[.int .u64 (ge n x m).1,.int .i64 (ge n x m).2])∧Below w.heap.size w w':=by
 unfold ge
 rcases jR n with⟨hn,hf⟩ | ⟨i,hi,rfl,hf⟩
 ·rw [hf]
  have C:=aa (fun w=> nT n hn w)
  clear hn hf
  go_enter Tryz.func36,Tryz.ntmps36
  go_wp2_with (go_at_call 86;refine(C.out _).mono ?_;rintro e w1 ⟨rfl,hb⟩)
  exact dP (v:=.tuple #[.int .u64 0,.int .i64 2]) rfl rfl rfl ⟨rfl,(by repeat' (first | exact Below.refl _ _ | assumption | apply aI | apply bg | apply aK | (refine cB ?_ ?_ _) | (refine ai ?_ (by assumption)) | omega | (simp <;> omega)))⟩
 ·rw [hf]
  have C:=aa (fun w=> jS i hi w)
  have hp:=ja i
  dsimp only
  have HA:=aa hA
  have hi3:i+1≤3:=by omega
  have hi1:1≤i+1:=by omega
  have HD:=aa (fun(bf off:Nat) (w1:World) (hbf:bf < w1.heap.size) h1 h2 h3 (h4:x < prim i)=> ig (prim i) (i+1) x bf off c a m w1 (by omega) hp.2 (by omega) hi1 hi3 hB hlen hbf h1 h2 h3)
  clear hA hf hi3 hi1 hi
  generalize dig (prim i) (i+1) x m=D at*
  generalize hP:prim i=P at*
  generalize i+1=b at*
  by_cases h1:1000 < m.length
  ·rw [aG h1]
   have h1':1000 < (m.length:Int):=by omega
   generalize m.length=L at*
   go_enter Tryz.func36,Tryz.ntmps36
   go_wp2_with (go_at_call 86;refine(C.out _).mono ?_;rintro e w1 ⟨B,off,rfl,hB1,hB2,hc1,hc2,hb⟩)
   exact dP (v:=.tuple #[.int .u64 0,.int .i64 7]) rfl rfl rfl ⟨rfl,(by repeat' (first | exact Below.refl _ _ | assumption | apply aI | apply bg | apply aK | (refine cB ?_ ?_ _) | (refine ai ?_ (by assumption)) | omega | (simp <;> omega)))⟩
  ·rw [aA h1]
   have h1':(m.length:Int)≤1000:=by omega
   by_cases h2:x < 1∨P≤x
   ·rw [aG h2]
    have h2':(x:Int) < 1∨(1≤(x:Int)∧(P:Int)≤x):=by omega
    clear h2 h1 HD
    rcases h2' with h2 | ⟨h2,h3⟩
    all_goals
     go_enter Tryz.func36,Tryz.ntmps36
     go_wp2_with (go_at_call 86;refine(C.out _).mono ?_;rintro e w1 ⟨B,off,rfl,hB1,hB2,hc1,hc2,hb⟩)
     exact dP (v:=.tuple #[.int .u64 0,.int .i64 3]) rfl rfl rfl ⟨rfl,(by repeat' (first | exact Below.refl _ _ | assumption | apply aI | apply bg | apply aK | (refine cB ?_ ?_ _) | (refine ai ?_ (by assumption)) | omega | (simp <;> omega)))⟩
   ·rw [aA h2]
    have h2':1≤(x:Int):=by omega
    have h3:(x:Int) < P:=by omega
    have h4:x < P:=by omega
    clear h2 h1
    go_enter Tryz.func36,Tryz.ntmps36
    go_wp2_with (first | (go_at_call 86;refine(C.out _).mono ?_;rintro e w1 ⟨B,off,rfl,hB1,hB2,hc1,hc2,hb⟩) | (go_at_call 41;refine(HD.out _ _ _ hB2 hc1 hc2 (HA.out.step hb) h4).mono ?_;rintro e w2 ⟨rfl,hb2⟩))
    exact bc (v:=.tuple #[.int .u64 D,.int .i64 0]) (by simp only [results,Tryz.results36];go_simp) rfl ⟨rfl,(by repeat' (first | exact Below.refl _ _ | assumption | apply aI | apply bg | apply aK | (refine cB ?_ ?_ _) | (refine ai ?_ (by assumption)) | omega | (simp <;> omega)))⟩
end
section
open Go.RowKit
theorem mX(p x:Nat)(c:Nat):∀ (l:List Nat) (s:Nat×Nat),powS p x (l++[c]) s=(((powS p x l s).1+c % p*(powS p x l s).2) % p,(powS p x l s).2*x % p)
 | [],_=> rfl
 | d::l,s=> mX p x c l _
theorem rh {p x:Nat} (hp:0 < p)(hx:x < p):∀ (l:List Nat) (s:Nat×Nat),s.1 < p→s.2 < p→(powS p x l s).1 < p∧(powS p x l s).2 < p
 | [],_,h1,h2=> ⟨h1,h2⟩
 | c::l,s,_,_=> rh hp hx l _ (Nat.mod_lt _ hp) (Nat.mod_lt _ hp)
theorem wP {ws:List Nat} {k:Nat} (hk:k < ws.length):ws.reverse.take (k+1)=ws.reverse.take k++[ws.getD (ws.length - 1 - k) 0]:=by
 rw [List.take_succ_eq_append_getElem (by simpa using hk)]
 congr 2
 rw [List.getElem_reverse,di,bh (by omega)]
 rfl
theorem oJ {n P:Nat} (hn:n < 18446744073709551616):(IntKind.u64.wrap (n:Int)).tmod P=((n % P:Nat):Int):=by
 rw [Go.IntWalk.u64_in _ ⟨by omega,by omega⟩,Int.tmod_eq_emod_of_nonneg (by omega)]
 rfl
theorem uw {P O Q d x:Nat} (hP:P < 2147483648)(hO:O < P)(hQ:Q < P)(hx:x < P):
  (IntKind.u64.wrap ((O:Int)+IntKind.u64.wrap ((d:Int) % P*Q))).tmod P=(((O+d % P*Q) % P:Nat):Int)∧(IntKind.u64.wrap ((Q:Int)*x)).tmod P=((Q*x % P:Nat):Int):=by
 have hr:d % P < P:=Nat.mod_lt _ (by omega)
 have h1:d % P*Q≤2147483648*2147483648:=Nat.mul_le_mul (by omega) (by omega)
 have h2:Q*x≤2147483648*2147483648:=Nat.mul_le_mul (by omega) (by omega)
 have e1:((d:Int) % P*Q)=((d % P*Q:Nat):Int):=by push_cast;rfl
 have e2:((Q:Int)*x)=((Q*x:Nat):Int):=by push_cast;rfl
 rw [e1,e2]
 generalize d % P*Q=T at*
 generalize Q*x=U at*
 rw [Go.IntWalk.u64_in (T:Int) ⟨by omega,by omega⟩,show((O:Int)+T)=((O+T:Nat):Int) by push_cast;rfl]
 exact⟨oJ (by omega),oJ (by omega)⟩
theorem sum_any(i:Nat)(hi:i < 3)(x c:Nat)(a:Option Addr)(m:List Nat)(w:World)(hx:x < prim i)(hB:mG m)(hlen:m.length≤2000)(hA:ew a m w):
  Calls Tryz.prog 116 #[.int .i64 i,.int .u64 x,.slice a m.length c] w fun e w'=> e=.returned (.int .u64 (dig (prim i) (i+1) x m))∧Below w.heap.size w w':=by
 have hpr:=ja i
 have hfi:fi (i:Int)=some i:=by unfold fi;rw [aG ⟨by omega,by omega⟩];rfl
 have CP:=aa (fun w=> jb (i:Int) w)
 rw [hfi] at CP
 dsimp only at CP
 have CL:=aa (fun w hA=> uk (i+1) (i:Int) (by omega) (by omega) (by push_cast;rfl) a c m w hB hlen hA)
 have HA:=aa hA
 have hwl:(words (i+1) m).length≤2002:=by
  rw [rW];unfold wn
  have:=Nat.div_le_self m.length (i+1)
  omega
 have hdig:Hid ((powS (prim i) x (words (i+1) m).reverse (0,x)).1=dig (prim i) (i+1) x m):=wH (by omega) x _
 have hbd:Hid (∀ l,(powS (prim i) x l (0,x)).1 < prim i∧(powS (prim i) x l (0,x)).2 < prim i):=fun l=> rh (by omega) hx l (0,x) (by show 0 < _;omega) hx
 have hst:Hid (∀ l d,powS (prim i) x (l++[d]) (0,x)=(((powS (prim i) x l (0,x)).1+d % prim i*(powS (prim i) x l (0,x)).2) % prim i,(powS (prim i) x l (0,x)).2*x % prim i)):=fun l d=> mX _ _ d l _
 have hrv:Hid (∀ k,k < (words (i+1) m).length→(words (i+1) m).reverse.take (k+1)=(words (i+1) m).reverse.take k++[(words (i+1) m).getD ((words (i+1) m).length - 1 - k) 0]):=fun k hk=> wP hk
 have hend:Hid ((words (i+1) m).reverse.take (words (i+1) m).length=(words (i+1) m).reverse):=List.take_of_length_le (by simp)
 have hwb:Hid (∀ k,(words (i+1) m).getD k 0 < 16777216):=fun k=> by
  unfold words
  rw [di,bX]
  cases h:(List.range (wn (i+1) m))[k]? with
  | none=> simp
  | some j=> simpa using yd hB (show i+1≤3 by omega) j
 generalize dig (prim i) (i+1) x m=D at*
 generalize words (i+1) m=WS at*
 generalize prim i=P at*
 clear hA hfi
 go_enter Tryz.func116,Tryz.ntmps116
 go_wp2_with (first | (go_at_call 108;refine(CP.out _).mono ?_;rintro e w1 ⟨rfl,rfl⟩) | (go_at_call 144;refine(CL.out _ HA.out).mono ?_;rintro e w1 ⟨v,rfl,hv,hb⟩;obtain⟨a',c',rfl,-⟩:=gw.at_ hv;have HV:=aa hv;clear hv))
 go_loopw [9,10,11] (fun o q j wr=> ∃ k:Nat,k≤WS.length∧o=.int .u64 (powS P x (WS.reverse.take k) (0,x)).1∧q=.int .u64 (powS P x (WS.reverse.take k) (0,x)).2∧j=.int .i64 ((WS.length:Int) - 1 - k)∧wr=w1) (fun _ _ j _=> (intOf j+1).toNat)
 case atStart=> exact⟨0,Nat.zero_le _,rfl,rfl,by simp,rfl⟩
 case round=>
  obtain⟨k,hk,rfl,rfl,rfl,rfl⟩:=hrel
  by_cases hlt:k < WS.length
  ·obtain⟨b1,b2⟩:=hbd.out (WS.reverse.take k)
   have hs:=hst.out (WS.reverse.take k) (WS.getD (WS.length - 1 - k) 0)
   rw [← hrv.out k hlt] at hs
   have hwd:=hwb.out (WS.length - 1 - k)
   obtain⟨bm,om,rfl,hcm⟩:=HV.out.read (j:=WS.length - 1 - k) (by omega)
   have hS1:=aa (congrArg Prod.fst hs)
   have hS2:=aa (congrArg Prod.snd hs)
   dsimp only at hS1 hS2
   clear hs
   have hidx:((WS.length:Int) - 1 - k)=((WS.length - 1 - k:Nat):Int):=by omega
   have hil:WS.length - 1 - k < WS.length:=by omega
   have HK:=aa (show WS.length - 1 - (k+1)=WS.length - 1 - k - 1 by omega)
   rw [hidx]
   have hnext:Hid (((WS.length - 1 - k:Nat):Int) - 1=(WS.length:Int) - 1 - ((k+1:Nat):Int)):=by unfold Hid;omega
   generalize(powS P x (WS.reverse.take k) (0,x)).1=O at*
   generalize(powS P x (WS.reverse.take k) (0,x)).2=Q at*
   generalize hO2:(powS P x (WS.reverse.take (k+1)) (0,x)).1=O2 at*
   generalize hQ2:(powS P x (WS.reverse.take (k+1)) (0,x)).2=Q2 at*
   generalize WS.getD (WS.length - 1 - k) 0=d at*
   generalize WS.length - 1 - k=j at*
   have hpz:(P:Int)≠0:=by omega
   have HO2:=aa hO2
   have HQ2:=aa hQ2
   clear hO2 hQ2
   obtain⟨t1,t2⟩:=uw (d:=d) hpr.2 b1 b2 hx
   rw [← hS1.out] at t1
   rw [← hS2.out] at t2
   have T1:=aa t1
   have T2:=aa t2
   clear t1 t2
   go_wp2_with fail
   go_roundw
   case rel=> exact⟨k+1,by omega,by rw [T1.out,HO2.out],by rw [T2.out,HQ2.out],by rw [hnext.out],by first | trivial | rfl⟩
   case measure=> simp [intOf]
  ·obtain rfl:k=WS.length:=by omega
   have hj:((WS.length:Int) - 1 - (WS.length:Int))= -1:=by omega
   rw [hj]
   go_wp2_with fail
   go_ret
   exact⟨by rw [hend.out,hdig.out];rfl,hb⟩
end
section
open Sx Go.RowKit
theorem sd {w w':World} (h:dn w)(hb:Below w.heap.size w w'):dn w':=
 ⟨h.1.kept fun g hg=> hb.block g (h.2 g hg).2,fun g hg=> ⟨by have:=(h.2 g hg).2;have:=hb.size;omega,ar (h.2 g hg).2 hb.size⟩⟩
end
end Go.Proofs.YtmpilgkfbibhlaaGreatDoor
