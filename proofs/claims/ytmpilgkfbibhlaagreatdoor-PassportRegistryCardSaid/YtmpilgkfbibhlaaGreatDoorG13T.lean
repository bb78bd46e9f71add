/-
 G13T
-/
import Derived.Test.YtmpilgkfbibhlaaGreatDoorG12T
import Derived.Lib.SplitLaws
import Derived.Lib.ParseIntBTie
set_option linter.unusedSimpArgs false
set_option linter.unusedVariables false
set_option maxRecDepth 100000
set_option maxHeartbeats 20000000
namespace Go.Proofs.YtmpilgkfbibhlaaGreatDoor
section
open Sx Go.RowKit
theorem bu(s:ByteArray)(w:World):Calls Tryz.prog 48 #[.string s] w fun e w'=> e=.returned (.bool (nameB s))∧Below w.heap.size w w':=by
 by_cases h1:1≤s.size∧s.size≤20
 ·obtain⟨h1,h2⟩:=h1
  have h1':¬ (s.size:Int) < 1:=by omega
  have h2':¬ 20 < (s.size:Int):=by omega
  have hnb:nameB s=s.data.toList.all okc:=by unfold nameB;rw [bF ⟨h1,h2⟩,Bool.true_and]
  obtain⟨R,hR⟩:∃ R,s.data.toList.all okc=R:=⟨_,rfl⟩
  rw [hnb,hR]
  have HR:=aa hR
  have hlen:=aa (show s.data.toList.length=s.size from(Lib.size_eq s).symm)
  clear hR hnb
  go_enter Tryz.func48,Tryz.ntmps48
  go_wp2_with fail
  go_loopw [3] (fun i wr=> ∃ k:Nat,k≤s.size∧i=.int .i64 k∧Hid ((s.data.toList.take k).all okc=true)∧Below w.heap.size w wr) (fun i _=> s.size - (intOf i).toNat)
  case atStart=> exact⟨0,Nat.zero_le _,rfl,by simp [Hid],(by repeat' (first | exact Below.refl _ _ | assumption | apply aI | apply bg | apply aK | (refine cB ?_ ?_ _) | (refine ai ?_ (by assumption)) | omega | (simp <;> omega)))⟩
  case round=>
   obtain⟨k,hk,rfl,HQ,kB⟩:=hrel
   have i1:(0:Int)≤(k:Int):=by omega
   by_cases hlt:k < s.size
   ·have hlt3:(k:Int) < s.size:=by omega
    have hlt2:k < s.data.toList.length:=by rw [hlen.out];exact hlt
    have hget:s.data.toList[k]=s[k]:=Array.getElem_toList _
    have HS:=aa (show okc s[k]=true→(s.data.toList.take (k+1)).all okc=true from fun h=> by
     rw [List.take_succ_eq_append_getElem hlt2,List.all_append,HQ.out,hget]
     simp [h])
    have HN:=aa (show okc s[k]=false→R=false from fun h=> by
     rw [← HR.out,List.all_eq_false]
     exact⟨s[k],by rw [← hget];exact List.getElem_mem _,by simp [h]⟩)
    have hoc:okc s[k]=decide (97≤s[k].toNat∧s[k].toNat≤122∨48≤s[k].toNat∧s[k].toNat≤57):=rfl
    rw [hoc] at HS HN
    clear hoc hget HQ
    by_cases hok:97≤s[k].toNat∧s[k].toNat≤122∨48≤s[k].toNat∧s[k].toNat≤57
    ·have HX:=aa (HS.out (bF hok))
     have hok':(97≤(s[k].toNat:Int)∧(s[k].toNat:Int)≤122)∨((s[k].toNat:Int) < 97∧48≤(s[k].toNat:Int)∧(s[k].toNat:Int)≤57):=by omega
     clear hok HS HN
     rcases hok' with⟨q1,q2⟩ | ⟨q0,q1,q2⟩
     all_goals
      go_wp2_with fail
      go_roundw
      case rel=> exact⟨k+1,by omega,by push_cast;rfl,HX,kB⟩
      case measure=> (simp [intOf];omega)
    ·have HN2:=aa (HN.out (bv hok))
     have hok':(97≤(s[k].toNat:Int)∧122 < (s[k].toNat:Int)∧48≤(s[k].toNat:Int)∧57 < (s[k].toNat:Int))∨((s[k].toNat:Int) < 97∧48≤(s[k].toNat:Int)∧57 < (s[k].toNat:Int))∨((s[k].toNat:Int) < 97∧(s[k].toNat:Int) < 48):=by omega
     clear hok HS HN
     rcases hok' with⟨q1,q2,q3,q4⟩ | ⟨q1,q2,q3⟩ | ⟨q1,q2⟩
     ·have d1:decide ((s[k].toNat:Int)≤122)=false:=by simp;omega
      have d2:decide ((s[k].toNat:Int)≤57)=false:=by simp;omega
      go_wp2_with fail
      exact aH (v:=.bool false) rfl rfl rfl ⟨by rw [HN2.out],kB⟩
     ·have d2:decide ((s[k].toNat:Int)≤57)=false:=by simp;omega
      go_wp2_with fail
      exact aH (v:=.bool false) rfl rfl rfl ⟨by rw [HN2.out],kB⟩
     ·have d2:decide (48≤(s[k].toNat:Int))=false:=by simp;omega
      go_wp2_with fail
      exact aH (v:=.bool false) rfl rfl rfl ⟨by rw [HN2.out],kB⟩
   ·obtain rfl:k=s.size:=by omega
    have HN2:=aa (show R=true by
     have:=HQ.out
     rw [List.take_of_length_le (by rw [hlen.out];exact bz _),HR.out] at this
     exact this)
    clear HQ hlt hk
    go_wp2_with fail
    exact aH (v:=.bool true) rfl rfl rfl ⟨by rw [HN2.out],kB⟩
 ·have hnb:nameB s=false:=by unfold nameB;rw [bv h1,Bool.false_and]
  rw [hnb]
  have h2:(s.size:Int) < 1∨(1≤(s.size:Int)∧20 < (s.size:Int)):=by omega
  clear h1 hnb
  rcases h2 with h2 | ⟨h2,h3⟩
  all_goals
   go_enter Tryz.func48,Tryz.ntmps48
   go_wp2_with fail
   exact aH (v:=.bool false) rfl rfl rfl ⟨rfl,(by repeat' (first | exact Below.refl _ _ | assumption | apply aI | apply bg | apply aK | (refine cB ?_ ?_ _) | (refine ai ?_ (by assumption)) | omega | (simp <;> omega)))⟩
end
section
open Sx Go.RowKit
theorem uU(a b:List UInt8):(ByteArray.mk a.toArray)++(ByteArray.mk b.toArray)=⟨(a++b).toArray⟩:=ij (by simp)
theorem rq {d:Nat} (h:d < 10):Lib.decDigits d=[UInt8.ofNat (48+d)]:=Lib.decDigits_one h
theorem od(u:Nat)(h:u < 10)(w:World):Calls Tryz.prog 123 #[.int .i64 (u:Int)] w fun e w'=> e=.returned (.string ⟨(Lib.decDigits u).toArray⟩)∧Below w.heap.size w w':=by
 rw [rq h]
 have hc:u=0∨u=1∨u=2∨u=3∨u=4∨u=5∨u=6∨u=7∨u=8∨u=9:=by omega
 rcases hc with rfl | rfl | rfl | rfl | rfl | rfl | rfl | rfl | rfl | rfl
 all_goals
  clear h
  go_enter Tryz.func123,Tryz.ntmps123
  go_wp2_with fail
  go_ret
  exact⟨by first | rfl | decide+kernel,(by repeat' (first | exact Below.refl _ _ | assumption | apply aI | apply bg | apply aK | (refine cB ?_ ?_ _) | (refine ai ?_ (by assumption)) | omega | (simp <;> omega)))⟩
theorem lR:∀ (u:Nat),u < 9223372036854775808→∀ w:World,Calls Tryz.prog 123 #[.int .i64 (u:Int)] w fun e w'=> e=.returned (.string ⟨(Lib.decDigits u).toArray⟩)∧Below w.heap.size w w':=by
 intro u
 induction u using Nat.strongRecOn with
 | ind u ih=>
  intro hu w
  by_cases h:u < 10
  ·exact od u h w
  ·have C1:=ih (u / 10) (by omega) (by omega)
   have C2:=ih (u % 10) (by omega) (by omega)
   rw [iK h]
   rw [rq (show u % 10 < 10 by omega)] at C2
   have hl:=lO (k:=19) (u:=u / 10) (by decide) (by omega)
   have e1:((u / 10:Nat):Int)=(u:Int) / 10:=by omega
   have e2:((u % 10:Nat):Int)=(u:Int) % 10:=by omega
   rw [e1] at C1
   rw [e2] at C2
   have h1:¬ (u:Int) < 0:=by omega
   have h2:9 < (u:Int):=by omega
   generalize Lib.decDigits (u / 10)=x at*
   generalize UInt8.ofNat (48+u % 10)=c at*
   have h3:¬ 9223372036854775807 < x.length+1:=by omega
   have h4:x.length+1≤9223372036854775807:=by omega
   have K1:=aa C1
   have K2:=aa C2
   clear ih h hl C1 C2 e1 e2
   go_enter Tryz.func123,Tryz.ntmps123
   go_wp2_with (go_at_call 123;first
    | (with_reducible refine(K1.out _).mono ?_;rintro e w1 ⟨rfl,hb1⟩)
    | (with_reducible refine(K2.out _).mono ?_;rintro e w2 ⟨rfl,hb2⟩))
   go_ret
   exact⟨by rw [← uU];rfl,(by repeat' (first | exact Below.refl _ _ | assumption | apply aI | apply bg | apply aK | (refine cB ?_ ?_ _) | (refine ai ?_ (by assumption)) | omega | (simp <;> omega)))⟩
theorem lS(n:Int)(h0:-9223372036854775808 < n)(h1:n≤9223372036854775807)(w:World):Calls Tryz.prog 123 #[.int .i64 n] w fun e w'=> e=.returned (.string ⟨(Lib.itoa n).toArray⟩)∧Below w.heap.size w w':=by
 rcases jA n with⟨u,rfl,e⟩ | ⟨u,hu,rfl,e⟩
 ·rw [e];exact lR u (by omega) w
 ·rw [e]
  have C:=aa (lR u (by omega))
  have h2:-(u:Int) < 0:=by omega
  have e1:IntKind.i64.wrap (u:Int)=u:=cC _ ⟨by omega,by omega⟩
  have hl:=lO (k:=19) (u:=u) (by decide) (by omega)
  generalize Lib.decDigits u=x at*
  have h3:¬ 9223372036854775807 < 1+x.length:=by omega
  have h4:1+x.length≤9223372036854775807:=by omega
  clear e hl
  go_enter Tryz.func123,Tryz.ntmps123
  go_wp2_with (go_at_call 123;refine(C.out _).mono ?_;rintro e w1 ⟨rfl,hb1⟩)
  go_ret
  exact⟨by rw [show(45::x)=[45]++x from rfl,← uU];rfl,(by repeat' (first | exact Below.refl _ _ | assumption | apply aI | apply bg | apply aK | (refine cB ?_ ?_ _) | (refine ai ?_ (by assumption)) | omega | (simp <;> omega)))⟩
end
section
/-! Texts cut at spaces. -/
theorem take_at {l:List UInt8} {i:Nat} {c:UInt8} (h:l[i]? =some c):l=l.take i++c::l.drop (i+1):=by
 obtain⟨hi,hc⟩:=aB h
 conv=> lhs;rw [← List.take_append_drop i l]
 rw [List.drop_eq_getElem_cons hi,hc]
/-! Guards. -/
def gW:List UInt8:=[103,117,97,114,100]
def gZ(L:List Int):List (List UInt8):=gW::L.map Lib.itoa
def AD(L:List Int):List UInt8:=Lib.join (gZ L) [32]
open Classical in
noncomputable def Ba(ok:List Int→Prop)(l:List UInt8):Option (List Int):=if h:∃ L,L.length=22∧ok L∧l=AD L then some h.choose else none
section
variable {ok:List Int→Prop} {l:List UInt8}
end
/-! The reference's way: pieces one by one. -/
section
variable {ok:List Int→Prop} {l:List UInt8} {X:List Int}
end
end
section
open Sx Go.RowKit
def yM(s:ByteArray)(j:Nat):Prop:=∃ o:List UInt8,s.data.toList=o++58::Lib.itoa (j:Int)∧nameB ⟨o.toArray⟩=true
theorem sn {o:List UInt8} (h:nameB ⟨o.toArray⟩=true):∀ c∈o,c≠58:=fun c hc e=> by
 unfold nameB at h
 rw [Bool.and_eq_true] at h
 have:=List.all_eq_true.1 h.2 c (by simpa using hc)
 subst e
 revert this
 decide
theorem uV {s:ByteArray} {o r:List UInt8} (h:s.data.toList=o++58::r)(ho:∀ c∈o,c≠58):colon s=o.length:=by
 have h0:s.data.toList[o.length]? =some 58:=by rw [h];simp
 unfold colon
 rcases Int.lt_or_le (Lib.indexByte s.data.toList 58) 0 with q | q
 ·have h1:Lib.indexByte s.data.toList 58= -1:=by have:=Lib.indexByte_ge s.data.toList 58;omega
  exact absurd h0 (Lib.indexByte_none h1 _)
 ·obtain⟨i,hi⟩:=Int.eq_ofNat_of_zero_le q
  obtain⟨a1,a2⟩:=Lib.indexByte_some hi
  rw [hi]
  rcases Nat.lt_trichotomy i o.length with c | c | c
  ·exfalso
   rw [h,List.getElem?_append_left c] at a1
   exact ho _ (aJ a1) rfl
  ·rw [c]
  ·exact absurd h0 (a2 _ c)
theorem uW {s:ByteArray} {o r:List UInt8} (h:s.data.toList=o++58::r)(ho:∀ c∈o,c≠58):cE s=(⟨o.toArray⟩,⟨r.toArray⟩,true):=by
 have hc:=uV h ho
 have hsz:s.size=o.length+1+r.length:=by rw [Lib.size_eq,h];simp;omega
 have e1:s.extract 0 o.length=⟨o.toArray⟩:=ij (by rw [Lib.extract_eq,h];simp)
 have e2:s.extract (o.length+1) s.size=⟨r.toArray⟩:=ij (by rw [Lib.extract_eq,h,hsz];simp)
 unfold cE
 rw [aG (by rw [hc];omega),hc]
 simp only [Int.toNat_natCast]
 rw [e1,e2]
theorem rr {s:ByteArray} {j:Nat} (hj:j < 32){o:List UInt8} (h:s.data.toList=o++58::Lib.itoa (j:Int))(hn:nameB ⟨o.toArray⟩=true):modB s=true∧(cE s).1=⟨o.toArray⟩:=by
 have hc:=uW h (sn hn)
 have hv:nU ⟨(Lib.itoa (j:Int)).toArray⟩=some (j:Int):=by
  unfold nU
  rw [← Lib.parseIntB_64]
  have e:(ByteArray.mk (Lib.itoa (j:Int)).toArray).data.toList=Lib.itoa (j:Int):=by simp
  rw [e,pV (by omega) (by omega)]
 refine⟨?_,by rw [hc]⟩
 unfold modB
 rw [hc]
 dsimp only
 rw [hv]
 have e2:(ByteArray.mk (Lib.itoa (j:Int)).toArray).toList=Lib.itoa (j:Int):=by rw [Lib.toList_data]
 simp only [Bool.true_and,Bool.and_eq_true,decide_eq_true_eq,beq_iff_eq]
 exact⟨⟨⟨by omega,by omega⟩,e2.symm⟩,hn⟩
theorem ru {s:ByteArray} (h:modB s=true):∃ j,j < 32∧yM s j:=by
 unfold modB at h
 rw [Bool.and_eq_true] at h
 obtain⟨h1,h2⟩:=h
 have hc:0≤colon s:=by
  by_cases hc:0≤colon s
  ·exact hc
  ·unfold cE at h1;rw [aA hc] at h1;cases h1
 have e:cE s=(s.extract 0 (colon s).toNat,s.extract ((colon s).toNat+1) s.size,true):=by unfold cE;rw [aG hc]
 rw [e] at h2
 obtain⟨i,hi⟩:=Int.eq_ofNat_of_zero_le hc
 have hat:=(Lib.indexByte_some (l:=s.data.toList) (c:=58) (o:=i) hi).1
 have hil:=(aB hat).1
 rw [hi] at h2
 simp only [Int.toNat_natCast] at h2
 have ea:(s.extract 0 i).data.toList=s.data.toList.take i:=by rw [Lib.extract_eq];simp
 have eb:(s.extract (i+1) s.size).data.toList=s.data.toList.drop (i+1):=by
  rw [Lib.extract_eq]
  simp only [List.toList_toArray]
  exact List.take_of_length_le (by rw [List.length_drop,← Lib.size_eq];exact bz _)
 cases hn:nU (s.extract (i+1) s.size)with
 | none=> rw [hn] at h2;cases h2
 | some v=>
  rw [hn] at h2
  simp only [Bool.and_eq_true,decide_eq_true_eq,beq_iff_eq] at h2
  obtain⟨⟨⟨v0,v1⟩,hv⟩,hnm⟩:=h2
  obtain⟨j,rfl⟩:=Int.eq_ofNat_of_zero_le v0
  rw [Lib.toList_data,eb] at hv
  refine⟨j,by omega,s.data.toList.take i,?_,?_⟩
  ·rw [hv]
   exact take_at hat
  ·have:(⟨(s.data.toList.take i).toArray⟩:ByteArray)=s.extract 0 i:=ij (by rw [ea])
   rw [this]
   exact hnm
def rmO(s:ByteArray):ByteArray:=if modB s=true then(cE s).1 else⟨#[]⟩
theorem wY {s E:ByteArray} {j:Nat} (hE:E.data.toList=58::Lib.itoa (j:Int)):yM s j↔E.size≤s.size∧s.extract (s.size - E.size) s.size=E∧nameB (s.extract 0 (s.size - E.size))=true:=by
 have hEs:E.size=1+(Lib.itoa (j:Int)).length:=by rw [Lib.size_eq,hE];simp;omega
 constructor
 ·rintro⟨o,h,hn⟩
  have hsz:s.size=o.length+1+(Lib.itoa (j:Int)).length:=by rw [Lib.size_eq,h];simp;omega
  have hk:s.size - E.size=o.length:=by omega
  refine⟨by omega,ij ?_,?_⟩
  ·rw [hk,Lib.extract_eq,h,hsz,hE]
   simp only [List.toList_toArray,List.drop_left]
   exact List.take_of_length_le (by simp;omega)
  ·have:s.extract 0 (s.size - E.size)=⟨o.toArray⟩:=ij (by rw [hk,Lib.extract_eq,h];simp)
   rw [this]
   exact hn
 ·rintro⟨h1,h2,h3⟩
  refine⟨s.data.toList.take (s.size - E.size),?_,?_⟩
  ·have e:(s.extract (s.size - E.size) s.size).data.toList=s.data.toList.drop (s.size - E.size):=by
    rw [Lib.extract_eq]
    simp only [List.toList_toArray]
    exact List.take_of_length_le (by rw [List.length_drop,← Lib.size_eq];exact bz _)
   rw [h2] at e
   rw [← hE,e,List.take_append_drop]
  ·have:(⟨(s.data.toList.take (s.size - E.size)).toArray⟩:ByteArray)=s.extract 0 (s.size - E.size):=ij (by rw [Lib.extract_eq];simp)
   rw [this]
   exact h3
theorem wZ {s E:ByteArray} {j:Nat} (hj:j < 32)(hE:E.data.toList=58::Lib.itoa (j:Int))(h:yM s j):modB s=true∧rmO s=s.extract 0 (s.size - E.size):=by
 obtain⟨o,h1,h2⟩:=h
 have q:=rr hj h1 h2
 have hsz:s.size=o.length+1+(Lib.itoa (j:Int)).length:=by rw [Lib.size_eq,h1];simp;omega
 have hEs:E.size=1+(Lib.itoa (j:Int)).length:=by rw [Lib.size_eq,hE];simp;omega
 refine⟨q.1,?_⟩
 unfold rmO
 rw [aG q.1,q.2]
 exact(ij (by rw [show s.size - E.size=o.length by omega,Lib.extract_eq,h1];simp)).symm
theorem yN {s:ByteArray} (h:∀ j,j < 32→¬ yM s j):modB s=false∧rmO s=⟨#[]⟩:=by
 have hm:modB s=false:=by
  cases hm:modB s with
  | false=> rfl
  | true=>
   obtain⟨j,hj,q⟩:=ru hm
   exact absurd q (h j hj)
 exact⟨hm,by unfold rmO;rw [aA (by rw [hm];decide)]⟩
theorem bS(s:ByteArray)(w:World)(hs:s.size≤1000000):Calls Tryz.prog 81 #[.string s] w fun e w'=> e=.returned (.tuple #[.string (rmO s),.bool (modB s)])∧Below w.heap.size w w':=by
 go_enter Tryz.func81,Tryz.ntmps81
 go_wp2_with fail
 go_loopw [4,5,6] (fun i _ _ wr=> ∃ k:Nat,k≤32∧i=.int .i64 k∧Hid (∀ j,j < k→¬ yM s j)∧Below w.heap.size w wr) (fun i _ _ _=> 32 - (intOf i).toNat)
 case atStart=> exact⟨0,by omega,rfl,(fun j hj=> absurd hj (by omega)),(by repeat' (first | exact Below.refl _ _ | assumption | apply aI | apply bg | apply aK | (refine cB ?_ ?_ _) | (refine ai ?_ (by assumption)) | omega | (simp <;> omega)))⟩
 case round=>
  obtain⟨k,hk,rfl,HQ,kB⟩:=hrel
  have i1:(0:Int)≤(k:Int):=by omega
  by_cases hlt:k < 32
  ·have hlt3:(k:Int) < 32:=by omega
   have CD:=aa (fun W=> lS (k:Int) (by omega) (by omega) W)
   have hl:(Lib.itoa (k:Int)).length≤3:=uS (k:=2) (by omega) (by omega) (by decide)
   obtain⟨E,hEd⟩:∃ E:ByteArray,(⟨#[58]⟩:ByteArray)++⟨(Lib.itoa (k:Int)).toArray⟩=E:=⟨_,rfl⟩
   have hE:E.data.toList=58::Lib.itoa (k:Int):=by rw [← hEd];simp
   have hEs:E.size=1+(Lib.itoa (k:Int)).length:=by rw [Lib.size_eq,hE];simp;omega
   have ht1:(ByteArray.mk (Lib.itoa (k:Int)).toArray).size≤3:=by rw [Lib.size_eq];simpa using hl
   have HI:=aa (wY (s:=s) (E:=E) (j:=k) hE)
   have HY:=aa (fun h=> wZ (s:=s) (E:=E) (j:=k) hlt hE h)
   have HNX:=aa (show ¬ yM s k→∀ j,j < k+1→¬ yM s j from fun h j hj=> by
    by_cases c:j=k
    ·subst c;exact h
    ·exact HQ.out j (by omega))
   have hE4:E.size≤4:=by omega
   clear hE hEs hl HQ
   generalize(ByteArray.mk (Lib.itoa (k:Int)).toArray)=t1 at*
   have m1:¬ 9223372036854775807 < 1+t1.size:=by omega
   by_cases hsz:E.size≤s.size
   ·have hd1:((s.size:Int) - (E.size:Int))=((s.size - E.size:Nat):Int):=by omega
    have hdk:s.size - E.size≤s.size:=by omega
    have CN:=aa (fun W=> bu (s.extract 0 (s.size - E.size)) W)
    generalize hdd:s.size - E.size=d at*
    have d0:(0:Int)≤(d:Int):=by omega
    have d1:(d:Int)≤(s.size:Int):=by omega
    by_cases heq:s.extract d s.size=E
    ·by_cases hnm:nameB (s.extract 0 d)=true
     ·obtain⟨y1,y2⟩:=HY.out (HI.out.2 ⟨hsz,heq,hnm⟩)
      rw [hnm] at CN
      have Y1:=aa y1
      have Y2:=aa y2
      clear HI HY HNX hnm hdd y1 y2 ht1 hE4
      go_wp2_with (first | (go_at_call 123;refine(CD.out _).mono ?_;rintro e w3 ⟨rfl,hb3⟩;have k3:=ai kB hb3) | (go_at_call 48;refine(CN.out _).mono ?_;rintro e w4 ⟨rfl,hb4⟩;have k4:=ai k3 hb4))
      exact bc (v:=.tuple #[.string (s.extract 0 d),.bool true]) (by simp only [results,Tryz.results81];go_simp) rfl ⟨by rw [Y1.out,Y2.out],k4⟩
     ·have HN2:=aa (HNX.out (fun h=> hnm (HI.out.1 h).2.2))
      have hnf:nameB (s.extract 0 d)=false:=by simpa using hnm
      rw [hnf] at CN
      clear HI HY HNX hnm hnf hdd ht1 hE4
      go_wp2_with (first | (go_at_call 123;refine(CD.out _).mono ?_;rintro e w3 ⟨rfl,hb3⟩;have k3:=ai kB hb3) | (go_at_call 48;refine(CN.out _).mono ?_;rintro e w4 ⟨rfl,hb4⟩;have k4:=ai k3 hb4))
      go_roundw
      case rel=> first | exact⟨k+1,by omega,by push_cast;rfl,HN2,k4⟩ | ((repeat apply Exists.intro);exact⟨⟨k+1,by omega,by push_cast;rfl,HN2,k4⟩,rfl⟩)
      case measure=> (simp [intOf];omega)
    ·have HN2:=aa (HNX.out (fun h=> heq (HI.out.1 h).2.1))
     have hb0:=zZ heq
     have hb1:((s.extract d s.size).toList==E.toList)=false:=by simpa using hb0
     clear HI HY HNX hdd ht1 hE4
     go_wp2_with (first | (go_at_call 123;refine(CD.out _).mono ?_;rintro e w3 ⟨rfl,hb3⟩;have k3:=ai kB hb3) | (go_at_call 48;refine(CN.out _).mono ?_;rintro e w4 ⟨rfl,hb4⟩;have k4:=ai k3 hb4))
     go_roundw
     case rel=> first | exact⟨k+1,by omega,by push_cast;rfl,HN2,k3⟩ | ((repeat apply Exists.intro);exact⟨⟨k+1,by omega,by push_cast;rfl,HN2,k3⟩,rfl⟩)
     case measure=> (simp [intOf];omega)
   ·have HN2:=aa (HNX.out (fun h=> hsz (HI.out.1 h).1))
    have hneg:¬ (0:Int)≤(s.size:Int) - (E.size:Int):=by omega
    clear HI HY HNX ht1 hsz
    go_wp2_with (first | (go_at_call 123;refine(CD.out _).mono ?_;rintro e w3 ⟨rfl,hb3⟩;have k3:=ai kB hb3) | fail)
    go_roundw
    case rel=> first | exact⟨k+1,by omega,by push_cast;rfl,HN2,k3⟩ | ((repeat apply Exists.intro);exact⟨⟨k+1,by omega,by push_cast;rfl,HN2,k3⟩,rfl⟩)
    case measure=> (simp [intOf];omega)
  ·obtain rfl:k=32:=by omega
   have HN2:=aa (yN HQ.out)
   clear HQ hlt hk
   go_wp2_with fail
   exact bc (v:=.tuple #[.string ⟨#[]⟩,.bool false]) (by simp only [results,Tryz.results81];go_simp) rfl ⟨by rw [HN2.out.1,HN2.out.2],kB⟩
end
section
open Sx Go.RowKit Mr
structure RegA where
 pt:Nat
 bks:List Bk
 used:List Nat
 ps:List (ByteArray×List bR)
def RegS.abs(g:RegS):RegA:=⟨g.pt,g.bks,g.used,g.qs.map fun q=> (q.nm,q.es)⟩
def leftA(a:RegA)(b:Int):Int:=if 0≤b∧b < a.bks.length then((a.bks.getD b.toNat (0,[])).2.length:Int) - (a.used.getD b.toNat 0:Nat)else 0
theorem jZ(g:RegS)(b:Int):lM g b=leftA g.abs b:=rfl
def lf(p:ByteArray×List bR):LifeS:=lifeOf p.1 (br p.2)
def findA(nm:ByteArray)(a:RegA):Nat:=a.ps.findIdx fun p=> fS p.1 nm
def whereA(m:ByteArray)(a:RegA):Nat:=a.ps.findIdx fun p=> hasT (lf p).ms m
def lT(a:RegA)(n:Nat)(e:bQ)(p:ByteArray×List bR):ByteArray×List bR:=(p.1,p.2++[fg a.pt a.bks (headOf a.pt p.1 p.2) e n (a.used.getD n 0)])
def putA(a:RegA)(n i:Nat)(e:bQ):RegA:=match a.ps[i]? with
 | none=> a
 | some p=> { a with used:=a.used.set n (a.used.getD n 0+1),ps:=a.ps.set i (lT a n e p) }
theorem j4 {a:RegA} {n i:Nat} {e:bQ} {p:ByteArray×List bR} (h:a.ps[i]? =some p):putA a n i e={ a with used:=a.used.set n (a.used.getD n 0+1),ps:=a.ps.set i (lT a n e p) }:=by unfold putA;rw [h]
def bi(a:RegA)(b:Int)(nm:ByteArray)(e:bQ):Int×RegA:=
 if ¬ (0≤b∧b < a.bks.length)then(3,a)else
 if ¬ (nameB nm=true∧eC e=true∧e.1≠5∧e.1≠6)then(2,a)else
 if e.1=1 then
  if findA nm a < a.ps.length then(12,a)else if 100≤a.ps.length then(11,a)else if leftA a b < 1 then(4,a)else
  (0,putA { a with ps:=a.ps++[(nm,[])] } b.toNat a.ps.length e)
 else match a.ps[findA nm a]? with
  | none=> (5,a)
  | some p=> if cg p.1 (lf p) e=false then(10,a)else if 500≤p.2.length then(11,a)else if leftA a b < 1 then(4,a)else(0,putA a b.toNat (findA nm a) e)
def yO:ByteArray:=⟨#[]⟩
def bE(t:Int)(m to:ByteArray):bQ:=(6,t,0,0,m,to)
def cf(t:Int)(m nm:ByteArray):bQ:=(5,t,0,0,m,nm)
def jh(t:Int)(r:ByteArray):bQ:=(7,t,0,0,r,yO)
def bJ(t:Int):Bool:=decide (0≤t∧t≤1099511627776)
def moveA(a:RegA)(b t:Int)(m to:ByteArray):Int×RegA:=
 if ¬ (0≤b∧b < a.bks.length)then(3,a)else
 if ¬ (modB m=true∧nameB to=true∧bJ t=true)then(2,a)else
 match a.ps[whereA m a]?,a.ps[findA to a]? with
 | some p,some q=>
  if whereA m a=findA to a∨cg p.1 (lf p) (bE t m to)=false∨cg q.1 (lf q) (cf t m p.1)=false then(10,a)else
  if 500≤p.2.length∨500≤q.2.length then(11,a)else if leftA a b < 2 then(4,a)else
  (0,putA (putA a b.toNat (whereA m a) (bE t m to)) b.toNat (findA to a) (cf t m p.1))
 | _,_=> (5,a)
def pW(a:RegA)(bt:ByteArray)(t0 t1:Int)(m:ByteArray):Bool:=match a.ps[findA (cE m).1 a]? with
 | some o=> fS (lf o).made.2.2.2.2.1 bt && decide (t0≤(lf o).made.2.1) && decide ((lf o).made.2.1≤t1)
 | none=> false
def jB(a:RegA)(bt:ByteArray)(t0 t1:Int)(r:ByteArray)(p:ByteArray×List bR):Bool:= !(hasT (lf p).os r) && (lf p).ms.any (pW a bt t0 t1)
def affA(a:RegA)(bt:ByteArray)(t0 t1:Int)(r:ByteArray):List Nat:=(List.range a.ps.length).filter fun i=> match a.ps[i]? with
 | some p=> jB a bt t0 t1 r p
 | none=> false
def da(t:Int)(r:ByteArray)(n:Nat)(l:List Nat)(a:RegA):RegA:=l.foldl (fun a i=> putA a n i (jh t r)) a
def cq(a:RegA)(i:Nat):ByteArray:=(a.ps.getD i (yO,[])).1
def cy(a:RegA)(i:Nat):ByteArray×List bR:=a.ps.getD i (yO,[])
def aE(a:RegA)(b t:Int)(bt:ByteArray)(t0 t1:Int)(r:ByteArray):Int×List ByteArray×RegA:=
 if ¬ (0≤b∧b < a.bks.length)then(3,[],a)else
 if ¬ (nameB bt=true∧nameB r=true∧bJ t=true∧bJ t0=true∧bJ t1=true)then(2,[],a)else
 if(affA a bt t0 t1 r).any (fun i=> decide (t < (lf (cy a i)).at_))=true then(10,[],a)else
 if(affA a bt t0 t1 r).any (fun i=> decide (500≤(cy a i).2.length))=true then(11,[],a)else
 if leftA a b < (affA a bt t0 t1 r).length then(4,[],a)else
 (0,(affA a bt t0 t1 r).map (cq a),da t r b.toNat (affA a bt t0 t1 r) a)
structure ji(a:RegA):Prop where
 sec:secR a.pt a.bks=0
 u8:a.used.length=8
 us:∀ k,a.used.getD k 0≤(a.bks.getD k (0,[])).2.length
 np:a.ps.length≤100
 p:∀ p∈a.ps,p.2.length≤500∧fA p.1 (br p.2)∧(∀ e∈br p.2,eC e=true)∧nameB p.1=true
structure dc(a:RegA):Prop extends ji a where
 ne:∀ p∈a.ps,p.2≠[]
 nm:∀ (i j:Nat) (p q:ByteArray×List bR),a.ps[i]? =some p→a.ps[j]? =some q→p.1=q.1→i=j
 org:∀ p∈a.ps,∀ m∈(lf p).ms,∃ o∈a.ps,o.1=(cE m).1
theorem bI {s:ByteArray} (h:nameB s=true):1≤s.size∧s.size≤20:=by
 unfold nameB at h
 rw [Bool.and_eq_true] at h
 have:=of_decide_eq_true h.1
 omega
structure bW(B R:Nat)(vb:Value)(a:RegA)(g:RegS)(vp:Value)(W:World):Prop where
 ra:bj B R g vb vp W
 abs:g.abs=a
 lf:∀ q∈g.qs,q.life=lifeOf q.nm (br q.es)∧q.hd=headOf g.pt q.nm q.es
def uX(R:Nat)(g:RegS)(vp:Value)(k:Nat):Prop:=k=R∨vp.ownBlock=some k∨∃ q∈g.qs,q.ve.ownBlock=some k
def tr(k:Nat)(g:RegS):Prop:=∀ q∈g.qs,(q.life.ms≠[]→q.vm.ownBlock≠some k)∧(q.life.os≠[]→q.vo.ownBlock≠some k)
structure bT(R:Nat)(g:RegS)(vp:Value)(g':RegS)(vp':Value)(w W:World):Prop where
 kp:bP (uX R g vp) w W
 own:∀ k,uX R g' vp' k→uX R g vp k∨w.heap.size≤k
 ns:∀ k,k < w.heap.size→tr k g→tr k g'
section
variable {B R:Nat} {g g1 g2:RegS} {vb vp vp1 vp2:Value} {a:RegA} {w w1 w2 W:World}
theorem bT.refl:bT R g vp g vp w w:=⟨bP.of_below (Below.refl _ _),fun _ h=> ax h,fun _ _ h=> h⟩
theorem bT.of_below(h:Below w.heap.size w W):bT R g vp g vp w W:=⟨bP.of_below h,fun _ h=> ax h,fun _ _ h=> h⟩
theorem bT.trans(h1:bT R g vp g1 vp1 w w1)(h2:bT R g1 vp1 g2 vp2 w1 w2):bT R g vp g2 vp2 w w2:=by
 refine⟨⟨h2.kp.os.trans h1.kp.os,h2.kp.tape.trans h1.kp.tape,h2.kp.output.trans h1.kp.output,Nat.le_trans h1.kp.size h2.kp.size,fun k hk hn=> ?_⟩,fun k hk=> ?_,fun k hk hn=> h2.ns k (ar hk h1.kp.size) (h1.ns k hk hn)⟩
 ·rw [h2.kp.block k (ar hk h1.kp.size) (fun c=> ?_),h1.kp.block k hk hn]
  rcases h1.own k c with c | c
  ·exact hn c
  ·omega
 ·rcases h2.own k hk with c | c
  ·exact h1.own k c
  ·exact ay (Nat.le_trans h1.kp.size c)
theorem bT.step(h:bT R g vp g1 vp1 w w1)(hb:Below w1.heap.size w1 W):bT R g vp g1 vp1 w W:=h.trans (bT.of_below hb)
theorem bT.pre(hb:Below w.heap.size w w1)(h:bT R g vp g1 vp1 w1 W):bT R g vp g1 vp1 w W:=(bT.of_below hb).trans h
theorem bj.ownT(h:bj B R g vb vp w){k:Nat} (hk:uX R g vp k):B≤k∧k < w.heap.size∧∃ cs T fr,w.heap[k]? =some (.cells cs T fr)∧(T=121∨T=116∨T=31):=by
 rcases hk with rfl | hk | ⟨q,hq,hk⟩
 ·exact⟨h.hB,ak h.reg,_,_,_,h.reg,ax rfl⟩
 ·obtain⟨h1,c,e⟩:=dA h.row hk
  exact⟨h1,ak e,_,_,_,e,ay (ax rfl)⟩
 ·obtain⟨h1,c,e⟩:=dA (h.es q hq) hk
  exact⟨h1,ak e,_,_,_,e,ay (ay rfl)⟩
theorem bT.keepT(h:bj B R g vb vp w)(m:bT R g vp g1 vp1 w W):dJ w W:=fun b cs T fr e n1 n2 n3=> by
 refine(m.kp.block b (ak e) (fun c=> ?_)).trans e
 obtain⟨-,-,cs2,T2,fr2,e2,hT⟩:=h.ownT c
 rw [e] at e2
 cases e2
 rcases hT with rfl | rfl | rfl
 ·exact n1 rfl
 ·exact n2 rfl
 ·exact n3 rfl
theorem bT.below(h:bj B R g vb vp w)(hB:B≤w.heap.size)(m:bT R g vp g1 vp1 w W):Below B w W:=
 ⟨m.kp.os,m.kp.tape,m.kp.output,m.kp.size,fun k hk=> m.kp.block k (ar hk hB) (fun c=> by have:=(h.ownT c).1;omega)⟩
def gh(B R:Nat)(vb:Value)(a':RegA)(g:RegS)(vp:Value)(w W:World):Prop:=∃ g' vp',bW B R vb a' g' vp' W∧bT R g vp g' vp' w W
theorem bW.step(h:bW B R vb a g vp w)(hb:Below w.heap.size w W):bW B R vb a g vp W:=⟨h.ra.step hb,h.abs,h.lf⟩
theorem bW.stay(h:bW B R vb a g vp w)(hb:Below w.heap.size w W):gh B R vb a g vp w W:=⟨g,vp,h.step hb,bT.of_below hb⟩
theorem gh.pre {a':RegA} (hb:Below w.heap.size w w1)(h:gh B R vb a' g vp w1 W):gh B R vb a' g vp w W:=by
 obtain⟨g',vp',h1,h2⟩:=h
 exact⟨g',vp',h1,h2.pre hb⟩
theorem gh.step {a':RegA} (h:gh B R vb a' g vp w w1)(hb:Below w1.heap.size w1 W):gh B R vb a' g vp w W:=by
 obtain⟨g',vp',h1,h2⟩:=h
 exact⟨g',vp',h1.step hb,h2.step hb⟩
theorem bW.ps(h:bW B R vb a g vp w):a.ps=g.qs.map fun q=> (q.nm,q.es):=by rw [← h.abs];rfl
theorem bW.len(h:bW B R vb a g vp w):g.qs.length=a.ps.length:=by rw [h.ps,List.length_map]
theorem bW.get(h:bW B R vb a g vp w){i:Nat} {p:ByteArray×List bR} (hp:a.ps[i]? =some p):∃ q,g.qs[i]? =some q∧q.nm=p.1∧q.es=p.2∧q.life=Go.Proofs.YtmpilgkfbibhlaaGreatDoor.lf p∧q.hd=headOf a.pt p.1 p.2:=by
 rw [h.ps,bX] at hp
 cases hq:g.qs[i]? with
 | none=> rw [hq] at hp;cases hp
 | some q=>
  rw [hq] at hp
  obtain rfl:(q.nm,q.es)=p:=bD hp
  obtain⟨h1,h2⟩:=h.lf q (aJ hq)
  exact⟨q,rfl,rfl,rfl,h1,by rw [h2,← h.abs];rfl⟩
theorem bW.put(h:bW B R vb a g vp w){i:Nat} {q:PkV} (hq:g.qs[i]? =some q):a.ps[i]? =some (q.nm,q.es):=by rw [h.ps,bX,hq];rfl
theorem iQ {α:Type} {p q:α→Bool}:∀ {l:List α},(∀ x∈l,p x=q x)→l.findIdx p=l.findIdx q
 | [],_=> rfl
 | x::l,h=> by
  rw [List.findIdx_cons,List.findIdx_cons,h x (by simp),iQ fun y hy=> h y (by simp [hy])]
theorem bW.find(h:bW B R vb a g vp w)(nm:ByteArray):oS nm g.qs=findA nm a:=by
 unfold oS findA
 rw [h.ps,List.findIdx_map]
 rfl
theorem bW.whr(h:bW B R vb a g vp w)(m:ByteArray):lL m g.qs=whereA m a:=by
 unfold lL whereA
 rw [h.ps,List.findIdx_map]
 refine iQ fun q hq=> ?_
 show hasT q.life.ms m=hasT (lifeOf q.nm (br q.es)).ms m
 rw [(h.lf q hq).1]
theorem ji.us5(h:ji a)(k:Nat):a.used.getD k 0≤5000:=by
 refine Nat.le_trans (h.us k) ?_
 obtain⟨-,-,hbk⟩:=fW h.sec
 rw [di]
 cases hk:a.bks[k]? with
 | none=> exact Nat.zero_le _
 | some bk=> exact(hbk bk (aJ hk)).2.1
theorem bW.ok(h:bW B R vb a g vp w)(ho:ji a):rp g:=by
 obtain⟨h1,h2,h3⟩:=h
 subst h2
 refine⟨ho.sec,ho.us5,by have:=ho.np;simpa [RegS.abs] using this,fun q hq=> ?_⟩
 obtain⟨q1,q2,q3,q4⟩:=ho.p (q.nm,q.es) (List.mem_map.2 ⟨q,hq,rfl⟩)
 exact⟨q1,q2,q3,(bI q4).2,(h3 q hq).1,(h3 q hq).2⟩
end
end
section
open Sx Go.RowKit Mr
theorem Aa(j:Nat)(hj:j < 32):(Lib.itoa (j:Int)).length≤2:=by
 have h:∀ j:Nat,j < 32→(Lib.itoa (j:Int)).length≤2:=by decide+kernel
 exact h j hj
theorem gJ {s:ByteArray} (h:modB s=true):s.size≤23:=by
 obtain⟨j,hj,o,h1,h2⟩:=ru h
 have h3:=(bI h2).2
 have h4:=Aa j hj
 rw [Lib.size_eq] at h3
 rw [Lib.size_eq,h1]
 simp at h3 ⊢
 omega
theorem so {k t a b:Int} {nm ot:ByteArray} (h:gy k t a b nm ot=true):((nm.toList==[])=true∨nameB nm=true∨modB nm=true)∧((ot.toList==[])=true∨nameB ot=true∨modB ot=true):=by
 obtain⟨he,-,-⟩:=jv h
 have hk:=he.k
 change 1≤k∧k≤9 at hk
 clear he
 have hk9:k=1∨k=2∨k=3∨k=4∨k=5∨k=6∨k=7∨k=8∨k=9:=by omega
 rcases hk9 with rfl | rfl | rfl | rfl | rfl | rfl | rfl | rfl | rfl
 all_goals
  unfold gy gx dH at h
  revert h
  generalize nameB nm=x1
  generalize modB nm=x2
  generalize nameB ot=x3
  generalize modB ot=x4
  generalize(nm.toList==[])=x5
  generalize(ot.toList==[])=x6
  cases x1 <;> cases x2 <;> cases x3 <;> cases x4 <;> cases x5 <;> cases x6 <;> simp
theorem ni {s:ByteArray} (h:(s.toList==[])=true∨nameB s=true∨modB s=true):s.size≤23:=by
 rcases h with h | h | h
 ·have h1:s.toList=[]:=by simpa using h
  rw [Lib.toList_data] at h1
  rw [Lib.size_eq,h1];simp
 ·have:=bI h;omega
 ·exact gJ h
theorem uY {e:bQ} (h:eC e=true):e.2.2.2.2.1.size≤100∧e.2.2.2.2.2.size≤100:=by
 obtain⟨k,t,a,b,nm,ot⟩:=e
 obtain⟨h1,h2⟩:=so (show gy k t a b nm ot=true from h)
 have h1:=ni h1
 have h2:=ni h2
 exact⟨by show nm.size≤100;omega,by show ot.size≤100;omega⟩
theorem dd(es:List bR):(br es).length=es.length:=by unfold br;rw [List.length_map]
section
variable {B R n i u PB cp:Nat} {a:RegA} {g:RegS} {vb vp:Value} {w w' W:World} {p:ByteArray×List bR} {q:PkV} {e:bQ}
theorem ji.life(h:ji a)(hp:p∈a.ps):fE (lf p)∧(lf p).ms.length≤100000∧(lf p).os.length≤100000:=by
 obtain⟨h1,h2,h3,h4⟩:=h.p p hp
 refine(iO p.1 (br p.2) h3).lifeB ?_
 rw [iG,dd]
 omega
theorem bP.mono {S S':Nat→Prop} (h:bP S w W)(hS:∀ k,S k→S' k):bP S' w W:=⟨h.os,h.tape,h.output,h.size,fun k hk hn=> h.block k hk fun c=> hn (hS k c)⟩
theorem bH.len_eq {v:Value} {l l':List ByteArray} {W W':World} (h:bH v l W)(h':bH v l' W'):l.length=l'.length:=by
 obtain⟨a,c,e,-⟩:=h
 obtain⟨a',c',e',-⟩:=h'
 rw [e] at e'
 injection e' with e1 e2 e3
def sq(B R:Nat)(vb:Value)(a':RegA)(g:RegS)(vp:Value)(w W:World):Prop:=∃ g',bW B R vb a' g' vp W∧bT R g vp g' vp w W
theorem sq.toN {a':RegA} (h:sq B R vb a' g vp w W):gh B R vb a' g vp w W:=by
 obtain⟨g',h1,h2⟩:=h
 exact⟨g',vp,h1,h2⟩
theorem oa.view(h:bW B R vb a g vp w)(hvp:vp=.slice (some ⟨PB,0,none⟩) g.qs.length cp)(hq:g.qs[i]? =some q)(hu:g.used.getD n 0=u)(hE:oa (fun vm' vo'=> iv w q.vm vm'∧iv w q.vo vo') B R g vb vp PB i n u q (fg g.pt g.bks q.hd e n u) e w w'):sq B R vb (putA a n i e) g vp w w':=by
 obtain⟨vm',vo',v',h1,h2,h3,h4,h5⟩:=hE
 obtain⟨l1,l2⟩:=h.lf q (aJ hq)
 have hqm:=aJ hq
 refine⟨_,⟨h1,?_,fun x hx=> ?_⟩,⟨h2.mono fun k hk=> ?_,fun k hk=> ?_,fun k hk hN x hx=> ?_⟩⟩
 ·rw [j4 (h.put hq),← h.abs]
  subst hu
  unfold RegS.abs lT
  dsimp only
  rw [List.map_set,← l2]
 ·rcases ii hx with rfl | ⟨j,-,hj⟩
  ·dsimp only
   refine⟨?_,(oP _ _ _ _).symm⟩
   unfold br
   rw [List.map_append,l1]
   exact(bZ _ _ _).symm
  ·exact h.lf x (aJ hj)
 ·rcases hk with rfl | rfl | hk
  ·exact ax rfl
  ·exact ay (ax (by rw [hvp];rfl))
  ·exact ay (ay ⟨q,hqm,hk⟩)
 ·rcases hk with rfl | hk | ⟨x,hx,hk⟩
  ·exact ax (ax rfl)
  ·exact ax (ay (ax hk))
  ·rcases ii hx with rfl | ⟨j,-,hj⟩
   ·dsimp only at hk
    rcases h3 with h3 | ⟨k9,h4,h5⟩
    ·exact ax (ay (ay ⟨q,hqm,by rw [← h3];exact hk⟩))
    ·rw [h5] at hk
     obtain rfl:=bD hk
     exact ay h4
   ·exact ax (ay (ay ⟨x,aJ hj,hk⟩))
 ·rcases ii hx with rfl | ⟨j,-,hj⟩
  ·obtain⟨hms,hos,h0⟩:=h1.ms _ hx
   dsimp only at hms hos h0 ⊢
   have key:∀ (v v':Value) (l l':List ByteArray),iv w v v'→(l≠[]→v.ownBlock≠some k)→(l'≠[]→v'=v→l≠[])→l'≠[]→v'.ownBlock≠some k:=fun v v' l l' hv hl hs hne c=> by
    rcases hv with hv | hv
    ·rw [hv] at c
     exact hl (hs hne hv) c
    ·have:=hv k c
     omega
   obtain⟨m0,o0,-⟩:=h.ra.ms q hqm
   exact⟨key q.vm vm' q.life.ms _ h4 (hN q hqm).1 fun hne e c=> hne (eF ((bH.len_eq (e ▸ hms) m0).trans (by rw [c];rfl))),key q.vo vo' q.life.os _ h5 (hN q hqm).2 fun hne e c=> hne (eF ((bH.len_eq (e ▸ hos) o0).trans (by rw [c];rfl)))⟩
  ·exact hN x (aJ hj)
theorem fX(h:bW B R vb a g vp w)(ho:ji a)(hp:a.ps[i]? =some p)(hn:n < a.bks.length)(hu:a.used.getD n 0 < (a.bks.getD n (0,[])).2.length)(hok:eC e=true)(hcan:cg p.1 (lf p) e=true):
  ∃ PB cp,vp=.slice (some ⟨PB,0,none⟩) g.qs.length cp∧Calls Tryz.prog 65 #[.pointer (some ⟨R,0,none⟩),.int .i64 (n:Int),.pointer (some ⟨PB,i*20,none⟩),kZ e] w fun en w'=> en=.returned (.tuple #[])∧sq B R vb (putA a n i e) g vp w w':=by
 obtain⟨q,hq,e1,e2,e3,e4⟩:=h.get hp
 have hpm:=aJ hp
 obtain⟨PB,cp,cur,hvp,-,hPB,-⟩:=h.ra.packs (by rintro c;rw [c] at hq;cases hq)
 refine⟨PB,cp,hvp,?_⟩
 obtain⟨ab,cb,hvb,hB⟩:=h.ra.bk
 have hbks:g.bks=a.bks:=by rw [← h.abs];rfl
 have husd:g.used=a.used:=by rw [← h.abs];rfl
 have hpt:g.pt=a.pt:=by rw [← h.abs];rfl
 obtain⟨bb,ob,cs,fr,rfl,-,-⟩:=hB (by rw [hbks];rintro c;rw [c] at hn;simp at hn)
 obtain⟨bk,hbk⟩:∃ bk,a.bks[n]? =some bk:=⟨a.bks[n],bh hn⟩
 rw [di (l:=a.bks),hbk,Option.getD_some] at hu
 obtain⟨pd,hpd⟩:∃ pd,bk.2[a.used.getD n 0]? =some pd:=⟨bk.2[a.used.getD n 0]'hu,bh hu⟩
 obtain⟨q1,q2,q3,q4⟩:=ho.p p hpm
 obtain⟨b1,b2⟩:=ho.life hpm
 have hra:=h.ra
 rw [hvp] at hra
 refine(sl (X:=fun vm' vo'=> iv w q.vm vm'∧iv w q.vo vo') hra hq hvb (by rw [hbks];exact hbk) (by rw [husd]) hpd e hok (uY hok) (by rw [hpt,hbks];exact ho.sec) (by rw [e2];omega) fun W hW hL h0=> (uC (by decide) hL (by rw [e3];exact b1) (by rw [e3];exact b2) (by rw [e1];have:=(bI q4).2;omega) h0 e hok (by rw [e1,e3];exact hcan)).mono fun en w' r=> ⟨r.1,by obtain⟨vm',vo',r2,r3⟩:=r.2;exact⟨vm',vo',r2.l,r3,r2.m.mono hW,r2.o.mono hW⟩⟩).mono fun en w' r=> ⟨r.1,?_⟩
 have r2:=r.2
 rw [← hvp] at r2
 exact r2.view h hvp hq (by rw [husd])
theorem jC(h:bW B R vb a g vp w)(ho:ji a)(hp:a.ps[i]? =some p)(hn:n < a.bks.length)(hu:a.used.getD n 0 < (a.bks.getD n (0,[])).2.length)(hok:eC e=true)(hcan:cg p.1 (lf p) e=true):
  ∃ PB cp,vp=.slice (some ⟨PB,0,none⟩) g.qs.length cp∧Calls Tryz.prog 65 #[.pointer (some ⟨R,0,none⟩),.int .i64 (n:Int),.pointer (some ⟨PB,i*20,none⟩),kZ e] w fun en w'=> en=.returned (.tuple #[])∧gh B R vb (putA a n i e) g vp w w':=by
 obtain⟨PB,cp,h1,h2⟩:=fX h ho hp hn hu hok hcan
 exact⟨PB,cp,h1,h2.mono fun en w' r=> ⟨r.1,r.2.toN⟩⟩
end
end
end Go.Proofs.YtmpilgkfbibhlaaGreatDoor
