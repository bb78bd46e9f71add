/-
 G7T
-/
import Derived.Test.YtmpilgkfbibhlaaGreatDoorG6T
set_option linter.unusedSimpArgs false
set_option linter.unusedVariables false
set_option maxRecDepth 100000
set_option maxHeartbeats 20000000
namespace Go.Proofs.YtmpilgkfbibhlaaGreatDoor
section
open Sx Go.RowKit
def dH(least fa fb t a b:Int)(p q:Bool):Bool:=
 bif !(bif decide (t≥0)then decide (t≤1099511627776)else false)then true else bif decide (a < least)then true else bif decide (a > fa)then true else bif decide (b < 0)then true else bif decide (b > fb)then true else bif !p then true else !q
end
section
/-! Decimal digits. -/
theorem nV {u:Nat} (h:u < 10):(UInt8.ofNat (48+u)).toNat=48+u:=by
 simp only [UInt8.toNat_ofNat']
 omega
theorem iK {u:Nat} (h:¬ u < 10):Lib.decDigits u=Lib.decDigits (u / 10)++[UInt8.ofNat (48+u % 10)]:=by
 rw [Lib.decDigits,dif_neg h]
theorem ux(u:Nat):Lib.decDigits u≠[]:=by
 by_cases h:u < 10
 ·rw [Lib.decDigits_one h];simp
 ·rw [iK h];simp
theorem mY(u:Nat):∀ c∈Lib.decDigits u,48≤c.toNat∧c.toNat≤57:=by
 induction u using Nat.strongRecOn with
 | ind u ih=>
  intro c hc
  by_cases h:u < 10
  ·rw [Lib.decDigits_one h] at hc
   obtain rfl:=List.mem_singleton.1 hc
   rw [nV h];omega
  ·rw [iK h] at hc
   rcases List.mem_append.1 hc with hc | hc
   ·exact ih (u / 10) (by omega) c hc
   ·obtain rfl:=List.mem_singleton.1 hc
    rw [nV (by omega)];omega
theorem uy {n:Int} (h:0≤n):Lib.itoa n=Lib.decDigits n.toNat:=by
 obtain⟨u,rfl⟩:=Int.eq_ofNat_of_zero_le h
 exact Lib.itoa_nonneg u
def Sp(l:List UInt8):Prop:=∀ c∈l,c.toNat≠32
theorem wQ {n:Int} (h:0≤n):Sp (Lib.itoa n):=fun c hc=> by
 rw [uy h] at hc
 have:=mY _ c hc
 omega
/-! Texts joined by a space. -/
/-! Events. -/
structure Ev where
 k:Int
 t:Int
 a:Int
 b:Int
 nm:List UInt8
 ot:List UInt8
structure Ax(e:Ev):Prop where
 k:1≤e.k∧e.k≤9
 t:0≤e.t∧e.t≤1099511627776
 a:0≤e.a∧e.a≤1099511627776
 b:0≤e.b∧e.b≤1099511627776
 a0:5≤e.k→e.a=0
 b0:3≤e.k→e.b=0
 nm:Sp e.nm
 ot:Sp e.ot
 nm0:(e.k=2∨e.k=3∨e.k=4∨e.k=9)→e.nm=[]
 nm1:(e.k=1∨e.k=5∨e.k=6∨e.k=7∨e.k=8)→e.nm≠[]
 ot0:(e.k≠5∧e.k≠6)→e.ot=[]
 ot1:(e.k=5∨e.k=6)→e.ot≠[]
def parts(e:Ev):List (List UInt8):=
 Lib.itoa e.t::((if e.k≤2 then [Lib.itoa e.a,Lib.itoa e.b] else if e.k≤4 then [Lib.itoa e.a] else [])++(if e.nm=[] then [] else [e.nm])++(if e.ot=[] then [] else [e.ot]))
end
section
open Sx Go.RowKit
def gx(k t a b:Int)(nm ot:ByteArray):Bool:=match k with
 | 1=> dH 1 4294967296 32 t a b (nameB nm) ((ot.toList==[]))
 | 2=> dH 0 1099511627776 1099511627776 t a b ((nm.toList==[])) ((ot.toList==[]))
 | 3=> dH 0 4294967296 0 t a b ((nm.toList==[])) ((ot.toList==[]))
 | 4=> dH 1 12 0 t a b ((nm.toList==[])) ((ot.toList==[]))
 | 5=> dH 0 0 0 t a b (modB nm) (nameB ot)
 | 6=> dH 0 0 0 t a b (modB nm) (nameB ot)
 | 7=> dH 0 0 0 t a b (nameB nm) ((ot.toList==[]))
 | 8=> dH 0 0 0 t a b (nameB nm) ((ot.toList==[]))
 | 9=> dH 0 0 0 t a b ((nm.toList==[])) ((ot.toList==[]))
 | _=> true
def gy(k t a b:Int)(nm ot:ByteArray):Bool:=decide (1≤k∧k≤9∧nm.size≤1000000∧ot.size≤1000000) && !gx k t a b nm ot
end
section
open Sx Go.RowKit
theorem gB {v:ByteArray} (h:nameB v=true):Sp v.data.toList∧v.data.toList≠[]:=by
 unfold nameB at h
 rw [Bool.and_eq_true] at h
 obtain⟨h1,h2⟩:=h
 have h3:=of_decide_eq_true h1
 refine⟨fun c hc=> ?_,fun e=> ?_⟩
 ·have:=List.all_eq_true.1 h2 c hc
  unfold okc at this
  have:=of_decide_eq_true this
  omega
 ·rw [Lib.size_eq,e] at h3
  simp at h3
theorem ri {s:ByteArray} (h:modB s=true):Sp s.data.toList∧s.data.toList≠[]:=by
 unfold modB at h
 rw [Bool.and_eq_true] at h
 obtain⟨h1,h2⟩:=h
 have hc:0≤colon s:=by
  by_cases hc:0≤colon s
  ·exact hc
  ·unfold cE at h1;rw [aA hc] at h1;cases h1
 have e:cE s=(s.extract 0 (colon s).toNat,s.extract ((colon s).toNat+1) s.size,true):=by unfold cE;rw [aG hc]
 rw [e] at h2
 obtain⟨i,hi⟩:=Int.eq_ofNat_of_zero_le hc
 have hat:=(Lib.indexByte_some (l:=s.data.toList) (c:=58) (o:=i) hi).1
 rw [hi] at h2
 simp only [Int.toNat_natCast] at h2
 have ea:(s.extract 0 i).data.toList=s.data.toList.take i:=by rw [Lib.extract_eq];simp
 have eb:(s.extract (i+1) s.size).data.toList=s.data.toList.drop (i+1):=by
  rw [Lib.extract_eq]
  simp only [List.toList_toArray]
  exact List.take_of_length_le (by rw [List.length_drop,← Lib.size_eq];exact bz _)
 cases hn:nU (s.extract (i+1) s.size)with
 | none=> rw [hn] at h2;cases h2
 | some v=>
  rw [hn] at h2
  simp only [Bool.and_eq_true,decide_eq_true_eq] at h2
  obtain⟨⟨⟨v1,v2⟩,h3⟩,h4⟩:=h2
  have h5:=(gB h4).1
  rw [ea] at h5
  have h6:Lib.itoa v=s.data.toList.drop (i+1):=by
   have:=eq_of_beq h3
   rw [this,Lib.toList_data,eb]
  have hil:i < s.data.toList.length:=(aB hat).1
  have hat2:s.data.toList[i]=58:=(aB hat).2
  have hs:s.data.toList=s.data.toList.take i++58::s.data.toList.drop (i+1):=by
   conv=> lhs;rw [← List.take_append_drop i s.data.toList]
   rw [List.drop_eq_getElem_cons hil,hat2]
  refine⟨fun c hc=> ?_,fun e=> by rw [e] at hil;simp at hil⟩
  rw [hs] at hc
  rcases List.mem_append.1 hc with hc | hc
  ·exact h5 c hc
  ·rcases List.mem_cons.1 hc with rfl | hc
   ·decide
   ·rw [← h6] at hc;exact wQ v1 c hc
theorem fp {least fa fb t a b:Int} {p q:Bool} (h:dH least fa fb t a b p q=false):(0≤t∧t≤1099511627776)∧(least≤a∧a≤fa)∧(0≤b∧b≤fb)∧p=true∧q=true:=by
 unfold dH at h
 by_cases h1:t≥0
 ·by_cases h2:t≤1099511627776
  ·by_cases h3:a < least
   ·simp [h1,h2,h3] at h
   ·by_cases h4:a > fa
    ·simp [h1,h2,h3,h4] at h
    ·by_cases h5:b < 0
     ·simp [h1,h2,h3,h4,h5] at h
     ·by_cases h6:b > fb
      ·simp [h1,h2,h3,h4,h5,h6] at h
      ·cases p <;> cases q <;> simp [h1,h2,h3,h4,h5,h6] at h
       exact⟨⟨h1,h2⟩,⟨by omega,by omega⟩,⟨by omega,by omega⟩,rfl,rfl⟩
  ·simp [h1,h2] at h
 ·simp [h1] at h
def tq(k t a b:Int)(nm ot:ByteArray):Ev:=⟨k,t,a,b,nm.data.toList,ot.data.toList⟩
theorem eJ {v:ByteArray} (h:(v.toList==[])=true):v.data.toList=[]:=by
 rw [Lib.toList_data] at h
 exact eq_of_beq h
theorem fG:Sp []:=fun c hc=> by cases hc
theorem jv {k t a b:Int} {nm ot:ByteArray} (h:gy k t a b nm ot=true):Ax (tq k t a b nm ot)∧nm.size≤1000000∧ot.size≤1000000:=by
 unfold gy at h
 rw [Bool.and_eq_true] at h
 obtain⟨h1,h2⟩:=h
 obtain⟨k1,k2,k3,k4⟩:=of_decide_eq_true h1
 have h3:gx k t a b nm ot=false:=by simpa using h2
 refine⟨?_,k3,k4⟩
 have hc:k=1∨k=2∨k=3∨k=4∨k=5∨k=6∨k=7∨k=8∨k=9:=by omega
 unfold tq
 rcases hc with rfl | rfl | rfl | rfl | rfl | rfl | rfl | rfl | rfl
 ·obtain⟨q1,q2,q3,q4,q5⟩:=fp h3
  obtain⟨n1,n2⟩:=gB q4;have n3:=eJ q5;rw [n3];refine⟨?_,q1,?_,?_,?_,?_,n1,fG,?_,?_,?_,?_⟩
  all_goals dsimp only
  all_goals first | (constructor <;> omega) | (intro h;omega) | (intro _;assumption) | (intro _;rfl)
 ·obtain⟨q1,q2,q3,q4,q5⟩:=fp h3
  have n1:=eJ q4;have n3:=eJ q5;rw [n1,n3];refine⟨?_,q1,?_,?_,?_,?_,fG,fG,?_,?_,?_,?_⟩
  all_goals dsimp only
  all_goals first | (constructor <;> omega) | (intro h;omega) | (intro _;assumption) | (intro _;rfl)
 ·obtain⟨q1,q2,q3,q4,q5⟩:=fp h3
  have n1:=eJ q4;have n3:=eJ q5;rw [n1,n3];refine⟨?_,q1,?_,?_,?_,?_,fG,fG,?_,?_,?_,?_⟩
  all_goals dsimp only
  all_goals first | (constructor <;> omega) | (intro h;omega) | (intro _;assumption) | (intro _;rfl)
 ·obtain⟨q1,q2,q3,q4,q5⟩:=fp h3
  have n1:=eJ q4;have n3:=eJ q5;rw [n1,n3];refine⟨?_,q1,?_,?_,?_,?_,fG,fG,?_,?_,?_,?_⟩
  all_goals dsimp only
  all_goals first | (constructor <;> omega) | (intro h;omega) | (intro _;assumption) | (intro _;rfl)
 ·obtain⟨q1,q2,q3,q4,q5⟩:=fp h3
  obtain⟨n1,n2⟩:=ri q4;obtain⟨n3,n4⟩:=gB q5;refine⟨?_,q1,?_,?_,?_,?_,n1,n3,?_,?_,?_,?_⟩
  all_goals dsimp only
  all_goals first | (constructor <;> omega) | (intro h;omega) | (intro _;assumption) | (intro _;rfl)
 ·obtain⟨q1,q2,q3,q4,q5⟩:=fp h3
  obtain⟨n1,n2⟩:=ri q4;obtain⟨n3,n4⟩:=gB q5;refine⟨?_,q1,?_,?_,?_,?_,n1,n3,?_,?_,?_,?_⟩
  all_goals dsimp only
  all_goals first | (constructor <;> omega) | (intro h;omega) | (intro _;assumption) | (intro _;rfl)
 ·obtain⟨q1,q2,q3,q4,q5⟩:=fp h3
  obtain⟨n1,n2⟩:=gB q4;have n3:=eJ q5;rw [n3];refine⟨?_,q1,?_,?_,?_,?_,n1,fG,?_,?_,?_,?_⟩
  all_goals dsimp only
  all_goals first | (constructor <;> omega) | (intro h;omega) | (intro _;assumption) | (intro _;rfl)
 ·obtain⟨q1,q2,q3,q4,q5⟩:=fp h3
  obtain⟨n1,n2⟩:=gB q4;have n3:=eJ q5;rw [n3];refine⟨?_,q1,?_,?_,?_,?_,n1,fG,?_,?_,?_,?_⟩
  all_goals dsimp only
  all_goals first | (constructor <;> omega) | (intro h;omega) | (intro _;assumption) | (intro _;rfl)
 ·obtain⟨q1,q2,q3,q4,q5⟩:=fp h3
  have n1:=eJ q4;have n3:=eJ q5;rw [n1,n3];refine⟨?_,q1,?_,?_,?_,?_,fG,fG,?_,?_,?_,?_⟩
  all_goals dsimp only
  all_goals first | (constructor <;> omega) | (intro h;omega) | (intro _;assumption) | (intro _;rfl)
end
section
def b8(n:Nat):List Nat:=[n / 72057594037927936 % 256,n / 281474976710656 % 256,n / 1099511627776 % 256,n / 4294967296 % 256,n / 16777216 % 256,n / 65536 % 256,n / 256 % 256,n % 256]
def fH(e:Ev):List Nat:=e.k.toNat::(b8 e.t.toNat++(b8 e.a.toNat++(b8 e.b.toNat++(e.nm.length::(e.nm.map UInt8.toNat++(e.ot.length::e.ot.map UInt8.toNat))))))
end
section
open Go.RowKit
structure WQ(P:Program)(ops:Array Oper)(C:World→Prop)(Q:Act→Prop)(l:List Oper)(a:Act):Prop where
 out:wpQuiet P ops C Q l a
section
variable {P:Program} {ops:Array Oper} {C:World→Prop} {Q:Act→Prop} {a:Act} {o:Oper} {rest:List Oper} {j d:Nat} {want b:Bool} {v:Value}
theorem WQ.nil(h:Q a):WQ P ops C Q [] a:=⟨wpQuiet_nil h⟩
theorem WQ.skip(hg:o.guard=some (j,want))(hd:(ops[j]?).bind (·.dst)=some d)(hv:a.tmps[d]? =some (.bool b))(hb:(b==want)=false)(h:WQ P ops C Q rest (a.put o.dst undef)):WQ P ops C Q (o::rest) a:=⟨by
 have hw:Region.wanted o (yielded ops a.tmps)=false:=by
  unfold Region.wanted yielded
  rw [hg]
  dsimp only
  rw [hd,Option.bind_some,hv]
  cases b <;> cases want <;> first | rfl | cases hb
 unfold wpQuiet
 rw [hw]
 exact h.out⟩
theorem WQ.val(hg:o.guard=none)(v:Value)(hv:∀ w,C w→o.quietAt P a C w v)(h:WQ P ops C Q rest (a.put o.dst v)):WQ P ops C Q (o::rest) a:=⟨by
 have hw:Region.wanted o (yielded ops a.tmps)=true:=by unfold Region.wanted;rw [hg]
 unfold wpQuiet
 rw [hw]
 exact⟨v,hv,h.out⟩⟩
theorem WQ.valg(hg:o.guard=some (j,want))(hd:(ops[j]?).bind (·.dst)=some d)(hv:a.tmps[d]? =some (.bool want))(v:Value)(hq:∀ w,C w→o.quietAt P a C w v)(h:WQ P ops C Q rest (a.put o.dst v)):WQ P ops C Q (o::rest) a:=⟨by
 have hw:Region.wanted o (yielded ops a.tmps)=true:=by
  unfold Region.wanted yielded
  rw [hg]
  dsimp only
  rw [hd,Option.bind_some,hv]
  cases want <;> rfl
 unfold wpQuiet
 rw [hw]
 exact⟨v,hq,h.out⟩⟩
end
theorem aF {P:Program} {id:Nat} {Q:Exit→Act→World→Prop} {a:Act} {w:World} {l:List Oper} (hm:P.follows .mixedOrders=true)(hB:Region.lexB .any l.toArray=true)
  (h:WQ P l.toArray (fun W=> ∃ s:aC w,W=s.1) (fun a'=> ∀ w',(∃ s:aC w,w'=s.1)→Q .normal a' w') l a):(Code.region id l.toArray true).wp P Q a w:=cM hm hB h.out
theorem WQ.fin {P:Program} {ops:Array Oper} {C:World→Prop} {w:World} {Q:Exit→Act→World→Prop} {a:Act} (h:∀ W,Below w.heap.size w W→Q .normal a W):WQ P ops C (fun a'=> ∀ w',(∃ s:aC w,w'=s.1)→Q .normal a' w') [] a:=
 WQ.nil fun w' hw=> by obtain⟨s,rfl⟩:=hw;exact h s.1 s.2
end
end Go.Proofs.YtmpilgkfbibhlaaGreatDoor
