/-
 G0T
-/
import Derived.WalkSpells
import Derived.WalkLawsBesides
import Derived.Deep.RegionHeld3
import Derived.Test.YtmpilgkfbibhlaaGreatDoorRows
import Derived.Shelf.Strconv.Itoa4
import Derived.Shelf.Strings.OnBuilder
import Derived.Shelf.Bytes.WriteByte
import Derived.Shelf.Bytes.WriteString
import Derived.Shelf.Bytes.Bytes
import Derived.Shelf.Strconv.ErrVarAll
import Derived.Shelf.Strings.Shaped
import Derived.Shelf.Slices.Turned
import Derived.Shelf.Slices.Clone
import Derived.Shelf.SlicesE.Clone
import Derived.Shelf.SlicesE.DeleteFunc
set_option linter.unusedSimpArgs false
set_option linter.unusedVariables false
set_option maxRecDepth 100000
set_option maxHeartbeats 20000000
namespace Go.Proofs.YtmpilgkfbibhlaaGreatDoor
section
universe u
theorem aa {p:Prop} (h:p):Go.RowKit.Hid p:=Lib.hid h
theorem ar {n m k:Nat}:n < m→m≤k→n < k:=Nat.lt_of_lt_of_le
theorem bc {P:Program} {fn:Func} {R:Ending→World→Prop} {a:Act} {w:World} {v:Value} (hr:(results fn a.tmps).run P w=.ok v w)(hd:a.defers=[])(hR:R (.returned v) w):bodyPost P fn R .ret a w:=⟨hd,v,hr,hR⟩
theorem aB {α:Type u} {l:List α} {i:Nat} {a:α} (h:l[i]? =some a):∃ h:i < l.length,l[i]=a:=List.getElem?_eq_some_iff.1 h
theorem aJ {α:Type u} {l:List α} {i:Nat} {a:α} (e:l[i]? =some a):a∈l:=List.mem_of_getElem? e
theorem bh {α:Type u} {l:List α} {i:Nat} (h:i < l.length):l[i]? =some l[i]:=List.getElem?_eq_getElem h
theorem bv {p:Prop} [inst:Decidable p]:¬p→decide p=false:=decide_eq_false
theorem bF {p:Prop} [inst:Decidable p]:p→decide p=true:=decide_eq_true
theorem bD {α:Type u} {a b:α}:some a=some b→a=b:=Option.some.inj
theorem ba {a b:Prop} (left:a)(right:b):a∧b:=And.intro left right
theorem bz(n:Nat):n≤n:=Nat.le_refl n
theorem ax {a b:Prop} (h:a):a∨b:=Or.inl h
theorem ay {a b:Prop} (h:b):a∨b:=Or.inr h
theorem aA {c:Prop} {h:Decidable c} (hnc:¬c){α:Sort u} {t e:α}:ite c t e=e:=if_neg hnc
theorem aG {c:Prop} {h:Decidable c} (hc:c){α:Sort u} {t e:α}:ite c t e=t:=if_pos hc
theorem bX {α:Type u} {β:Type u} {f:α→β} {l:List α} {i:Nat}:(List.map f l)[i]? =Option.map f l[i]?:=List.getElem?_map
theorem cY {α:Type u} {l l2:List α}:(l++l2).length=l.length+l2.length:=List.length_append
theorem cC(n:Int)(h:-9223372036854775808≤n∧n≤9223372036854775807):IntKind.i64.wrap n=n:=Go.IntWalk.i64_in n h
theorem di {α:Type u} {l:List α} {i:Nat} {a:α}:l.getD i a=l[i]?.getD a:=List.getD_eq_getElem?_getD
theorem eF {α:Type u} {l:List α} (h:l.length=0):l=[]:=List.length_eq_zero_iff.1 h
theorem bG {w:World} {b:Nat} {t:TypeId} {fr:Nat×Nat} {v0 v1 v2 v3 v4 v5:Value} (h:w.heap[b]? =some (.cells #[v0,v1,v2,v3,v4,v5] t fr)):w.cell? ⟨b,0,none⟩=some v0∧w.cell? ⟨b,1,none⟩=some v1∧w.cell? ⟨b,2,none⟩=some v2∧w.cell? ⟨b,3,none⟩=some v3∧w.cell? ⟨b,4,none⟩=some v4∧w.cell? ⟨b,5,none⟩=some v5:=⟨by simp [World.cell?,h],by simp [World.cell?,h],by simp [World.cell?,h],by simp [World.cell?,h],by simp [World.cell?,h],by simp [World.cell?,h]⟩
theorem e7 {w:World} {b:Nat} {t:TypeId} {fr:Nat×Nat} {v0 v1 v2 v3 v4 v5 v6 v7 v8 v9 v10 v11 v12 v13 v14:Value} (h:w.heap[b]? =some (.cells #[v0,v1,v2,v3,v4,v5,v6,v7,v8,v9,v10,v11,v12,v13,v14] t fr)):w.cell? ⟨b,0,none⟩=some v0∧w.cell? ⟨b,1,none⟩=some v1∧w.cell? ⟨b,2,none⟩=some v2∧w.cell? ⟨b,3,none⟩=some v3∧w.cell? ⟨b,4,none⟩=some v4∧w.cell? ⟨b,5,none⟩=some v5∧w.cell? ⟨b,6,none⟩=some v6∧w.cell? ⟨b,7,none⟩=some v7∧w.cell? ⟨b,8,none⟩=some v8∧w.cell? ⟨b,9,none⟩=some v9∧w.cell? ⟨b,10,none⟩=some v10∧w.cell? ⟨b,11,none⟩=some v11∧w.cell? ⟨b,12,none⟩=some v12∧w.cell? ⟨b,13,none⟩=some v13∧w.cell? ⟨b,14,none⟩=some v14:=⟨by simp [World.cell?,h],by simp [World.cell?,h],by simp [World.cell?,h],by simp [World.cell?,h],by simp [World.cell?,h],by simp [World.cell?,h],by simp [World.cell?,h],by simp [World.cell?,h],by simp [World.cell?,h],by simp [World.cell?,h],by simp [World.cell?,h],by simp [World.cell?,h],by simp [World.cell?,h],by simp [World.cell?,h],by simp [World.cell?,h]⟩
theorem aH {P:Program} {fn:Func} {R:Ending→World→Prop} {a:Act} {w:World} {v:Value} {t:Tmp} (h:fn.results=#[.tmp t])(hv:a.tmps.getD t undef=v)(hd:a.defers=[])(hR:R (.returned v) w):bodyPost P fn R .ret a w:=
  bodyPost_ret (v:=v) (by rw [results_tmp h,hv]) hd hR
theorem dP {P:Program} {fn:Func} {R:Ending→World→Prop} {a:Act} {w:World} {v:Value} {t t2:Tmp} (h:fn.results=#[.tmp t,.tmp t2])(hv:Value.tuple #[a.tmps.getD t undef,a.tmps.getD t2 undef]=v)(hd:a.defers=[])(hR:R (.returned v) w):bodyPost P fn R .ret a w:=
  bodyPost_ret (v:=v) (by rw [results_tmp2 h,hv]) hd hR
theorem aU {α:Type} (l:List α)(i:Nat)(a:α):l.toArray.setIfInBounds i a=(l.set i a).toArray:=List.setIfInBounds_toArray ..
theorem aV {α:Type} (a b:α)(l:List α):(a::l).set 0 b=b::l:=rfl
theorem aW {α:Type} (a b:α)(l:List α)(n:Nat):(a::l).set (n+1) b=a::l.set n b:=rfl
theorem aX {α:Type} (n:Nat)(a:α):([]:List α).set n a=[]:=rfl
theorem dN {α:Type} {l:List α} {n:Nat} (h:l.length=n+1):∃ a l',l=a::l'∧l'.length=n:=by
 cases l with
 | nil=> cases h
 | cons a l'=> exact⟨a,l',rfl,Nat.succ.inj h⟩
theorem jk {α β:Type} {l:List α} {p0:β} (h:l.length=[p0].length):∃ x0,l=[x0]:=by
 obtain⟨x0,l0,rfl,h0⟩:=dN h
 obtain rfl:=List.length_eq_zero_iff.1 h0
 exact⟨x0,rfl⟩
theorem cd {α β:Type} {l:List α} {p0 p1:β} (h:l.length=[p0,p1].length):∃ x0 x1,l=[x0,x1]:=by
 obtain⟨x0,l0,rfl,h0⟩:=dN h
 obtain⟨x1,l1,rfl,h1⟩:=dN h0
 obtain rfl:=List.length_eq_zero_iff.1 h1
 exact⟨x0,x1,rfl⟩
theorem fe {α β:Type} {l:List α} {p0 p1 p2:β} (h:l.length=[p0,p1,p2].length):∃ x0 x1 x2,l=[x0,x1,x2]:=by
 obtain⟨x0,l0,rfl,h0⟩:=dN h
 obtain⟨x1,l1,rfl,h1⟩:=dN h0
 obtain⟨x2,l2,rfl,h2⟩:=dN h1
 obtain rfl:=List.length_eq_zero_iff.1 h2
 exact⟨x0,x1,x2,rfl⟩
theorem cK {α β:Type} {l:List α} {p0 p1 p2 p3:β} (h:l.length=[p0,p1,p2,p3].length):∃ x0 x1 x2 x3,l=[x0,x1,x2,x3]:=by
 obtain⟨x0,l0,rfl,h0⟩:=dN h
 obtain⟨x1,l1,rfl,h1⟩:=dN h0
 obtain⟨x2,l2,rfl,h2⟩:=dN h1
 obtain⟨x3,l3,rfl,h3⟩:=dN h2
 obtain rfl:=List.length_eq_zero_iff.1 h3
 exact⟨x0,x1,x2,x3,rfl⟩
theorem gk {α β:Type} {l:List α} {p0 p1 p2 p3 p4:β} (h:l.length=[p0,p1,p2,p3,p4].length):∃ x0 x1 x2 x3 x4,l=[x0,x1,x2,x3,x4]:=by
 obtain⟨x0,l0,rfl,h0⟩:=dN h
 obtain⟨x1,l1,rfl,h1⟩:=dN h0
 obtain⟨x2,l2,rfl,h2⟩:=dN h1
 obtain⟨x3,l3,rfl,h3⟩:=dN h2
 obtain⟨x4,l4,rfl,h4⟩:=dN h3
 obtain rfl:=List.length_eq_zero_iff.1 h4
 exact⟨x0,x1,x2,x3,x4,rfl⟩
theorem jl {α β:Type} {l:List α} {p0 p1 p2 p3 p4 p5:β} (h:l.length=[p0,p1,p2,p3,p4,p5].length):∃ x0 x1 x2 x3 x4 x5,l=[x0,x1,x2,x3,x4,x5]:=by
 obtain⟨x0,l0,rfl,h0⟩:=dN h
 obtain⟨x1,l1,rfl,h1⟩:=dN h0
 obtain⟨x2,l2,rfl,h2⟩:=dN h1
 obtain⟨x3,l3,rfl,h3⟩:=dN h2
 obtain⟨x4,l4,rfl,h4⟩:=dN h3
 obtain⟨x5,l5,rfl,h5⟩:=dN h4
 obtain rfl:=List.length_eq_zero_iff.1 h5
 exact⟨x0,x1,x2,x3,x4,x5,rfl⟩
theorem oy {α β:Type} {l:List α} {p0 p1 p2 p3 p4 p5 p6:β} (h:l.length=[p0,p1,p2,p3,p4,p5,p6].length):∃ x0 x1 x2 x3 x4 x5 x6,l=[x0,x1,x2,x3,x4,x5,x6]:=by
 obtain⟨x0,l0,rfl,h0⟩:=dN h
 obtain⟨x1,l1,rfl,h1⟩:=dN h0
 obtain⟨x2,l2,rfl,h2⟩:=dN h1
 obtain⟨x3,l3,rfl,h3⟩:=dN h2
 obtain⟨x4,l4,rfl,h4⟩:=dN h3
 obtain⟨x5,l5,rfl,h5⟩:=dN h4
 obtain⟨x6,l6,rfl,h6⟩:=dN h5
 obtain rfl:=List.length_eq_zero_iff.1 h6
 exact⟨x0,x1,x2,x3,x4,x5,x6,rfl⟩
theorem mE {α β:Type} {l:List α} {p0 p1 p2 p3 p4 p5 p6 p7:β} (h:l.length=[p0,p1,p2,p3,p4,p5,p6,p7].length):∃ x0 x1 x2 x3 x4 x5 x6 x7,l=[x0,x1,x2,x3,x4,x5,x6,x7]:=by
 obtain⟨x0,l0,rfl,h0⟩:=dN h
 obtain⟨x1,l1,rfl,h1⟩:=dN h0
 obtain⟨x2,l2,rfl,h2⟩:=dN h1
 obtain⟨x3,l3,rfl,h3⟩:=dN h2
 obtain⟨x4,l4,rfl,h4⟩:=dN h3
 obtain⟨x5,l5,rfl,h5⟩:=dN h4
 obtain⟨x6,l6,rfl,h6⟩:=dN h5
 obtain⟨x7,l7,rfl,h7⟩:=dN h6
 obtain rfl:=List.length_eq_zero_iff.1 h7
 exact⟨x0,x1,x2,x3,x4,x5,x6,x7,rfl⟩
theorem mF {α β:Type} {l:List α} {p0 p1 p2 p3 p4 p5 p6 p7 p8:β} (h:l.length=[p0,p1,p2,p3,p4,p5,p6,p7,p8].length):∃ x0 x1 x2 x3 x4 x5 x6 x7 x8,l=[x0,x1,x2,x3,x4,x5,x6,x7,x8]:=by
 obtain⟨x0,l0,rfl,h0⟩:=dN h
 obtain⟨x1,l1,rfl,h1⟩:=dN h0
 obtain⟨x2,l2,rfl,h2⟩:=dN h1
 obtain⟨x3,l3,rfl,h3⟩:=dN h2
 obtain⟨x4,l4,rfl,h4⟩:=dN h3
 obtain⟨x5,l5,rfl,h5⟩:=dN h4
 obtain⟨x6,l6,rfl,h6⟩:=dN h5
 obtain⟨x7,l7,rfl,h7⟩:=dN h6
 obtain⟨x8,l8,rfl,h8⟩:=dN h7
 obtain rfl:=List.length_eq_zero_iff.1 h8
 exact⟨x0,x1,x2,x3,x4,x5,x6,x7,x8,rfl⟩
theorem A6 {α β:Type} {l:List α} {p0 p1 p2 p3 p4 p5 p6 p7 p8 p9:β} (h:l.length=[p0,p1,p2,p3,p4,p5,p6,p7,p8,p9].length):∃ x0 x1 x2 x3 x4 x5 x6 x7 x8 x9,l=[x0,x1,x2,x3,x4,x5,x6,x7,x8,x9]:=by
 obtain⟨x0,l0,rfl,h0⟩:=dN h
 obtain⟨x1,l1,rfl,h1⟩:=dN h0
 obtain⟨x2,l2,rfl,h2⟩:=dN h1
 obtain⟨x3,l3,rfl,h3⟩:=dN h2
 obtain⟨x4,l4,rfl,h4⟩:=dN h3
 obtain⟨x5,l5,rfl,h5⟩:=dN h4
 obtain⟨x6,l6,rfl,h6⟩:=dN h5
 obtain⟨x7,l7,rfl,h7⟩:=dN h6
 obtain⟨x8,l8,rfl,h8⟩:=dN h7
 obtain⟨x9,l9,rfl,h9⟩:=dN h8
 obtain rfl:=List.length_eq_zero_iff.1 h9
 exact⟨x0,x1,x2,x3,x4,x5,x6,x7,x8,x9,rfl⟩
theorem A7 {α β:Type} {l:List α} {p0 p1 p2 p3 p4 p5 p6 p7 p8 p9 p10:β} (h:l.length=[p0,p1,p2,p3,p4,p5,p6,p7,p8,p9,p10].length):∃ x0 x1 x2 x3 x4 x5 x6 x7 x8 x9 x10,l=[x0,x1,x2,x3,x4,x5,x6,x7,x8,x9,x10]:=by
 obtain⟨x0,l0,rfl,h0⟩:=dN h
 obtain⟨x1,l1,rfl,h1⟩:=dN h0
 obtain⟨x2,l2,rfl,h2⟩:=dN h1
 obtain⟨x3,l3,rfl,h3⟩:=dN h2
 obtain⟨x4,l4,rfl,h4⟩:=dN h3
 obtain⟨x5,l5,rfl,h5⟩:=dN h4
 obtain⟨x6,l6,rfl,h6⟩:=dN h5
 obtain⟨x7,l7,rfl,h7⟩:=dN h6
 obtain⟨x8,l8,rfl,h8⟩:=dN h7
 obtain⟨x9,l9,rfl,h9⟩:=dN h8
 obtain⟨x10,l10,rfl,h10⟩:=dN h9
 obtain rfl:=List.length_eq_zero_iff.1 h10
 exact⟨x0,x1,x2,x3,x4,x5,x6,x7,x8,x9,x10,rfl⟩
theorem A8 {α β:Type} {l:List α} {p0 p1 p2 p3 p4 p5 p6 p7 p8 p9 p10 p11:β} (h:l.length=[p0,p1,p2,p3,p4,p5,p6,p7,p8,p9,p10,p11].length):∃ x0 x1 x2 x3 x4 x5 x6 x7 x8 x9 x10 x11,l=[x0,x1,x2,x3,x4,x5,x6,x7,x8,x9,x10,x11]:=by
 obtain⟨x0,l0,rfl,h0⟩:=dN h
 obtain⟨x1,l1,rfl,h1⟩:=dN h0
 obtain⟨x2,l2,rfl,h2⟩:=dN h1
 obtain⟨x3,l3,rfl,h3⟩:=dN h2
 obtain⟨x4,l4,rfl,h4⟩:=dN h3
 obtain⟨x5,l5,rfl,h5⟩:=dN h4
 obtain⟨x6,l6,rfl,h6⟩:=dN h5
 obtain⟨x7,l7,rfl,h7⟩:=dN h6
 obtain⟨x8,l8,rfl,h8⟩:=dN h7
 obtain⟨x9,l9,rfl,h9⟩:=dN h8
 obtain⟨x10,l10,rfl,h10⟩:=dN h9
 obtain⟨x11,l11,rfl,h11⟩:=dN h10
 obtain rfl:=List.length_eq_zero_iff.1 h11
 exact⟨x0,x1,x2,x3,x4,x5,x6,x7,x8,x9,x10,x11,rfl⟩
end
section
open Go.RowKit
/-! Contracts that leave the world alone, in a region that draws its order (behind a draw, or behind two). -/
/-! What a call leaves of memory. -/
theorem aK {w b:World} (h:Below w.heap.size w b)(o:Obj):Below w.heap.size w (b.alloc o):=h.alloc h.size o
theorem ai {w b c:World} (h:Below w.heap.size w b)(k:Below b.heap.size b c):Below w.heap.size w c:=h.trans (k.mono h.size)
theorem cB {w b:World} (h:Below w.heap.size w b){p:Addr} (hp:w.heap.size≤p.block)(v:Value):Below w.heap.size w (b.setCell p v):=h.setCell hp v
theorem bg {B:Nat} {w b:World} (h:Below B w b):Below B w b.drew:=h.drew
theorem aI {B:Nat} {w b:World} {n:Nat} (h:Below B w b):Below B w (b.drewN n):=⟨h.os,h.tape,h.output,h.size,h.block⟩
/-! A block that is known whole: behind a store, a new block, a draw. -/
theorem bn {w:World} {b o:Nat} {v:Value} {cs:Array Value} {t:TypeId} {fr:Nat×Nat} (h:w.heap[b]? =some (.cells cs t fr)):
  (w.setCell ⟨b,o,none⟩ v).heap[b]? =some (.cells (cs.setIfInBounds o v) t fr):=by
 simp [World.setCell,Array.getElem?_modify,h]
theorem bA {w:World} {b:Nat} {p:Addr} {v:Value} {x:Obj} (h:w.heap[b]? =some x)(hne:b≠p.block):(w.setCell p v).heap[b]? =some x:=
 (Below.heap_setCell w p v b hne).trans h
theorem ak {w:World} {b:Nat} {x:Obj} (h:w.heap[b]? =some x):b < w.heap.size:=by
 rcases Nat.lt_or_ge b w.heap.size with h1 | h1
 ·exact h1
 ·rw [Array.getElem?_eq_none h1] at h;cases h
theorem au(w:World)(o:Obj):(w.alloc o).heap[w.heap.size]? =some o:=by
 show(w.heap.push o)[w.heap.size]? =_
 simp
theorem rO {B:Nat} {w w1:World} {b:Nat} {x:Obj} (h:w.heap[b]? =some x)(hb:Below B w w1)(hB:b < B):w1.heap[b]? =some x:=(hb.block b hB).trans h
theorem an {w w1:World} {b:Nat} {x:Obj} (h:w.heap[b]? =some x)(hb:Below w.heap.size w w1):w1.heap[b]? =some x:=rO h hb (ak h)
theorem ah {w:World} {b o:Nat} {cs:Array Value} {t:TypeId} {fr:Nat×Nat} {v:Value} (h:w.heap[b]? =some (.cells cs t fr))(hv:cs[o]? =some v):w.cell? ⟨b,o,none⟩=some v:=by
 simp [World.cell?,h,hv]
theorem aR {w:World} {b o:Nat} {cs:Array Value} {t:TypeId} (h:w.heap[b]? =some (.cells cs t (0,0))):w.frozen? ⟨b,o,none⟩=false:=by
 simp [World.frozen?,h]
/-! Facts on cells that a region keeps: behind a call, a new block, a draw. -/
theorem cell_lt {W:World} {p:Addr} {v:Value} (h:W.cell? p=some v):p.block < W.heap.size:=by
 rcases Nat.lt_or_ge p.block W.heap.size with h1 | h1
 ·exact h1
 ·simp [World.cell?,Array.getElem?_eq_none h1] at h
theorem ag {W w2:World} {p:Addr} {v:Value} (h:W.cell? p=some v)(hb:Below W.heap.size W w2):w2.cell? p=some v:=(hb.cell (cell_lt h)).trans h
end
section
namespace Sx
open Go.RowKit
def ww:String:=((Rows.passportVerifiesRow.laid[2]?).map (·.1)).getD ""
def ym:String:=((Rows.passportVerifiesRow.laid[3]?).map (·.1)).getD ""
def yq:String:=((Rows.passportVerifiesRow.laid[4]?).map (·.1)).getD ""
def Ar:String:=(Rows.passportVerifiesRow.named[0]?).getD ""
noncomputable def powG:Nat:=(Tryz.prog.globalNamed ww).getD 0
noncomputable def rngG:Nat:=(Tryz.prog.globalNamed ym).getD 0
noncomputable def synG:Nat:=(Tryz.prog.globalNamed yq).getD 0
noncomputable def wy:Nat:=(Tryz.prog.globalNamed Ar).getD 0
theorem qT:Tryz.prog.globalNamed ww=some powG:=by kernel_rfl
theorem nM:Tryz.prog.globalNamed ym=some rngG:=by kernel_rfl
theorem nN:Tryz.prog.globalNamed yq=some synG:=by kernel_rfl
noncomputable def Gs:List Nat:=[powG,rngG,synG,wy]
def ErrAt(w:World)(n:String):Prop:=∃ t v,w.var? Tryz.prog n=some #[.iface t v]
def zM(w:World):Prop:=∃ m,w.cell? ⟨wy,0,none⟩=some (.int .i64 m)
def ir(w:World):Prop:=Lib.TabIs Tryz.prog w ww .u64 Lib.pow10Tab∧ErrAt w ym∧ErrAt w yq∧zM w
theorem ir.tab {w:World} (h:ir w):Lib.TabIs Tryz.prog w ww .u64 Lib.pow10Tab:=h.1
theorem ll {w w':World} {n:String} {g:Nat} {cs:Array Value} (hg:Tryz.prog.globalNamed n=some g)(h:w.var? Tryz.prog n=some cs)(k:w'.heap[g]? =w.heap[g]?):w'.var? Tryz.prog n=some cs:=by
 unfold World.var? at h ⊢
 rw [hg] at h ⊢
 simp only [Option.bind_some] at h ⊢
 rw [k];exact h
theorem px {w:World} {n:String} {g:Nat} {cs:Array Value} (hg:Tryz.prog.globalNamed n=some g)(h:w.var? Tryz.prog n=some cs):g < w.heap.size:=by
 unfold World.var? at h
 rw [hg] at h
 simp only [Option.bind_some] at h
 rcases Nat.lt_or_ge g w.heap.size with h1 | h1
 ·exact h1
 ·rw [Array.getElem?_eq_none h1] at h;cases h
theorem ir.kept {w w':World} (h:ir w)(k:∀ g∈Gs,w'.heap[g]? =w.heap[g]?):ir w':=by
 obtain⟨h1,⟨t2,v2,h2⟩,⟨t3,v3,h3⟩,⟨m,h4⟩⟩:=h
 have k1:=k powG (by unfold Gs;simp)
 have k2:=k rngG (by unfold Gs;simp)
 have k3:=k synG (by unfold Gs;simp)
 have k4:=k wy (by unfold Gs;simp)
 exact⟨ll qT h1 k1,⟨t2,v2,ll nM h2 k2⟩,⟨t3,v3,ll nN h3 k3⟩,⟨m,(World.cell?_of_block (w:=w) (a:=⟨wy,0,none⟩) k4).trans h4⟩⟩
def zN(M:Nat→Prop)(w:World):Prop:=ir w∧∀ g∈Gs,¬ M g∧g < w.heap.size
def dn(w:World):Prop:=zN (fun k=> w.heap.size≤k) w
theorem zO {w:World} (h:ir w):dn w:=⟨h,fun g hg=> by
 obtain⟨h1,⟨t2,v2,h2⟩,⟨t3,v3,h3⟩,⟨m,h4⟩⟩:=h
 have hlt:g < w.heap.size:=by
  unfold Gs at hg
  simp only [List.mem_cons,List.not_mem_nil,or_false] at hg
  rcases hg with rfl | rfl | rfl | rfl
  ·exact px qT h1
  ·exact px nM h2
  ·exact px nN h3
  ·exact World.block_lt_of_cell? _ _ h4
 exact⟨by omega,hlt⟩⟩
theorem dV {w w':World} (h:dn w)(hb:Below w.heap.size w w'):dn w':=
 ⟨h.1.kept fun g hg=> hb.block g (h.2 g hg).2,fun g hg=> ⟨by have:=(h.2 g hg).2;have:=hb.size;omega,ar (h.2 g hg).2 hb.size⟩⟩
end Sx
end
section
open Sx Go.RowKit
theorem tA(k t a b:Int)(nm ot:ByteArray)(by_ pad head tag:Int)(k' t' a' b':Int)(nm' ot':ByteArray)(by' pad' head' tag':Int)(W:World):(Op.equalIn 10000 31 (.agg #[.int .i64 k,.int .i64 t,.int .i64 a,.int .i64 b,.string nm,.string ot,.int .i64 by_,.int .i64 pad,.int .u64 head,.int .u64 tag])
  (.agg #[.int .i64 k',.int .i64 t',.int .i64 a',.int .i64 b',.string nm',.string ot',.int .i64 by',.int .i64 pad',.int .u64 head',.int .u64 tag'])).run Tryz.prog W=.ok (((k==k') && ((t==t') && ((a==a') && ((b==b') && ((nm==nm') && (ot==ot')))))) && ((by_==by') && ((pad==pad') && ((head==head') && (tag==tag'))))) W:=by
 have u3:=Tryz.underlying3
 have a3:=Tryz.isAgg3
 have z3:=Tryz.sizeOf3
 have u4:=Tryz.underlying22
 have a4:=Tryz.isAgg22
 have z4:=Tryz.sizeOf22
 have a5:=Tryz.isAgg29
 have z5:=Tryz.sizeOf29
 have hS:Tryz.prog.underlying 31=some (.struct (Tryz.prog.fieldsOf 31)):=by kernel_rfl
 rw [show(10000:Nat)=9999+1 from rfl,run_equalIn_agg W 9999 31 _ _ hS (by kernel_rfl)]
 simp only [Program.fieldsOf,Tryz.underlying31]
 have u5:=Tryz.underlying9
 have u6:=Tryz.underlying2
 rw [beq_toListBytes nm,beq_toListBytes ot]
 go_simp
 by_cases h1:k=k' <;> (try (simp [h1];done))
 by_cases h2:t=t' <;> (try (simp [h1,h2];done))
 by_cases h3:a=a' <;> (try (simp [h1,h2,h3];done))
 by_cases h4:b=b' <;> (try (simp [h1,h2,h3,h4];done))
 by_cases h5:nm.toList=nm'.toList <;> (try (simp [h5];done))
 by_cases h6:ot.toList=ot'.toList <;> (try (simp [h6];done))
 by_cases h7:by_=by' <;> (try (simp [h7];done))
 by_cases h8:pad=pad' <;> (try (simp [h8];done))
 by_cases h9:head=head' <;> (try (simp [h9];done))
 by_cases h10:tag=tag' <;> simp [h1,h2,h3,h4,h5,h6,h7,h8,h9,h10]
end
section
open Go.Shelf
def lays110_ren:Go.Shelf.Ren:=⟨fun | 110=> 99 | 109=> 135 | n=> n,fun | 31=> 47 | 9=> 9 | 4=> 4 | 3=> 3 | 0=> 0 | n=> n,fun | n=> n⟩
theorem qU:Go.Proofs.Lays.n110 Tryz.prog lays110_ren:={
 mixed:=by kernel_rfl
 f109:=Tryz.func135.trans (congrArg some (by kernel_rfl))
 f110:=Tryz.func99.trans (congrArg some (by kernel_rfl))
 t0:=Tryz.underlying0
 a0:=Tryz.isAgg0
 z0:=Tryz.sizeOf0
 v0:=Tryz.zeroValue0
 t3:=Tryz.underlying3
 a3:=Tryz.isAgg3
 z3:=Tryz.sizeOf3
 v3:=Tryz.zeroValue3
 t4:=Tryz.underlying4
 a4:=Tryz.isAgg4
 z4:=Tryz.sizeOf4
 v4:=Tryz.zeroValue4
 t9:=Tryz.underlying9
 a9:=Tryz.isAgg9
 z9:=Tryz.sizeOf9
 v9:=Tryz.zeroValue9
 t31:=Tryz.underlying47
 a31:=Tryz.isAgg47
 z31:=Tryz.sizeOf47
 v31:=Tryz.zeroValue47 }
def laysNm216_ren:Go.Shelf.Ren:=⟨fun | 16=> 71 | n=> n,fun | 24=> 47 | 9=> 9 | 4=> 4 | n=> n,fun | n=> n⟩
theorem rP:Go.Proofs.Lays2.n16 Tryz.prog laysNm216_ren:={
 mixed:=by kernel_rfl
 f16:=Tryz.func71.trans (congrArg some (by kernel_rfl))
 t4:=Tryz.underlying4
 a4:=Tryz.isAgg4
 z4:=Tryz.sizeOf4
 v4:=Tryz.zeroValue4
 t9:=Tryz.underlying9
 a9:=Tryz.isAgg9
 z9:=Tryz.sizeOf9
 v9:=Tryz.zeroValue9
 t24:=Tryz.underlying47
 a24:=Tryz.isAgg47
 z24:=Tryz.sizeOf47
 v24:=Tryz.zeroValue47
 i9:=by kernel_rfl }
def laysSlE041_f69_ren:Go.Shelf.Ren:=⟨fun | 41=> 69 | n=> n,fun | 22=> 83 | 23=> 22 | 4=> 4 | n=> n,fun | n=> n⟩
theorem iC:Go.Proofs.SlLaysE0.n41 Tryz.prog laysSlE041_f69_ren:={
 mixed:=by kernel_rfl
 f41:=⟨Tryz.f69.name,by decide,Tryz.func69.trans (congrArg some (by kernel_rfl))⟩
 t4:=Tryz.underlying4
 a4:=Tryz.isAgg4
 z4:=Tryz.sizeOf4
 v4:=Tryz.zeroValue4
 t22:=Tryz.underlying83
 a22:=Tryz.isAgg83
 z22:=Tryz.sizeOf83
 v22:=Tryz.zeroValue83 }
def laysSlE041_f71_ren:Go.Shelf.Ren:=⟨fun | 41=> 71 | n=> n,fun | 22=> 47 | 23=> 9 | 4=> 4 | n=> n,fun | n=> n⟩
theorem iD:Go.Proofs.SlLaysE0.n41 Tryz.prog laysSlE041_f71_ren:={
 mixed:=by kernel_rfl
 f41:=⟨Tryz.f71.name,by decide,Tryz.func71.trans (congrArg some (by kernel_rfl))⟩
 t4:=Tryz.underlying4
 a4:=Tryz.isAgg4
 z4:=Tryz.sizeOf4
 v4:=Tryz.zeroValue4
 t22:=Tryz.underlying47
 a22:=Tryz.isAgg47
 z22:=Tryz.sizeOf47
 v22:=Tryz.zeroValue47 }
def laysSlH8_f93_ren:Go.Shelf.Ren:=⟨fun | 8=> 93 | 6=> 132 | n=> n,fun | 22=> 83 | 23=> 22 | 25=> 157 | 4=> 4 | 3=> 3 | 0=> 0 | n=> n,fun | n=> n⟩
theorem jG:Go.Proofs.SlLaysH.n8 Tryz.prog laysSlH8_f93_ren:={
 mixed:=by kernel_rfl
 f6:=⟨Tryz.f132.name,by decide,Tryz.func132.trans (congrArg some (by kernel_rfl))⟩
 f8:=⟨Tryz.f93.name,by decide,Tryz.func93.trans (congrArg some (by kernel_rfl))⟩
 t0:=Tryz.underlying0
 a0:=Tryz.isAgg0
 z0:=Tryz.sizeOf0
 v0:=Tryz.zeroValue0
 t3:=Tryz.underlying3
 a3:=Tryz.isAgg3
 z3:=Tryz.sizeOf3
 v3:=Tryz.zeroValue3
 t4:=Tryz.underlying4
 a4:=Tryz.isAgg4
 z4:=Tryz.sizeOf4
 v4:=Tryz.zeroValue4
 t22:=Tryz.underlying83
 a22:=Tryz.isAgg83
 z22:=Tryz.sizeOf83
 v22:=Tryz.zeroValue83
 a23:=Tryz.isAgg22
 z23:=Tryz.sizeOf22
 t25:=Tryz.underlying157
 a25:=Tryz.isAgg157
 z25:=Tryz.sizeOf157
 v25:=Tryz.zeroValue157 }
def laysSlH10_f90_ren:Go.Shelf.Ren:=⟨fun | 10=> 90 | 6=> 131 | n=> n,fun | 22=> 47 | 23=> 9 | 25=> 56 | 3=> 3 | 4=> 4 | 0=> 0 | n=> n,fun | n=> n⟩
theorem jm:Go.Proofs.SlLaysH.n10 Tryz.prog laysSlH10_f90_ren:={
 mixed:=by kernel_rfl
 f6:=⟨Tryz.f131.name,by decide,Tryz.func131.trans (congrArg some (by kernel_rfl))⟩
 f10:=⟨Tryz.f90.name,by decide,Tryz.func90.trans (congrArg some (by kernel_rfl))⟩
 t0:=Tryz.underlying0
 a0:=Tryz.isAgg0
 z0:=Tryz.sizeOf0
 v0:=Tryz.zeroValue0
 t3:=Tryz.underlying3
 a3:=Tryz.isAgg3
 z3:=Tryz.sizeOf3
 v3:=Tryz.zeroValue3
 t4:=Tryz.underlying4
 a4:=Tryz.isAgg4
 z4:=Tryz.sizeOf4
 v4:=Tryz.zeroValue4
 t22:=Tryz.underlying47
 a22:=Tryz.isAgg47
 z22:=Tryz.sizeOf47
 v22:=Tryz.zeroValue47
 a23:=Tryz.isAgg9
 z23:=Tryz.sizeOf9
 t25:=Tryz.underlying56
 a25:=Tryz.isAgg56
 z25:=Tryz.sizeOf56
 v25:=Tryz.zeroValue56 }
end
section
open Go
abbrev bQ:=Int×Int×Int×Int×ByteArray×ByteArray
def fS(a b:ByteArray):Bool:=a.toList==b.toList
theorem i6 {a b:ByteArray}:fS a b=true↔a=b:=by
 unfold fS
 rw [Lib.toList_data,Lib.toList_data]
 constructor
 ·intro h
  have h':a.data.toList=b.data.toList:=by simpa using h
  obtain⟨⟨x⟩⟩:=a
  obtain⟨⟨y⟩⟩:=b
  have h'':x=y:=h'
  rw [h'']
 ·rintro rfl;simp
def modN(nm:ByteArray)(i:Nat):ByteArray:=nm++⟨#[58]⟩++⟨(Lib.itoa (i:Int)).toArray⟩
def dropT(l:List ByteArray)(s:ByteArray):List ByteArray:=l.filter fun t=> !(fS t s)
def hasT(l:List ByteArray)(s:ByteArray):Bool:=l.any fun t=> fS t s
def dj(name:ByteArray)(l:List ByteArray):bQ→List ByteArray
 | (k,_,_,b,nm,_)=> if k=1 then l++(List.range b.toNat).map (modN name)else if k=5 then l++[nm] else if k=6 then dropT l nm else l
def eG(l:List ByteArray):bQ→List ByteArray
 | (k,_,_,_,nm,_)=> if k=7 then l++[nm] else if k=8 then dropT l nm else l
def modsOf(name:ByteArray)(h:List bQ):List ByteArray:=h.foldl (dj name) []
def opnsOf(h:List bQ):List ByteArray:=h.foldl eG []
def de(name:ByteArray)(ms os:List ByteArray):bQ→Bool
 | (k,_,_,_,nm,ot)=> if k=1 then false else if k=5 then !(hasT ms nm) && decide (ms.length < 32) && !(fS ot name)else if k=6 then hasT ms nm && !(fS ot name)else
   if k=7 then !(hasT os nm)else if k=8 then hasT os nm else if k=9 then decide (ms.length=0)else true
def iE(name:ByteArray)(h:List bQ)(e:bQ):Bool:=match h.getLast? with
 | none=> decide (e.1=1)
 | some z=> !(decide (e.1=1)) && !(decide (e.2.1 < z.2.1)) && !(decide (z.1=9)) && de name (modsOf name h) (opnsOf h) e
theorem eH {α:Type} {p:List α→Prop} (h0:p [])(h1:∀ l a,p l→p (l++[a])):∀ l,p l:=by
 have key:∀ l:List α,p l.reverse:=by
  intro l
  induction l with
  | nil=> exact h0
  | cons a l ih=> rw [List.reverse_cons];exact h1 _ _ ih
 intro l
 have:=key l.reverse
 rwa [List.reverse_reverse] at this
structure LifeS where
 n:Nat
 at_:Int
 made:bQ
 ms:List ByteArray
 os:List ByteArray
 thr:Int
 hot:Int
 tst:Bool
 tes:Int
 fau:Int
 mov:Int
 scr:Bool
def zP:bQ:=(0,0,0,0,⟨#[]⟩,⟨#[]⟩)
def life0:LifeS:=⟨0,0,zP,[],[],0,0,false,0,0,0,false⟩
def LifeS.add(name:ByteArray)(x:LifeS)(e:bQ):LifeS:=
 {n:=x.n+1,at_:=e.2.1,made:=if e.1=1 then e else x.made,ms:=dj name x.ms e,os:=eG x.os e,
  thr:=if e.1=2 then x.thr+e.2.2.1 else x.thr,hot:=if e.1=2 then x.hot+e.2.2.2.1 else x.hot,
  tst:=if e.1=3 then true else x.tst,tes:=if e.1=3 then e.2.2.1 else x.tes,fau:=if e.1=4 then x.fau+1 else x.fau,
  mov:=if e.1=5 then x.mov+1 else if e.1=6 then x.mov+1 else x.mov,scr:=if e.1=9 then true else x.scr }
def lifeOf(name:ByteArray)(h:List bQ):LifeS:=h.foldl (LifeS.add name) life0
def cg(name:ByteArray)(x:LifeS)(e:bQ):Bool:=
 if x.n=0 then decide (e.1=1)else if e.2.1 < x.at_ then false else if x.scr=true then false else de name x.ms x.os e
theorem bZ(name:ByteArray)(h:List bQ)(e:bQ):lifeOf name (h++[e])=(lifeOf name h).add name e:=by
 unfold lifeOf;rw [List.foldl_append];rfl
theorem iG(name:ByteArray):∀ h,(lifeOf name h).n=h.length:=by
 refine eH rfl fun h e ih=> ?_
 rw [bZ,cY];show _+1=_;rw [ih];rfl
theorem i7(name:ByteArray):∀ h,(lifeOf name h).ms=modsOf name h:=by
 refine eH rfl fun h e ih=> ?_
 rw [bZ];unfold modsOf;rw [List.foldl_append];show dj _ _ _=_;rw [ih];rfl
theorem nO(name:ByteArray):∀ h,(lifeOf name h).os=opnsOf h:=by
 refine eH rfl fun h e ih=> ?_
 rw [bZ];unfold opnsOf;rw [List.foldl_append];show eG _ _=_;rw [ih];rfl
def fA(name:ByteArray)(h:List bQ):Prop:=∀ g e r,h=g++e::r→iE name g e=true
theorem fA.nil(name:ByteArray):fA name []:=fun g e r h=> by simp at h
theorem fA.snoc {name:ByteArray} {h:List bQ} {e:bQ} (hh:fA name h)(he:iE name h e=true):fA name (h++[e]):=by
 intro g e2 r hg
 rcases List.eq_nil_or_concat r with rfl | ⟨r',z,rfl⟩
 ·have:=List.append_inj' hg rfl
  obtain⟨rfl,e3⟩:=this
  obtain rfl:e=e2:=by simpa using e3
  exact he
 ·have h2:h++[e]=(g++e2::r')++[z]:=by rw [hg];simp
  have:=List.append_inj' h2 rfl
  exact hh g e2 r' this.1
theorem fA.init {name:ByteArray} {h:List bQ} {e:bQ} (hh:fA name (h++[e])):fA name h:=fun g e2 r hg=> hh g e2 (r++[e]) (by rw [hg];simp)
theorem fA.last {name:ByteArray} {h:List bQ} {e:bQ} (hh:fA name (h++[e])):iE name h e=true:=hh h e [] rfl
theorem gm {name:ByteArray}:∀ (h:List bQ) {z:bQ},fA name h→h.getLast? =some z→(lifeOf name h).at_=z.2.1∧(lifeOf name h).scr=decide (z.1=9):=by
 refine eH (fun _ hz=> by cases hz) fun h e ih=> ?_
 ·intro z hl hz
  obtain rfl:e=z:=by simpa using hz
  rw [bZ]
  refine⟨rfl,?_⟩
  show(if e.1=9 then true else(lifeOf name h).scr)=_
  by_cases c:e.1=9
  ·rw [aG c,bF c]
  ·rw [aA c,bv c]
   have hc:=hl.last
   unfold iE at hc
   cases hg:h.getLast? with
   | none=>
    obtain rfl:h=[]:=by simpa using hg
    rfl
   | some y=>
    rw [hg] at hc
    simp only [Bool.and_eq_true,Bool.not_eq_true',decide_eq_false_iff_not] at hc
    rw [(ih hl.init hg).2,bv hc.1.2]
theorem fC {name:ByteArray} {h:List bQ} (hl:fA name h)(e:bQ):cg name (lifeOf name h) e=iE name h e:=by
 unfold cg iE
 rw [iG,i7,nO]
 cases hg:h.getLast? with
 | none=>
  obtain rfl:h=[]:=by simpa using hg
  rfl
 | some z=>
  have hn:h≠[]:=by rintro rfl;cases hg
  have hlen:¬ h.length=0:=fun c=> hn (eF c)
  rw [aA hlen,(gm h hl hg).1,(gm h hl hg).2]
  dsimp only
  by_cases c1:e.2.1 < z.2.1
  ·simp [c1]
  ·by_cases c2:z.1=9
   ·simp [c2]
   ·by_cases c3:e.1=1
    ·obtain⟨k,t,a,b,nm,ot⟩:=e
     dsimp only at c3
     subst c3
     simp [de]
    ·simp [c1,c2,c3]
end
end Go.Proofs.YtmpilgkfbibhlaaGreatDoor
