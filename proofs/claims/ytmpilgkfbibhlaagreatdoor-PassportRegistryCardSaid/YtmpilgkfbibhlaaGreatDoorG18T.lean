/-
 G18T
-/
import Derived.Test.YtmpilgkfbibhlaaGreatDoorG17T
import Derived.Lib.SmallJoins
set_option linter.unusedSimpArgs false
set_option linter.unusedVariables false
set_option maxRecDepth 100000
set_option maxHeartbeats 20000000
namespace Go.Proofs.YtmpilgkfbibhlaaGreatDoor
section
open Go
structure Sm where
 do_:Nat
 by_:Nat
 p:Nat
 m:Nat
 t:Nat
 n:Nat
 later:Nat
structure AI where
 a:RegA
 at_:Int
 packs:List ByteArray
 mods:List ByteArray
 bts:List ByteArray
 mds:List Int
end
section
open Go
def vD(K:bQ→Prop)(I:RegA→Prop):Prop:=∀ (a:RegA) (n i:Nat) (e:bQ) (p:ByteArray×List bR),K e→I a→a.ps[i]? =some p→eC e=true→cg p.1 (lf p) e=true→n < a.bks.length→a.used.getD n 0 < (a.bks.getD n (0,[])).2.length→ji a→I (putA a n i e)
section
variable {K:bQ→Prop} {I:RegA→Prop} {a:RegA} {n i:Nat} {e:bQ} {p:ByteArray×List bR} {b t t0 t1:Int} {nm m to bt r:ByteArray}
theorem qm(ho:dc a)(b:Int)(nm:ByteArray)(e:bQ)(hk:e.1=1):(∃ c,c≠0∧bi a b nm e=(c,a))∨∃ n:Nat,b=(n:Int)∧n < a.bks.length∧nameB nm=true∧eC e=true∧a.ps.length≤findA nm a∧a.used.getD n 0 < (a.bks.getD n (0,[])).2.length∧
  ({ a with ps:=a.ps++[(nm,[])] }:RegA).ps[a.ps.length]? =some (nm,[])∧ji { a with ps:=a.ps++[(nm,[])] }∧cg nm (lf (nm,[])) e=true∧bi a b nm e=(0,putA { a with ps:=a.ps++[(nm,[])] } n a.ps.length e):=by
 by_cases hb:0≤b∧b < a.bks.length
 ·by_cases hv:nameB nm=true∧eC e=true∧e.1≠5∧e.1≠6
  ·obtain⟨n,rfl⟩:=Int.eq_ofNat_of_zero_le hb.1
   have hnb:n < a.bks.length:=by omega
   rw [ez hb hv hk]
   split
   ·exact ax ⟨12,by decide,rfl⟩
   ·rename_i h4
    split
    ·exact ax ⟨11,by decide,rfl⟩
    ·rename_i h5
     split
     ·exact ax ⟨4,by decide,rfl⟩
     ·rename_i h6
      rw [Int.toNat_natCast]
      have hp:({ a with ps:=a.ps++[(nm,[])] }:RegA).ps[a.ps.length]? =some (nm,[]):=by simp
      have hob:=ho.toji.addP hv.1 (show a.ps.length < 100 by omega)
      have hcan:cg nm (lf (nm,[])) e=true:=by show cg nm life0 e=true;unfold cg;rw [aG (show life0.n=0 from rfl),hk];rfl
      exact ay ⟨n,rfl,hnb,hv.1,hv.2.1,by omega,gV (a:=a) hnb h6,hp,hob,hcan,rfl⟩
  ·exact ax ⟨2,by decide,dY hb hv⟩
 ·exact ax ⟨3,by decide,gK hb⟩
theorem o7(b:Int)(nm:ByteArray)(e:bQ)(hk:e.1≠1):(∃ c,c≠0∧bi a b nm e=(c,a))∨∃ (n:Nat) (p:ByteArray×List bR),b=(n:Int)∧n < a.bks.length∧eC e=true∧a.ps[findA nm a]? =some p∧cg p.1 (lf p) e=true∧p.2.length < 500∧a.used.getD n 0 < (a.bks.getD n (0,[])).2.length∧bi a b nm e=(0,putA a n (findA nm a) e):=by
 by_cases hb:0≤b∧b < a.bks.length
 ·by_cases hv:nameB nm=true∧eC e=true∧e.1≠5∧e.1≠6
  ·obtain⟨n,rfl⟩:=Int.eq_ofNat_of_zero_le hb.1
   have hnb:n < a.bks.length:=by omega
   rw [gP hb hv hk]
   cases hp:a.ps[findA nm a]? with
   | none=> exact ax ⟨5,by decide,rfl⟩
   | some p=>
    dsimp only
    split
    ·exact ax ⟨10,by decide,rfl⟩
    ·rename_i h5
     split
     ·exact ax ⟨11,by decide,rfl⟩
     ·rename_i h6
      split
      ·exact ax ⟨4,by decide,rfl⟩
      ·rename_i h8
       rw [Int.toNat_natCast]
       exact ay ⟨n,p,rfl,hnb,hv.2.1,rfl,by simpa using h5,by omega,gV hnb h8,rfl⟩
  ·exact ax ⟨2,by decide,dY hb hv⟩
 ·exact ax ⟨3,by decide,gK hb⟩
theorem qn(ho:dc a)(b t:Int)(m to:ByteArray):(∃ c,c≠0∧moveA a b t m to=(c,a))∨∃ (n:Nat) (p q:ByteArray×List bR),b=(n:Int)∧n < a.bks.length∧a.ps[whereA m a]? =some p∧a.ps[findA to a]? =some q∧whereA m a≠findA to a∧
  eC (bE t m to)=true∧cg p.1 (lf p) (bE t m to)=true∧eC (cf t m p.1)=true∧cg q.1 (lf q) (cf t m p.1)=true∧a.used.getD n 0 < (a.bks.getD n (0,[])).2.length∧ji (putA a n (whereA m a) (bE t m to))∧(putA a n (whereA m a) (bE t m to)).ps[findA to a]? =some q∧
  (putA a n (whereA m a) (bE t m to)).used.getD n 0 < ((putA a n (whereA m a) (bE t m to)).bks.getD n (0,[])).2.length∧moveA a b t m to=(0,putA (putA a n (whereA m a) (bE t m to)) n (findA to a) (cf t m p.1)):=by
 by_cases hb:0≤b∧b < a.bks.length
 ·by_cases hv:modB m=true∧nameB to=true∧bJ t=true
  ·obtain⟨n,rfl⟩:=Int.eq_ofNat_of_zero_le hb.1
   have hnb:n < a.bks.length:=by omega
   cases hp:a.ps[whereA m a]? with
   | none=> exact ax ⟨5,by decide,fZ hb hv (ax hp)⟩
   | some p=>
    cases hq:a.ps[findA to a]? with
    | none=> exact ax ⟨5,by decide,fZ hb hv (ay hq)⟩
    | some q=>
     rw [ik hb hv hp hq]
     split
     ·exact ax ⟨10,by decide,rfl⟩
     ·rename_i h6
      split
      ·exact ax ⟨11,by decide,rfl⟩
      ·rename_i h9
       split
       ·exact ax ⟨4,by decide,rfl⟩
       ·rename_i h10
        rw [Int.toNat_natCast]
        simp only [not_or,Bool.not_eq_false] at h6
        obtain⟨h6,h7,h8⟩:=h6
        have hus:=dX hnb
        have o1:ji (putA a n (whereA m a) (bE t m to)):=ho.toji.put hp (jd hv) h7 (by omega) (by omega)
        have hq1:(putA a n (whereA m a) (bE t m to)).ps[findA to a]? =some q:=by rw [fq (fun c=> h6 c.symm)];exact hq
        exact ay ⟨n,p,q,rfl,hnb,rfl,rfl,h6,jd hv,h7,j7 hv.1 (ho.p p (aJ hp)).2.2.2 hv.2.2,h8,by omega,o1,hq1,by rw [eY.1,gR hp,gU];split <;> omega,rfl⟩
  ·exact ax ⟨2,by decide,fY hb hv⟩
 ·exact ax ⟨3,by decide,li hb⟩
theorem ke(ho:dc a)(b t:Int)(bt:ByteArray)(t0 t1:Int)(r:ByteArray):(∃ c,c≠0∧aE a b t bt t0 t1 r=(c,[],a))∨∃ n:Nat,b=(n:Int)∧oh a (affA a bt t0 t1 r) n t r∧aE a b t bt t0 t1 r=(0,(affA a bt t0 t1 r).map (cq a),da t r n (affA a bt t0 t1 r) a):=by
 by_cases hb:0≤b∧b < a.bks.length
 ·by_cases hv:nameB bt=true∧nameB r=true∧bJ t=true∧bJ t0=true∧bJ t1=true
  ·obtain⟨n,rfl⟩:=Int.eq_ofNat_of_zero_le hb.1
   rw [eS hb hv]
   split
   ·exact ax ⟨10,by decide,rfl⟩
   ·rename_i h1
    split
    ·exact ax ⟨11,by decide,rfl⟩
    ·rename_i h2
     split
     ·exact ax ⟨4,by decide,rfl⟩
     ·rename_i h3
      rw [Int.toNat_natCast]
      exact ay ⟨n,rfl,ol ho (show n < a.bks.length by omega) hv (by simpa using h1) (by simpa using h2) h3,rfl⟩
  ·exact ax ⟨2,by decide,dB hb hv⟩
 ·exact ax ⟨3,by decide,je hb⟩
theorem o8(hI:vD K I)(ho:dc a)(h:I a)(b:Int)(nm:ByteArray)(e:bQ)(hK:K e)(hk:e.1≠1):I (bi a b nm e).2:=by
 rcases o7 (a:=a) b nm e hk with⟨c,-,q⟩ | ⟨n,p,-,h1,h2,h3,h4,-,h6,q⟩
 ·rw [q];exact h
 ·rw [q];exact hI a n _ e p hK h h3 h2 h4 h1 h6 ho.toji
theorem qo(hI:vD K I)(ho:dc a)(h:I a)(b t:Int)(m to:ByteArray)(hK:K (bE t m to))(hK2:∀ nm,K (cf t m nm)):I (moveA a b t m to).2:=by
 rcases qn ho b t m to with⟨c,-,q⟩ | ⟨n,p,x,-,h1,h2,h3,h4,h5,h6,h7,h8,h9,h10,h11,h12,q⟩
 ·rw [q];exact h
 ·rw [q];exact hI _ n _ _ x (hK2 _) (hI a n _ _ p hK h h2 h5 h6 h1 h9 ho.toji) h11 h7 h8 (by rw [eY.1];exact h1) h12 h10
theorem sQ(hI:vD K I)(ho:dc a)(h:I a){L:List Nat} (hc:oh a L n t r)(hK:K (jh t r)):∀ j,j≤L.length→I (da t r n (L.take j) a)∧jj a (da t r n (L.take j) a) L n j:=by
 intro j
 induction j with
 | zero=> exact fun _=> ⟨h,jj.start ho.toji L n⟩
 | succ j ih=>
  intro hj
  obtain⟨o1,i1⟩:=ih (by omega)
  obtain⟨i,hi⟩:∃ i,L[j]? =some i:=⟨L[j],bh (by omega)⟩
  obtain⟨⟨p,hp,hp0⟩,hb,hu,i2⟩:=i1.next hc hi
  rw [fy hi]
  obtain⟨p9,hp9,hcan,hl⟩:=hc.p i (aJ hi)
  rw [hp0] at hp9
  obtain rfl:=bD hp9
  exact⟨hI _ n i _ p hK o1 hp hc.ok hcan hb hu i1.ok,i2⟩
theorem oq(hI:vD K I)(ho:dc a)(h:I a)(b t:Int)(bt:ByteArray)(t0 t1:Int)(r:ByteArray)(hK:K (jh t r)):I (aE a b t bt t0 t1 r).2.2:=by
 rcases ke ho b t bt t0 t1 r with⟨c,-,q⟩ | ⟨n,-,hc,q⟩
 ·rw [q];exact h
 ·rw [q]
  have:=(sQ hI ho h hc hK _ (bz _)).1
  rw [List.take_length] at this
  exact this
theorem zc:(putA a n i e).ps.map (·.1)=a.ps.map (·.1):=by
 unfold putA
 cases hp:a.ps[i]? with
 | none=> rfl
 | some p=>
  refine List.ext_getElem? fun k=> ?_
  show((a.ps.set i (lT a n e p)).map (·.1))[k]? =_
  rw [bX,bX]
  by_cases c:i=k
  ·subst c
   rw [List.getElem?_set_self (aB hp).1,hp]
   rfl
  ·rw [List.getElem?_set_ne c]
end
end
section
open Sx Go.RowKit Mr
def Bd(R:Nat)(vk:Value)(t:Int)(vpk vmd vbt vmk:Value):Array Value:=#[.pointer (some ⟨R,0,none⟩),vk,.int .i64 t,vpk,vmd,vbt,vmk]
def zd(l:List ByteArray):List Value:=l.map Value.string
def wq(v:Value)(bks:List Bk)(W:World):Prop:=∃ ab cb,v=.slice ab bks.length cb∧nX ab bks W
theorem wq.keep {v:Value} {bks:List Bk} {W w2:World} (h:wq v bks W)(hK:∀ (b:Nat) (cs:Array Value) (T:TypeId) (fr:Nat×Nat),W.heap[b]? =some (.cells cs T fr)→(T=85∨T=22)→w2.heap[b]? =some (.cells cs T fr)):wq v bks w2:=by
 obtain⟨ab,cb,h1,h2⟩:=h
 refine⟨ab,cb,h1,fun hn=> ?_⟩
 obtain⟨b,off,cs,fr,e1,e2,e3⟩:=h2 hn
 refine⟨b,off,cs,fr,e1,hK _ _ _ _ e2 (ax rfl),fun k bk hk=> ?_⟩
 obtain⟨q1,vq,q2,a9,c9,q3,q4⟩:=e3 k bk hk
 refine⟨q1,vq,q2,a9,c9,q3,fun hn2=> ?_⟩
 obtain⟨b2,off2,cs2,fr2,d1,d2,d3⟩:=q4 hn2
 exact⟨b2,off2,cs2,fr2,d1,hK _ _ _ _ d2 (ay rfl),d3⟩
theorem wq.step {v:Value} {bks:List Bk} {W w2:World} (h:wq v bks W)(hb:Below W.heap.size W w2):wq v bks w2:=h.keep fun b cs T fr e _=> an e hb
theorem wq.keepT {v:Value} {bks:List Bk} {W w2:World} (h:wq v bks W)(hK:dJ W w2):wq v bks w2:=h.keep fun b cs T fr e hT=> hK b cs T fr e (by rcases hT with rfl | rfl <;> decide) (by rcases hT with rfl | rfl <;> decide) (by rcases hT with rfl | rfl <;> decide)
structure xu(w0:World)(Wd R:Nat)(vb vk:Value)(bks:List Bk)(S:AI)(g:RegS)(vp vpk vmd vbt vmk:Value)(W:World):Prop where
 bel:Below w0.heap.size w0 W
 hW:w0.heap.size≤Wd
 v:bW w0.heap.size R vb S.a g vp W
 blk:W.heap[Wd]? =some (.cells (Bd R vk S.at_ vpk vmd vbt vmk) 50 (0,0))
 bk:wq vk bks W
 pk:W.ownsRow w0.heap.size 9 1 vpk S.packs.length (zd S.packs)
 md:W.ownsRow w0.heap.size 9 1 vmd S.mods.length (zd S.mods)
 bt:W.ownsRow w0.heap.size 9 1 vbt S.bts.length (zd S.bts)
 tm:W.ownsRow w0.heap.size 2 1 vmk S.mds.length (S.mds.map (Value.int .i64))
 f1:Far vpk vmd
 f2:Far vpk vbt
 f3:Far vmd vbt
 n1:∀ k,vpk.ownBlock=some k→tr k g
 n2:∀ k,vmd.ownBlock=some k→tr k g
 n3:∀ k,vbt.ownBlock=some k→tr k g
section
variable {w0 W w2:World} {Wd R:Nat} {vb vk vp vpk vmd vbt vmk:Value} {bks:List Bk} {S:AI} {g:RegS}
theorem xu.step(h:xu w0 Wd R vb vk bks S g vp vpk vmd vbt vmk W)(hb:Below W.heap.size W w2):xu w0 Wd R vb vk bks S g vp vpk vmd vbt vmk w2:=
 ⟨ai h.bel hb,h.hW,h.v.step hb,an h.blk hb,h.bk.step hb,aD h.pk hb,aD h.md hb,aD h.bt hb,aD h.tm hb,h.f1,h.f2,h.f3,h.n1,h.n2,h.n3⟩
end
end
section
open Sx Go.RowKit Mr
def padW(s i k:Nat):Nat:=(s+1)*(k+3)*(k+5*i+1) % 2147483647
def iu(s i n:Nat):List Nat:=(List.range n).map (padW s i)
def kT(s i:Nat):Bk:=(1000+7*i+s,iu s i 400)
def iV(s n:Nat):List Bk:=(List.range n).map (kT s)
theorem sR(s i n:Nat):(iu s i n).length=n:=by unfold iu;rw [List.length_map,List.length_range]
theorem qp(s n:Nat):(iV s n).length=n:=by unfold iV;rw [List.length_map,List.length_range]
theorem qq(s i n:Nat):iu s i (n+1)=iu s i n++[padW s i n]:=by unfold iu;rw [List.range_succ,List.map_append];rfl
theorem pe(s n:Nat):iV s (n+1)=iV s n++[kT s n]:=by unfold iV;rw [List.range_succ,List.map_append];rfl
structure xw(w1:World)(B s i k:Nat)(v:Value)(W:World):Prop where
 bel:Below w1.heap.size w1 W
 hB:w1.heap.size≤B
 b:W.heap[B]? =some (.cells #[.int .u64 ((kT s i).1:Int),v] 85 (0,0))
 o:W.ownsRow w1.heap.size 22 1 v k (gi (iu s i k))
theorem xw.app {w1 W W5:World} {B s i k:Nat} {v v':Value} (h:xw w1 B s i k v W)(hg:W.grownBy W5 v.ownBlock)(ho:W5.ownsRow w1.heap.size 22 1 v' (k+1) (gi (iu s i k)++[.int .u64 (padW s i k:Int)])):W5.heap[B]? =some (.cells #[.int .u64 ((kT s i).1:Int),v] 85 (0,0))∧xw w1 B s i (k+1) v' (W5.setCell ⟨B,1,none⟩ v'):=by
 have hb5:=cV h.b hg h.o (by decide)
 refine⟨hb5,(h.bel.grown hg h.bel.size fun q hq=> (World.ownsRow.lt h.o q hq).1).setCell h.hB _,h.hB,bn hb5,?_⟩
 have e:gi (iu s i (k+1))=gi (iu s i k)++[.int .u64 (padW s i k:Int)]:=by rw [qq];unfold gi;rw [List.map_append];rfl
 rw [e]
 exact dG ho hb5 (by decide)
theorem xw.step {w1 W w2:World} {B s i k:Nat} {v:Value} (h:xw w1 B s i k v W)(hb:Below W.heap.size W w2):xw w1 B s i k v w2:=⟨ai h.bel hb,h.hB,an h.b hb,aD h.o hb⟩
theorem xw.start(w1:World)(s i:Nat)(hi:i < 3)(hs:s < 256):xw w1 w1.heap.size s i 0 (.slice none 0 0) (w1.alloc (.cells #[.int .u64 (1000+7*(i:Int)+(s:Int)),.slice none 0 0] 85)):=by
 refine⟨bU,bz _,?_,⟨rfl,ax ⟨rfl,rfl⟩⟩⟩
 have e:((kT s i).1:Int)=1000+7*(i:Int)+(s:Int):=by
  have h0:(kT s i).1=1000+7*i+s:=rfl
  rw [h0]
  omega
 rw [e]
 exact au w1 _
theorem tt.add {w w1 W W5:World} {B s i:Nat} {vb v v':Value} (h:tt w.heap.size (iV s i) vb w1)(hw:Below w.heap.size w w1)(hF:xw w1 B s i 400 v W)(hg:W.grownBy W5 vb.ownBlock)(l:List (Bk×Value))(hl:l.map (·.1)=iV s i)(ho0:W.ownsRow w.heap.size 85 2 vb i (dZ l))(hps:∀ x∈l,W.ownsRow w.heap.size 22 1 x.2 x.1.2.length (gi x.1.2))
  (ho:W5.ownsRow w.heap.size 85 2 v' (i+1) (dZ l++[.int .u64 ((kT s i).1:Int),v])):tt w.heap.size (iV s (i+1)) v' W5:=by
 refine⟨⟨l++[(kT s i,v)],by rw [List.map_append,hl,pe];rfl,?_,fun x hx=> ?_⟩⟩
 ·rw [qp,mf]
  exact ho
 ·rcases List.mem_append.1 hx with hx | hx
  ·exact eX (hps x hx) hg ho0 (by decide)
  ·obtain rfl:=List.mem_singleton.1 hx
   show W5.ownsRow w.heap.size 22 1 v (iu s i 400).length (gi (iu s i 400))
   rw [sR]
   exact eX (dE hF.o hw.size) hg ho0 (by decide)
end
section
open Sx Go.RowKit Mr
section
variable {w0 W W5:World} {Wd R:Nat} {vb vk vp vpk vmd vbt vmk v':Value} {bks:List Bk} {S:AI} {g:RegS} {t:ByteArray}
theorem tr.app(h:xu w0 Wd R vb vk bks S g vp vpk vmd vbt vmk W){u:Value} (hn:∀ k,u.ownBlock=some k→tr k g)(hat:v'.ownBlock=u.ownBlock∨v'.ownBlock=some W.heap.size):∀ k,v'.ownBlock=some k→tr k g:=fun k hk=> by
 rcases hat with hat | hat
 ·exact hn k (hat ▸ hk)
 ·rw [hat] at hk
  obtain rfl:=bD hk
  exact h.v.ra.fresh (bz _)
end
end
section
open Go.ChangeShapes Go.WideShapes Go.ChangeAt Go.RowKit Go.Deep
theorem lk {n:Int} (h:(Lit.int .u64 n).wf=true):∃ k:Nat,n=(k:Int)∧k < 18446744073709551616:=by
 simp only [Lit.wf,Bool.and_eq_true,decide_eq_true_eq] at h
 have h1:(0:Int)≤n:=h.1
 have h2:n≤18446744073709551615:=h.2
 exact⟨n.toNat,by omega,by omega⟩
section
variable {H:Type} {enc:TypeId×Value→H} {W:World} {held:Bool}
theorem sS {n:Nat} {v:Value} {x:DataW H×List MemPlace} (h:DataW.trod enc Tryz.prog W 0 (fun _=> true) held n 83 [v]=some x):
  ∃ ns:List Nat,jy v ns W∧ns.length≤maxLen∧∀ q∈ns,q < 18446744073709551616:=by
 rcases open_ints Tryz.underlying83 Tryz.underlying22 (by kernel_rfl) h with⟨hcs,_⟩ | ⟨a,len,cap,zs,hcs,hb,hl,hm,hz,hx,hcell,hwf⟩
 ·simp only [List.cons.injEq,and_true] at hcs
  exact⟨[],⟨none,0,hcs,fun hn=> absurd rfl hn⟩,by decide,fun q hq=> by cases hq⟩
 ·simp only [List.cons.injEq,and_true] at hcs
  simp only [if_true] at hz
  have hlen:((zs.take len).map Int.toNat).length=len:=by simp;omega
  refine⟨(zs.take len).map Int.toNat,⟨some a,cap,by rw [hlen];exact hcs,fun hn=> ?_⟩,by rw [hlen];omega,fun q hq=> ?_⟩
  ·have h0:0 < len:=by
    rcases Nat.eq_zero_or_pos len with e | e
    ·subst e;exact absurd (by simp) hn
    ·exact e
   obtain⟨b,off,spot⟩:=a
   have hspot:spot=none:=by simpa [Addr.add] using World.cell?_spot (hcell 0 (by omega))
   subst hspot
   have hadd:∀ j,((⟨b,off,none⟩:Addr).add j)=⟨b,off+j,none⟩:=fun j=> by simp [Addr.add]
   have hc0:=hcell 0 (by omega)
   refine⟨b,off,rfl,?_,fun k q hk=> ?_⟩
   ·rw [hadd] at hc0
    exact cell_lt hc0
   ·have hkl:k < len:=by have:=(aB hk).1;omega
    have hkz:k < zs.length:=by omega
    have hc:=hcell k hkz
    rw [hadd] at hc
    obtain⟨r,hr,-⟩:=lk (hwf _ (List.getElem_mem hkz))
    rw [di,bh hkz,Option.getD_some,hr] at hc
    rw [bX,List.getElem?_take_of_lt hkl,bh hkz,Option.map_some,hr] at hk
    have e:r=q:=by simpa using hk
    rw [← e];exact hc
  ·obtain⟨z,hz1,rfl⟩:=List.mem_map.1 hq
   obtain⟨r,hr,hr2⟩:=lk (hwf z (List.mem_of_mem_take hz1))
   rw [hr];simpa using hr2
theorem qt {n:Nat} {cs:List Value} {x:DataW H×List MemPlace} (h:DataW.trod enc Tryz.prog W 0 (fun _=> true) held n 85 cs=some x):
  ∃ (bk:Bk) (vp:Value),cs=[.int .u64 (bk.1:Int),vp]∧jy vp bk.2 W∧bk.1 < 18446744073709551616∧bk.2.length≤maxLen∧∀ q∈bk.2,q < 18446744073709551616:=by
 obtain⟨xs,k,hk,hxy,hcl,hxl,hf⟩:=DataW.trod_struct Tryz.underlying85 h
 rw [show Tryz.prog.cellsOf 85=2 by kernel_rfl] at hcl
 match xs,hxl,cs,hcl with
 | [y0,y1],_,[v0,v1],_=>
  have g0:=hf 0 _ rfl
  have g1:=hf 1 _ rfl
  have k0:Tryz.prog.cellsOf 22=1:=by kernel_rfl
  have k1:Tryz.prog.cellsOf 83=1:=by kernel_rfl
  simp only [List.getElem_toArray,List.getElem_cons_zero,List.getElem_cons_succ] at g0 g1
  rw [k0] at g0
  rw [k1] at g1
  simp only [List.drop_zero,List.drop_succ_cons,List.take_succ_cons,List.take_zero,List.getElem?_cons_zero,List.getElem?_cons_succ] at g0 g1
  obtain⟨a0,b0,-,w0⟩:=DataW.trod_int Tryz.underlying22 g0
  obtain⟨p,hp,hp2⟩:=lk w0
  obtain⟨ns,hn1,hn2,hn3⟩:=sS g1
  simp only [List.cons.injEq,and_true] at b0
  subst b0
  exact⟨(p,ns),v1,by rw [hp],hn1,hp2,hn2,hn3⟩
theorem sT {n:Nat} {cs:List Value} {x:DataW H×List MemPlace} (h:DataW.trod enc Tryz.prog W 0 (fun _=> true) held n 29 cs=some x):∃ e:bQ,cs=gg e:=by
 obtain⟨xs,k,hk,hxy,hcl,hxl,hf⟩:=DataW.trod_struct Tryz.underlying29 h
 rw [show Tryz.prog.cellsOf 29=6 by kernel_rfl] at hcl
 match xs,hxl,cs,hcl with
 | [y0,y1,y2,y3,y4,y5],_,[v0,v1,v2,v3,v4,v5],_=>
  have g0:=hf 0 _ rfl
  have g1:=hf 1 _ rfl
  have g2:=hf 2 _ rfl
  have g3:=hf 3 _ rfl
  have g4:=hf 4 _ rfl
  have g5:=hf 5 _ rfl
  have k0:Tryz.prog.cellsOf 3=1:=by kernel_rfl
  have k1:Tryz.prog.cellsOf 2=1:=by kernel_rfl
  have k2:Tryz.prog.cellsOf 9=1:=by kernel_rfl
  simp only [List.getElem_toArray,List.getElem_cons_zero,List.getElem_cons_succ] at g0 g1 g2 g3 g4 g5
  rw [k0] at g0
  rw [k1] at g1 g2 g3
  rw [k2] at g4 g5
  simp only [List.drop_zero,List.drop_succ_cons,List.take_succ_cons,List.take_zero,List.getElem?_cons_zero,List.getElem?_cons_succ] at g0 g1 g2 g3 g4 g5
  obtain⟨a0,b0,-,-⟩:=DataW.trod_int Tryz.underlying3 g0
  obtain⟨a1,b1,-,-⟩:=DataW.trod_int Tryz.underlying2 g1
  obtain⟨a2,b2,-,-⟩:=DataW.trod_int Tryz.underlying2 g2
  obtain⟨a3,b3,-,-⟩:=DataW.trod_int Tryz.underlying2 g3
  obtain⟨a4,b4,-,-⟩:=DataW.trod_string Tryz.underlying9 g4
  obtain⟨a5,b5,-,-⟩:=DataW.trod_string Tryz.underlying9 g5
  simp only [List.cons.injEq,and_true] at b0 b1 b2 b3 b4 b5
  subst b0 b1 b2 b3 b4 b5
  exact⟨(a0,a1,a2,a3,a4,a5),rfl⟩
theorem nA {α:Type} [Inhabited α]{n sz:Nat} {T E:TypeId} {v:Value} {x:DataW H×List MemPlace} {cells:α→List Value} {Ok:α→Prop} (hT:Tryz.prog.underlying T=some (.slice E))(hE:Tryz.prog.cellsOf E=sz)(hsz:0 < sz)
  (each:∀ {m:Nat} {cs:List Value} {y:DataW H×List MemPlace},DataW.trod enc Tryz.prog W 0 (fun _=> true) held m E cs=some y→∃ q:α,cs=cells q∧Ok q)
  (h:DataW.trod enc Tryz.prog W 0 (fun _=> true) held n T [v]=some x):
  ∃ (a:Option Addr) (c:Nat) (l:List α),v=.slice a l.length c∧l.length≤c∧c≤maxLen∧(∀ q∈l,Ok q)∧(l≠[]→∃ b off,a=some ⟨b,off,none⟩∧b < W.heap.size∧∀ (k:Nat) (q:α),l[k]? =some q→∀ (j:Nat) (u:Value),(cells q)[j]? =some u→W.cell? ⟨b,off+k*sz+j,none⟩=some u):=by
 rcases open_slice hT h with⟨hcs,_⟩ | ⟨a,len,cap,m,n',D,Pl,hcs,hb,hl,hm,hmm,hx,hi⟩
 ·simp only [List.cons.injEq,and_true] at hcs
  exact⟨none,0,[],hcs,bz _,by decide,(fun q hq=> by cases hq),fun hn=> absurd rfl hn⟩
 ·simp only [List.cons.injEq,and_true] at hcs
  simp only [if_true] at hmm
  subst hmm
  rw [hE] at hi
  have each2:∀ i,i < len→∃ q:α,Ok q∧(cells q).length=sz∧∀ j,j < sz→W.cell? ((a.add (i*sz)).add j)=(cells q)[j]?:=by
   intro i hlt
   obtain⟨cs',h1,h2⟩:=hi i (by omega)
   obtain⟨q,hq,hok⟩:=each h2
   obtain⟨_,hlen,hc⟩:=World.cells?_some h1
   rw [hq] at hlen hc
   exact⟨q,hok,hlen,hc⟩
  obtain⟨f,hf⟩:=choose_lt each2
  have hlen:((List.range len).map f).length=len:=by simp
  refine⟨some a,m,(List.range len).map f,by rw [hlen];exact hcs,by rw [hlen];exact hl,hm,fun q hq=> ?_,fun hn=> ?_⟩
  ·obtain⟨i,hi2,rfl⟩:=List.mem_map.1 hq
   exact(hf i (List.mem_range.1 hi2)).1
  ·have h0:0 < len:=by
    rcases Nat.eq_zero_or_pos len with e | e
    ·subst e;exact absurd rfl hn
    ·exact e
   obtain⟨b,off,spot⟩:=a
   obtain⟨-,hl0,hc0⟩:=hf 0 h0
   have hc00:=hc0 0 hsz
   rw [bh (by omega)] at hc00
   have hspot:spot=none:=by simpa [Addr.add] using World.cell?_spot hc00
   subst hspot
   have hadd:∀ i j,(((⟨b,off,none⟩:Addr).add i).add j)=⟨b,off+i+j,none⟩:=fun i j=> by rw [Addr.add_mid,Addr.add_mid]
   refine⟨b,off,rfl,?_,fun k q hk j u hj=> ?_⟩
   ·rw [hadd] at hc00
    exact cell_lt hc00
   ·have hkl:k < len:=by have:=(aB hk).1;omega
    have e:f k=q:=by
     rw [bX,List.getElem?_range hkl] at hk
     simpa using hk
    subst e
    obtain⟨-,hlk,hck⟩:=hf k hkl
    have hjl:j < sz:=by have:=(aB hj).1;omega
    rw [← hadd,hck j hjl,hj]
theorem qu {n:Nat} {v:Value} {x:DataW H×List MemPlace} (h:DataW.trod enc Tryz.prog W 0 (fun _=> true) held n 23 [v]=some x):
  ∃ (a:Option Addr) (c:Nat) (bks:List Bk),v=.slice a bks.length c∧bks.length≤c∧c≤maxLen∧(∀ bk∈bks,bk.1 < 18446744073709551616∧bk.2.length≤maxLen∧∀ q∈bk.2,q < 18446744073709551616)∧dS a bks W:=by
 haveI:Inhabited (Bk×Value):=⟨((0,[]),.bool false)⟩
 obtain⟨a,c,l,h1,h2,h3,h4,h5⟩:=nA (α:=Bk×Value) (cells:=fun q=> [.int .u64 (q.1.1:Int),q.2]) (Ok:=fun q=> jy q.2 q.1.2 W∧q.1.1 < 18446744073709551616∧q.1.2.length≤maxLen∧∀ z∈q.1.2,z < 18446744073709551616) (sz:=2) Tryz.underlying23 (by kernel_rfl) (by decide)
  (fun h=> by obtain⟨bk,vp,e1,e2⟩:=qt h;exact⟨(bk,vp),e1,e2⟩) h
 have hl:(l.map (·.1)).length=l.length:=List.length_map _
 refine⟨a,c,l.map (·.1),by rw [hl];exact h1,by rw [hl];exact h2,h3,fun bk hbk=> ?_,fun hn=> ?_⟩
 ·obtain⟨q,hq,rfl⟩:=List.mem_map.1 hbk
  exact(h4 q hq).2
 ·obtain⟨b,off,e1,e2,e3⟩:=h5 (by rintro rfl;exact hn rfl)
  refine⟨b,off,e1,e2,fun k bk hk=> ?_⟩
  rw [bX] at hk
  cases hq:l[k]? with
  | none=> rw [hq] at hk;cases hk
  | some q=>
   rw [hq] at hk
   have e:q.1=bk:=by simpa using hk
   subst e
   exact⟨e3 k q hq 0 _ rfl,q.2,e3 k q hq 1 _ rfl,(h4 q (aJ hq)).1⟩
end
end
end Go.Proofs.YtmpilgkfbibhlaaGreatDoor
