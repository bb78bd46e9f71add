/-
  append to a row whose length is not written out.
-/
import Derived.Test.YtpdhkgfdmpofiaaGreatDoorSxq
set_option linter.unusedSimpArgs false
set_option linter.unusedVariables false
namespace Go.Proofs.YtpdhkgfdmpofiaaGreatDoor
namespace Sx
open Go.RowKit

section
variable {P : Program} {σ : St} {o : Oper} {tb : Tb}

/-- Values that hold no names. -/
def Cv.freeB0 : Cv → Bool
  | .ptr _ _ => false
  | .slc _ _ _ _ => false
  | .fn _ caps => caps.isEmpty
  | _ => true
theorem Cv.free0_den {c : Cv} (h : c.freeB0 = true) (e e' : Env) : c.den e = c.den e' := by
  cases c with
  | ptr id off => cases h
  | slc id off l c => cases h
  | fn f caps => obtain rfl := List.isEmpty_iff.1 h; rfl
  | _ => rfl
/-- What an element's cells hold, behind those that were there. -/
def appF (n : Nat) (f : Nat → Value) (news : List Value) (o : Nat) : Value := match Nat.blt o n with
  | true => f o
  | false => (news[o - n]?).getD undef
def newOqE (σ : St) (el size need : Nat) (f : Nat → Value) (rl : List Loc) (pre : List Wr) : OpE :=
  ⟨some (.one (.slc σ.nx (.lit 0) (.opq need) (.nam σ.nn))), .k σ.nx :: .n σ.nn :: rl, pre ++ [.nm σ.nn, .new σ.nx (.oq el false (need * size) f (some (σ.nn, size)))]⟩
/-- The slice that is appended to: a row of its own. -/
def appendO (tb : Tb) (σ : St) (t t' : TypeId) (id n c : Nat) (vx : Sv) : Tree OpE := match Nat.beq t t', tb.und t with
  | true, some (.slice el) => match tb.info el with
    | some ti => match ti.zero with
      | some z => match Nat.beq z.cells.size ti.size && (Nat.blt 0 ti.size && freshB σ) with
        | true => match slCells σ ti.size vx with
          | some (id2, off2, k, news) => match Nat.blt 0 k && (news.all Cv.plainB && news.all Cv.freeB0) with
            | true => match alook σ.bk id with
              | some (.oq el' false m f (some (c', es))) => match Nat.beq el' el && (Nat.beq c c' && Nat.beq es ti.size) with
                | true => .must (decide (n * ti.size ≤ m)) (.must (decide ((n + k) * ti.bytes ≤ 140737488355328 ∧ n + k ≤ 140737488355328)) (.leaf (newOqE σ el ti.size (n + k) (appF (n * ti.size) f (news.map (·.den ⟨fun _ => (0, 0), fun _ => 0⟩))) (.k id :: .k id2 :: cellLocs id2 off2 (k * ti.size)) [.new id .gone])))
                | false => .fail
              | _ => .fail
            | false => .fail
          | none => .fail
        | false => .fail
      | none => .fail
    | none => .fail
  | _, _ => .fail
/-- The row that is appended to. -/
def rowQ (σ : St) : Sv → Option (Nat × Nat × Nat)
  | .one (.slc id (.lit 0) (.opq n) (.nam c)) => match alook σ.bk id with
    | some (.oq _ false _ _ (some _)) => some (id, n, c)
    | _ => none
  | _ => none
def appendX (tb : Tb) (σ : St) (t t' : TypeId) (vs vx : Sv) : Tree OpE := match rowQ σ vs with
  | some (id, n, c) => appendO tb σ t t' id n c vx
  | none => appendE tb σ t t' vs vx
theorem rowQ_at {v : Sv} {id n c : Nat} (h : rowQ σ v = some (id, n, c)) : v = .one (.slc id (.lit 0) (.opq n) (.nam c)) := by
  unfold rowQ at h
  split at h
  · split at h
    · simp only [Option.some.injEq, Prod.mk.injEq] at h
      obtain ⟨rfl, rfl, rfl⟩ := h
      rfl
    · cases h
  · cases h
/-- A new row, behind whatever has been forgotten. -/
theorem newOq_ok {el size need : Nat} {f : Nat → Value} {rl : List Loc} {pre : List Wr} (hfr : freshB σ = true)
    (h : ∀ (C : Ctx) (e : Env) (s : Sto) (a : Act) (w : World), Hp C e s w → (∀ x ∈ o.op.operands, Sees σ s e a x) → (∀ l ∈ rl, s l = look σ l) → s (.k σ.nx) = none → s (.n σ.nn) = none →
      ∃ g cap w' xs, (execOp a.eval o).run P w = .ok (.value (.slice (some ⟨g, 0, none⟩) need cap)) w' ∧
        (∃ s1, s1 = upds s pre ∧ Sub s s1 ∧ s1 (.k σ.nx) = none ∧ s1 (.n σ.nn) = none ∧ ((g = w.heap.size ∧ ∃ w1, w' = w1.alloc (.cells xs el) ∧ w1.heap.size = w.heap.size ∧ Hp C e s1 w1) ∨
          (Hp C e s1 w' ∧ w'.heap[g]? = some (.cells xs el (0, 0)) ∧ C.M g ∧ ∀ i b', s1 (.k i) = some (.bk b') → b'.live = true → (e.pl i).1 ≠ g))) ∧
        (∀ (j : Nat), j < need * size → xs[j]? = some (f j)) ∧ xs.size = cap * size ∧ need * size ≤ xs.size) : OpOk P σ o (newOqE σ el size need f rl pre) := by
  intro C e s a w hp hx hl
  simp only [newOqE] at hl ⊢
  unfold freshB at hfr
  rw [Bool.and_eq_true] at hfr
  have hk : s (.k σ.nx) = none := by
    rw [hl _ (by simp)]
    simp only [look]
    rw [show alook σ.bk σ.nx = none by simpa using hfr.1]; rfl
  have hn : s (.n σ.nn) = none := by
    rw [hl _ (by simp)]
    simp only [look]
    rw [if_neg (by simpa using hfr.2)]
  obtain ⟨g, cap, w', xs, h1, ⟨s1, hs1, hS, hk1, hn1, h2⟩, h3, h4, h5⟩ := h C e s a w hp hx (fun l hm => hl l (by simp [hm])) hk hn
  have hfin : ∀ (e2 : Env), upds s (pre ++ [.nm σ.nn, .new σ.nx (.oq el false (need * size) f (some (σ.nn, size)))]) = (Wr.new σ.nx (.oq el false (need * size) f (some (σ.nn, size)))).upd ((Wr.nm σ.nn).upd s1) := by
    intro _
    unfold upds
    rw [List.foldl_append, hs1]
    rfl
  have knn1 : knn ((Wr.nm σ.nn).upd s1) σ.nn := by unfold knn; simp [Wr.upd, Wr.fn]
  have hk2 : (Wr.nm σ.nn).upd s1 (.k σ.nx) = none := hk1
  have fits : ∀ (e1 : Env), e1.nm σ.nn = cap → Fits e1 ((Wr.nm σ.nn).upd s1) xs (.oq el false (need * size) f (some (σ.nn, size))) := by
    intro e1 he
    refine ⟨h3, fun c' es hce => ?_⟩
    obtain ⟨rfl, rfl⟩ := Prod.mk.inj (Option.some.inj hce)
    exact ⟨knn1, by rw [he]; exact h4, h5⟩
  have fin : ∀ (e1 : Env), Agree s1 e e1 → e1.nm σ.nn = cap → Hp C (e1.setPl σ.nx (g, 0)) ((Wr.new σ.nx (.oq el false (need * size) f (some (σ.nn, size)))).upd ((Wr.nm σ.nn).upd s1)) w' → Agree ((Wr.nm σ.nn).upd s1) e1 (e1.setPl σ.nx (g, 0)) →
      ∃ nx e' w'', (execOp a.eval o).run P w = .ok nx w'' ∧ Agree s e e' ∧ Hp C e' (upds s (pre ++ [.nm σ.nn, .new σ.nx (.oq el false (need * size) f (some (σ.nn, size)))])) w'' ∧
        ValIs e' (upds s (pre ++ [.nm σ.nn, .new σ.nx (.oq el false (need * size) f (some (σ.nn, size)))])) (some (.one (.slc σ.nx (.lit 0) (.opq need) (.nam σ.nn)))) nx := by
    intro e1 hA he hhp hA2
    have hA3 : Agree s e (e1.setPl σ.nx (g, 0)) := by
      refine ⟨fun i hi => ?_, fun c hc => ?_⟩
      · rw [hA2.1 i (Sub.nm.1 i (hS.1 i hi)), hA.1 i (hS.1 i hi)]
      · rw [hA2.2 c (Sub.nm.2 c (hS.2 c hc)), hA.2 c (hS.2 c hc)]
    refine ⟨_, e1.setPl σ.nx (g, 0), w', h1, hA3, by rw [hfin e]; exact hhp, ?_, ?_⟩
    · simp only [Sv.den, Cv.den, Sn.den]
      rw [show (e1.setPl σ.nx (g, 0)).ad σ.nx 0 = ⟨g, 0, none⟩ from setPl_ad e1 σ.nx g 0]
      rw [show (e1.setPl σ.nx (g, 0)).nm σ.nn = cap from he]
    · rw [hfin e]
      refine ⟨?_, trivial, trivial, ?_⟩
      · unfold kn; rw [new_k, if_pos rfl]; rfl
      · exact knn1
  rcases h2 with ⟨rfl, w1, rfl, hsz, hp1⟩ | ⟨hp1, hg, hM, hfree⟩
  · obtain ⟨q1, q2⟩ := hp1.name hn1 cap
    have he : (e.setNm σ.nn cap).nm σ.nn = cap := by simp [Env.setNm]
    obtain ⟨r1, r2⟩ := q1.alloc hk2 (fits _ he)
    rw [hsz] at r1 r2
    exact fin _ q2 he r1 r2
  · obtain ⟨q1, q2⟩ := hp1.name hn1 cap
    have he : (e.setNm σ.nn cap).nm σ.nn = cap := by simp [Env.setNm]
    obtain ⟨r1, r2⟩ := q1.adopt hk2 hg hM (fun i b' hi hb => by
      have hi' : s1 (.k i) = some (.bk b') := hi
      have := hfree i b' hi' hb
      rwa [show (e.setNm σ.nn cap).pl i = e.pl i from rfl]) (fits _ he)
    exact fin _ q2 he r1 r2
theorem appF_lt {n : Nat} {f : Nat → Value} {news : List Value} {o : Nat} (h : o < n) : appF n f news o = f o := by unfold appF; rw [blt_iff.2 h]
theorem appF_ge {n : Nat} {f : Nat → Value} {news : List Value} {o : Nat} (h : n ≤ o) : appF n f news o = (news[o - n]?).getD undef := by
  unfold appF
  cases hb : Nat.blt o n with
  | true => have := blt_iff.1 hb; omega
  | false => rfl
/-- The cells of the longer row. -/
theorem appF_row {n k : Nat} {f : Nat → Value} {news : List Value} (hn : news.length = k) : (List.range n).map f ++ news = (List.range (n + k)).map (appF n f news) := by
  apply List.ext_getElem?
  intro j
  by_cases h1 : j < n
  · rw [List.getElem?_append_left (by simpa using h1), List.getElem?_map, List.getElem?_range h1, List.getElem?_map, List.getElem?_range (by omega)]
    simp only [Option.map_some]
    rw [appF_lt h1]
  · rw [List.getElem?_append_right (by simp; omega)]
    simp only [List.length_map, List.length_range]
    by_cases h2 : j < n + k
    · rw [List.getElem?_map, List.getElem?_range h2, Option.map_some, appF_ge (by omega), List.getElem?_eq_getElem (by omega)]
      rfl
    · rw [List.getElem?_eq_none (by omega), List.getElem?_eq_none (by simp; omega)]
theorem appendO_ok (hT : TbOk P tb) {x y : Operand} {t t' : TypeId} {id n c : Nat} {vx : Sv} (ho : o.op = .call { callee := .builtin .append, args := #[x, y], argTypes := #[t, t'] }) (hx : evO σ x = some (.one (.slc id (.lit 0) (.opq n) (.nam c)))) (hy : evO σ y = some vx) : TreeOk P σ o (appendO tb σ t t' id n c vx) := by
  unfold appendO
  split
  · rename_i el htt hu
    obtain rfl := beq_iff'.1 htt
    split
    · rename_i ti hti
      split
      · rename_i z hz
        split
        · rename_i hb
          simp only [Bool.and_eq_true, beq_iff', blt_iff] at hb
          obtain ⟨hzs, hsz, hfr⟩ := hb
          split
          · rename_i id2 off2 k news hnews
            split
            · rename_i hb2
              simp only [Bool.and_eq_true, blt_iff] at hb2
              obtain ⟨hk0, hpl, hfree⟩ := hb2
              obtain ⟨⟨cap2, rfl⟩, hlen2, _⟩ := slCells_at hnews
              have hone : ∀ e, ∀ u ∈ news.map (·.den e), Value.oneCell' u = true := fun e u hu' => by
                obtain ⟨c, hc, rfl⟩ := List.mem_map.1 hu'
                exact (Cv.plain_cell (List.all_eq_true.1 hpl c hc) e).1
              have hden : ∀ e : Env, news.map (·.den e) = news.map (·.den ⟨fun _ => (0, 0), fun _ => 0⟩) := fun e => List.map_congr_left fun c hc => Cv.free0_den (List.all_eq_true.1 hfree c hc) e _
              have ops : ∀ (s : Sto) (e : Env) (a : Act) (w : World), (∀ x ∈ o.op.operands, Sees σ s e a x) → (execOp a.eval o).run P w = ((do pure (.value (← Builtin.append_ #[t, t] o.type #[.slice (some (e.ad id 0)) n (e.nm c), .slice (some (e.ad id2 off2)) k (cap2.den e)])) : Sem Next)).run P w := by
                intro s e a w hh
                obtain ⟨x1, _⟩ := hh x (by rw [ho]; simp [Op.operands, Call.operands]) _ hx
                obtain ⟨y1, _⟩ := hh y (by rw [ho]; simp [Op.operands, Call.operands]) _ hy
                rw [run_builtin ho]
                simp only [List.map_toArray, List.map_cons, List.map_nil, x1, y1]
                rfl
              split
              · rename_i el' m f c' es hb1
                split
                · rename_i hcc
                  simp only [Bool.and_eq_true, beq_iff'] at hcc
                  obtain ⟨rfl, rfl, rfl⟩ := hcc
                  refine TreeOk.must fun hm => TreeOk.must fun hby => ?_
                  have hm' := of_decide_eq_true hm
                  obtain ⟨hby1, hby2⟩ := of_decide_eq_true hby
                  refine TreeOk.leaf (newOq_ok hfr fun C e s a w hp hh hl hk hn => ?_)
                  rw [← hden e]
                  have hkid : s (.k id) = some (.bk (.oq el' false m f (some (c, ti.size)))) := by
                    rw [hl _ (by simp)]
                    simp only [look, hb1]; rfl
                  have hne : σ.nx ≠ id := fun h => by rw [h, hkid] at hk; cases hk
                  obtain ⟨q1, q2⟩ := slCells_read hnews hp (fun l hm => hl l (List.mem_cons_of_mem _ (List.mem_cons_of_mem _ hm)))
                  have r2 : ∀ (j : Nat) (x : Value), ((List.range (n * ti.size)).map f)[j]? = some x → w.cell? ((e.ad id 0).add j) = some x := by
                    intro j x hj
                    have hlt : j < n * ti.size := by have := (List.getElem?_eq_some_iff.1 hj).1; simpa using this
                    rw [List.getElem?_map, List.getElem?_range hlt] at hj
                    obtain rfl : f j = x := by simpa using hj
                    rw [ad_add, Nat.zero_add]
                    exact (hp.oq id _ _ _ f _ hkid j (by omega)).1
                  have hs1k : (Wr.new id .gone).upd s (.k σ.nx) = none := by rw [gone_k, if_neg hne]; exact hk
                  obtain ⟨_, hp2, cur, hcur, hcsz, _⟩ := hp.cp id _ c ti.size hkid rfl
                  simp only [BI.t] at hcur
                  have had0 : e.ad id 0 = ⟨(e.pl id).1, 0, none⟩ := by unfold Env.ad; rw [hp2]
                  have hrow : (List.range (n * ti.size)).map f ++ news.map (·.den e) = (List.range ((n + k) * ti.size)).map (appF (n * ti.size) f (news.map (·.den e))) := by
                    rw [appF_row (k := k * ti.size) (by simpa using hlen2), Nat.add_mul]
                  by_cases hroom : n + k ≤ e.nm c
                  · -- there is room
                    have hsize : n * ti.size + (news.map (·.den e)).length ≤ cur.size := by
                      rw [List.length_map, hlen2, hcsz, ← Nat.add_mul]; exact Nat.mul_le_mul_right _ hroom
                    have hrun := run_append_room (P := P) w t o.type el' ti (hT.und hu) (hT.info hti) (e.pl id).1 n (e.nm c) cur hcur (e.ad id2 off2) k (cap2.den e) (news.map (·.den e)) (by simpa using hlen2) q2 (hone e) hroom hsize
                    have htake : cur.toList.take (n * ti.size) = (List.range (n * ti.size)).map f := by
                      apply List.ext_getElem?
                      intro j
                      by_cases hj : j < n * ti.size
                      · have h1 := r2 j (f j) (by rw [List.getElem?_map, List.getElem?_range hj]; rfl)
                        rw [had0, Addr.add_lit, Nat.zero_add] at h1
                        simp only [World.cell?, hcur] at h1
                        rw [List.getElem?_take_of_lt hj, List.getElem?_map, List.getElem?_range hj]
                        simpa using h1
                      · rw [List.getElem?_eq_none (by simp; omega), List.getElem?_eq_none (by simp; omega)]
                    obtain ⟨XS, hXS⟩ : ∃ XS : Array Value, XS = (cur.toList.take (n * ti.size) ++ news.map (·.den e) ++ cur.toList.drop (n * ti.size + (news.map (·.den e)).length)).toArray := ⟨_, rfl⟩
                    rw [← hXS] at hrun
                    refine ⟨(e.pl id).1, e.nm c, w.setRow (e.pl id).1 XS, XS, (ops s e a w hh).trans (runV (by rw [had0]; exact hrun)), ⟨_, rfl, Sub.new, hs1k, hn, Or.inr ⟨hp.trash hkid rfl rfl rfl rfl (setRow_size _ _ _) (fun k hk' => setRow_other w _ _ _ hk'), setRow_heap w _ _ _ _ _ hcur, hp.mu id _ hkid rfl, ?_⟩⟩, ?_, ?_, ?_⟩
                    · intro i b' hi hlv
                      have hi : (Wr.new id .gone).upd s (.k i) = some (.bk b') := hi
                      rw [gone_k] at hi
                      by_cases hii : i = id
                      · rw [if_pos hii] at hi
                        obtain rfl : BI.gone = b' := by simpa using hi
                        cases hlv
                      · rw [if_neg hii] at hi
                        exact (hp.inj id i _ b' hkid hi rfl hlv (Ne.symm hii)).symm
                    · intro j hj
                      rw [hXS, htake, hrow]
                      simp only [List.getElem?_toArray]
                      rw [List.getElem?_append_left (by simpa using hj), List.getElem?_map, List.getElem?_range hj]
                      rfl
                    · rw [hXS]
                      simp only [List.size_toArray, List.length_append, List.length_take, List.length_drop, Array.length_toList]
                      omega
                    · rw [hXS]
                      simp only [List.size_toArray, List.length_append, List.length_take, List.length_drop, Array.length_toList, List.length_map] at hsize ⊢
                      have := Nat.add_mul n k ti.size
                      omega
                  · have hlt : e.nm c < n + k := by omega
                    have hrun := run_append_grow (P := P) w t o.type el' ti z (hT.und hu) (hT.info hti) hz (e.ad id 0) n (e.nm c) ((List.range (n * ti.size)).map f) (by simp) r2 (e.ad id2 off2) k (cap2.den e) (news.map (·.den e)) (by simpa using hlen2) q2 hlt (by omega) (growslice_fits hlt hby1)
                    have hap : ((List.range (n * ti.size)).map f).toArray ++ (news.map (·.den e)).toArray = ((List.range ((n + k) * ti.size)).map (appF (n * ti.size) f (news.map (·.den e)))).toArray := by
                      rw [← hrow]; simp
                    rw [hap] at hrun
                    have hge := size_ge (w := w) (need := n + k) (old := e.nm c) (e := el')
                    refine ⟨w.heap.size, grownCap w (n + k) (e.nm c) el', _, _, (ops s e a w hh).trans (runV hrun), ⟨_, rfl, Sub.new, hs1k, hn, Or.inl ⟨rfl, w.drew, rfl, rfl, (hp.gone id).drew⟩⟩, fun j hj => ?_, ?_, ?_⟩
                    · rw [Array.getElem?_append_left (by simpa using hj)]
                      simp only [List.getElem?_toArray, List.getElem?_map, List.getElem?_range hj, Option.map_some]
                    · rw [Array.size_append, size_zeroCells, hzs]
                      simp only [List.size_toArray, List.length_map, List.length_range]
                      rw [← Nat.add_mul, show n + k + (grownCap w (n + k) (e.nm c) el' - (n + k)) = grownCap w (n + k) (e.nm c) el' by omega]
                    · rw [Array.size_append]
                      simp
                · exact TreeOk.fail
              · exact TreeOk.fail
            · exact TreeOk.fail
          · exact TreeOk.fail
        · exact TreeOk.fail
      · exact TreeOk.fail
    · exact TreeOk.fail
  · exact TreeOk.fail
theorem appendX_ok (hT : TbOk P tb) {x y : Operand} {t t' : TypeId} {vs vx : Sv} (ho : o.op = .call { callee := .builtin .append, args := #[x, y], argTypes := #[t, t'] }) (hx : evO σ x = some vs) (hy : evO σ y = some vx) : TreeOk P σ o (appendX tb σ t t' vs vx) := by
  unfold appendX
  split
  · rename_i id n c hr
    obtain rfl := rowQ_at hr
    exact appendO_ok hT ho hx hy
  · exact appendE_ok hT ho hx hy
end
end Sx
end Go.Proofs.YtpdhkgfdmpofiaaGreatDoor
