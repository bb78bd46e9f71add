/-
  Behind a call: a block that keeps its shape is written cell by cell, so that ways may meet.
-/
import Derived.Test.YtpdhkgfdmpofiaaGreatDoorSxi
set_option linter.unusedSimpArgs false
set_option linter.unusedVariables false
namespace Go.Proofs.YtpdhkgfdmpofiaaGreatDoor
namespace Sx
open Go.RowKit

section
variable {P : Program} {σ : St} {o : Oper}
def lenAt (σ : St) (id : Nat) : Nat := match alook σ.bk id with
  | some (.ar _ _ cs _) => cs.length
  | _ => 0
def bey (σ : St) (S : Nat → Bool) : Loc → Bool
  | .c id off => S id && Nat.ble (lenAt σ id) off
  | _ => false
def Bey (σ : St) (S : Nat → Bool) (s0 s : Sto) : Sto := fun l => if bey σ S l = true then s0 l else s l
theorem upds_slimC (sk : Nat → Bool) (rl : List Loc) (id : Nat) : ∀ (cs : List Cv) (off : Nat) (s : Sto) (l : Loc), (∀ j, sk (off + j) = true → hasC rl id (off + j) = true → s (.c id (off + j)) = (cs[j]?).map .cv) → upds s (slimC sk rl id off cs) l = match l with
    | .c i o => if i = id ∧ off ≤ o ∧ o < off + cs.length then (cs[o - off]?).map .cv else s l
    | _ => s l
  | [], off, s, l, _ => by
    cases l with
    | c i o => dsimp only; rw [if_neg (by simp only [List.length_nil]; omega)]; rfl
    | _ => rfl
  | c :: cs, off, s, l, hs => by
    have pick : ∀ {i o : Nat} {X : Option LV}, (i = id → o = off → X = some (.cv c)) → (if i = id ∧ off + 1 ≤ o ∧ o < off + 1 + cs.length then (cs[o - (off + 1)]?).map .cv else X) = if i = id ∧ off ≤ o ∧ o < off + (c :: cs).length then ((c :: cs)[o - off]?).map .cv else X := by
      intro i o X hX
      simp only [List.length_cons]
      by_cases hi : i = id
      · subst hi
        by_cases ho : o = off
        · subst ho
          rw [if_neg (by omega), if_pos (by omega), hX rfl rfl]
          simp
        · by_cases hr : off + 1 ≤ o ∧ o < off + 1 + cs.length
          · rw [if_pos ⟨rfl, hr.1, hr.2⟩, if_pos (by omega)]
            rw [show o - off = (o - (off + 1)) + 1 by omega, List.getElem?_cons_succ]
          · rw [if_neg (fun h => hr h.2), if_neg (by omega)]
      · rw [if_neg (fun h => hi h.1), if_neg (fun h => hi h.1)]
    have nxt : ∀ j, sk (off + 1 + j) = true → hasC rl id (off + 1 + j) = true → s (.c id (off + 1 + j)) = (cs[j]?).map .cv := fun j h1 h2 => by
      have := hs (j + 1) (by rwa [show off + (j + 1) = off + 1 + j by omega]) (by rwa [show off + (j + 1) = off + 1 + j by omega])
      rw [show off + 1 + j = off + (j + 1) by omega]
      simpa using this
    simp only [slimC]
    split
    · rename_i hp
      obtain ⟨h1, h2⟩ := Bool.and_eq_true_iff.1 hp
      have h0 := hs 0 h1 h2
      rw [upds_slimC sk rl id cs (off + 1) s l nxt]
      cases l with
      | c i o =>
        dsimp only
        refine pick fun e1 e2 => ?_
        rw [e1, e2]
        simpa using h0
      | _ => rfl
    · show upds ((Wr.cell id off c).upd s) (slimC sk rl id (off + 1) cs) l = _
      rw [upds_slimC sk rl id cs (off + 1) _ l (fun j h1 h2 => by
        have hne : off + 1 + j ≠ off := by omega
        have e1 : ((Wr.cell id off c).upd s) (.c id (off + 1 + j)) = s (.c id (off + 1 + j)) := by simp [Wr.upd, Wr.fn, hne]
        rw [e1]
        exact nxt j h1 h2)]
      cases l with
      | c i o =>
        dsimp only
        rw [pick fun e1 e2 => by rw [e1, e2]; simp [Wr.upd, Wr.fn]]
        by_cases hh : i = id ∧ off ≤ o ∧ o < off + (c :: cs).length
        · rw [if_pos hh, if_pos hh]
        · rw [if_neg hh, if_neg hh]
          by_cases e : i = id ∧ o = off
          · exact absurd ⟨e.1, by omega, by simp only [List.length_cons]; omega⟩ hh
          · simp only [Wr.upd, Wr.fn, if_neg e, Option.getD_none]
      | _ => rfl
theorem shape_at {id : Nat} {b : Blk} (h : shapeB σ id b = true) : ∃ t ro cs cp cs', alook σ.bk id = some (.ar t ro cs cp) ∧ b = .ar t ro cs' cp ∧ cs.length = cs'.length := by
  unfold shapeB at h
  split at h
  · rename_i t ro cs cp t' ro' cs' cp' hb
    simp only [Bool.and_eq_true, decide_eq_true_eq] at h
    obtain ⟨⟨⟨h1, h2⟩, h3⟩, rfl⟩ := h
    obtain rfl := beq_iff'.1 h1
    obtain rfl : ro = ro' := by simpa using h2
    exact ⟨t, ro, cs, cp, cs', hb, rfl, beq_iff'.1 h3⟩
  · cases h
/-- A new block that is not one of those, and a name. -/
theorem slim_new {S : Nat → Bool} {s0 s : Sto} {id : Nat} {b : Blk} (hS : S id = false) : (Wr.new id b).upd (Bey σ S s0 s) = Bey σ S s0 ((Wr.new id b).upd s) := by
  funext l
  cases l with
  | k i =>
    by_cases e : i = id
    · subst e; simp [Wr.upd, Wr.fn, Bey, bey]
    · simp [Wr.upd, Wr.fn, Bey, bey, e]
  | c i off =>
    by_cases e : i = id
    · subst e; simp [Wr.upd, Wr.fn, Bey, bey, hS]
    · simp [Wr.upd, Wr.fn, Bey, bey, e]
  | _ => rfl
theorem slim_nm {S : Nat → Bool} {s0 s : Sto} {c : Nat} : (Wr.nm c).upd (Bey σ S s0 s) = Bey σ S s0 ((Wr.nm c).upd s) := by
  funext l
  cases l with
  | n d =>
    by_cases e : d = c
    · subst e; simp [Wr.upd, Wr.fn, Bey, bey]
    · simp [Wr.upd, Wr.fn, Bey, bey, e]
  | _ => rfl
theorem ble_ff {a b : Nat} (h : b < a) : Nat.ble a b = false := by
  cases hc : Nat.ble a b with
  | false => rfl
  | true => rw [Nat.ble_eq] at hc; omega
theorem slim_all {sk : Nat → Nat → Bool} {rl : List Loc} {S : Nat → Bool} {s0 : Sto} (hrl : ∀ l ∈ rl, s0 l = look σ l) : ∀ {ws : List Wr} {seen : List Nat} {s : Sto}, (∀ id b, Wr.new id b ∈ ws → S id = true → ∀ j, sk id j = true → look σ (.c id j) = (b.cell j).map .cv) → newOk σ rl S seen ws = true → (∀ id, memb seen id = false → s (.k id) = s0 (.k id) ∧ ∀ off, s (.c id off) = s0 (.c id off)) →
    upds (Bey σ S s0 s) (ws.flatMap (slimW sk rl S)) = Bey σ S s0 (upds s ws)
  | [], _, s, _, _, _ => rfl
  | .nm c :: ws, seen, s, hsk, h, inv => by
    rw [List.flatMap_cons, upds_append]
    show upds ((Wr.nm c).upd (Bey σ S s0 s)) _ = _
    rw [slim_nm]
    exact slim_all (ws := ws) (s := (Wr.nm c).upd s) hrl (fun id b hm => hsk id b (List.mem_cons_of_mem _ hm)) (show newOk σ rl S seen ws = true from h) (fun id hid => inv id hid)
  | .tm _ _ :: _, _, _, _, h, _ => by cases h
  | .ft _ :: _, _, _, _, h, _ => by cases h
  | .cell _ _ _ :: _, _, _, _, h, _ => by cases h
  | .new id b :: ws, seen, s, hsk, h, inv => by
    simp only [newOk, Bool.and_eq_true, Bool.not_eq_true'] at h
    obtain ⟨⟨h1, h2⟩, h3⟩ := h
    have inv' : ∀ i, memb (id :: seen) i = false → ((Wr.new id b).upd s) (.k i) = s0 (.k i) ∧ ∀ off, ((Wr.new id b).upd s) (.c i off) = s0 (.c i off) := by
      intro i hi
      simp only [memb] at hi
      split at hi
      · cases hi
      · rename_i hne
        have hne' : i ≠ id := fun e => beq_ff.1 hne e.symm
        obtain ⟨q1, q2⟩ := inv i hi
        refine ⟨?_, fun off => ?_⟩
        · simp only [Wr.upd, Wr.fn, if_neg hne', Option.getD_none]; exact q1
        · simp only [Wr.upd, Wr.fn, if_neg hne', Option.getD_none]; exact q2 off
    rw [List.flatMap_cons, upds_append]
    show _ = Bey σ S s0 (upds ((Wr.new id b).upd s) ws)
    rw [← slim_all hrl (fun i b' hm => hsk i b' (List.mem_cons_of_mem _ hm)) h3 inv']
    congr 1
    cases hS : S id with
    | false =>
      have e1 : slimW sk rl S (.new id b) = [.new id b] := by simp [slimW, hS]
      rw [e1]
      exact slim_new hS
    | true =>
      simp only [hS, Bool.not_true, Bool.false_or, Bool.and_eq_true] at h2
      obtain ⟨t, ro, cs, cp, cs', hb, rfl, hlen⟩ := shape_at h2.1
      have hk : look σ (.k id) = some (.bk (.ar t ro cs'.length cp)) := by simp only [look, hb, Option.map_some, Blk.info, hlen]
      have hc : ∀ off, look σ (.c id off) = (cs[off]?).map .cv := fun off => by simp only [look, hb, Option.bind_some, Blk.cell]
      have hl : lenAt σ id = cs'.length := by simp only [lenAt, hb, hlen]
      have e1 : slimW sk rl S (.new id (.ar t ro cs' cp)) = slimC (sk id) rl id 0 cs' := by simp [slimW, hS]
      have k0 : s0 (.k id) = look σ (.k id) := by
        obtain ⟨l, hl1, hl2⟩ := List.any_eq_true.1 h2.2
        cases l with
        | k i => obtain rfl := beq_iff'.1 hl2; exact hrl _ hl1
        | _ => cases hl2
      obtain ⟨v1, v2⟩ := inv id h1
      rw [e1]
      funext l
      rw [upds_slimC (sk id) rl id cs' 0 _ l (fun j hj1 hj => by
        have h0 : s0 (.c id (0 + j)) = look σ (.c id (0 + j)) := by
          obtain ⟨l, hl1, hl2⟩ := List.any_eq_true.1 hj
          cases l with
          | c i o =>
            simp only [Bool.and_eq_true] at hl2
            obtain rfl := beq_iff'.1 hl2.1
            obtain rfl := beq_iff'.1 hl2.2
            exact hrl _ hl1
          | _ => cases hl2
        have h9 := hsk id _ List.mem_cons_self hS (0 + j) hj1
        rw [Nat.zero_add] at h0 h9 ⊢
        have h9 : look σ (.c id j) = (cs'[j]?).map .cv := h9
        unfold Bey
        split
        · rw [h0, h9]
        · rw [v2, h0, h9])]
      cases l with
      | k i =>
        dsimp only
        by_cases e : i = id
        · subst e
          simp only [Bey, bey, Wr.upd, Wr.fn, Blk.info, if_true, Option.getD_some, Bool.false_eq_true, if_false]
          rw [v1, k0, hk]
        · simp [Wr.upd, Wr.fn, Bey, bey, e]
      | c i off =>
        dsimp only
        by_cases e : i = id
        · subst e
          by_cases ho : off < cs'.length
          · have hb' : bey σ S (.c i off) = false := by
              simp only [bey, hS, Bool.true_and, hl]
              exact ble_ff ho
            rw [if_pos ⟨rfl, Nat.zero_le _, by omega⟩]
            simp [Bey, hb', Wr.upd, Wr.fn, Blk.cell]
          · have hb' : bey σ S (.c i off) = true := by
              simp only [bey, hS, Bool.true_and, hl]
              rw [Nat.ble_eq]; omega
            rw [if_neg (by omega)]
            simp only [Bey, hb', if_true]
        · rw [if_neg (fun h => e h.1)]
          simp [Wr.upd, Wr.fn, Bey, bey, e]
      | _ => rfl
theorem Bey_sub {S : Nat → Bool} {s0 s : Sto} : Sub s (Bey σ S s0 s) := ⟨fun _ h => h, fun _ h => h⟩
/-- Memory is as the store says, also where what is beyond a block's end is as it was. -/
theorem Hp.bey {C : Ctx} {e0 e : Env} {S : Nat → Bool} {s0 s : Sto} {w0 w : World} (h0 : Hp C e0 s0 w0) (inv : ∀ id, S id = true → s0 (.k id) = look σ (.k id)) (hS : ∀ id, S id = true → ∃ t ro cs cp, alook σ.bk id = some (.ar t ro cs cp)) (h : Hp C e s w) : Hp C e (Bey σ S s0 s) w := by
  refine ⟨h.new, ?_, h.ar, h.oq, h.cp, h.inj, h.lt, h.mu, h.pin.mono (Agree.refl _ _) Bey_sub, h.fr⟩
  intro id off v hv
  unfold Bey at hv
  split at hv
  · rename_i hb
    exfalso
    simp only [Sx.bey, Bool.and_eq_true, Nat.ble_eq] at hb
    obtain ⟨_, ⟨t, ro, n, cp, h2, h3⟩, _⟩ := h0.cl id off v hv
    obtain ⟨t', ro', cs, cp', h4⟩ := hS id hb.1
    rw [inv id hb.1] at h2
    have h5 := hb.2
    simp only [lenAt, h4] at h5
    simp only [look, h4, Option.map_some, Blk.info, Option.some.injEq, LV.bk.injEq, BI.ar.injEq] at h2
    omega
  · obtain ⟨h1, h2, h3⟩ := h.cl id off v hv
    exact ⟨h1.sub Bey_sub, h2, h3⟩
theorem newOk_at {rl : List Loc} {S : Nat → Bool} : ∀ {ws : List Wr} {seen : List Nat}, newOk σ rl S seen ws = true → ∀ {id b}, Wr.new id b ∈ ws → S id = true → shapeB σ id b = true ∧ hasK rl id = true
  | [], _, _, _, _, hm, _ => by cases hm
  | .nm c :: ws, seen, h, id, b, hm, hS => by
    cases hm with
    | tail _ hm => exact newOk_at (ws := ws) (seen := seen) h hm hS
  | .tm _ _ :: _, _, h, _, _, _, _ => by cases h
  | .ft _ :: _, _, h, _, _, _, _ => by cases h
  | .cell _ _ _ :: _, _, h, _, _, _, _ => by cases h
  | .new i b' :: ws, seen, h, id, b, hm, hS => by
    simp only [newOk, Bool.and_eq_true] at h
    cases hm with
    | head =>
      have := h.1.2
      rw [hS] at this
      simpa using this
    | tail _ hm => exact newOk_at h.2 hm hS
theorem OpOkW.slim {sk : Nat → Nat → Bool} {E : OpE} (hsk : ∀ id b, Wr.new id b ∈ E.ws → sameS σ E.ws id = true → ∀ j, sk id j = true → look σ (.c id j) = (b.cell j).map .cv) (h : OpOkW P σ o E) : OpOkW P σ o (slimE sk σ E) := by
  unfold slimE
  split
  · rename_i hn
    intro C e s a w next Q hp hx hl hnx
    have hS : ∀ id, sameS σ E.ws id = true → ∃ b, Wr.new id b ∈ E.ws ∧ shapeB σ id b = true := by
      intro id hid
      obtain ⟨y, hy, hy2⟩ := List.any_eq_true.1 hid
      cases y with
      | new i b =>
        simp only [Bool.and_eq_true] at hy2
        obtain rfl := beq_iff'.1 hy2.1
        exact ⟨b, hy, hy2.2⟩
      | _ => cases hy2
    have inv : ∀ id, sameS σ E.ws id = true → s (.k id) = look σ (.k id) := by
      intro id hid
      obtain ⟨b, hb, _⟩ := hS id hid
      obtain ⟨l, hl1, hl2⟩ := List.any_eq_true.1 (newOk_at hn hb hid).2
      cases l with
      | k i => obtain rfl := beq_iff'.1 hl2; exact hl _ hl1
      | _ => cases hl2
    have key : upds s (E.ws.flatMap (slimW sk E.rl (sameS σ E.ws))) = Bey σ (sameS σ E.ws) s (upds s E.ws) := by
      have := slim_all (s0 := s) (s := s) hl hsk hn (fun _ _ => ⟨rfl, fun _ => rfl⟩)
      have e0 : Bey σ (sameS σ E.ws) s s = s := by funext l; unfold Bey; split <;> rfl
      rwa [e0] at this
    refine h C e s a w next Q hp hx hl fun e' w' x hA hp' hv hn' => hnx e' w' x hA ?_ ?_ hn'
    · show Hp C e' (upds s (E.ws.flatMap (slimW sk E.rl (sameS σ E.ws)))) w'
      rw [key]
      exact hp.bey inv (fun id hid => by
        obtain ⟨b, _, hb⟩ := hS id hid
        obtain ⟨t, ro, cs, cp, _, h1, _⟩ := shape_at hb
        exact ⟨t, ro, cs, cp, h1⟩) hp'
    · intro v hv'
      obtain ⟨h1, h2⟩ := hv v hv'
      refine ⟨h1, ?_⟩
      show v.sc (upds s (E.ws.flatMap (slimW sk E.rl (sameS σ E.ws))))
      rw [key]
      exact h2.sub Bey_sub
  · exact h
theorem sameS_kn {ws : List Wr} {id : Nat} (h : sameS σ ws id = true) : ∃ b, alook σ.bk id = some b := by
  obtain ⟨y, hy, hy2⟩ := List.any_eq_true.1 h
  cases y with
  | new i b =>
    simp only [Bool.and_eq_true] at hy2
    obtain rfl := beq_iff'.1 hy2.1
    obtain ⟨t, ro, cs, cp, _, h1, _⟩ := shape_at hy2.2
    exact ⟨_, h1⟩
  | _ => cases hy2
end
end Sx
end Go.Proofs.YtpdhkgfdmpofiaaGreatDoor
