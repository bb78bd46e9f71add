/-
 PassportRecalls: one more region of its walk, apart (the kernel's memory).
-/
import Derived.Test.YtmpilgkfbibhlaaGreatDoorG0R
import Derived.Test.YtmpilgkfbibhlaaGreatDoorG38R
import Derived.Test.YtmpilgkfbibhlaaGreatDoorG31R
set_option linter.unusedSimpArgs false
set_option linter.unusedVariables false
namespace Go.Proofs.YtmpilgkfbibhlaaGreatDoor
open Sx Go.RowKit Mr
set_option maxRecDepth 20000 in
def ops20 : Array Oper := #[{ dst := some 96, op := Op.move (Operand.tmp 9), type := 37, pos := "outright.go:334", after := #[], guard := none }, { dst := some 97, op := Op.nilCheck (Operand.tmp 96), type := 0, pos := "outright.go:334", after := #[{ on := 0, ground := Ground.data }], guard := none }, { dst := some 98, op := Op.fieldAddr 50 (Operand.tmp 97) 3, type := 0, pos := "outright.go:334", after := #[{ on := 1, ground := Ground.data }], guard := none }, { dst := some 99, op := Op.load 47 (Operand.tmp 98), type := 47, pos := "outright.go:334", after := #[{ on := 2, ground := Ground.data }], guard := none }, { dst := some 100, op := Op.move (Operand.tmp 17), type := 3, pos := "outright.go:334", after := #[], guard := none }, { dst := some 101, op := Op.indexAddr 47 (Operand.tmp 99) (Operand.tmp 100), type := 0, pos := "outright.go:334", after := #[{ on := 3, ground := Ground.data }, { on := 4, ground := Ground.data }], guard := none }, { dst := some 102, op := Op.load 9 (Operand.tmp 101), type := 9, pos := "outright.go:334", after := #[{ on := 5, ground := Ground.data }], guard := none }, { dst := some 103, op := Op.move (Operand.tmp 9), type := 37, pos := "outright.go:334", after := #[], guard := none }, { dst := some 104, op := Op.move (Operand.tmp 9), type := 37, pos := "outright.go:334", after := #[], guard := none }, { dst := some 105, op := Op.nilCheck (Operand.tmp 104), type := 0, pos := "outright.go:334", after := #[{ on := 8, ground := Ground.data }], guard := none }, { dst := some 106, op := Op.fieldAddr 50 (Operand.tmp 105) 3, type := 0, pos := "outright.go:334", after := #[{ on := 9, ground := Ground.data }], guard := none }, { dst := some 107, op := Op.load 47 (Operand.tmp 106), type := 47, pos := "outright.go:334", after := #[{ on := 10, ground := Ground.data }], guard := none }, { dst := some 108, op := Op.move (Operand.tmp 17), type := 3, pos := "outright.go:334", after := #[], guard := none }, { dst := some 109, op := Op.indexAddr 47 (Operand.tmp 107) (Operand.tmp 108), type := 0, pos := "outright.go:334", after := #[{ on := 11, ground := Ground.data }, { on := 12, ground := Ground.data }], guard := none }, { dst := some 110, op := Op.load 9 (Operand.tmp 109), type := 9, pos := "outright.go:334", after := #[{ on := 13, ground := Ground.data }], guard := none }, { dst := some 111, op := Op.call { callee := Callee.value (Operand.func 22), args := #[Operand.tmp 103, Operand.tmp 110], argTypes := #[37, 9] }, type := 61, pos := "outright.go:334", after := #[{ on := 7, ground := Ground.data }, { on := 14, ground := Ground.data }], guard := none }, { dst := some 112, op := Op.call { callee := Callee.value (Operand.func 21), args := #[Operand.tmp 102, Operand.tmp 111], argTypes := #[9, 61] }, type := 57, pos := "outright.go:334", after := #[{ on := 6, ground := Ground.data }, { on := 15, ground := Ground.data }, { on := 15, ground := Ground.chain }], guard := none }, { dst := some 95, op := Op.move (Operand.tmp 112), type := 57, pos := "outright.go:334", after := #[{ on := 16, ground := Ground.data }], guard := none }, { dst := some 113, op := Op.extract (Operand.tmp 95) 0, type := 47, pos := "outright.go:334", after := #[{ on := 17, ground := Ground.data }], guard := none }, { dst := some 114, op := Op.extract (Operand.tmp 95) 1, type := 32, pos := "outright.go:334", after := #[{ on := 17, ground := Ground.data }, { on := 20, ground := Ground.gcOnly Departure.lateStores }], guard := none }, { dst := some 18, op := Op.assign (Operand.tmp 113), type := 47, pos := "outright.go:334", after := #[{ on := 18, ground := Ground.data }, { on := 16, ground := Ground.chain }, { on := 0, ground := Ground.phase }, { on := 1, ground := Ground.phase }, { on := 2, ground := Ground.phase }, { on := 3, ground := Ground.phase }, { on := 4, ground := Ground.phase }, { on := 5, ground := Ground.phase }, { on := 6, ground := Ground.phase }, { on := 7, ground := Ground.phase }, { on := 8, ground := Ground.phase }, { on := 9, ground := Ground.phase }, { on := 10, ground := Ground.phase }, { on := 11, ground := Ground.phase }, { on := 12, ground := Ground.phase }, { on := 13, ground := Ground.phase }, { on := 14, ground := Ground.phase }, { on := 15, ground := Ground.phase }, { on := 16, ground := Ground.phase }, { on := 17, ground := Ground.phase }, { on := 18, ground := Ground.phase }, { on := 19, ground := Ground.textOnly Departure.lateStores }], guard := none }, { dst := some 19, op := Op.assign (Operand.tmp 114), type := 32, pos := "outright.go:334", after := #[{ on := 19, ground := Ground.data }, { on := 20, ground := Ground.chain }, { on := 0, ground := Ground.phase }, { on := 1, ground := Ground.phase }, { on := 2, ground := Ground.phase }, { on := 3, ground := Ground.phase }, { on := 4, ground := Ground.phase }, { on := 5, ground := Ground.phase }, { on := 6, ground := Ground.phase }, { on := 7, ground := Ground.phase }, { on := 8, ground := Ground.phase }, { on := 9, ground := Ground.phase }, { on := 10, ground := Ground.phase }, { on := 11, ground := Ground.phase }, { on := 12, ground := Ground.phase }, { on := 13, ground := Ground.phase }, { on := 14, ground := Ground.phase }, { on := 15, ground := Ground.phase }, { on := 16, ground := Ground.phase }, { on := 17, ground := Ground.phase }, { on := 18, ground := Ground.phase }, { on := 19, ground := Ground.phase }, { on := 20, ground := Ground.phase }], guard := none }]
set_option maxHeartbeats 8000000 in
set_option maxRecDepth 20000 in
theorem reg20 {u0 u1 u2 u3 u4 u5 u6 u7 u8 u10 u11 u12 u13 u14 u15 u16 u18 u19 u20 u21 u22 u23 u24 u25 u26 u27 u28 u29 u30 u31 u32 u33 u34 u35 u36 u37 u38 u39 u40 u41 u42 u43 u44 u45 u46 u47 u48 u49 u50 u51 u52 u53 u54 u55 u56 u57 u58 u59 u60 u61 u62 u63 u64 u65 u66 u67 u68 u69 u70 u71 u72 u73 u74 u75 u76 u77 u78 u79 u80 u81 u82 u83 u84 u85 u86 u87 u88 u89 u90 u91 u92 u93 u94 u95 u96 u97 u98 u99 u100 u101 u102 u103 u104 u105 u106 u107 u108 u109 u110 u111 u112 u113 u114 u115 u116 u117 u118 u119 u120 u121 u122 u123 u124 u125 u126 u127 u128 u129 u130 u131 u132 u133 u134 u135 u136 u137 u138 u139 u140 u141 u142 u143 u144 u145 u146 u147 u148 u149 u150 u151 u152 u153 u154 u155 u156 u157 u158 u159 u160 u161 u162 u163 u164 u165 u166 u167 u168 u169 u170 u171 u172 u173 u174 u175 u176 u177 u178 u179 u180 u181 u182 u183 u184 u185 u186 u187 u188 u189 u190 u191 u192 u193 u194 u195 u196 u197 u198 u199 u200 u201 u202 u203 u204 u205 u206 u207 u208 u209 u210 u211 u212 u213 u214 u215 u216 u217 u218 u219 u220 u221 u222 u223 u224 u225 u226 u227 u228 u229 u230 u231 u232 u233 u234 u235 u236 u237 u238 u239 u240 u241 u242 u243 u244 u245 u246 u247 : Value} {wr : World} {Wd pb k n3 cp2 : Nat} {q : ByteArray} {es es2 : List Ent} {Q : Exit → Act → World → Prop}
  (HF : Hid (wr.cell? ⟨Wd, 3, none⟩ = some (.slice (some ⟨pb, 0, none⟩) n3 cp2) ∧ Wd < wr.heap.size ∧ wr.cell? ⟨pb, k, none⟩ = some (.string q) ∧ pb < wr.heap.size))
  (CE : Hid (∀ W, Below wr.heap.size wr W → Calls Tryz.prog 22 #[.pointer (some ⟨Wd, 0, none⟩), .string q] W fun en w' => ∃ v', en = .returned v' ∧ w'.ownsRow W.heap.size 29 6 v' es2.length (flatE (evsOf es2)) ∧ Below W.heap.size W w'))
  (CM : Hid (∀ W, Below wr.heap.size wr W → ∀ {a9 : Option Addr} (c9 : Nat), EvAt a9 (evsOf es2) W → Calls Tryz.prog 21 #[.string q, .slice a9 (evsOf es2).length c9] W fun en w' => ∃ v', en = .returned (.tuple #[v', .int .i64 0]) ∧ SRow v' (lf (q, es)).ms w' ∧ Below W.heap.size W w'))
  (k0 : (0 : Int) ≤ k) (c1 : (k : Int) < n3)
  (hh : ∀ (x95 x96 x97 x98 x99 x100 x101 x102 x103 x104 x105 x106 x107 x108 x109 x110 x111 x112 x113 x114 v' : Value) (W : World), Below wr.heap.size wr W → SRow v' (lf (q, es)).ms W → Q .normal { tmps := #[u0, u1, u2, u3, u4, u5, u6, u7, u8, .pointer (some ⟨Wd, 0, none⟩), u10, u11, u12, u13, u14, u15, u16, .int .i64 (k : Int), v', .int .i64 0, u20, u21, u22, u23, u24, u25, u26, u27, u28, u29, u30, u31, u32, u33, u34, u35, u36, u37, u38, u39, u40, u41, u42, u43, u44, u45, u46, u47, u48, u49, u50, u51, u52, u53, u54, u55, u56, u57, u58, u59, u60, u61, u62, u63, u64, u65, u66, u67, u68, u69, u70, u71, u72, u73, u74, u75, u76, u77, u78, u79, u80, u81, u82, u83, u84, u85, u86, u87, u88, u89, u90, u91, u92, u93, u94, x95, x96, x97, x98, x99, x100, x101, x102, x103, x104, x105, x106, x107, x108, x109, x110, x111, x112, x113, x114, u115, u116, u117, u118, u119, u120, u121, u122, u123, u124, u125, u126, u127, u128, u129, u130, u131, u132, u133, u134, u135, u136, u137, u138, u139, u140, u141, u142, u143, u144, u145, u146, u147, u148, u149, u150, u151, u152, u153, u154, u155, u156, u157, u158, u159, u160, u161, u162, u163, u164, u165, u166, u167, u168, u169, u170, u171, u172, u173, u174, u175, u176, u177, u178, u179, u180, u181, u182, u183, u184, u185, u186, u187, u188, u189, u190, u191, u192, u193, u194, u195, u196, u197, u198, u199, u200, u201, u202, u203, u204, u205, u206, u207, u208, u209, u210, u211, u212, u213, u214, u215, u216, u217, u218, u219, u220, u221, u222, u223, u224, u225, u226, u227, u228, u229, u230, u231, u232, u233, u234, u235, u236, u237, u238, u239, u240, u241, u242, u243, u244, u245, u246, u247], defers := [] } W) :
  Code.wp Tryz.prog (Code.region 20 ops20 true) Q { tmps := #[u0, u1, u2, u3, u4, u5, u6, u7, u8, .pointer (some ⟨Wd, 0, none⟩), u10, u11, u12, u13, u14, u15, u16, .int .i64 (k : Int), u18, u19, u20, u21, u22, u23, u24, u25, u26, u27, u28, u29, u30, u31, u32, u33, u34, u35, u36, u37, u38, u39, u40, u41, u42, u43, u44, u45, u46, u47, u48, u49, u50, u51, u52, u53, u54, u55, u56, u57, u58, u59, u60, u61, u62, u63, u64, u65, u66, u67, u68, u69, u70, u71, u72, u73, u74, u75, u76, u77, u78, u79, u80, u81, u82, u83, u84, u85, u86, u87, u88, u89, u90, u91, u92, u93, u94, u95, u96, u97, u98, u99, u100, u101, u102, u103, u104, u105, u106, u107, u108, u109, u110, u111, u112, u113, u114, u115, u116, u117, u118, u119, u120, u121, u122, u123, u124, u125, u126, u127, u128, u129, u130, u131, u132, u133, u134, u135, u136, u137, u138, u139, u140, u141, u142, u143, u144, u145, u146, u147, u148, u149, u150, u151, u152, u153, u154, u155, u156, u157, u158, u159, u160, u161, u162, u163, u164, u165, u166, u167, u168, u169, u170, u171, u172, u173, u174, u175, u176, u177, u178, u179, u180, u181, u182, u183, u184, u185, u186, u187, u188, u189, u190, u191, u192, u193, u194, u195, u196, u197, u198, u199, u200, u201, u202, u203, u204, u205, u206, u207, u208, u209, u210, u211, u212, u213, u214, u215, u216, u217, u218, u219, u220, u221, u222, u223, u224, u225, u226, u227, u228, u229, u230, u231, u232, u233, u234, u235, u236, u237, u238, u239, u240, u241, u242, u243, u244, u245, u246, u247], defers := [] } wr := by
 have c2 : k < n3 := by omega
 unfold ops20
 refine region_all 22 5 248 [(15, 111), (16, 112), (17, 95), (18, 113), (20, 18)] [(none, []), (none, []), (none, []), (none, []), (none, []), (none, []), (none, []), (none, []), (none, []), (none, []), (none, []), (none, []), (none, []), (none, []), (none, []), (some 0, []), (some 1, [0]), (some 2, [1]), (some 3, [2]), (none, [2]), (some 4, [3]), (none, [])] [(96, (.pointer (some ⟨Wd, 0, none⟩))), (97, (.pointer (some ⟨Wd, 0, none⟩))), (98, (.pointer (some ⟨Wd, 3, none⟩))), (99, (.slice (some ⟨pb, 0, none⟩) n3 cp2)), (100, (.int .i64 (k : Int))), (101, (.pointer (some ⟨pb, k, none⟩))), (102, (.string q)), (103, (.pointer (some ⟨Wd, 0, none⟩))), (104, (.pointer (some ⟨Wd, 0, none⟩))), (105, (.pointer (some ⟨Wd, 0, none⟩))), (106, (.pointer (some ⟨Wd, 3, none⟩))), (107, (.slice (some ⟨pb, 0, none⟩) n3 cp2)), (108, (.int .i64 (k : Int))), (109, (.pointer (some ⟨pb, k, none⟩))), (110, (.string q)), (114, (.int .i64 0)), (19, (.int .i64 0))] (fun bsE vsE W => CbV (fun W => Below wr.heap.size wr W) (EvSl es2) (fun v' W => SRow v' (lf (q, es)).ms W) tup0 (bsE.getD 0 false) (bsE.getD 1 false) (bsE.getD 2 false) (bsE.getD 3 false) (bsE.getD 4 false) ((vsE.getD 0 undef)) ((vsE.getD 1 undef)) ((vsE.getD 2 undef)) ((vsE.getD 3 undef)) ((vsE.getD 4 undef)) W) (by kernel_rfl) (by kernel_rfl) rfl rfl (by kernel_rfl) (by rfl) ?h0 ?each ?done
 case h0 =>
  intro vsE hlv
  obtain ⟨v0, v1, v2, v3, v4, rfl⟩ := ll5 hlv
  exact CbV.start (Below.refl _ _).drew
 case each =>
  simp only [AllE]
  refine ⟨⟨96, (.pointer (some ⟨Wd, 0, none⟩)), rfl, by kernel_rfl, ?_⟩, ⟨97, (.pointer (some ⟨Wd, 0, none⟩)), rfl, by kernel_rfl, ?_⟩, ⟨98, (.pointer (some ⟨Wd, 3, none⟩)), rfl, by kernel_rfl, ?_⟩, ⟨99, (.slice (some ⟨pb, 0, none⟩) n3 cp2), rfl, by kernel_rfl, ?_⟩, ⟨100, (.int .i64 (k : Int)), rfl, by kernel_rfl, ?_⟩, ⟨101, (.pointer (some ⟨pb, k, none⟩)), rfl, by kernel_rfl, ?_⟩, ⟨102, (.string q), rfl, by kernel_rfl, ?_⟩, ⟨103, (.pointer (some ⟨Wd, 0, none⟩)), rfl, by kernel_rfl, ?_⟩, ⟨104, (.pointer (some ⟨Wd, 0, none⟩)), rfl, by kernel_rfl, ?_⟩, ⟨105, (.pointer (some ⟨Wd, 0, none⟩)), rfl, by kernel_rfl, ?_⟩, ⟨106, (.pointer (some ⟨Wd, 3, none⟩)), rfl, by kernel_rfl, ?_⟩, ⟨107, (.slice (some ⟨pb, 0, none⟩) n3 cp2), rfl, by kernel_rfl, ?_⟩, ⟨108, (.int .i64 (k : Int)), rfl, by kernel_rfl, ?_⟩, ⟨109, (.pointer (some ⟨pb, k, none⟩)), rfl, by kernel_rfl, ?_⟩, ⟨110, (.string q), rfl, by kernel_rfl, ?_⟩, Or.inl ⟨111, rfl, ?q1_15⟩, Or.inl ⟨112, rfl, ?q1_16⟩, Or.inl ⟨95, rfl, ?q1_17⟩, Or.inl ⟨113, rfl, ?q1_18⟩, ⟨114, (.int .i64 0), rfl, by kernel_rfl, ?q1_19⟩, Or.inl ⟨18, rfl, ?q1_20⟩, ⟨19, (.int .i64 0), rfl, by kernel_rfl, ?_⟩, trivial⟩
  case q1_15 =>
   intro bsE vsE W hlb hlv hnd hbk h
   obtain ⟨b0, b1, b2, b3, b4, rfl⟩ := ll5 hlb
   obtain ⟨v0, v1, v2, v3, v4, rfl⟩ := ll5 hlv
   obtain rfl : b0 = false := hbk
   replace h : CbV (fun W => Below wr.heap.size wr W) (EvSl es2) (fun v' W => SRow v' (lf (q, es)).ms W) tup0 false b1 b2 b3 b4 (v0) (v1) (v2) (v3) (v4) W := h
   clear hnd
   have HST := Lib.hid h
   skip
   intro K Q hK
   simp only [putE, updAll, Act.put, sl1, sl2, sl3, sl4] at hK ⊢
   go_wp2_with (go_at_call 22; refine (CE.out _ h.p).mono ?_; rintro en w9 ⟨v', rfl, ho9, hb9⟩)
   all_goals (have hm := h.mk0 (v' := v') (bStep h.p hb9) (by obtain ⟨a9, c9, e9⟩ := row_slice ho9; subst e9; have hl9 := evs_len es2; rw [← hl9] at ho9 ⊢; exact ⟨a9, c9, rfl, flatE_EvAt ho9⟩))
   all_goals (first | exact hK _ _ hm | exact hm)
  case q1_16 =>
   intro bsE vsE W hlb hlv hnd hbk h
   obtain ⟨b0, b1, b2, b3, b4, rfl⟩ := ll5 hlb
   obtain ⟨v0, v1, v2, v3, v4, rfl⟩ := ll5 hlv
   obtain rfl : b0 = true := hnd 0 (by simp)
   obtain rfl : b1 = false := hbk
   replace h : CbV (fun W => Below wr.heap.size wr W) (EvSl es2) (fun v' W => SRow v' (lf (q, es)).ms W) tup0 true false b2 b3 b4 (v0) (v1) (v2) (v3) (v4) W := h
   clear hnd
   have HST := Lib.hid h
   obtain ⟨a9, c9, rfl, hev⟩ := h.y rfl
   intro K Q hK
   simp only [putE, updAll, Act.put, sl1, sl2, sl3, sl4] at hK ⊢
   go_wp2_with (go_at_call 21; refine (CM.out _ h.p c9 hev).mono ?_; rintro en w9 ⟨v', rfl, hs9, hb9⟩)
   all_goals (have hm := h.mk1 (bStep h.p hb9) ⟨a9, c9, rfl, hev.step hb9⟩ hs9)
   all_goals (first | exact hK _ _ hm | exact hm)
  case q1_17 =>
   intro bsE vsE W hlb hlv hnd hbk h
   obtain ⟨b0, b1, b2, b3, b4, rfl⟩ := ll5 hlb
   obtain ⟨v0, v1, v2, v3, v4, rfl⟩ := ll5 hlv
   obtain rfl : b1 = true := hnd 1 (by simp)
   obtain rfl : b2 = false := hbk
   replace h : CbV (fun W => Below wr.heap.size wr W) (EvSl es2) (fun v' W => SRow v' (lf (q, es)).ms W) tup0 b0 true false b3 b4 (v0) (v1) (v2) (v3) (v4) W := h
   clear hnd
   have HST := Lib.hid h
   obtain ⟨vt, rfl⟩ := h.val1; have hm := h.mk2
   intro K Q hK
   simp only [putE, updAll, Act.put, sl1, sl2, sl3, sl4] at hK ⊢
   go_wp2_with fail
   all_goals (first | exact hK _ _ hm | exact hm)
  case q1_18 =>
   intro bsE vsE W hlb hlv hnd hbk h
   obtain ⟨b0, b1, b2, b3, b4, rfl⟩ := ll5 hlb
   obtain ⟨v0, v1, v2, v3, v4, rfl⟩ := ll5 hlv
   obtain rfl : b2 = true := hnd 2 (by simp)
   obtain rfl : b3 = false := hbk
   replace h : CbV (fun W => Below wr.heap.size wr W) (EvSl es2) (fun v' W => SRow v' (lf (q, es)).ms W) tup0 b0 b1 true false b4 (v0) (v1) (v2) (v3) (v4) W := h
   clear hnd
   have HST := Lib.hid h
   obtain ⟨vt, rfl⟩ := h.val2; have hm := h.mk3 tup0_inj; unfold tup0
   intro K Q hK
   simp only [putE, updAll, Act.put, sl1, sl2, sl3, sl4] at hK ⊢
   go_wp2_with fail
   all_goals (first | exact hK _ _ hm | exact hm)
  case q1_19 =>
   intro bsE vsE W hlb hlv hnd h
   obtain ⟨b0, b1, b2, b3, b4, rfl⟩ := ll5 hlb
   obtain ⟨v0, v1, v2, v3, v4, rfl⟩ := ll5 hlv
   obtain rfl : b2 = true := hnd 2 (by simp)
   replace h : CbV (fun W => Below wr.heap.size wr W) (EvSl es2) (fun v' W => SRow v' (lf (q, es)).ms W) tup0 b0 b1 true b3 b4 (v0) (v1) (v2) (v3) (v4) W := h
   clear hnd
   have HST := Lib.hid h
   obtain ⟨vt, rfl⟩ := h.val2; unfold tup0
   intro K Q hK
   simp only [putE, updAll, Act.put, sl1, sl2, sl3, sl4] at hK ⊢
   go_wp2_with (fail)
   all_goals (first | exact hK _ h | exact h)
  case q1_20 =>
   intro bsE vsE W hlb hlv hnd hbk h
   obtain ⟨b0, b1, b2, b3, b4, rfl⟩ := ll5 hlb
   obtain ⟨v0, v1, v2, v3, v4, rfl⟩ := ll5 hlv
   obtain rfl : b3 = true := hnd 3 (by simp)
   obtain rfl : b4 = false := hbk
   replace h : CbV (fun W => Below wr.heap.size wr W) (EvSl es2) (fun v' W => SRow v' (lf (q, es)).ms W) tup0 b0 b1 b2 true false (v0) (v1) (v2) (v3) (v4) W := h
   clear hnd
   have HST := Lib.hid h
   have hm := h.mk4
   intro K Q hK
   simp only [putE, updAll, Act.put, sl1, sl2, sl3, sl4] at hK ⊢
   go_wp2_with fail
   all_goals (first | exact hK _ _ hm | exact hm)
  all_goals
   intro bsE vsE W hlb hlv hnd h
   obtain ⟨b0, b1, b2, b3, b4, rfl⟩ := ll5 hlb
   obtain ⟨v0, v1, v2, v3, v4, rfl⟩ := ll5 hlv
   replace h : CbV (fun W => Below wr.heap.size wr W) (EvSl es2) (fun v' W => SRow v' (lf (q, es)).ms W) tup0 b0 b1 b2 b3 b4 (v0) (v1) (v2) (v3) (v4) W := h
   clear hnd
   have HST := Lib.hid h
   obtain ⟨f3, fl, fk, fb⟩ := HF.out; have d3 := cell_step f3 h.p; have dl := Nat.lt_of_lt_of_le fl h.p.size; have dk := cell_step fk h.p; have db := Nat.lt_of_lt_of_le fb h.p.size; clear f3 fl fk fb
   intro K Q hK
   simp only [putE, updAll, Act.put, sl1, sl2, sl3, sl4] at hK ⊢
   go_wp2_with (fail)
   all_goals (first | exact hK _ h | exact h)
 case done =>
  intro vsE W hlv h
  obtain ⟨v0, v1, v2, v3, v4, rfl⟩ := ll5 hlv
  replace h : CbV (fun W => Below wr.heap.size wr W) (EvSl es2) (fun v' W => SRow v' (lf (q, es)).ms W) tup0 true true true true true (v0) (v1) (v2) (v3) (v4) W := h
  have HST := Lib.hid h
  obtain ⟨hb9, rfl, rfl, rfl, hs9⟩ := h.fin
  clear h HST
  simp only [putE, updAll, Act.put, sl1, sl2, sl3, sl4]
  exact hh _ _ _ _ _ _ _ _ _ _ _ _ _ _ _ _ _ _ _ _ _ W hb9 hs9
end Go.Proofs.YtmpilgkfbibhlaaGreatDoor
