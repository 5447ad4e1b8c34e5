/- Behind label 0 of line: items, a key. -/
import Derived.Test.YtcnjmkjfgghgoaaZt18
section

namespace Go.Proofs.Ytcnjmkjfgghgoaa
open Go.RowKit Go.Ln Go.Mp Go.Tr
set_option linter.unusedVariables false
set_option maxRecDepth 100000
set_option maxHeartbeats 4000000
def Go1 (B : Nat) (s : ByteArray) (n : Nat) (w0 : World) (X : Except Int (List Tk)) (Q : Exit → Act → World → Prop) : Prop :=
  ∀ O (i : Nat) out a' w', Fr60 (.string s) (.int .i64 n) O (.int .i64 i) a' → i ≤ s.size → tkRow w' B O out → out.length ≤ s.size + 1 → Tch No w0 w' → scalar s.data.toList n i out = X → Q (.goto 1) a' w'
def Go0 (B : Nat) (s : ByteArray) (n : Nat) (w0 : World) (X : Except Int (List Tk)) (i0 : Nat) (Q : Exit → Act → World → Prop) : Prop :=
  ∀ O (i f : Nat) out a' w', Fr60 (.string s) (.int .i64 n) O (.int .i64 i) a' → i ≤ s.size → i0 < i → out.length ≤ i → tkRow w' B O out → Tch No w0 w' → s.size - i < f → items s.data.toList n f i out = X → Q (.goto 0) a' w'
theorem fr60i {S N O I : Value} {u2 u3 u5 u7 u8 u9 u10 u11 u12 u13 u14 u15 u16 u17 u18 u19 u20 u21 u22 u23 u24 u25 u26 u27 u28 u29 u30 u31 u32 u33 u34 u35 u36 u37 u38 u39 u40 u41 u42 u43 u44 u45 u46 u47 u48 u49 u50 u51 u52 u53 u54 u55 u56 u57 u58 u59 u60 u61 u62 u63 u64 u65 u66 u67 u68 u69 u70 u71 u72 u73 u74 u75 u76 u77 u78 u79 u80 u81 u82 u83 u84 u85 u86 u87 u88 u89 u90 u91 u92 u93 u94 u95 u96 u97 u98 u99 u100 u101 u102 u103 u104 u105 u106 u107 u108 u109 u110 u111 u112 u113 u114 u115 u116 u117 u118 u119 u120 u121 u122 u123 u124 u125 u126 u127 u128 u129 u130 u131 u132 u133 u134 u135 u136 u137 u138 u139 u140 u141 u142 u143 u144 u145 u146 u147 u148 u149 u150 u151 u152 u153 u154 u155 u156 u157 u158 u159 u160 u161 u162 u163 u164 u165 u166 u167 u168 u169 u170 u171 u172 u173 u174 u175 u176 u177 u178 u179 u180 u181 u182 u183 u184 u185 u186 u187 u188 u189 u190 u191 u192 u193 u194 u195 u196 u197 u198 u199 u200 u201 u202 u203 u204 u205 u206 u207 u208 u209 u210 u211 u212 u213 u214 u215 u216 u217 u218 u219 u220 u221 u222 u223 u224 u225 u226 u227 u228 u229 u230 u231 u232 u233 u234 u235 u236 u237 u238 u239 u240 u241 u242 u243 u244 : Value} : Fr60 S N O I { tmps := #[S, N, u2, u3, O, u5, I, u7, u8, u9, u10, u11, u12, u13, u14, u15, u16, u17, u18, u19, u20, u21, u22, u23, u24, u25, u26, u27, u28, u29, u30, u31, u32, u33, u34, u35, u36, u37, u38, u39, u40, u41, u42, u43, u44, u45, u46, u47, u48, u49, u50, u51, u52, u53, u54, u55, u56, u57, u58, u59, u60, u61, u62, u63, u64, u65, u66, u67, u68, u69, u70, u71, u72, u73, u74, u75, u76, u77, u78, u79, u80, u81, u82, u83, u84, u85, u86, u87, u88, u89, u90, u91, u92, u93, u94, u95, u96, u97, u98, u99, u100, u101, u102, u103, u104, u105, u106, u107, u108, u109, u110, u111, u112, u113, u114, u115, u116, u117, u118, u119, u120, u121, u122, u123, u124, u125, u126, u127, u128, u129, u130, u131, u132, u133, u134, u135, u136, u137, u138, u139, u140, u141, u142, u143, u144, u145, u146, u147, u148, u149, u150, u151, u152, u153, u154, u155, u156, u157, u158, u159, u160, u161, u162, u163, u164, u165, u166, u167, u168, u169, u170, u171, u172, u173, u174, u175, u176, u177, u178, u179, u180, u181, u182, u183, u184, u185, u186, u187, u188, u189, u190, u191, u192, u193, u194, u195, u196, u197, u198, u199, u200, u201, u202, u203, u204, u205, u206, u207, u208, u209, u210, u211, u212, u213, u214, u215, u216, u217, u218, u219, u220, u221, u222, u223, u224, u225, u226, u227, u228, u229, u230, u231, u232, u233, u234, u235, u236, u237, u238, u239, u240, u241, u242, u243, u244], defers := [] } := fr60 _ _ _ _ _ _ _ _ _ _ _ _ _ _ _ _ _ _ _ _ _ _ _ _ _ _ _ _ _ _ _ _ _ _ _ _ _ _ _ _ _ _ _ _ _ _ _ _ _ _ _ _ _ _ _ _ _ _ _ _ _ _ _ _ _ _ _ _ _ _ _ _ _ _ _ _ _ _ _ _ _ _ _ _ _ _ _ _ _ _ _ _ _ _ _ _ _ _ _ _ _ _ _ _ _ _ _ _ _ _ _ _ _ _ _ _ _ _ _ _ _ _ _ _ _ _ _ _ _ _ _ _ _ _ _ _ _ _ _ _ _ _ _ _ _ _ _ _ _ _ _ _ _ _ _ _ _ _ _ _ _ _ _ _ _ _ _ _ _ _ _ _ _ _ _ _ _ _ _ _ _ _ _ _ _ _ _ _ _ _ _ _ _ _ _ _ _ _ _ _ _ _ _ _ _ _ _ _ _ _ _ _ _ _ _ _ _ _ _ _ _ _ _ _ _ _ _ _ _ _ _ _ _ _ _ _ _ _ _ _ _ _ _ _ _
theorem items_over {l : List UInt8} {n : Int} {f i : Nat} {out : List Tk} (hf : 0 < f) (h : over l i = true) : items l n f i out = .ok out := by
  obtain ⟨f, rfl⟩ : ∃ g, f = g + 1 := ⟨f - 1, by omega⟩
  unfold items; rw [if_pos h]
theorem items_item {l : List UInt8} {n : Int} {f i : Nat} {out : List Tk} (hf : 0 < f) (h : over l i = false) (h2 : itemAt l i = true) : items l n f i out = items l n (f - 1) (blanks l (i + 1)) (out ++ [⟨2, n, i, [], false⟩]) := by
  obtain ⟨f, rfl⟩ : ∃ g, f = g + 1 := ⟨f - 1, by omega⟩
  rw [items, if_neg (by rw [h]; decide), if_pos h2]; rfl
theorem items_key {l : List UInt8} {n : Int} {f i : Nat} {out : List Tk} (hf : 0 < f) (h : over l i = false) (h2 : itemAt l i = false) : items l n f i out = keyed l n i out := by
  obtain ⟨f, rfl⟩ : ∃ g, f = g + 1 := ⟨f - 1, by omega⟩
  rw [items, if_neg (by rw [h]; decide), if_neg (by rw [h2]; decide)]
theorem begin_over {B : Nat} {s : ByteArray} {n i f : Nat} {out : List Tk} {O : Value} {a : Act} {w w0 : World} {X : Except Int (List Tk)} {Q : Exit → Act → World → Prop}
    (hF : Fr60 (.string s) (.int .i64 n) O (.int .i64 i) a) (hs : s.size < 4294967281) (hi : i ≤ s.size) (hrow : tkRow w B O out) (t0 : Tch No w0 w)
    (hf : s.size - i < f) (hX : items s.data.toList n f i out = X) (hret : Retc B w0 X Q) (hov : over s.data.toList i = true) : (q60 0).wp Try.prog Q a w := by
  obtain ⟨fr, rfl⟩ := hF
  refine wp_q rfl ?_
  have hO := over_any s i w (by omega) hi
  rw [hov] at hO
  have hX2 := Lib.hid (show X = .ok out by rw [← hX, items_over (by omega) hov])
  replace hO := Lib.hid hO
  replace hX := Lib.hid hX
  replace hov := Lib.hid hov
  replace hrow := Lib.hid hrow
  replace hret := Lib.hid hret
  replace t0 := Lib.hid t0
  go_wp2_with (first
    | (go_at_call 70; refine hO.out.mono ?_; rintro e w2 ⟨rfl, hw2⟩; subst hw2)
    | fail)
  refine hret.out _ _ rfl ?_ t0.out
  rw [hX2.out]
  exact ⟨hrow.out, rfl⟩
theorem begin_item1 {B : Nat} {s : ByteArray} {n i f : Nat} {out : List Tk} {O : Value} {a : Act} {w w0 : World} {X : Except Int (List Tk)} {Q : Exit → Act → World → Prop}
    (hF : Fr60 (.string s) (.int .i64 n) O (.int .i64 i) a) (hs : s.size < 4294967281) (hi : i ≤ s.size) (hrow : tkRow w B O out) (hol : out.length ≤ i) (t0 : Tch No w0 w) (hB : B = w0.heap.size)
    (hf : s.size - i < f) (hX : items s.data.toList n f i out = X) (hg : Go0 B s n w0 X i Q) (hov : over s.data.toList i = false) (hlt : i < s.size) (h45 : s[i] = 45) (hend : ¬ i + 1 < s.size) : (q60 0).wp Try.prog Q a w := by
  obtain ⟨fr, rfl⟩ := hF
  refine wp_q rfl ?_
  have hO := over_any s i w (by omega) hi
  rw [hov] at hO
  have hit : itemAt s.data.toList i = true := by unfold itemAt; rw [at_data s hlt, h45]; rw [decide_eq_true (show i + 1 = s.data.toList.length by rw [len_data]; omega)]; rfl
  have k0 := nn_lt2 hlt
  have kx : ((s[i].toNat : Nat) : Int) = 45 := by rw [h45]; rfl
  have k2 : ((i : Int) + 1 == (s.size : Int)) = true := by rw [beq_iff_eq]; omega
  obtain ⟨j, hj⟩ : ∃ j, j = blanks s.data.toList (i + 1) := ⟨_, rfl⟩
  have hBl := fun wx => blanks_any s (i + 1) wx (by omega) (by omega)
  simp only [← hj] at hBl
  replace hBl : ∀ wx, Calls Try.prog 69 #[.string s, .int .i64 ((i : Int) + 1)] wx fun e w' => e = .returned (.int .i64 j) ∧ wx = w' := hBl
  have hji : i < j := by rw [hj]; exact blanks_ge _ _
  have hjs : j ≤ s.size := by rw [hj]; have := blanks_le s.data.toList (i := i + 1) (by rw [len_data]; omega); rwa [len_data] at this
  have hX2 : items s.data.toList n (f - 1) j (out ++ [⟨2, n, i, [], false⟩]) = X := by rw [← hX, items_item (by omega) hov hit, hj]
  have hf2 : s.size - j < f - 1 := by omega
  have hol2 : (out ++ [(⟨2, n, i, [], false⟩ : Tk)]).length ≤ j := by rw [List.length_append]; simp only [List.length_singleton]; omega
  have hol3 : out.length < 2932031007400 := by omega
  have hw0 : ∀ k, O.ownBlock = some k → w0.heap.size ≤ k := fun k hk => hB ▸ (ownsRow_ge hrow hk).1
  have hBw := Lib.hid (show B ≤ w.heap.size by rw [hB]; exact t0.size)
  obtain ⟨oo, oc, rfl⟩ := ownsRow_shape hrow
  obtain ⟨i0, hif, hz0, hz1, hz2⟩ := info_parts info39
  replace hrow := Lib.hid (show w.ownsRow B 39 5 (.slice oo out.length oc) out.length (tcs (out.map tokOf)) from hrow)
  replace hif := Lib.hid hif
  replace hz0 := Lib.hid hz0
  replace hz1 := Lib.hid hz1
  replace hz2 := Lib.hid hz2
  replace hO := Lib.hid hO
  replace hX := Lib.hid hX
  replace hov := Lib.hid hov
  replace hg := Lib.hid hg
  replace t0 := Lib.hid t0
  replace hit := Lib.hid hit
  replace hj := Lib.hid hj
  replace hBl := Lib.hid hBl
  replace hji := Lib.hid hji
  replace hjs := Lib.hid hjs
  replace hX2 := Lib.hid hX2
  replace hf2 := Lib.hid hf2
  replace hol2 := Lib.hid hol2
  replace hol3 := Lib.hid hol3
  replace hol := Lib.hid hol
  replace hw0 := Lib.hid hw0
  replace h45 := Lib.hid h45
  replace hf := Lib.hid hf
  replace hi := Lib.hid hi
  go_wp2_with (first
    | (go_at_call 70; refine hO.out.mono ?_; rintro e w2 ⟨rfl, hw2⟩; subst hw2)
    | (go_at_call 69; refine (hBl.out _).mono ?_; rintro e w3 ⟨rfl, hw3⟩; subst hw3)
    | (at_builtin; refine wp_append_us rfl _ _ 23 (by rfl) B 39 i0 (.agg #[.int .i64 0, .int .i64 0, .int .i64 0, .string ⟨#[]⟩, .bool false]) 5 48 Try.underlying23 hif.out hz0.out hz1.out hz2.out rfl (by decide) _ out.length _ (by rfl) hrow.out 1 (by rfl) rfl (by simp [Value.oneCell']) (nn_own (Nat.le_refl _) hol3.out).1 (nn_own (Nat.le_refl _) hol3.out).2 hBw.out ?_; intro v7 w7 hr7 hg7 hl7; obtain ⟨po, pc, rfl⟩ := ownsRow_shape hr7; replace hr7 := Lib.hid hr7; replace hg7 := Lib.hid hg7; replace hl7 := Lib.hid hl7)
    | fail)
  have t7 := Lib.hid (t0.out.trans (Tch.grown (S := fun k => (Value.slice oo out.length oc).ownBlock = some k) hg7.out (fun k hk => .inl hk)) (fun k hk => .inr (hw0.out k hk)))
  go_step3
  exact hg.out _ _ _ _ _ _ fr60i hjs.out hji.out hol2.out (tkRow_snoc rfl hr7.out) t7.out hf2.out hX2.out
theorem begin_item2 {B : Nat} {s : ByteArray} {n i f : Nat} {out : List Tk} {O : Value} {a : Act} {w w0 : World} {X : Except Int (List Tk)} {Q : Exit → Act → World → Prop}
    (hF : Fr60 (.string s) (.int .i64 n) O (.int .i64 i) a) (hs : s.size < 4294967281) (hi : i ≤ s.size) (hrow : tkRow w B O out) (hol : out.length ≤ i) (t0 : Tch No w0 w) (hB : B = w0.heap.size)
    (hf : s.size - i < f) (hX : items s.data.toList n f i out = X) (hg : Go0 B s n w0 X i Q) (hov : over s.data.toList i = false) (hlt : i < s.size) (h45 : s[i] = 45) (hend : i + 1 < s.size) (h32 : s[i + 1] = 32) : (q60 0).wp Try.prog Q a w := by
  obtain ⟨fr, rfl⟩ := hF
  refine wp_q rfl ?_
  have hO := over_any s i w (by omega) hi
  rw [hov] at hO
  have hit : itemAt s.data.toList i = true := by unfold itemAt; rw [at_data s hlt, h45]; rw [at_data s hend, h32]; simp
  have k0 := nn_lt2 hlt
  have kx : ((s[i].toNat : Nat) : Int) = 45 := by rw [h45]; rfl
  have k2 : ((i : Int) + 1 == (s.size : Int)) = false ∧ ((s[i + 1].toNat : Nat) : Int) = 32 ∧ (i : Int) + 1 < (s.size : Int) := ⟨by rw [beq_eq_false_iff_ne]; omega, by rw [h32]; rfl, by omega⟩
  obtain ⟨j, hj⟩ : ∃ j, j = blanks s.data.toList (i + 1) := ⟨_, rfl⟩
  have hBl := fun wx => blanks_any s (i + 1) wx (by omega) (by omega)
  simp only [← hj] at hBl
  replace hBl : ∀ wx, Calls Try.prog 69 #[.string s, .int .i64 ((i : Int) + 1)] wx fun e w' => e = .returned (.int .i64 j) ∧ wx = w' := hBl
  have hji : i < j := by rw [hj]; exact blanks_ge _ _
  have hjs : j ≤ s.size := by rw [hj]; have := blanks_le s.data.toList (i := i + 1) (by rw [len_data]; omega); rwa [len_data] at this
  have hX2 : items s.data.toList n (f - 1) j (out ++ [⟨2, n, i, [], false⟩]) = X := by rw [← hX, items_item (by omega) hov hit, hj]
  have hf2 : s.size - j < f - 1 := by omega
  have hol2 : (out ++ [(⟨2, n, i, [], false⟩ : Tk)]).length ≤ j := by rw [List.length_append]; simp only [List.length_singleton]; omega
  have hol3 : out.length < 2932031007400 := by omega
  have hw0 : ∀ k, O.ownBlock = some k → w0.heap.size ≤ k := fun k hk => hB ▸ (ownsRow_ge hrow hk).1
  have hBw := Lib.hid (show B ≤ w.heap.size by rw [hB]; exact t0.size)
  obtain ⟨oo, oc, rfl⟩ := ownsRow_shape hrow
  obtain ⟨i0, hif, hz0, hz1, hz2⟩ := info_parts info39
  replace hrow := Lib.hid (show w.ownsRow B 39 5 (.slice oo out.length oc) out.length (tcs (out.map tokOf)) from hrow)
  replace hif := Lib.hid hif
  replace hz0 := Lib.hid hz0
  replace hz1 := Lib.hid hz1
  replace hz2 := Lib.hid hz2
  replace hO := Lib.hid hO
  replace hX := Lib.hid hX
  replace hov := Lib.hid hov
  replace hg := Lib.hid hg
  replace t0 := Lib.hid t0
  replace hit := Lib.hid hit
  replace hj := Lib.hid hj
  replace hBl := Lib.hid hBl
  replace hji := Lib.hid hji
  replace hjs := Lib.hid hjs
  replace hX2 := Lib.hid hX2
  replace hf2 := Lib.hid hf2
  replace hol2 := Lib.hid hol2
  replace hol3 := Lib.hid hol3
  replace hol := Lib.hid hol
  replace hw0 := Lib.hid hw0
  replace h45 := Lib.hid h45
  replace hf := Lib.hid hf
  replace hi := Lib.hid hi
  go_wp2_with (first
    | (go_at_call 70; refine hO.out.mono ?_; rintro e w2 ⟨rfl, hw2⟩; subst hw2)
    | (go_at_call 69; refine (hBl.out _).mono ?_; rintro e w3 ⟨rfl, hw3⟩; subst hw3)
    | (at_builtin; refine wp_append_us rfl _ _ 23 (by rfl) B 39 i0 (.agg #[.int .i64 0, .int .i64 0, .int .i64 0, .string ⟨#[]⟩, .bool false]) 5 48 Try.underlying23 hif.out hz0.out hz1.out hz2.out rfl (by decide) _ out.length _ (by rfl) hrow.out 1 (by rfl) rfl (by simp [Value.oneCell']) (nn_own (Nat.le_refl _) hol3.out).1 (nn_own (Nat.le_refl _) hol3.out).2 hBw.out ?_; intro v7 w7 hr7 hg7 hl7; obtain ⟨po, pc, rfl⟩ := ownsRow_shape hr7; replace hr7 := Lib.hid hr7; replace hg7 := Lib.hid hg7; replace hl7 := Lib.hid hl7)
    | fail)
  have t7 := Lib.hid (t0.out.trans (Tch.grown (S := fun k => (Value.slice oo out.length oc).ownBlock = some k) hg7.out (fun k hk => .inl hk)) (fun k hk => .inr (hw0.out k hk)))
  go_step3
  exact hg.out _ _ _ _ _ _ fr60i hjs.out hji.out hol2.out (tkRow_snoc rfl hr7.out) t7.out hf2.out hX2.out
end Go.Proofs.Ytcnjmkjfgghgoaa
end
