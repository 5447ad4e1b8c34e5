/- line: a line's tokens, or what is wrong. -/
import Derived.Test.YtcnjmkjfgghgoaaZt21
section

namespace Go.Proofs.Ytcnjmkjfgghgoaa
open Go.RowKit Go.Ln Go.Mp Go.Tr
set_option linter.unusedVariables false
set_option maxRecDepth 100000
set_option maxHeartbeats 4000000
theorem u8_isn {c : UInt8} {n : Nat} (hn : n < 256) : c = UInt8.ofNat n ∨ ¬ c = UInt8.ofNat n := Classical.em _
theorem begin_wp {B : Nat} {s : ByteArray} {n i f : Nat} {out : List Tk} {O : Value} {a : Act} {w w0 : World} {X : Except Int (List Tk)} {Q : Exit → Act → World → Prop} {m : Int}
    (hF : Fr60 (.string s) (.int .i64 n) O (.int .i64 i) a) (hs : s.size < 4294967281) (hi : i ≤ s.size) (hrow : tkRow w B O out) (hol : out.length ≤ i) (t0 : Tch No w0 w) (hB : B = w0.heap.size) (hm : w0.cell? ⟨0, 0, none⟩ = some (.int .i64 m))
    (hf : s.size - i < f) (hX : items s.data.toList n f i out = X) (hret : Retc B w0 X Q) (hg0 : Go0 B s n w0 X i Q) (hg1 : Go1 B s n w0 X Q) : (q60 0).wp Try.prog Q a w := by
  cases hov : over s.data.toList i with
  | true => exact begin_over hF hs hi hrow t0 hf hX hret hov
  | false =>
    have hlt := over_lt hi hov
    by_cases h34 : s[i] = 34
    · cases hq : qread s[i] (s.data.toList.drop (i + 1)) with
      | none => exact begin_qno34 hF hs hi hrow hol t0 hB hf hX hov hlt h34 hret hq
      | some r =>
        obtain ⟨t, k⟩ := r
        by_cases e1 : i + 1 + k < s.size
        · by_cases e2 : s[i + 1 + k] = 58
          · by_cases e3 : i + 1 + k + 1 < s.size
            · by_cases e4 : s[i + 1 + k + 1] = 32
              · exact begin_qk234 hF hs hi hrow hol t0 hB hf hX hov hlt h34 hg1 hq rfl e1 e2 e3 e4
              · exact begin_qs334 hF hs hi hrow hol t0 hB hf hX hov hlt h34 hg1 hq rfl e1 e2 e3 e4
            · exact begin_qk134 hF hs hi hrow hol t0 hB hf hX hov hlt h34 hg1 hq rfl e1 e2 (by omega)
          · exact begin_qs234 hF hs hi hrow hol t0 hB hf hX hov hlt h34 hg1 hq rfl e1 e2
        · have hkl := q_le hq
          rw [List.length_drop, len_data] at hkl
          exact begin_qs134 hF hs hi hrow hol t0 hB hf hX hov hlt h34 hg1 hq rfl (by omega)
    · by_cases h39 : s[i] = 39
      · cases hq : qread s[i] (s.data.toList.drop (i + 1)) with
        | none => exact begin_qno39 hF hs hi hrow hol t0 hB hf hX hov hlt h39 hret hq
        | some r =>
          obtain ⟨t, k⟩ := r
          by_cases e1 : i + 1 + k < s.size
          · by_cases e2 : s[i + 1 + k] = 58
            · by_cases e3 : i + 1 + k + 1 < s.size
              · by_cases e4 : s[i + 1 + k + 1] = 32
                · exact begin_qk239 hF hs hi hrow hol t0 hB hf hX hov hlt h39 hg1 hq rfl e1 e2 e3 e4
                · exact begin_qs339 hF hs hi hrow hol t0 hB hf hX hov hlt h39 hg1 hq rfl e1 e2 e3 e4
              · exact begin_qk139 hF hs hi hrow hol t0 hB hf hX hov hlt h39 hg1 hq rfl e1 e2 (by omega)
            · exact begin_qs239 hF hs hi hrow hol t0 hB hf hX hov hlt h39 hg1 hq rfl e1 e2
          · have hkl := q_le hq
            rw [List.length_drop, len_data] at hkl
            exact begin_qs139 hF hs hi hrow hol t0 hB hf hX hov hlt h39 hg1 hq rfl (by omega)
      · have hik := behind_ge s.data.toList i
        have hks : behind s.data.toList i ≤ s.size := by have := behind_le s.data.toList (i := i) (by rw [len_data]; omega); rwa [len_data] at this
        generalize hk : behind s.data.toList i = k at hik hks
        by_cases h45 : s[i] = 45
        · by_cases hi2 : i + 1 < s.size
          · by_cases hi32 : s[i + 1] = 32
            · exact begin_item2 hF hs hi hrow hol t0 hB hf hX hg0 hov hlt h45 hi2 hi32
            · by_cases e0 : i < k
              · by_cases e1 : k ≤ i + 64
                · by_cases e2 : k < s.size
                  · by_cases e3 : s[k] = 58
                    · by_cases e4 : k + 1 < s.size
                      · by_cases e5 : s[k + 1] = 32
                        · exact begin_yes2b hF hs hi hrow hol t0 hB hm hf hX hov hlt h34 h39 h45 hi2 hi32 hk.symm hret e0 e1 e2 e3 e4 e5
                        · exact begin_no5b hF hs hi hrow hol t0 hB hm hf hX hov hlt h34 h39 h45 hi2 hi32 hk.symm hret e0 e1 e2 e3 e4 e5
                      · exact begin_yes1b hF hs hi hrow hol t0 hB hm hf hX hov hlt h34 h39 h45 hi2 hi32 hk.symm hret e0 e1 e2 e3 (by omega)
                    · exact begin_no4b hF hs hi hrow hol t0 hB hm hf hX hov hlt h34 h39 h45 hi2 hi32 hk.symm hret e0 e1 e2 e3
                  · exact begin_no3b hF hs hi hrow hol t0 hB hm hf hX hov hlt h34 h39 h45 hi2 hi32 hk.symm hret e0 e1 (by omega)
                · exact begin_no2b hF hs hi hrow hol t0 hB hm hf hX hov hlt h34 h39 h45 hi2 hi32 hk.symm hret (by omega)
              · exact begin_no1b hF hs hi hrow hol t0 hB hm hf hX hov hlt h34 h39 h45 hi2 hi32 hk.symm hret (by omega)
          · exact begin_item1 hF hs hi hrow hol t0 hB hf hX hg0 hov hlt h45 hi2
        · by_cases e0 : i < k
          · by_cases e1 : k ≤ i + 64
            · by_cases e2 : k < s.size
              · by_cases e3 : s[k] = 58
                · by_cases e4 : k + 1 < s.size
                  · by_cases e5 : s[k + 1] = 32
                    · exact begin_yes2a hF hs hi hrow hol t0 hB hm hf hX hov hlt h34 h39 h45 hk.symm hret e0 e1 e2 e3 e4 e5
                    · exact begin_no5a hF hs hi hrow hol t0 hB hm hf hX hov hlt h34 h39 h45 hk.symm hret e0 e1 e2 e3 e4 e5
                  · exact begin_yes1a hF hs hi hrow hol t0 hB hm hf hX hov hlt h34 h39 h45 hk.symm hret e0 e1 e2 e3 (by omega)
                · exact begin_no4a hF hs hi hrow hol t0 hB hm hf hX hov hlt h34 h39 h45 hk.symm hret e0 e1 e2 e3
              · exact begin_no3a hF hs hi hrow hol t0 hB hm hf hX hov hlt h34 h39 h45 hk.symm hret e0 e1 (by omega)
            · exact begin_no2a hF hs hi hrow hol t0 hB hm hf hX hov hlt h34 h39 h45 hk.symm hret (by omega)
          · exact begin_no1a hF hs hi hrow hol t0 hB hm hf hX hov hlt h34 h39 h45 hk.symm hret (by omega)
/-- What holds at a jump to a label. -/
def J60 (B : Nat) (s : ByteArray) (n : Nat) (w0 : World) (X : Except Int (List Tk)) (l : Nat) (a : Act) (w : World) : Prop :=
  (l = 0 ∧ ∃ O, ∃ i f : Nat, ∃ out, Fr60 (.string s) (.int .i64 n) O (.int .i64 i) a ∧ i ≤ s.size ∧ out.length ≤ i ∧ tkRow w B O out ∧ Tch No w0 w ∧ s.size - i < f ∧ items s.data.toList n f i out = X) ∨
  (l = 1 ∧ ∃ O, ∃ i : Nat, ∃ out, Fr60 (.string s) (.int .i64 n) O (.int .i64 i) a ∧ i ≤ s.size ∧ out.length ≤ s.size + 1 ∧ tkRow w B O out ∧ Tch No w0 w ∧ scalar s.data.toList n i out = X)
def mu60 (N : Nat) (l : Nat) (a : Act) (w : World) : Nat := if l = 0 then N - (intOf (a.tmps.getD 6 undef)).toNat + 1 else 0
theorem mu_at {S N O I : Value} {a : Act} (h : Fr60 S N O I a) : a.tmps.getD 6 undef = I := by obtain ⟨f, rfl⟩ := h; rfl
theorem find60 {l : Nat} {B : Nat} {s : ByteArray} {n : Nat} {w0 : World} {X : Except Int (List Tk)} {a : Act} {w : World} (h : J60 B s n w0 X l a w) : findLabel c60 l = some (r60 l) := by
  rcases h with ⟨rfl, _⟩ | ⟨rfl, _⟩
  · exact rest60 has60.1
  · exact rest60 has60.2
theorem skip60 : ∃ R0 R1, findLabel c60 0 = some (.seq .skip R0) ∧ findLabel c60 1 = some (.seq .skip R1) := ⟨_, _, rfl, rfl⟩
/-- From the labels on. -/
theorem scope60 {B : Nat} {s : ByteArray} {n : Nat} {a : Act} {w w0 : World} {X : Except Int (List Tk)} {Q : Exit → Act → World → Prop} {m : Int}
    {c : Code} (hc : c60 = c) (hs : s.size < 4294967281) (hB : B = w0.heap.size) (hm : w0.cell? ⟨0, 0, none⟩ = some (.int .i64 m)) (hret : Retc B w0 X Q)
    (first : c.wp Try.prog (Exit.jumps (J60 B s n w0 X) Q) a w) : (Code.scope c).wp Try.prog Q a w := by
  subst hc
  refine wp_scope_labels r60 (J60 B s n w0 X) (mu60 s.size) (fun l a w h => find60 h) first ?_
  obtain ⟨R0, R1, hR0, hR1⟩ := skip60
  rintro l a w (⟨rfl, O, i, f, out, hF, hi, hol, hrow, t0, hf, hX⟩ | ⟨rfl, O, i, out, hF, hi, hol, hrow, t0, hX⟩)
  · refine wp_q3 hR0 (begin_wp hF hs hi hrow hol t0 hB hm hf hX (fun a' w' h1 h2 h3 => hret a' w' h1 h2 h3) ?_ ?_)
    · intro O2 i2 f2 out2 a2 w2 hF2 hi2 hlt hol2 hrow2 t2 hf2 hX2
      refine ⟨.inl ⟨rfl, O2, i2, f2, out2, hF2, hi2, hol2, hrow2, t2, hf2, hX2⟩, ?_⟩
      unfold mu60; rw [if_pos rfl, if_pos rfl, mu_at hF, mu_at hF2]; simp [intOf]; omega
    · intro O2 i2 out2 a2 w2 hF2 hi2 hrow2 hol2 t2 hX2
      refine ⟨.inr ⟨rfl, O2, i2, out2, hF2, hi2, hol2, hrow2, t2, hX2⟩, ?_⟩
      unfold mu60; rw [if_pos rfl, if_neg (by decide)]; omega
  · exact wp_q3 hR1 (scal_wp hF hs hi hrow (by omega) t0 hB (t0.cell_some hm id) (fun a' w' h1 h2 h3 => hret a' w' h1 (by rw [← hX]; exact h2) h3))
end Go.Proofs.Ytcnjmkjfgghgoaa
end
