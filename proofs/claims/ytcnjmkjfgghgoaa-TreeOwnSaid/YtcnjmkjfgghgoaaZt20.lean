/- Behind label 0 of line: a quoted key or a quoted text. -/
import Derived.Test.YtcnjmkjfgghgoaaZt19
section

namespace Go.Proofs.Ytcnjmkjfgghgoaa
open Go.RowKit Go.Ln Go.Mp Go.Tr
set_option linter.unusedVariables false
set_option maxRecDepth 100000
set_option maxHeartbeats 4000000
theorem item_no {s : ByteArray} {i : Nat} (hlt : i < s.size) (h : ¬ s[i] = 45) : itemAt s.data.toList i = false := by
  unfold itemAt; rw [at_data s hlt, decide_eq_false (fun e => h (Option.some.inj e)), Bool.false_and]
theorem keyed_qno {l : List UInt8} {n : Int} {i : Nat} {out : List Tk} {c : UInt8} (h : quoteAt l i = true) (hc : l[i]? = some c) (hq : qread c (l.drop (i + 1)) = none) : keyed l n i out = .error 82 := by
  unfold keyed; rw [if_pos h, hc]; simp only [Option.getD_some, hq]
theorem keyed_qs {l : List UInt8} {n : Int} {i k : Nat} {t : List UInt8} {out : List Tk} {c : UInt8} (h : quoteAt l i = true) (hc : l[i]? = some c) (hq : qread c (l.drop (i + 1)) = some (t, k)) (hn : colon l (i + 1 + k) = false) : keyed l n i out = scalar l n i out := by
  unfold keyed; rw [if_pos h, hc]; simp only [Option.getD_some, hq]; rw [if_neg (by rw [hn]; decide)]
theorem keyed_qk {l : List UInt8} {n : Int} {i k : Nat} {t : List UInt8} {out : List Tk} {c : UInt8} (h : quoteAt l i = true) (hc : l[i]? = some c) (hq : qread c (l.drop (i + 1)) = some (t, k)) (hn : colon l (i + 1 + k) = true) : keyed l n i out = scalar l n (blanks l (i + 1 + k + 1)) (out ++ [⟨3, n, i, t, true⟩]) := by
  unfold keyed; rw [if_pos h, hc]; simp only [Option.getD_some, hq]; rw [if_pos hn]
theorem begin_qno34 {B : Nat} {s : ByteArray} {n i f : Nat} {out : List Tk} {O : Value} {a : Act} {w w0 : World} {X : Except Int (List Tk)} {Q : Exit → Act → World → Prop}
    (hF : Fr60 (.string s) (.int .i64 n) O (.int .i64 i) a) (hs : s.size < 4294967281) (hi : i ≤ s.size) (hrow : tkRow w B O out) (hol : out.length ≤ i) (t0 : Tch No w0 w) (hB : B = w0.heap.size)
    (hf : s.size - i < f) (hX : items s.data.toList n f i out = X) (hov : over s.data.toList i = false) (hlt : i < s.size) (hc : s[i] = 34)
    (hret : Retc B w0 X Q) (hq : qread s[i] (s.data.toList.drop (i + 1)) = none) : (q60 0).wp Try.prog Q a w := by
  obtain ⟨fr, rfl⟩ := hF
  refine wp_q rfl ?_
  have hO := over_any s i w (by omega) hi
  rw [hov] at hO
  have hit := item_no hlt (by rw [hc]; decide)
  have hqa := quote_yes hlt (by rw [hc]; decide)
  have k0 := nn_lt2 hlt
  have kx : ((s[i].toNat : Nat) : Int) = 34 := by rw [hc]; rfl
  have hQ := quoted_any s i w hs hlt hex_ib
  have hX2 := Lib.hid (show X = .error 82 by rw [← hX, items_key (by omega) hov hit, keyed_qno hqa (at_data s hlt) hq])
  rw [hq] at hQ
  replace hQ : Calls Try.prog 71 #[.string s, .int .i64 i] w fun e w' => e = .returned (.tuple #[.string ⟨#[]⟩, .int .i64 0, .bool false]) ∧ Tch No w w' := hQ
  replace hO := Lib.hid hO
  replace hX := Lib.hid hX
  replace hov := Lib.hid hov
  replace hrow := Lib.hid hrow
  replace hret := Lib.hid hret
  replace t0 := Lib.hid t0
  replace hol := Lib.hid hol
  replace hqa := Lib.hid hqa
  replace hit := Lib.hid hit
  replace hQ := Lib.hid hQ
  replace hq := Lib.hid hq
  replace hc := Lib.hid hc
  replace hf := Lib.hid hf
  replace hi := Lib.hid hi
  go_wp2_with (first
    | (go_at_call 70; refine hO.out.mono ?_; rintro e w2 ⟨rfl, hw2⟩; subst hw2)
    | (go_at_call 71; refine hQ.out.mono ?_; rintro e w2 ⟨rfl, t2⟩; replace t2 := Lib.hid t2)
    | fail)
  refine hret.out _ _ rfl ?_ (t0.out.trans t2.out (fun _ h => h.elim))
  rw [hX2.out]
  exact ⟨rfl, rfl⟩
theorem begin_qno39 {B : Nat} {s : ByteArray} {n i f : Nat} {out : List Tk} {O : Value} {a : Act} {w w0 : World} {X : Except Int (List Tk)} {Q : Exit → Act → World → Prop}
    (hF : Fr60 (.string s) (.int .i64 n) O (.int .i64 i) a) (hs : s.size < 4294967281) (hi : i ≤ s.size) (hrow : tkRow w B O out) (hol : out.length ≤ i) (t0 : Tch No w0 w) (hB : B = w0.heap.size)
    (hf : s.size - i < f) (hX : items s.data.toList n f i out = X) (hov : over s.data.toList i = false) (hlt : i < s.size) (hc : s[i] = 39)
    (hret : Retc B w0 X Q) (hq : qread s[i] (s.data.toList.drop (i + 1)) = none) : (q60 0).wp Try.prog Q a w := by
  obtain ⟨fr, rfl⟩ := hF
  refine wp_q rfl ?_
  have hO := over_any s i w (by omega) hi
  rw [hov] at hO
  have hit := item_no hlt (by rw [hc]; decide)
  have hqa := quote_yes hlt (by rw [hc]; decide)
  have k0 := nn_lt2 hlt
  have kx : ((s[i].toNat : Nat) : Int) = 39 := by rw [hc]; rfl
  have hQ := quoted_any s i w hs hlt hex_ib
  have hX2 := Lib.hid (show X = .error 82 by rw [← hX, items_key (by omega) hov hit, keyed_qno hqa (at_data s hlt) hq])
  rw [hq] at hQ
  replace hQ : Calls Try.prog 71 #[.string s, .int .i64 i] w fun e w' => e = .returned (.tuple #[.string ⟨#[]⟩, .int .i64 0, .bool false]) ∧ Tch No w w' := hQ
  replace hO := Lib.hid hO
  replace hX := Lib.hid hX
  replace hov := Lib.hid hov
  replace hrow := Lib.hid hrow
  replace hret := Lib.hid hret
  replace t0 := Lib.hid t0
  replace hol := Lib.hid hol
  replace hqa := Lib.hid hqa
  replace hit := Lib.hid hit
  replace hQ := Lib.hid hQ
  replace hq := Lib.hid hq
  replace hc := Lib.hid hc
  replace hf := Lib.hid hf
  replace hi := Lib.hid hi
  go_wp2_with (first
    | (go_at_call 70; refine hO.out.mono ?_; rintro e w2 ⟨rfl, hw2⟩; subst hw2)
    | (go_at_call 71; refine hQ.out.mono ?_; rintro e w2 ⟨rfl, t2⟩; replace t2 := Lib.hid t2)
    | fail)
  refine hret.out _ _ rfl ?_ (t0.out.trans t2.out (fun _ h => h.elim))
  rw [hX2.out]
  exact ⟨rfl, rfl⟩
theorem u8_neq {c : UInt8} {n : Nat} (h : ¬ c = UInt8.ofNat n) (hn : n < 256) : ((c.toNat : Int) == (n : Int)) = false := by
  rw [← u8_beq c n hn]; exact decide_eq_false h
theorem begin_qs134 {B : Nat} {s : ByteArray} {n i f : Nat} {out : List Tk} {O : Value} {a : Act} {w w0 : World} {X : Except Int (List Tk)} {Q : Exit → Act → World → Prop} {t : List UInt8} {k K : Nat}
    (hF : Fr60 (.string s) (.int .i64 n) O (.int .i64 i) a) (hs : s.size < 4294967281) (hi : i ≤ s.size) (hrow : tkRow w B O out) (hol : out.length ≤ i) (t0 : Tch No w0 w) (hB : B = w0.heap.size)
    (hf : s.size - i < f) (hX : items s.data.toList n f i out = X) (hov : over s.data.toList i = false) (hlt : i < s.size) (hc : s[i] = 34)
    (hg : Go1 B s n w0 X Q) (hq : qread s[i] (s.data.toList.drop (i + 1)) = some (t, k)) (hK : K = i + 1 + k) (hend : K = s.size) : (q60 0).wp Try.prog Q a w := by
  obtain ⟨fr, rfl⟩ := hF
  refine wp_q rfl ?_
  have hO := over_any s i w (by omega) hi
  rw [hov] at hO
  have hit := item_no hlt (by rw [hc]; decide)
  have hqa := quote_yes hlt (by rw [hc]; decide)
  have k0 := nn_lt2 hlt
  have kx : ((s[i].toNat : Nat) : Int) = 34 := by rw [hc]; rfl
  have hQ := quoted_any s i w hs hlt hex_ib
  have hkl := q_le hq
  rw [List.length_drop, len_data] at hkl
  have hKs : K ≤ s.size := by omega
  have hco : colon s.data.toList (i + 1 + k) = false := by rw [← hK]; unfold colon; rw [no_data s (by omega)]; rfl
  have hX2 : scalar s.data.toList n i out = X := by rw [← hX, items_key (by omega) hov hit, keyed_qs hqa (at_data s hlt) hq hco]
  have k2 : ((K : Int) == (s.size : Int)) = true := by rw [beq_iff_eq]; omega
  rw [hq] at hQ
  replace hQ : Calls Try.prog 71 #[.string s, .int .i64 i] w fun e w' => e = .returned (.tuple #[.string ⟨t.toArray⟩, .int .i64 ((i + 1 + k : Nat) : Int), .bool true]) ∧ Tch No w w' := hQ
  rw [← hK] at hQ
  have hol2 : out.length ≤ s.size + 1 := by omega
  replace hO := Lib.hid hO
  replace hX := Lib.hid hX
  replace hov := Lib.hid hov
  replace hrow := Lib.hid hrow
  replace hg := Lib.hid hg
  replace t0 := Lib.hid t0
  replace hol := Lib.hid hol
  replace hqa := Lib.hid hqa
  replace hit := Lib.hid hit
  replace hQ := Lib.hid hQ
  replace hq := Lib.hid hq
  replace hc := Lib.hid hc
  replace hf := Lib.hid hf
  replace hi := Lib.hid hi
  replace hkl := Lib.hid hkl
  replace hKs := Lib.hid hKs
  replace hco := Lib.hid hco
  replace hX2 := Lib.hid hX2
  replace hK := Lib.hid hK
  replace hol2 := Lib.hid hol2
  go_wp2_with (first
    | (go_at_call 70; refine hO.out.mono ?_; rintro e w2 ⟨rfl, hw2⟩; subst hw2)
    | (go_at_call 71; refine hQ.out.mono ?_; rintro e w2 ⟨rfl, t2⟩; replace t2 := Lib.hid t2)
    | fail)
  go_step3
  exact hg.out _ _ _ _ _ fr60i hi.out (ownsRow_tch hrow.out t2.out (fun _ _ h => h)) hol2.out (t0.out.trans t2.out (fun _ h => h.elim)) hX2.out
theorem begin_qs234 {B : Nat} {s : ByteArray} {n i f : Nat} {out : List Tk} {O : Value} {a : Act} {w w0 : World} {X : Except Int (List Tk)} {Q : Exit → Act → World → Prop} {t : List UInt8} {k K : Nat}
    (hF : Fr60 (.string s) (.int .i64 n) O (.int .i64 i) a) (hs : s.size < 4294967281) (hi : i ≤ s.size) (hrow : tkRow w B O out) (hol : out.length ≤ i) (t0 : Tch No w0 w) (hB : B = w0.heap.size)
    (hf : s.size - i < f) (hX : items s.data.toList n f i out = X) (hov : over s.data.toList i = false) (hlt : i < s.size) (hc : s[i] = 34)
    (hg : Go1 B s n w0 X Q) (hq : qread s[i] (s.data.toList.drop (i + 1)) = some (t, k)) (hK : K = i + 1 + k) (hend : K < s.size) (h58 : ¬ s[K] = 58) : (q60 0).wp Try.prog Q a w := by
  obtain ⟨fr, rfl⟩ := hF
  refine wp_q rfl ?_
  have hO := over_any s i w (by omega) hi
  rw [hov] at hO
  have hit := item_no hlt (by rw [hc]; decide)
  have hqa := quote_yes hlt (by rw [hc]; decide)
  have k0 := nn_lt2 hlt
  have kx : ((s[i].toNat : Nat) : Int) = 34 := by rw [hc]; rfl
  have hQ := quoted_any s i w hs hlt hex_ib
  have hkl := q_le hq
  rw [List.length_drop, len_data] at hkl
  have hKs : K ≤ s.size := by omega
  have hco : colon s.data.toList (i + 1 + k) = false := by rw [← hK]; unfold colon; rw [at_data s hend, decide_eq_false (fun e => h58 (Option.some.inj e)), Bool.false_and]
  have hX2 : scalar s.data.toList n i out = X := by rw [← hX, items_key (by omega) hov hit, keyed_qs hqa (at_data s hlt) hq hco]
  have k2 : ((K : Int) == (s.size : Int)) = false ∧ (K : Int) < (s.size : Int) ∧ ((s[K].toNat : Int) == 58) = false ∧ ((s[K].toNat : Int) != 58) = true := by have h : ((s[K].toNat : Int) == 58) = false := u8_neq h58 (n := 58) (by decide); exact ⟨by rw [beq_eq_false_iff_ne]; omega, by omega, h, by rw [bne, h]; rfl⟩
  rw [hq] at hQ
  replace hQ : Calls Try.prog 71 #[.string s, .int .i64 i] w fun e w' => e = .returned (.tuple #[.string ⟨t.toArray⟩, .int .i64 ((i + 1 + k : Nat) : Int), .bool true]) ∧ Tch No w w' := hQ
  rw [← hK] at hQ
  have hol2 : out.length ≤ s.size + 1 := by omega
  replace hO := Lib.hid hO
  replace hX := Lib.hid hX
  replace hov := Lib.hid hov
  replace hrow := Lib.hid hrow
  replace hg := Lib.hid hg
  replace t0 := Lib.hid t0
  replace hol := Lib.hid hol
  replace hqa := Lib.hid hqa
  replace hit := Lib.hid hit
  replace hQ := Lib.hid hQ
  replace hq := Lib.hid hq
  replace hc := Lib.hid hc
  replace hf := Lib.hid hf
  replace hi := Lib.hid hi
  replace hkl := Lib.hid hkl
  replace hKs := Lib.hid hKs
  replace hco := Lib.hid hco
  replace hX2 := Lib.hid hX2
  replace hK := Lib.hid hK
  replace hol2 := Lib.hid hol2
  go_wp2_with (first
    | (go_at_call 70; refine hO.out.mono ?_; rintro e w2 ⟨rfl, hw2⟩; subst hw2)
    | (go_at_call 71; refine hQ.out.mono ?_; rintro e w2 ⟨rfl, t2⟩; replace t2 := Lib.hid t2)
    | fail)
  go_step3
  exact hg.out _ _ _ _ _ fr60i hi.out (ownsRow_tch hrow.out t2.out (fun _ _ h => h)) hol2.out (t0.out.trans t2.out (fun _ h => h.elim)) hX2.out
theorem begin_qs334 {B : Nat} {s : ByteArray} {n i f : Nat} {out : List Tk} {O : Value} {a : Act} {w w0 : World} {X : Except Int (List Tk)} {Q : Exit → Act → World → Prop} {t : List UInt8} {k K : Nat}
    (hF : Fr60 (.string s) (.int .i64 n) O (.int .i64 i) a) (hs : s.size < 4294967281) (hi : i ≤ s.size) (hrow : tkRow w B O out) (hol : out.length ≤ i) (t0 : Tch No w0 w) (hB : B = w0.heap.size)
    (hf : s.size - i < f) (hX : items s.data.toList n f i out = X) (hov : over s.data.toList i = false) (hlt : i < s.size) (hc : s[i] = 34)
    (hg : Go1 B s n w0 X Q) (hq : qread s[i] (s.data.toList.drop (i + 1)) = some (t, k)) (hK : K = i + 1 + k) (hend0 : K < s.size) (h58 : s[K] = 58) (hend : K + 1 < s.size) (h32 : ¬ s[K + 1] = 32) : (q60 0).wp Try.prog Q a w := by
  obtain ⟨fr, rfl⟩ := hF
  refine wp_q rfl ?_
  have hO := over_any s i w (by omega) hi
  rw [hov] at hO
  have hit := item_no hlt (by rw [hc]; decide)
  have hqa := quote_yes hlt (by rw [hc]; decide)
  have k0 := nn_lt2 hlt
  have kx : ((s[i].toNat : Nat) : Int) = 34 := by rw [hc]; rfl
  have hQ := quoted_any s i w hs hlt hex_ib
  have hkl := q_le hq
  rw [List.length_drop, len_data] at hkl
  have hKs : K ≤ s.size := by omega
  have hco : colon s.data.toList (i + 1 + k) = false := by rw [← hK]; unfold colon; rw [at_data s hend0, at_data s hend, decide_eq_false (show ¬ K + 1 = s.data.toList.length by rw [len_data]; omega), decide_eq_false (fun e => h32 (Option.some.inj e)), Bool.false_or, Bool.and_false]
  have hX2 : scalar s.data.toList n i out = X := by rw [← hX, items_key (by omega) hov hit, keyed_qs hqa (at_data s hlt) hq hco]
  have k2 : ((K : Int) == (s.size : Int)) = false ∧ (K : Int) < (s.size : Int) ∧ ((s[K].toNat : Nat) : Int) = 58 ∧ (K : Int) + 1 < (s.size : Int) ∧ ((s[K + 1].toNat : Int) == 32) = false ∧ ((s[K + 1].toNat : Int) != 32) = true := by have h : ((s[K + 1].toNat : Int) == 32) = false := u8_neq h32 (n := 32) (by decide); exact ⟨by rw [beq_eq_false_iff_ne]; omega, by omega, by rw [h58]; rfl, by omega, h, by rw [bne, h]; rfl⟩
  rw [hq] at hQ
  replace hQ : Calls Try.prog 71 #[.string s, .int .i64 i] w fun e w' => e = .returned (.tuple #[.string ⟨t.toArray⟩, .int .i64 ((i + 1 + k : Nat) : Int), .bool true]) ∧ Tch No w w' := hQ
  rw [← hK] at hQ
  have hol2 : out.length ≤ s.size + 1 := by omega
  replace hO := Lib.hid hO
  replace hX := Lib.hid hX
  replace hov := Lib.hid hov
  replace hrow := Lib.hid hrow
  replace hg := Lib.hid hg
  replace t0 := Lib.hid t0
  replace hol := Lib.hid hol
  replace hqa := Lib.hid hqa
  replace hit := Lib.hid hit
  replace hQ := Lib.hid hQ
  replace hq := Lib.hid hq
  replace hc := Lib.hid hc
  replace hf := Lib.hid hf
  replace hi := Lib.hid hi
  replace hkl := Lib.hid hkl
  replace hKs := Lib.hid hKs
  replace hco := Lib.hid hco
  replace hX2 := Lib.hid hX2
  replace hK := Lib.hid hK
  replace hol2 := Lib.hid hol2
  go_wp2_with (first
    | (go_at_call 70; refine hO.out.mono ?_; rintro e w2 ⟨rfl, hw2⟩; subst hw2)
    | (go_at_call 71; refine hQ.out.mono ?_; rintro e w2 ⟨rfl, t2⟩; replace t2 := Lib.hid t2)
    | fail)
  go_step3
  exact hg.out _ _ _ _ _ fr60i hi.out (ownsRow_tch hrow.out t2.out (fun _ _ h => h)) hol2.out (t0.out.trans t2.out (fun _ h => h.elim)) hX2.out
theorem begin_qs139 {B : Nat} {s : ByteArray} {n i f : Nat} {out : List Tk} {O : Value} {a : Act} {w w0 : World} {X : Except Int (List Tk)} {Q : Exit → Act → World → Prop} {t : List UInt8} {k K : Nat}
    (hF : Fr60 (.string s) (.int .i64 n) O (.int .i64 i) a) (hs : s.size < 4294967281) (hi : i ≤ s.size) (hrow : tkRow w B O out) (hol : out.length ≤ i) (t0 : Tch No w0 w) (hB : B = w0.heap.size)
    (hf : s.size - i < f) (hX : items s.data.toList n f i out = X) (hov : over s.data.toList i = false) (hlt : i < s.size) (hc : s[i] = 39)
    (hg : Go1 B s n w0 X Q) (hq : qread s[i] (s.data.toList.drop (i + 1)) = some (t, k)) (hK : K = i + 1 + k) (hend : K = s.size) : (q60 0).wp Try.prog Q a w := by
  obtain ⟨fr, rfl⟩ := hF
  refine wp_q rfl ?_
  have hO := over_any s i w (by omega) hi
  rw [hov] at hO
  have hit := item_no hlt (by rw [hc]; decide)
  have hqa := quote_yes hlt (by rw [hc]; decide)
  have k0 := nn_lt2 hlt
  have kx : ((s[i].toNat : Nat) : Int) = 39 := by rw [hc]; rfl
  have hQ := quoted_any s i w hs hlt hex_ib
  have hkl := q_le hq
  rw [List.length_drop, len_data] at hkl
  have hKs : K ≤ s.size := by omega
  have hco : colon s.data.toList (i + 1 + k) = false := by rw [← hK]; unfold colon; rw [no_data s (by omega)]; rfl
  have hX2 : scalar s.data.toList n i out = X := by rw [← hX, items_key (by omega) hov hit, keyed_qs hqa (at_data s hlt) hq hco]
  have k2 : ((K : Int) == (s.size : Int)) = true := by rw [beq_iff_eq]; omega
  rw [hq] at hQ
  replace hQ : Calls Try.prog 71 #[.string s, .int .i64 i] w fun e w' => e = .returned (.tuple #[.string ⟨t.toArray⟩, .int .i64 ((i + 1 + k : Nat) : Int), .bool true]) ∧ Tch No w w' := hQ
  rw [← hK] at hQ
  have hol2 : out.length ≤ s.size + 1 := by omega
  replace hO := Lib.hid hO
  replace hX := Lib.hid hX
  replace hov := Lib.hid hov
  replace hrow := Lib.hid hrow
  replace hg := Lib.hid hg
  replace t0 := Lib.hid t0
  replace hol := Lib.hid hol
  replace hqa := Lib.hid hqa
  replace hit := Lib.hid hit
  replace hQ := Lib.hid hQ
  replace hq := Lib.hid hq
  replace hc := Lib.hid hc
  replace hf := Lib.hid hf
  replace hi := Lib.hid hi
  replace hkl := Lib.hid hkl
  replace hKs := Lib.hid hKs
  replace hco := Lib.hid hco
  replace hX2 := Lib.hid hX2
  replace hK := Lib.hid hK
  replace hol2 := Lib.hid hol2
  go_wp2_with (first
    | (go_at_call 70; refine hO.out.mono ?_; rintro e w2 ⟨rfl, hw2⟩; subst hw2)
    | (go_at_call 71; refine hQ.out.mono ?_; rintro e w2 ⟨rfl, t2⟩; replace t2 := Lib.hid t2)
    | fail)
  go_step3
  exact hg.out _ _ _ _ _ fr60i hi.out (ownsRow_tch hrow.out t2.out (fun _ _ h => h)) hol2.out (t0.out.trans t2.out (fun _ h => h.elim)) hX2.out
theorem begin_qs239 {B : Nat} {s : ByteArray} {n i f : Nat} {out : List Tk} {O : Value} {a : Act} {w w0 : World} {X : Except Int (List Tk)} {Q : Exit → Act → World → Prop} {t : List UInt8} {k K : Nat}
    (hF : Fr60 (.string s) (.int .i64 n) O (.int .i64 i) a) (hs : s.size < 4294967281) (hi : i ≤ s.size) (hrow : tkRow w B O out) (hol : out.length ≤ i) (t0 : Tch No w0 w) (hB : B = w0.heap.size)
    (hf : s.size - i < f) (hX : items s.data.toList n f i out = X) (hov : over s.data.toList i = false) (hlt : i < s.size) (hc : s[i] = 39)
    (hg : Go1 B s n w0 X Q) (hq : qread s[i] (s.data.toList.drop (i + 1)) = some (t, k)) (hK : K = i + 1 + k) (hend : K < s.size) (h58 : ¬ s[K] = 58) : (q60 0).wp Try.prog Q a w := by
  obtain ⟨fr, rfl⟩ := hF
  refine wp_q rfl ?_
  have hO := over_any s i w (by omega) hi
  rw [hov] at hO
  have hit := item_no hlt (by rw [hc]; decide)
  have hqa := quote_yes hlt (by rw [hc]; decide)
  have k0 := nn_lt2 hlt
  have kx : ((s[i].toNat : Nat) : Int) = 39 := by rw [hc]; rfl
  have hQ := quoted_any s i w hs hlt hex_ib
  have hkl := q_le hq
  rw [List.length_drop, len_data] at hkl
  have hKs : K ≤ s.size := by omega
  have hco : colon s.data.toList (i + 1 + k) = false := by rw [← hK]; unfold colon; rw [at_data s hend, decide_eq_false (fun e => h58 (Option.some.inj e)), Bool.false_and]
  have hX2 : scalar s.data.toList n i out = X := by rw [← hX, items_key (by omega) hov hit, keyed_qs hqa (at_data s hlt) hq hco]
  have k2 : ((K : Int) == (s.size : Int)) = false ∧ (K : Int) < (s.size : Int) ∧ ((s[K].toNat : Int) == 58) = false ∧ ((s[K].toNat : Int) != 58) = true := by have h : ((s[K].toNat : Int) == 58) = false := u8_neq h58 (n := 58) (by decide); exact ⟨by rw [beq_eq_false_iff_ne]; omega, by omega, h, by rw [bne, h]; rfl⟩
  rw [hq] at hQ
  replace hQ : Calls Try.prog 71 #[.string s, .int .i64 i] w fun e w' => e = .returned (.tuple #[.string ⟨t.toArray⟩, .int .i64 ((i + 1 + k : Nat) : Int), .bool true]) ∧ Tch No w w' := hQ
  rw [← hK] at hQ
  have hol2 : out.length ≤ s.size + 1 := by omega
  replace hO := Lib.hid hO
  replace hX := Lib.hid hX
  replace hov := Lib.hid hov
  replace hrow := Lib.hid hrow
  replace hg := Lib.hid hg
  replace t0 := Lib.hid t0
  replace hol := Lib.hid hol
  replace hqa := Lib.hid hqa
  replace hit := Lib.hid hit
  replace hQ := Lib.hid hQ
  replace hq := Lib.hid hq
  replace hc := Lib.hid hc
  replace hf := Lib.hid hf
  replace hi := Lib.hid hi
  replace hkl := Lib.hid hkl
  replace hKs := Lib.hid hKs
  replace hco := Lib.hid hco
  replace hX2 := Lib.hid hX2
  replace hK := Lib.hid hK
  replace hol2 := Lib.hid hol2
  go_wp2_with (first
    | (go_at_call 70; refine hO.out.mono ?_; rintro e w2 ⟨rfl, hw2⟩; subst hw2)
    | (go_at_call 71; refine hQ.out.mono ?_; rintro e w2 ⟨rfl, t2⟩; replace t2 := Lib.hid t2)
    | fail)
  go_step3
  exact hg.out _ _ _ _ _ fr60i hi.out (ownsRow_tch hrow.out t2.out (fun _ _ h => h)) hol2.out (t0.out.trans t2.out (fun _ h => h.elim)) hX2.out
theorem begin_qs339 {B : Nat} {s : ByteArray} {n i f : Nat} {out : List Tk} {O : Value} {a : Act} {w w0 : World} {X : Except Int (List Tk)} {Q : Exit → Act → World → Prop} {t : List UInt8} {k K : Nat}
    (hF : Fr60 (.string s) (.int .i64 n) O (.int .i64 i) a) (hs : s.size < 4294967281) (hi : i ≤ s.size) (hrow : tkRow w B O out) (hol : out.length ≤ i) (t0 : Tch No w0 w) (hB : B = w0.heap.size)
    (hf : s.size - i < f) (hX : items s.data.toList n f i out = X) (hov : over s.data.toList i = false) (hlt : i < s.size) (hc : s[i] = 39)
    (hg : Go1 B s n w0 X Q) (hq : qread s[i] (s.data.toList.drop (i + 1)) = some (t, k)) (hK : K = i + 1 + k) (hend0 : K < s.size) (h58 : s[K] = 58) (hend : K + 1 < s.size) (h32 : ¬ s[K + 1] = 32) : (q60 0).wp Try.prog Q a w := by
  obtain ⟨fr, rfl⟩ := hF
  refine wp_q rfl ?_
  have hO := over_any s i w (by omega) hi
  rw [hov] at hO
  have hit := item_no hlt (by rw [hc]; decide)
  have hqa := quote_yes hlt (by rw [hc]; decide)
  have k0 := nn_lt2 hlt
  have kx : ((s[i].toNat : Nat) : Int) = 39 := by rw [hc]; rfl
  have hQ := quoted_any s i w hs hlt hex_ib
  have hkl := q_le hq
  rw [List.length_drop, len_data] at hkl
  have hKs : K ≤ s.size := by omega
  have hco : colon s.data.toList (i + 1 + k) = false := by rw [← hK]; unfold colon; rw [at_data s hend0, at_data s hend, decide_eq_false (show ¬ K + 1 = s.data.toList.length by rw [len_data]; omega), decide_eq_false (fun e => h32 (Option.some.inj e)), Bool.false_or, Bool.and_false]
  have hX2 : scalar s.data.toList n i out = X := by rw [← hX, items_key (by omega) hov hit, keyed_qs hqa (at_data s hlt) hq hco]
  have k2 : ((K : Int) == (s.size : Int)) = false ∧ (K : Int) < (s.size : Int) ∧ ((s[K].toNat : Nat) : Int) = 58 ∧ (K : Int) + 1 < (s.size : Int) ∧ ((s[K + 1].toNat : Int) == 32) = false ∧ ((s[K + 1].toNat : Int) != 32) = true := by have h : ((s[K + 1].toNat : Int) == 32) = false := u8_neq h32 (n := 32) (by decide); exact ⟨by rw [beq_eq_false_iff_ne]; omega, by omega, by rw [h58]; rfl, by omega, h, by rw [bne, h]; rfl⟩
  rw [hq] at hQ
  replace hQ : Calls Try.prog 71 #[.string s, .int .i64 i] w fun e w' => e = .returned (.tuple #[.string ⟨t.toArray⟩, .int .i64 ((i + 1 + k : Nat) : Int), .bool true]) ∧ Tch No w w' := hQ
  rw [← hK] at hQ
  have hol2 : out.length ≤ s.size + 1 := by omega
  replace hO := Lib.hid hO
  replace hX := Lib.hid hX
  replace hov := Lib.hid hov
  replace hrow := Lib.hid hrow
  replace hg := Lib.hid hg
  replace t0 := Lib.hid t0
  replace hol := Lib.hid hol
  replace hqa := Lib.hid hqa
  replace hit := Lib.hid hit
  replace hQ := Lib.hid hQ
  replace hq := Lib.hid hq
  replace hc := Lib.hid hc
  replace hf := Lib.hid hf
  replace hi := Lib.hid hi
  replace hkl := Lib.hid hkl
  replace hKs := Lib.hid hKs
  replace hco := Lib.hid hco
  replace hX2 := Lib.hid hX2
  replace hK := Lib.hid hK
  replace hol2 := Lib.hid hol2
  go_wp2_with (first
    | (go_at_call 70; refine hO.out.mono ?_; rintro e w2 ⟨rfl, hw2⟩; subst hw2)
    | (go_at_call 71; refine hQ.out.mono ?_; rintro e w2 ⟨rfl, t2⟩; replace t2 := Lib.hid t2)
    | fail)
  go_step3
  exact hg.out _ _ _ _ _ fr60i hi.out (ownsRow_tch hrow.out t2.out (fun _ _ h => h)) hol2.out (t0.out.trans t2.out (fun _ h => h.elim)) hX2.out
theorem begin_qk134 {B : Nat} {s : ByteArray} {n i f : Nat} {out : List Tk} {O : Value} {a : Act} {w w0 : World} {X : Except Int (List Tk)} {Q : Exit → Act → World → Prop} {t : List UInt8} {k K : Nat}
    (hF : Fr60 (.string s) (.int .i64 n) O (.int .i64 i) a) (hs : s.size < 4294967281) (hi : i ≤ s.size) (hrow : tkRow w B O out) (hol : out.length ≤ i) (t0 : Tch No w0 w) (hB : B = w0.heap.size)
    (hf : s.size - i < f) (hX : items s.data.toList n f i out = X) (hov : over s.data.toList i = false) (hlt : i < s.size) (hc : s[i] = 34)
    (hg : Go1 B s n w0 X Q) (hq : qread s[i] (s.data.toList.drop (i + 1)) = some (t, k)) (hK : K = i + 1 + k) (hend0 : K < s.size) (h58 : s[K] = 58) (hend : K + 1 = s.size) : (q60 0).wp Try.prog Q a w := by
  obtain ⟨fr, rfl⟩ := hF
  refine wp_q rfl ?_
  have hO := over_any s i w (by omega) hi
  rw [hov] at hO
  have hit := item_no hlt (by rw [hc]; decide)
  have hqa := quote_yes hlt (by rw [hc]; decide)
  have k0 := nn_lt2 hlt
  have kx : ((s[i].toNat : Nat) : Int) = 34 := by rw [hc]; rfl
  have hQ := quoted_any s i w hs hlt hex_ib
  have hkl := q_le hq
  rw [List.length_drop, len_data] at hkl
  have hKs : K ≤ s.size := by omega
  have hco : colon s.data.toList (i + 1 + k) = true := by rw [← hK]; unfold colon; rw [at_data s hend0, h58]; rw [decide_eq_true (show K + 1 = s.data.toList.length by rw [len_data]; omega)]; rfl
  obtain ⟨j, hj⟩ : ∃ j, j = blanks s.data.toList (K + 1) := ⟨_, rfl⟩
  have hBl := fun wx => blanks_any s (K + 1) wx (by omega) (by omega)
  simp only [← hj] at hBl
  replace hBl : ∀ wx, Calls Try.prog 69 #[.string s, .int .i64 ((K : Int) + 1)] wx fun e w' => e = .returned (.int .i64 j) ∧ wx = w' := hBl
  have hjs : j ≤ s.size := by rw [hj]; have := blanks_le s.data.toList (i := K + 1) (by rw [len_data]; omega); rwa [len_data] at this
  have hX2 : scalar s.data.toList n j (out ++ [⟨3, n, i, t, true⟩]) = X := by rw [← hX, items_key (by omega) hov hit, keyed_qk hqa (at_data s hlt) hq hco, hj, hK]
  have k1 : ((K : Int) == (s.size : Int)) = false ∧ (K : Int) < (s.size : Int) ∧ ((s[K].toNat : Nat) : Int) = 58 := ⟨by rw [beq_eq_false_iff_ne]; omega, by omega, by rw [h58]; rfl⟩
  have k2 : decide ((K : Int) + 1 < (s.size : Int)) = false := decide_eq_false (by omega)
  rw [hq] at hQ
  replace hQ : Calls Try.prog 71 #[.string s, .int .i64 i] w fun e w' => e = .returned (.tuple #[.string ⟨t.toArray⟩, .int .i64 ((i + 1 + k : Nat) : Int), .bool true]) ∧ Tch No w w' := hQ
  rw [← hK] at hQ
  have hol2 : (out ++ [(⟨3, n, i, t, true⟩ : Tk)]).length ≤ s.size + 1 := by rw [List.length_append]; simp only [List.length_singleton]; omega
  have hol3 : out.length < 2932031007400 := by omega
  have hw0 : ∀ k, O.ownBlock = some k → w0.heap.size ≤ k := fun k hk => hB ▸ (ownsRow_ge hrow hk).1
  have hBw := Lib.hid (show B ≤ w.heap.size by rw [hB]; exact t0.size)
  obtain ⟨oo, oc, rfl⟩ := ownsRow_shape hrow
  obtain ⟨i0, hif, hz0, hz1, hz2⟩ := info_parts info39
  replace hrow := Lib.hid (show w.ownsRow B 39 5 (.slice oo out.length oc) out.length (tcs (out.map tokOf)) from hrow)
  replace hif := Lib.hid hif
  replace hz0 := Lib.hid hz0
  replace hz1 := Lib.hid hz1
  replace hz2 := Lib.hid hz2
  replace hO := Lib.hid hO
  replace hX := Lib.hid hX
  replace hov := Lib.hid hov
  replace hg := Lib.hid hg
  replace t0 := Lib.hid t0
  replace hol := Lib.hid hol
  replace hqa := Lib.hid hqa
  replace hit := Lib.hid hit
  replace hQ := Lib.hid hQ
  replace hq := Lib.hid hq
  replace hc := Lib.hid hc
  replace hf := Lib.hid hf
  replace hi := Lib.hid hi
  replace hkl := Lib.hid hkl
  replace hKs := Lib.hid hKs
  replace hco := Lib.hid hco
  replace hX2 := Lib.hid hX2
  replace hK := Lib.hid hK
  replace hol2 := Lib.hid hol2
  replace hol3 := Lib.hid hol3
  replace hw0 := Lib.hid hw0
  replace hj := Lib.hid hj
  replace hBl := Lib.hid hBl
  replace hjs := Lib.hid hjs
  replace h58 := Lib.hid h58
  go_wp2_with (first
    | (go_at_call 70; refine hO.out.mono ?_; rintro e w2 ⟨rfl, hw2⟩; subst hw2)
    | (go_at_call 71; refine hQ.out.mono ?_; rintro e w2 ⟨rfl, t2⟩; have hr2 := Lib.hid (ownsRow_tch hrow.out t2 (fun _ _ h => h)); have hB2 := Lib.hid (Nat.le_trans hBw.out t2.size); replace t2 := Lib.hid t2)
    | (go_at_call 69; refine (hBl.out _).mono ?_; rintro e w3 ⟨rfl, hw3⟩; subst hw3)
    | (at_builtin; refine wp_append_us rfl _ _ 23 (by rfl) B 39 i0 (.agg #[.int .i64 0, .int .i64 0, .int .i64 0, .string ⟨#[]⟩, .bool false]) 5 48 Try.underlying23 hif.out hz0.out hz1.out hz2.out rfl (by decide) _ out.length _ (by rfl) hr2.out 1 (by rfl) rfl (by simp [Value.oneCell']) (nn_own (Nat.le_refl _) hol3.out).1 (nn_own (Nat.le_refl _) hol3.out).2 hB2.out ?_; intro v7 w7 hr7 hg7 hl7; obtain ⟨po, pc, rfl⟩ := ownsRow_shape hr7; replace hr7 := Lib.hid hr7; replace hg7 := Lib.hid hg7; replace hl7 := Lib.hid hl7)
    | fail)
  have t7 := Lib.hid ((t0.out.trans t2.out (fun _ h => h.elim)).trans (Tch.grown (S := fun k => (Value.slice oo out.length oc).ownBlock = some k) hg7.out (fun k hk => .inl hk)) (fun k hk => .inr (hw0.out k hk)))
  go_step3
  exact hg.out _ _ _ _ _ fr60i hjs.out (tkRow_snoc rfl hr7.out) hol2.out t7.out hX2.out
theorem begin_qk234 {B : Nat} {s : ByteArray} {n i f : Nat} {out : List Tk} {O : Value} {a : Act} {w w0 : World} {X : Except Int (List Tk)} {Q : Exit → Act → World → Prop} {t : List UInt8} {k K : Nat}
    (hF : Fr60 (.string s) (.int .i64 n) O (.int .i64 i) a) (hs : s.size < 4294967281) (hi : i ≤ s.size) (hrow : tkRow w B O out) (hol : out.length ≤ i) (t0 : Tch No w0 w) (hB : B = w0.heap.size)
    (hf : s.size - i < f) (hX : items s.data.toList n f i out = X) (hov : over s.data.toList i = false) (hlt : i < s.size) (hc : s[i] = 34)
    (hg : Go1 B s n w0 X Q) (hq : qread s[i] (s.data.toList.drop (i + 1)) = some (t, k)) (hK : K = i + 1 + k) (hend0 : K < s.size) (h58 : s[K] = 58) (hend : K + 1 < s.size) (h32 : s[K + 1] = 32) : (q60 0).wp Try.prog Q a w := by
  obtain ⟨fr, rfl⟩ := hF
  refine wp_q rfl ?_
  have hO := over_any s i w (by omega) hi
  rw [hov] at hO
  have hit := item_no hlt (by rw [hc]; decide)
  have hqa := quote_yes hlt (by rw [hc]; decide)
  have k0 := nn_lt2 hlt
  have kx : ((s[i].toNat : Nat) : Int) = 34 := by rw [hc]; rfl
  have hQ := quoted_any s i w hs hlt hex_ib
  have hkl := q_le hq
  rw [List.length_drop, len_data] at hkl
  have hKs : K ≤ s.size := by omega
  have hco : colon s.data.toList (i + 1 + k) = true := by rw [← hK]; unfold colon; rw [at_data s hend0, h58]; rw [at_data s hend, h32]; simp
  obtain ⟨j, hj⟩ : ∃ j, j = blanks s.data.toList (K + 1) := ⟨_, rfl⟩
  have hBl := fun wx => blanks_any s (K + 1) wx (by omega) (by omega)
  simp only [← hj] at hBl
  replace hBl : ∀ wx, Calls Try.prog 69 #[.string s, .int .i64 ((K : Int) + 1)] wx fun e w' => e = .returned (.int .i64 j) ∧ wx = w' := hBl
  have hjs : j ≤ s.size := by rw [hj]; have := blanks_le s.data.toList (i := K + 1) (by rw [len_data]; omega); rwa [len_data] at this
  have hX2 : scalar s.data.toList n j (out ++ [⟨3, n, i, t, true⟩]) = X := by rw [← hX, items_key (by omega) hov hit, keyed_qk hqa (at_data s hlt) hq hco, hj, hK]
  have k1 : ((K : Int) == (s.size : Int)) = false ∧ (K : Int) < (s.size : Int) ∧ ((s[K].toNat : Nat) : Int) = 58 := ⟨by rw [beq_eq_false_iff_ne]; omega, by omega, by rw [h58]; rfl⟩
  have k2 : (K : Int) + 1 < (s.size : Int) ∧ ((s[K + 1].toNat : Nat) : Int) = 32 := ⟨by omega, by rw [h32]; rfl⟩
  rw [hq] at hQ
  replace hQ : Calls Try.prog 71 #[.string s, .int .i64 i] w fun e w' => e = .returned (.tuple #[.string ⟨t.toArray⟩, .int .i64 ((i + 1 + k : Nat) : Int), .bool true]) ∧ Tch No w w' := hQ
  rw [← hK] at hQ
  have hol2 : (out ++ [(⟨3, n, i, t, true⟩ : Tk)]).length ≤ s.size + 1 := by rw [List.length_append]; simp only [List.length_singleton]; omega
  have hol3 : out.length < 2932031007400 := by omega
  have hw0 : ∀ k, O.ownBlock = some k → w0.heap.size ≤ k := fun k hk => hB ▸ (ownsRow_ge hrow hk).1
  have hBw := Lib.hid (show B ≤ w.heap.size by rw [hB]; exact t0.size)
  obtain ⟨oo, oc, rfl⟩ := ownsRow_shape hrow
  obtain ⟨i0, hif, hz0, hz1, hz2⟩ := info_parts info39
  replace hrow := Lib.hid (show w.ownsRow B 39 5 (.slice oo out.length oc) out.length (tcs (out.map tokOf)) from hrow)
  replace hif := Lib.hid hif
  replace hz0 := Lib.hid hz0
  replace hz1 := Lib.hid hz1
  replace hz2 := Lib.hid hz2
  replace hO := Lib.hid hO
  replace hX := Lib.hid hX
  replace hov := Lib.hid hov
  replace hg := Lib.hid hg
  replace t0 := Lib.hid t0
  replace hol := Lib.hid hol
  replace hqa := Lib.hid hqa
  replace hit := Lib.hid hit
  replace hQ := Lib.hid hQ
  replace hq := Lib.hid hq
  replace hc := Lib.hid hc
  replace hf := Lib.hid hf
  replace hi := Lib.hid hi
  replace hkl := Lib.hid hkl
  replace hKs := Lib.hid hKs
  replace hco := Lib.hid hco
  replace hX2 := Lib.hid hX2
  replace hK := Lib.hid hK
  replace hol2 := Lib.hid hol2
  replace hol3 := Lib.hid hol3
  replace hw0 := Lib.hid hw0
  replace hj := Lib.hid hj
  replace hBl := Lib.hid hBl
  replace hjs := Lib.hid hjs
  replace h58 := Lib.hid h58
  go_wp2_with (first
    | (go_at_call 70; refine hO.out.mono ?_; rintro e w2 ⟨rfl, hw2⟩; subst hw2)
    | (go_at_call 71; refine hQ.out.mono ?_; rintro e w2 ⟨rfl, t2⟩; have hr2 := Lib.hid (ownsRow_tch hrow.out t2 (fun _ _ h => h)); have hB2 := Lib.hid (Nat.le_trans hBw.out t2.size); replace t2 := Lib.hid t2)
    | (go_at_call 69; refine (hBl.out _).mono ?_; rintro e w3 ⟨rfl, hw3⟩; subst hw3)
    | (at_builtin; refine wp_append_us rfl _ _ 23 (by rfl) B 39 i0 (.agg #[.int .i64 0, .int .i64 0, .int .i64 0, .string ⟨#[]⟩, .bool false]) 5 48 Try.underlying23 hif.out hz0.out hz1.out hz2.out rfl (by decide) _ out.length _ (by rfl) hr2.out 1 (by rfl) rfl (by simp [Value.oneCell']) (nn_own (Nat.le_refl _) hol3.out).1 (nn_own (Nat.le_refl _) hol3.out).2 hB2.out ?_; intro v7 w7 hr7 hg7 hl7; obtain ⟨po, pc, rfl⟩ := ownsRow_shape hr7; replace hr7 := Lib.hid hr7; replace hg7 := Lib.hid hg7; replace hl7 := Lib.hid hl7)
    | fail)
  have t7 := Lib.hid ((t0.out.trans t2.out (fun _ h => h.elim)).trans (Tch.grown (S := fun k => (Value.slice oo out.length oc).ownBlock = some k) hg7.out (fun k hk => .inl hk)) (fun k hk => .inr (hw0.out k hk)))
  go_step3
  exact hg.out _ _ _ _ _ fr60i hjs.out (tkRow_snoc rfl hr7.out) hol2.out t7.out hX2.out
theorem begin_qk139 {B : Nat} {s : ByteArray} {n i f : Nat} {out : List Tk} {O : Value} {a : Act} {w w0 : World} {X : Except Int (List Tk)} {Q : Exit → Act → World → Prop} {t : List UInt8} {k K : Nat}
    (hF : Fr60 (.string s) (.int .i64 n) O (.int .i64 i) a) (hs : s.size < 4294967281) (hi : i ≤ s.size) (hrow : tkRow w B O out) (hol : out.length ≤ i) (t0 : Tch No w0 w) (hB : B = w0.heap.size)
    (hf : s.size - i < f) (hX : items s.data.toList n f i out = X) (hov : over s.data.toList i = false) (hlt : i < s.size) (hc : s[i] = 39)
    (hg : Go1 B s n w0 X Q) (hq : qread s[i] (s.data.toList.drop (i + 1)) = some (t, k)) (hK : K = i + 1 + k) (hend0 : K < s.size) (h58 : s[K] = 58) (hend : K + 1 = s.size) : (q60 0).wp Try.prog Q a w := by
  obtain ⟨fr, rfl⟩ := hF
  refine wp_q rfl ?_
  have hO := over_any s i w (by omega) hi
  rw [hov] at hO
  have hit := item_no hlt (by rw [hc]; decide)
  have hqa := quote_yes hlt (by rw [hc]; decide)
  have k0 := nn_lt2 hlt
  have kx : ((s[i].toNat : Nat) : Int) = 39 := by rw [hc]; rfl
  have hQ := quoted_any s i w hs hlt hex_ib
  have hkl := q_le hq
  rw [List.length_drop, len_data] at hkl
  have hKs : K ≤ s.size := by omega
  have hco : colon s.data.toList (i + 1 + k) = true := by rw [← hK]; unfold colon; rw [at_data s hend0, h58]; rw [decide_eq_true (show K + 1 = s.data.toList.length by rw [len_data]; omega)]; rfl
  obtain ⟨j, hj⟩ : ∃ j, j = blanks s.data.toList (K + 1) := ⟨_, rfl⟩
  have hBl := fun wx => blanks_any s (K + 1) wx (by omega) (by omega)
  simp only [← hj] at hBl
  replace hBl : ∀ wx, Calls Try.prog 69 #[.string s, .int .i64 ((K : Int) + 1)] wx fun e w' => e = .returned (.int .i64 j) ∧ wx = w' := hBl
  have hjs : j ≤ s.size := by rw [hj]; have := blanks_le s.data.toList (i := K + 1) (by rw [len_data]; omega); rwa [len_data] at this
  have hX2 : scalar s.data.toList n j (out ++ [⟨3, n, i, t, true⟩]) = X := by rw [← hX, items_key (by omega) hov hit, keyed_qk hqa (at_data s hlt) hq hco, hj, hK]
  have k1 : ((K : Int) == (s.size : Int)) = false ∧ (K : Int) < (s.size : Int) ∧ ((s[K].toNat : Nat) : Int) = 58 := ⟨by rw [beq_eq_false_iff_ne]; omega, by omega, by rw [h58]; rfl⟩
  have k2 : decide ((K : Int) + 1 < (s.size : Int)) = false := decide_eq_false (by omega)
  rw [hq] at hQ
  replace hQ : Calls Try.prog 71 #[.string s, .int .i64 i] w fun e w' => e = .returned (.tuple #[.string ⟨t.toArray⟩, .int .i64 ((i + 1 + k : Nat) : Int), .bool true]) ∧ Tch No w w' := hQ
  rw [← hK] at hQ
  have hol2 : (out ++ [(⟨3, n, i, t, true⟩ : Tk)]).length ≤ s.size + 1 := by rw [List.length_append]; simp only [List.length_singleton]; omega
  have hol3 : out.length < 2932031007400 := by omega
  have hw0 : ∀ k, O.ownBlock = some k → w0.heap.size ≤ k := fun k hk => hB ▸ (ownsRow_ge hrow hk).1
  have hBw := Lib.hid (show B ≤ w.heap.size by rw [hB]; exact t0.size)
  obtain ⟨oo, oc, rfl⟩ := ownsRow_shape hrow
  obtain ⟨i0, hif, hz0, hz1, hz2⟩ := info_parts info39
  replace hrow := Lib.hid (show w.ownsRow B 39 5 (.slice oo out.length oc) out.length (tcs (out.map tokOf)) from hrow)
  replace hif := Lib.hid hif
  replace hz0 := Lib.hid hz0
  replace hz1 := Lib.hid hz1
  replace hz2 := Lib.hid hz2
  replace hO := Lib.hid hO
  replace hX := Lib.hid hX
  replace hov := Lib.hid hov
  replace hg := Lib.hid hg
  replace t0 := Lib.hid t0
  replace hol := Lib.hid hol
  replace hqa := Lib.hid hqa
  replace hit := Lib.hid hit
  replace hQ := Lib.hid hQ
  replace hq := Lib.hid hq
  replace hc := Lib.hid hc
  replace hf := Lib.hid hf
  replace hi := Lib.hid hi
  replace hkl := Lib.hid hkl
  replace hKs := Lib.hid hKs
  replace hco := Lib.hid hco
  replace hX2 := Lib.hid hX2
  replace hK := Lib.hid hK
  replace hol2 := Lib.hid hol2
  replace hol3 := Lib.hid hol3
  replace hw0 := Lib.hid hw0
  replace hj := Lib.hid hj
  replace hBl := Lib.hid hBl
  replace hjs := Lib.hid hjs
  replace h58 := Lib.hid h58
  go_wp2_with (first
    | (go_at_call 70; refine hO.out.mono ?_; rintro e w2 ⟨rfl, hw2⟩; subst hw2)
    | (go_at_call 71; refine hQ.out.mono ?_; rintro e w2 ⟨rfl, t2⟩; have hr2 := Lib.hid (ownsRow_tch hrow.out t2 (fun _ _ h => h)); have hB2 := Lib.hid (Nat.le_trans hBw.out t2.size); replace t2 := Lib.hid t2)
    | (go_at_call 69; refine (hBl.out _).mono ?_; rintro e w3 ⟨rfl, hw3⟩; subst hw3)
    | (at_builtin; refine wp_append_us rfl _ _ 23 (by rfl) B 39 i0 (.agg #[.int .i64 0, .int .i64 0, .int .i64 0, .string ⟨#[]⟩, .bool false]) 5 48 Try.underlying23 hif.out hz0.out hz1.out hz2.out rfl (by decide) _ out.length _ (by rfl) hr2.out 1 (by rfl) rfl (by simp [Value.oneCell']) (nn_own (Nat.le_refl _) hol3.out).1 (nn_own (Nat.le_refl _) hol3.out).2 hB2.out ?_; intro v7 w7 hr7 hg7 hl7; obtain ⟨po, pc, rfl⟩ := ownsRow_shape hr7; replace hr7 := Lib.hid hr7; replace hg7 := Lib.hid hg7; replace hl7 := Lib.hid hl7)
    | fail)
  have t7 := Lib.hid ((t0.out.trans t2.out (fun _ h => h.elim)).trans (Tch.grown (S := fun k => (Value.slice oo out.length oc).ownBlock = some k) hg7.out (fun k hk => .inl hk)) (fun k hk => .inr (hw0.out k hk)))
  go_step3
  exact hg.out _ _ _ _ _ fr60i hjs.out (tkRow_snoc rfl hr7.out) hol2.out t7.out hX2.out
theorem begin_qk239 {B : Nat} {s : ByteArray} {n i f : Nat} {out : List Tk} {O : Value} {a : Act} {w w0 : World} {X : Except Int (List Tk)} {Q : Exit → Act → World → Prop} {t : List UInt8} {k K : Nat}
    (hF : Fr60 (.string s) (.int .i64 n) O (.int .i64 i) a) (hs : s.size < 4294967281) (hi : i ≤ s.size) (hrow : tkRow w B O out) (hol : out.length ≤ i) (t0 : Tch No w0 w) (hB : B = w0.heap.size)
    (hf : s.size - i < f) (hX : items s.data.toList n f i out = X) (hov : over s.data.toList i = false) (hlt : i < s.size) (hc : s[i] = 39)
    (hg : Go1 B s n w0 X Q) (hq : qread s[i] (s.data.toList.drop (i + 1)) = some (t, k)) (hK : K = i + 1 + k) (hend0 : K < s.size) (h58 : s[K] = 58) (hend : K + 1 < s.size) (h32 : s[K + 1] = 32) : (q60 0).wp Try.prog Q a w := by
  obtain ⟨fr, rfl⟩ := hF
  refine wp_q rfl ?_
  have hO := over_any s i w (by omega) hi
  rw [hov] at hO
  have hit := item_no hlt (by rw [hc]; decide)
  have hqa := quote_yes hlt (by rw [hc]; decide)
  have k0 := nn_lt2 hlt
  have kx : ((s[i].toNat : Nat) : Int) = 39 := by rw [hc]; rfl
  have hQ := quoted_any s i w hs hlt hex_ib
  have hkl := q_le hq
  rw [List.length_drop, len_data] at hkl
  have hKs : K ≤ s.size := by omega
  have hco : colon s.data.toList (i + 1 + k) = true := by rw [← hK]; unfold colon; rw [at_data s hend0, h58]; rw [at_data s hend, h32]; simp
  obtain ⟨j, hj⟩ : ∃ j, j = blanks s.data.toList (K + 1) := ⟨_, rfl⟩
  have hBl := fun wx => blanks_any s (K + 1) wx (by omega) (by omega)
  simp only [← hj] at hBl
  replace hBl : ∀ wx, Calls Try.prog 69 #[.string s, .int .i64 ((K : Int) + 1)] wx fun e w' => e = .returned (.int .i64 j) ∧ wx = w' := hBl
  have hjs : j ≤ s.size := by rw [hj]; have := blanks_le s.data.toList (i := K + 1) (by rw [len_data]; omega); rwa [len_data] at this
  have hX2 : scalar s.data.toList n j (out ++ [⟨3, n, i, t, true⟩]) = X := by rw [← hX, items_key (by omega) hov hit, keyed_qk hqa (at_data s hlt) hq hco, hj, hK]
  have k1 : ((K : Int) == (s.size : Int)) = false ∧ (K : Int) < (s.size : Int) ∧ ((s[K].toNat : Nat) : Int) = 58 := ⟨by rw [beq_eq_false_iff_ne]; omega, by omega, by rw [h58]; rfl⟩
  have k2 : (K : Int) + 1 < (s.size : Int) ∧ ((s[K + 1].toNat : Nat) : Int) = 32 := ⟨by omega, by rw [h32]; rfl⟩
  rw [hq] at hQ
  replace hQ : Calls Try.prog 71 #[.string s, .int .i64 i] w fun e w' => e = .returned (.tuple #[.string ⟨t.toArray⟩, .int .i64 ((i + 1 + k : Nat) : Int), .bool true]) ∧ Tch No w w' := hQ
  rw [← hK] at hQ
  have hol2 : (out ++ [(⟨3, n, i, t, true⟩ : Tk)]).length ≤ s.size + 1 := by rw [List.length_append]; simp only [List.length_singleton]; omega
  have hol3 : out.length < 2932031007400 := by omega
  have hw0 : ∀ k, O.ownBlock = some k → w0.heap.size ≤ k := fun k hk => hB ▸ (ownsRow_ge hrow hk).1
  have hBw := Lib.hid (show B ≤ w.heap.size by rw [hB]; exact t0.size)
  obtain ⟨oo, oc, rfl⟩ := ownsRow_shape hrow
  obtain ⟨i0, hif, hz0, hz1, hz2⟩ := info_parts info39
  replace hrow := Lib.hid (show w.ownsRow B 39 5 (.slice oo out.length oc) out.length (tcs (out.map tokOf)) from hrow)
  replace hif := Lib.hid hif
  replace hz0 := Lib.hid hz0
  replace hz1 := Lib.hid hz1
  replace hz2 := Lib.hid hz2
  replace hO := Lib.hid hO
  replace hX := Lib.hid hX
  replace hov := Lib.hid hov
  replace hg := Lib.hid hg
  replace t0 := Lib.hid t0
  replace hol := Lib.hid hol
  replace hqa := Lib.hid hqa
  replace hit := Lib.hid hit
  replace hQ := Lib.hid hQ
  replace hq := Lib.hid hq
  replace hc := Lib.hid hc
  replace hf := Lib.hid hf
  replace hi := Lib.hid hi
  replace hkl := Lib.hid hkl
  replace hKs := Lib.hid hKs
  replace hco := Lib.hid hco
  replace hX2 := Lib.hid hX2
  replace hK := Lib.hid hK
  replace hol2 := Lib.hid hol2
  replace hol3 := Lib.hid hol3
  replace hw0 := Lib.hid hw0
  replace hj := Lib.hid hj
  replace hBl := Lib.hid hBl
  replace hjs := Lib.hid hjs
  replace h58 := Lib.hid h58
  go_wp2_with (first
    | (go_at_call 70; refine hO.out.mono ?_; rintro e w2 ⟨rfl, hw2⟩; subst hw2)
    | (go_at_call 71; refine hQ.out.mono ?_; rintro e w2 ⟨rfl, t2⟩; have hr2 := Lib.hid (ownsRow_tch hrow.out t2 (fun _ _ h => h)); have hB2 := Lib.hid (Nat.le_trans hBw.out t2.size); replace t2 := Lib.hid t2)
    | (go_at_call 69; refine (hBl.out _).mono ?_; rintro e w3 ⟨rfl, hw3⟩; subst hw3)
    | (at_builtin; refine wp_append_us rfl _ _ 23 (by rfl) B 39 i0 (.agg #[.int .i64 0, .int .i64 0, .int .i64 0, .string ⟨#[]⟩, .bool false]) 5 48 Try.underlying23 hif.out hz0.out hz1.out hz2.out rfl (by decide) _ out.length _ (by rfl) hr2.out 1 (by rfl) rfl (by simp [Value.oneCell']) (nn_own (Nat.le_refl _) hol3.out).1 (nn_own (Nat.le_refl _) hol3.out).2 hB2.out ?_; intro v7 w7 hr7 hg7 hl7; obtain ⟨po, pc, rfl⟩ := ownsRow_shape hr7; replace hr7 := Lib.hid hr7; replace hg7 := Lib.hid hg7; replace hl7 := Lib.hid hl7)
    | fail)
  have t7 := Lib.hid ((t0.out.trans t2.out (fun _ h => h.elim)).trans (Tch.grown (S := fun k => (Value.slice oo out.length oc).ownBlock = some k) hg7.out (fun k hk => .inl hk)) (fun k hk => .inr (hw0.out k hk)))
  go_step3
  exact hg.out _ _ _ _ _ fr60i hjs.out (tkRow_snoc rfl hr7.out) hol2.out t7.out hX2.out
end Go.Proofs.Ytcnjmkjfgghgoaa
end
