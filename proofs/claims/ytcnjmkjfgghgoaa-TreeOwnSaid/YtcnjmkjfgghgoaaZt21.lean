/- Behind label 0 of line: a key that is a name, or none. -/
import Derived.Test.YtcnjmkjfgghgoaaZt20
section

namespace Go.Proofs.Ytcnjmkjfgghgoaa
open Go.RowKit Go.Ln Go.Mp Go.Tr
set_option linter.unusedVariables false
set_option maxRecDepth 100000
set_option maxHeartbeats 4000000
theorem keyed_no {l : List UInt8} {n : Int} {i : Nat} {out : List Tk} (h : quoteAt l i = false) (hn : ¬ (i < behind l i ∧ behind l i - i ≤ 64 ∧ colon l (behind l i) = true)) : keyed l n i out = scalar l n i out := by
  unfold keyed; rw [if_neg (by rw [h]; decide)]; simp only; rw [if_neg hn]
theorem keyed_yes {l : List UInt8} {n : Int} {i : Nat} {out : List Tk} (h : quoteAt l i = false) (hn : i < behind l i ∧ behind l i - i ≤ 64 ∧ colon l (behind l i) = true) : keyed l n i out = scalar l n (blanks l (behind l i + 1)) (out ++ [⟨3, n, i, (l.drop i).take (behind l i - i), false⟩]) := by
  unfold keyed; rw [if_neg (by rw [h]; decide)]; simp only; rw [if_pos hn]
theorem item_no2 {s : ByteArray} {i : Nat} (hlt : i < s.size) (hend : i + 1 < s.size) (h : ¬ s[i + 1] = 32) : itemAt s.data.toList i = false := by
  unfold itemAt; rw [at_data s hend, decide_eq_false (show ¬ i + 1 = s.data.toList.length by rw [len_data]; omega), decide_eq_false (fun e => h (Option.some.inj e)), Bool.false_or, Bool.and_false]
theorem nn_wsub {i k m : Nat} (h : i ≤ k) (h2 : k ≤ m) (h3 : m < 4294967281) : wrap64 ((k : Int) - (i : Int)) = (k : Int) - (i : Int) := by unfold wrap64; omega
theorem begin_no1a {B : Nat} {s : ByteArray} {n i f : Nat} {out : List Tk} {O : Value} {a : Act} {w w0 : World} {X : Except Int (List Tk)} {Q : Exit → Act → World → Prop} {k : Nat}
    (hF : Fr60 (.string s) (.int .i64 n) O (.int .i64 i) a) (hs : s.size < 4294967281) (hi : i ≤ s.size) (hrow : tkRow w B O out) (hol : out.length ≤ i) (t0 : Tch No w0 w) (hB : B = w0.heap.size) {m : Int} (hm : w0.cell? ⟨0, 0, none⟩ = some (.int .i64 m))
    (hf : s.size - i < f) (hX : items s.data.toList n f i out = X) (hov : over s.data.toList i = false) (hlt : i < s.size) (h34 : ¬ s[i] = 34) (h39 : ¬ s[i] = 39) (h45 : ¬ s[i] = 45) (hk : k = behind s.data.toList i)
    (hret : Retc B w0 X Q) (hend : k = i) : (q60 0).wp Try.prog Q a w := by
  obtain ⟨fr, rfl⟩ := hF
  refine wp_q rfl ?_
  have hO := over_any s i w (by omega) hi
  rw [hov] at hO
  have hqa := quote_no hlt h34 h39
  have k0 := nn_lt2 hlt
  have kx34 : ((s[i].toNat : Int) == 34) = false := u8_neq h34 (n := 34) (by decide)
  have kx39 : ((s[i].toNat : Int) == 39) = false := u8_neq h39 (n := 39) (by decide)
  have hit := item_no hlt h45; have kx45 : ((s[i].toNat : Int) == 45) = false := u8_neq h45 (n := 45) (by decide)
  have hN := name_any s i w (by omega) hi
  rw [← hk] at hN
  have hik : i ≤ k := by rw [hk]; exact behind_ge _ _
  have hks : k ≤ s.size := by rw [hk]; have := behind_le s.data.toList (i := i) (by rw [len_data]; omega); rwa [len_data] at this
  have hco : ¬ (i < behind s.data.toList i ∧ behind s.data.toList i - i ≤ 64 ∧ colon s.data.toList (behind s.data.toList i) = true) := by rw [← hk]; exact fun h => by omega
  have hX2 : scalar s.data.toList n i out = X := by rw [← hX, items_key (by omega) hov hit, keyed_no hqa hco]
  have k2 : decide ((i : Int) < (k : Int)) = false ∧ decide (i < k) = false := ⟨decide_eq_false (by omega), decide_eq_false (by omega)⟩; replace hend := Lib.hid hend
  have hol3 : out.length < 2932031007400 := by omega
  have hm2 := t0.cell_some hm id
  replace hO := Lib.hid hO
  replace hX := Lib.hid hX
  replace hov := Lib.hid hov
  replace hrow := Lib.hid hrow
  replace hret := Lib.hid hret
  replace t0 := Lib.hid t0
  replace hol := Lib.hid hol
  replace hqa := Lib.hid hqa
  replace hit := Lib.hid hit
  replace hf := Lib.hid hf
  replace hi := Lib.hid hi
  replace hco := Lib.hid hco
  replace hX2 := Lib.hid hX2
  replace hol3 := Lib.hid hol3
  replace hk := Lib.hid hk
  replace hik := Lib.hid hik
  replace hks := Lib.hid hks
  replace h34 := Lib.hid h34
  replace h39 := Lib.hid h39
  replace hN := Lib.hid hN
  replace hm := Lib.hid hm
  replace hm2 := Lib.hid hm2
  replace h45 := Lib.hid h45
  go_upto_region 29 with (first
    | (go_at_call 70; refine hO.out.mono ?_; rintro e w2 ⟨rfl, hw2⟩; subst hw2)
    | (go_at_call 72; refine hN.out.mono ?_; rintro e w2 ⟨rfl, hw2⟩; subst hw2)
    | fail)
  go_step3
  rename_i K0 hK0
  refine hK0 _ _ (wp_q2 (l := 1) (by kernel_rfl) ?_)
  exact scal_wp fr60i hs hi.out hrow.out hol3.out t0.out hB hm2.out (by rw [hX2.out]; exact hret.out)
theorem begin_no2a {B : Nat} {s : ByteArray} {n i f : Nat} {out : List Tk} {O : Value} {a : Act} {w w0 : World} {X : Except Int (List Tk)} {Q : Exit → Act → World → Prop} {k : Nat}
    (hF : Fr60 (.string s) (.int .i64 n) O (.int .i64 i) a) (hs : s.size < 4294967281) (hi : i ≤ s.size) (hrow : tkRow w B O out) (hol : out.length ≤ i) (t0 : Tch No w0 w) (hB : B = w0.heap.size) {m : Int} (hm : w0.cell? ⟨0, 0, none⟩ = some (.int .i64 m))
    (hf : s.size - i < f) (hX : items s.data.toList n f i out = X) (hov : over s.data.toList i = false) (hlt : i < s.size) (h34 : ¬ s[i] = 34) (h39 : ¬ s[i] = 39) (h45 : ¬ s[i] = 45) (hk : k = behind s.data.toList i)
    (hret : Retc B w0 X Q) (hend : i + 64 < k) : (q60 0).wp Try.prog Q a w := by
  obtain ⟨fr, rfl⟩ := hF
  refine wp_q rfl ?_
  have hO := over_any s i w (by omega) hi
  rw [hov] at hO
  have hqa := quote_no hlt h34 h39
  have k0 := nn_lt2 hlt
  have kx34 : ((s[i].toNat : Int) == 34) = false := u8_neq h34 (n := 34) (by decide)
  have kx39 : ((s[i].toNat : Int) == 39) = false := u8_neq h39 (n := 39) (by decide)
  have hit := item_no hlt h45; have kx45 : ((s[i].toNat : Int) == 45) = false := u8_neq h45 (n := 45) (by decide)
  have hN := name_any s i w (by omega) hi
  rw [← hk] at hN
  have hik : i ≤ k := by rw [hk]; exact behind_ge _ _
  have hks : k ≤ s.size := by rw [hk]; have := behind_le s.data.toList (i := i) (by rw [len_data]; omega); rwa [len_data] at this
  have hco : ¬ (i < behind s.data.toList i ∧ behind s.data.toList i - i ≤ 64 ∧ colon s.data.toList (behind s.data.toList i) = true) := by rw [← hk]; exact fun h => by omega
  have hX2 : scalar s.data.toList n i out = X := by rw [← hX, items_key (by omega) hov hit, keyed_no hqa hco]
  have k2 : (i : Int) < (k : Int) ∧ wrap64 ((k : Int) - (i : Int)) = (k : Int) - (i : Int) ∧ decide ((k : Int) - (i : Int) ≤ 64) = false := ⟨by omega, nn_wsub hik hks hs, decide_eq_false (by omega)⟩; replace hend := Lib.hid hend
  have hol3 : out.length < 2932031007400 := by omega
  have hm2 := t0.cell_some hm id
  replace hO := Lib.hid hO
  replace hX := Lib.hid hX
  replace hov := Lib.hid hov
  replace hrow := Lib.hid hrow
  replace hret := Lib.hid hret
  replace t0 := Lib.hid t0
  replace hol := Lib.hid hol
  replace hqa := Lib.hid hqa
  replace hit := Lib.hid hit
  replace hf := Lib.hid hf
  replace hi := Lib.hid hi
  replace hco := Lib.hid hco
  replace hX2 := Lib.hid hX2
  replace hol3 := Lib.hid hol3
  replace hk := Lib.hid hk
  replace hik := Lib.hid hik
  replace hks := Lib.hid hks
  replace h34 := Lib.hid h34
  replace h39 := Lib.hid h39
  replace hN := Lib.hid hN
  replace hm := Lib.hid hm
  replace hm2 := Lib.hid hm2
  replace h45 := Lib.hid h45
  go_upto_region 29 with (first
    | (go_at_call 70; refine hO.out.mono ?_; rintro e w2 ⟨rfl, hw2⟩; subst hw2)
    | (go_at_call 72; refine hN.out.mono ?_; rintro e w2 ⟨rfl, hw2⟩; subst hw2)
    | fail)
  go_step3
  rename_i K0 hK0
  refine hK0 _ _ (wp_q2 (l := 1) (by kernel_rfl) ?_)
  exact scal_wp fr60i hs hi.out hrow.out hol3.out t0.out hB hm2.out (by rw [hX2.out]; exact hret.out)
theorem begin_no3a {B : Nat} {s : ByteArray} {n i f : Nat} {out : List Tk} {O : Value} {a : Act} {w w0 : World} {X : Except Int (List Tk)} {Q : Exit → Act → World → Prop} {k : Nat}
    (hF : Fr60 (.string s) (.int .i64 n) O (.int .i64 i) a) (hs : s.size < 4294967281) (hi : i ≤ s.size) (hrow : tkRow w B O out) (hol : out.length ≤ i) (t0 : Tch No w0 w) (hB : B = w0.heap.size) {m : Int} (hm : w0.cell? ⟨0, 0, none⟩ = some (.int .i64 m))
    (hf : s.size - i < f) (hX : items s.data.toList n f i out = X) (hov : over s.data.toList i = false) (hlt : i < s.size) (h34 : ¬ s[i] = 34) (h39 : ¬ s[i] = 39) (h45 : ¬ s[i] = 45) (hk : k = behind s.data.toList i)
    (hret : Retc B w0 X Q) (h0 : i < k) (h1 : k ≤ i + 64) (hend : k = s.size) : (q60 0).wp Try.prog Q a w := by
  obtain ⟨fr, rfl⟩ := hF
  refine wp_q rfl ?_
  have hO := over_any s i w (by omega) hi
  rw [hov] at hO
  have hqa := quote_no hlt h34 h39
  have k0 := nn_lt2 hlt
  have kx34 : ((s[i].toNat : Int) == 34) = false := u8_neq h34 (n := 34) (by decide)
  have kx39 : ((s[i].toNat : Int) == 39) = false := u8_neq h39 (n := 39) (by decide)
  have hit := item_no hlt h45; have kx45 : ((s[i].toNat : Int) == 45) = false := u8_neq h45 (n := 45) (by decide)
  have hN := name_any s i w (by omega) hi
  rw [← hk] at hN
  have hik : i ≤ k := by rw [hk]; exact behind_ge _ _
  have hks : k ≤ s.size := by rw [hk]; have := behind_le s.data.toList (i := i) (by rw [len_data]; omega); rwa [len_data] at this
  have hco : ¬ (i < behind s.data.toList i ∧ behind s.data.toList i - i ≤ 64 ∧ colon s.data.toList (behind s.data.toList i) = true) := by rw [← hk]; rintro ⟨_, _, h⟩; unfold colon at h; rw [no_data s (by omega)] at h; cases h
  have hX2 : scalar s.data.toList n i out = X := by rw [← hX, items_key (by omega) hov hit, keyed_no hqa hco]
  have k2 : (i : Int) < (k : Int) ∧ wrap64 ((k : Int) - (i : Int)) = (k : Int) - (i : Int) ∧ (k : Int) - (i : Int) ≤ 64 ∧ decide (k < s.size) = false ∧ decide ((k : Int) < (s.size : Int)) = false := ⟨by omega, nn_wsub hik hks hs, by omega, decide_eq_false (by omega), decide_eq_false (by omega)⟩; replace hend := Lib.hid hend
  have hol3 : out.length < 2932031007400 := by omega
  have hm2 := t0.cell_some hm id
  replace hO := Lib.hid hO
  replace hX := Lib.hid hX
  replace hov := Lib.hid hov
  replace hrow := Lib.hid hrow
  replace hret := Lib.hid hret
  replace t0 := Lib.hid t0
  replace hol := Lib.hid hol
  replace hqa := Lib.hid hqa
  replace hit := Lib.hid hit
  replace hf := Lib.hid hf
  replace hi := Lib.hid hi
  replace hco := Lib.hid hco
  replace hX2 := Lib.hid hX2
  replace hol3 := Lib.hid hol3
  replace hk := Lib.hid hk
  replace hik := Lib.hid hik
  replace hks := Lib.hid hks
  replace h34 := Lib.hid h34
  replace h39 := Lib.hid h39
  replace hN := Lib.hid hN
  replace hm := Lib.hid hm
  replace hm2 := Lib.hid hm2
  replace h45 := Lib.hid h45
  go_upto_region 29 with (first
    | (go_at_call 70; refine hO.out.mono ?_; rintro e w2 ⟨rfl, hw2⟩; subst hw2)
    | (go_at_call 72; refine hN.out.mono ?_; rintro e w2 ⟨rfl, hw2⟩; subst hw2)
    | fail)
  go_step3
  rename_i K0 hK0
  refine hK0 _ _ (wp_q2 (l := 1) (by kernel_rfl) ?_)
  exact scal_wp fr60i hs hi.out hrow.out hol3.out t0.out hB hm2.out (by rw [hX2.out]; exact hret.out)
theorem begin_no4a {B : Nat} {s : ByteArray} {n i f : Nat} {out : List Tk} {O : Value} {a : Act} {w w0 : World} {X : Except Int (List Tk)} {Q : Exit → Act → World → Prop} {k : Nat}
    (hF : Fr60 (.string s) (.int .i64 n) O (.int .i64 i) a) (hs : s.size < 4294967281) (hi : i ≤ s.size) (hrow : tkRow w B O out) (hol : out.length ≤ i) (t0 : Tch No w0 w) (hB : B = w0.heap.size) {m : Int} (hm : w0.cell? ⟨0, 0, none⟩ = some (.int .i64 m))
    (hf : s.size - i < f) (hX : items s.data.toList n f i out = X) (hov : over s.data.toList i = false) (hlt : i < s.size) (h34 : ¬ s[i] = 34) (h39 : ¬ s[i] = 39) (h45 : ¬ s[i] = 45) (hk : k = behind s.data.toList i)
    (hret : Retc B w0 X Q) (h0 : i < k) (h1 : k ≤ i + 64) (hend : k < s.size) (h58 : ¬ s[k] = 58) : (q60 0).wp Try.prog Q a w := by
  obtain ⟨fr, rfl⟩ := hF
  refine wp_q rfl ?_
  have hO := over_any s i w (by omega) hi
  rw [hov] at hO
  have hqa := quote_no hlt h34 h39
  have k0 := nn_lt2 hlt
  have kx34 : ((s[i].toNat : Int) == 34) = false := u8_neq h34 (n := 34) (by decide)
  have kx39 : ((s[i].toNat : Int) == 39) = false := u8_neq h39 (n := 39) (by decide)
  have hit := item_no hlt h45; have kx45 : ((s[i].toNat : Int) == 45) = false := u8_neq h45 (n := 45) (by decide)
  have hN := name_any s i w (by omega) hi
  rw [← hk] at hN
  have hik : i ≤ k := by rw [hk]; exact behind_ge _ _
  have hks : k ≤ s.size := by rw [hk]; have := behind_le s.data.toList (i := i) (by rw [len_data]; omega); rwa [len_data] at this
  have hco : ¬ (i < behind s.data.toList i ∧ behind s.data.toList i - i ≤ 64 ∧ colon s.data.toList (behind s.data.toList i) = true) := by rw [← hk]; rintro ⟨_, _, h⟩; unfold colon at h; rw [at_data s hend, decide_eq_false (fun e => h58 (Option.some.inj e)), Bool.false_and] at h; cases h
  have hX2 : scalar s.data.toList n i out = X := by rw [← hX, items_key (by omega) hov hit, keyed_no hqa hco]
  have k2 : (i : Int) < (k : Int) ∧ wrap64 ((k : Int) - (i : Int)) = (k : Int) - (i : Int) ∧ (k : Int) - (i : Int) ≤ 64 ∧ (k : Int) < (s.size : Int) ∧ ((s[k].toNat : Int) == 58) = false := ⟨by omega, nn_wsub hik hks hs, by omega, by omega, u8_neq h58 (n := 58) (by decide)⟩
  have hol3 : out.length < 2932031007400 := by omega
  have hm2 := t0.cell_some hm id
  replace hO := Lib.hid hO
  replace hX := Lib.hid hX
  replace hov := Lib.hid hov
  replace hrow := Lib.hid hrow
  replace hret := Lib.hid hret
  replace t0 := Lib.hid t0
  replace hol := Lib.hid hol
  replace hqa := Lib.hid hqa
  replace hit := Lib.hid hit
  replace hf := Lib.hid hf
  replace hi := Lib.hid hi
  replace hco := Lib.hid hco
  replace hX2 := Lib.hid hX2
  replace hol3 := Lib.hid hol3
  replace hk := Lib.hid hk
  replace hik := Lib.hid hik
  replace hks := Lib.hid hks
  replace h34 := Lib.hid h34
  replace h39 := Lib.hid h39
  replace hN := Lib.hid hN
  replace hm := Lib.hid hm
  replace hm2 := Lib.hid hm2
  replace h45 := Lib.hid h45
  go_upto_region 29 with (first
    | (go_at_call 70; refine hO.out.mono ?_; rintro e w2 ⟨rfl, hw2⟩; subst hw2)
    | (go_at_call 72; refine hN.out.mono ?_; rintro e w2 ⟨rfl, hw2⟩; subst hw2)
    | fail)
  go_step3
  rename_i K0 hK0
  refine hK0 _ _ (wp_q2 (l := 1) (by kernel_rfl) ?_)
  exact scal_wp fr60i hs hi.out hrow.out hol3.out t0.out hB hm2.out (by rw [hX2.out]; exact hret.out)
theorem begin_no5a {B : Nat} {s : ByteArray} {n i f : Nat} {out : List Tk} {O : Value} {a : Act} {w w0 : World} {X : Except Int (List Tk)} {Q : Exit → Act → World → Prop} {k : Nat}
    (hF : Fr60 (.string s) (.int .i64 n) O (.int .i64 i) a) (hs : s.size < 4294967281) (hi : i ≤ s.size) (hrow : tkRow w B O out) (hol : out.length ≤ i) (t0 : Tch No w0 w) (hB : B = w0.heap.size) {m : Int} (hm : w0.cell? ⟨0, 0, none⟩ = some (.int .i64 m))
    (hf : s.size - i < f) (hX : items s.data.toList n f i out = X) (hov : over s.data.toList i = false) (hlt : i < s.size) (h34 : ¬ s[i] = 34) (h39 : ¬ s[i] = 39) (h45 : ¬ s[i] = 45) (hk : k = behind s.data.toList i)
    (hret : Retc B w0 X Q) (h0 : i < k) (h1 : k ≤ i + 64) (hend0 : k < s.size) (h58 : s[k] = 58) (hend : k + 1 < s.size) (h32 : ¬ s[k + 1] = 32) : (q60 0).wp Try.prog Q a w := by
  obtain ⟨fr, rfl⟩ := hF
  refine wp_q rfl ?_
  have hO := over_any s i w (by omega) hi
  rw [hov] at hO
  have hqa := quote_no hlt h34 h39
  have k0 := nn_lt2 hlt
  have kx34 : ((s[i].toNat : Int) == 34) = false := u8_neq h34 (n := 34) (by decide)
  have kx39 : ((s[i].toNat : Int) == 39) = false := u8_neq h39 (n := 39) (by decide)
  have hit := item_no hlt h45; have kx45 : ((s[i].toNat : Int) == 45) = false := u8_neq h45 (n := 45) (by decide)
  have hN := name_any s i w (by omega) hi
  rw [← hk] at hN
  have hik : i ≤ k := by rw [hk]; exact behind_ge _ _
  have hks : k ≤ s.size := by rw [hk]; have := behind_le s.data.toList (i := i) (by rw [len_data]; omega); rwa [len_data] at this
  have hco : ¬ (i < behind s.data.toList i ∧ behind s.data.toList i - i ≤ 64 ∧ colon s.data.toList (behind s.data.toList i) = true) := by rw [← hk]; rintro ⟨_, _, h⟩; unfold colon at h; rw [at_data s hend0, at_data s hend, decide_eq_false (show ¬ k + 1 = s.data.toList.length by rw [len_data]; omega), decide_eq_false (fun e => h32 (Option.some.inj e)), Bool.false_or, Bool.and_false] at h; cases h
  have hX2 : scalar s.data.toList n i out = X := by rw [← hX, items_key (by omega) hov hit, keyed_no hqa hco]
  have k2 : (i : Int) < (k : Int) ∧ wrap64 ((k : Int) - (i : Int)) = (k : Int) - (i : Int) ∧ (k : Int) - (i : Int) ≤ 64 ∧ (k : Int) < (s.size : Int) ∧ ((s[k].toNat : Nat) : Int) = 58 ∧ ((k : Int) + 1 == (s.size : Int)) = false ∧ (k : Int) + 1 < (s.size : Int) ∧ ((s[k + 1].toNat : Int) == 32) = false := ⟨by omega, nn_wsub hik hks hs, by omega, by omega, by rw [h58]; rfl, by rw [beq_eq_false_iff_ne]; omega, by omega, u8_neq h32 (n := 32) (by decide)⟩; replace h58 := Lib.hid h58
  have hol3 : out.length < 2932031007400 := by omega
  have hm2 := t0.cell_some hm id
  replace hO := Lib.hid hO
  replace hX := Lib.hid hX
  replace hov := Lib.hid hov
  replace hrow := Lib.hid hrow
  replace hret := Lib.hid hret
  replace t0 := Lib.hid t0
  replace hol := Lib.hid hol
  replace hqa := Lib.hid hqa
  replace hit := Lib.hid hit
  replace hf := Lib.hid hf
  replace hi := Lib.hid hi
  replace hco := Lib.hid hco
  replace hX2 := Lib.hid hX2
  replace hol3 := Lib.hid hol3
  replace hk := Lib.hid hk
  replace hik := Lib.hid hik
  replace hks := Lib.hid hks
  replace h34 := Lib.hid h34
  replace h39 := Lib.hid h39
  replace hN := Lib.hid hN
  replace hm := Lib.hid hm
  replace hm2 := Lib.hid hm2
  replace h45 := Lib.hid h45
  go_upto_region 29 with (first
    | (go_at_call 70; refine hO.out.mono ?_; rintro e w2 ⟨rfl, hw2⟩; subst hw2)
    | (go_at_call 72; refine hN.out.mono ?_; rintro e w2 ⟨rfl, hw2⟩; subst hw2)
    | fail)
  go_step3
  rename_i K0 hK0
  refine hK0 _ _ (wp_q2 (l := 1) (by kernel_rfl) ?_)
  exact scal_wp fr60i hs hi.out hrow.out hol3.out t0.out hB hm2.out (by rw [hX2.out]; exact hret.out)
theorem begin_no1b {B : Nat} {s : ByteArray} {n i f : Nat} {out : List Tk} {O : Value} {a : Act} {w w0 : World} {X : Except Int (List Tk)} {Q : Exit → Act → World → Prop} {k : Nat}
    (hF : Fr60 (.string s) (.int .i64 n) O (.int .i64 i) a) (hs : s.size < 4294967281) (hi : i ≤ s.size) (hrow : tkRow w B O out) (hol : out.length ≤ i) (t0 : Tch No w0 w) (hB : B = w0.heap.size) {m : Int} (hm : w0.cell? ⟨0, 0, none⟩ = some (.int .i64 m))
    (hf : s.size - i < f) (hX : items s.data.toList n f i out = X) (hov : over s.data.toList i = false) (hlt : i < s.size) (h34 : ¬ s[i] = 34) (h39 : ¬ s[i] = 39) (h45 : s[i] = 45) (hi2 : i + 1 < s.size) (hi32 : ¬ s[i + 1] = 32) (hk : k = behind s.data.toList i)
    (hret : Retc B w0 X Q) (hend : k = i) : (q60 0).wp Try.prog Q a w := by
  obtain ⟨fr, rfl⟩ := hF
  refine wp_q rfl ?_
  have hO := over_any s i w (by omega) hi
  rw [hov] at hO
  have hqa := quote_no hlt h34 h39
  have k0 := nn_lt2 hlt
  have kx34 : ((s[i].toNat : Int) == 34) = false := u8_neq h34 (n := 34) (by decide)
  have kx39 : ((s[i].toNat : Int) == 39) = false := u8_neq h39 (n := 39) (by decide)
  have hit := item_no2 hlt hi2 hi32; have kx45 : ((s[i].toNat : Nat) : Int) = 45 ∧ ((i : Int) + 1 == (s.size : Int)) = false ∧ (i : Int) + 1 < (s.size : Int) ∧ ((s[i + 1].toNat : Int) == 32) = false := ⟨by rw [h45]; rfl, by rw [beq_eq_false_iff_ne]; omega, by omega, u8_neq hi32 (n := 32) (by decide)⟩; clear kx34 kx39
  have hN := name_any s i w (by omega) hi
  rw [← hk] at hN
  have hik : i ≤ k := by rw [hk]; exact behind_ge _ _
  have hks : k ≤ s.size := by rw [hk]; have := behind_le s.data.toList (i := i) (by rw [len_data]; omega); rwa [len_data] at this
  have hco : ¬ (i < behind s.data.toList i ∧ behind s.data.toList i - i ≤ 64 ∧ colon s.data.toList (behind s.data.toList i) = true) := by rw [← hk]; exact fun h => by omega
  have hX2 : scalar s.data.toList n i out = X := by rw [← hX, items_key (by omega) hov hit, keyed_no hqa hco]
  have k2 : decide ((i : Int) < (k : Int)) = false ∧ decide (i < k) = false := ⟨decide_eq_false (by omega), decide_eq_false (by omega)⟩; replace hend := Lib.hid hend
  have hol3 : out.length < 2932031007400 := by omega
  have hm2 := t0.cell_some hm id
  replace hO := Lib.hid hO
  replace hX := Lib.hid hX
  replace hov := Lib.hid hov
  replace hrow := Lib.hid hrow
  replace hret := Lib.hid hret
  replace t0 := Lib.hid t0
  replace hol := Lib.hid hol
  replace hqa := Lib.hid hqa
  replace hit := Lib.hid hit
  replace hf := Lib.hid hf
  replace hi := Lib.hid hi
  replace hco := Lib.hid hco
  replace hX2 := Lib.hid hX2
  replace hol3 := Lib.hid hol3
  replace hk := Lib.hid hk
  replace hik := Lib.hid hik
  replace hks := Lib.hid hks
  replace h34 := Lib.hid h34
  replace h39 := Lib.hid h39
  replace hN := Lib.hid hN
  replace hm := Lib.hid hm
  replace hm2 := Lib.hid hm2
  replace h45 := Lib.hid h45
  replace hi32 := Lib.hid hi32
  go_upto_region 29 with (first
    | (go_at_call 70; refine hO.out.mono ?_; rintro e w2 ⟨rfl, hw2⟩; subst hw2)
    | (go_at_call 72; refine hN.out.mono ?_; rintro e w2 ⟨rfl, hw2⟩; subst hw2)
    | fail)
  go_step3
  rename_i K0 hK0
  refine hK0 _ _ (wp_q2 (l := 1) (by kernel_rfl) ?_)
  exact scal_wp fr60i hs hi.out hrow.out hol3.out t0.out hB hm2.out (by rw [hX2.out]; exact hret.out)
theorem begin_no2b {B : Nat} {s : ByteArray} {n i f : Nat} {out : List Tk} {O : Value} {a : Act} {w w0 : World} {X : Except Int (List Tk)} {Q : Exit → Act → World → Prop} {k : Nat}
    (hF : Fr60 (.string s) (.int .i64 n) O (.int .i64 i) a) (hs : s.size < 4294967281) (hi : i ≤ s.size) (hrow : tkRow w B O out) (hol : out.length ≤ i) (t0 : Tch No w0 w) (hB : B = w0.heap.size) {m : Int} (hm : w0.cell? ⟨0, 0, none⟩ = some (.int .i64 m))
    (hf : s.size - i < f) (hX : items s.data.toList n f i out = X) (hov : over s.data.toList i = false) (hlt : i < s.size) (h34 : ¬ s[i] = 34) (h39 : ¬ s[i] = 39) (h45 : s[i] = 45) (hi2 : i + 1 < s.size) (hi32 : ¬ s[i + 1] = 32) (hk : k = behind s.data.toList i)
    (hret : Retc B w0 X Q) (hend : i + 64 < k) : (q60 0).wp Try.prog Q a w := by
  obtain ⟨fr, rfl⟩ := hF
  refine wp_q rfl ?_
  have hO := over_any s i w (by omega) hi
  rw [hov] at hO
  have hqa := quote_no hlt h34 h39
  have k0 := nn_lt2 hlt
  have kx34 : ((s[i].toNat : Int) == 34) = false := u8_neq h34 (n := 34) (by decide)
  have kx39 : ((s[i].toNat : Int) == 39) = false := u8_neq h39 (n := 39) (by decide)
  have hit := item_no2 hlt hi2 hi32; have kx45 : ((s[i].toNat : Nat) : Int) = 45 ∧ ((i : Int) + 1 == (s.size : Int)) = false ∧ (i : Int) + 1 < (s.size : Int) ∧ ((s[i + 1].toNat : Int) == 32) = false := ⟨by rw [h45]; rfl, by rw [beq_eq_false_iff_ne]; omega, by omega, u8_neq hi32 (n := 32) (by decide)⟩; clear kx34 kx39
  have hN := name_any s i w (by omega) hi
  rw [← hk] at hN
  have hik : i ≤ k := by rw [hk]; exact behind_ge _ _
  have hks : k ≤ s.size := by rw [hk]; have := behind_le s.data.toList (i := i) (by rw [len_data]; omega); rwa [len_data] at this
  have hco : ¬ (i < behind s.data.toList i ∧ behind s.data.toList i - i ≤ 64 ∧ colon s.data.toList (behind s.data.toList i) = true) := by rw [← hk]; exact fun h => by omega
  have hX2 : scalar s.data.toList n i out = X := by rw [← hX, items_key (by omega) hov hit, keyed_no hqa hco]
  have k2 : (i : Int) < (k : Int) ∧ wrap64 ((k : Int) - (i : Int)) = (k : Int) - (i : Int) ∧ decide ((k : Int) - (i : Int) ≤ 64) = false := ⟨by omega, nn_wsub hik hks hs, decide_eq_false (by omega)⟩; replace hend := Lib.hid hend
  have hol3 : out.length < 2932031007400 := by omega
  have hm2 := t0.cell_some hm id
  replace hO := Lib.hid hO
  replace hX := Lib.hid hX
  replace hov := Lib.hid hov
  replace hrow := Lib.hid hrow
  replace hret := Lib.hid hret
  replace t0 := Lib.hid t0
  replace hol := Lib.hid hol
  replace hqa := Lib.hid hqa
  replace hit := Lib.hid hit
  replace hf := Lib.hid hf
  replace hi := Lib.hid hi
  replace hco := Lib.hid hco
  replace hX2 := Lib.hid hX2
  replace hol3 := Lib.hid hol3
  replace hk := Lib.hid hk
  replace hik := Lib.hid hik
  replace hks := Lib.hid hks
  replace h34 := Lib.hid h34
  replace h39 := Lib.hid h39
  replace hN := Lib.hid hN
  replace hm := Lib.hid hm
  replace hm2 := Lib.hid hm2
  replace h45 := Lib.hid h45
  replace hi32 := Lib.hid hi32
  go_upto_region 29 with (first
    | (go_at_call 70; refine hO.out.mono ?_; rintro e w2 ⟨rfl, hw2⟩; subst hw2)
    | (go_at_call 72; refine hN.out.mono ?_; rintro e w2 ⟨rfl, hw2⟩; subst hw2)
    | fail)
  go_step3
  rename_i K0 hK0
  refine hK0 _ _ (wp_q2 (l := 1) (by kernel_rfl) ?_)
  exact scal_wp fr60i hs hi.out hrow.out hol3.out t0.out hB hm2.out (by rw [hX2.out]; exact hret.out)
theorem begin_no3b {B : Nat} {s : ByteArray} {n i f : Nat} {out : List Tk} {O : Value} {a : Act} {w w0 : World} {X : Except Int (List Tk)} {Q : Exit → Act → World → Prop} {k : Nat}
    (hF : Fr60 (.string s) (.int .i64 n) O (.int .i64 i) a) (hs : s.size < 4294967281) (hi : i ≤ s.size) (hrow : tkRow w B O out) (hol : out.length ≤ i) (t0 : Tch No w0 w) (hB : B = w0.heap.size) {m : Int} (hm : w0.cell? ⟨0, 0, none⟩ = some (.int .i64 m))
    (hf : s.size - i < f) (hX : items s.data.toList n f i out = X) (hov : over s.data.toList i = false) (hlt : i < s.size) (h34 : ¬ s[i] = 34) (h39 : ¬ s[i] = 39) (h45 : s[i] = 45) (hi2 : i + 1 < s.size) (hi32 : ¬ s[i + 1] = 32) (hk : k = behind s.data.toList i)
    (hret : Retc B w0 X Q) (h0 : i < k) (h1 : k ≤ i + 64) (hend : k = s.size) : (q60 0).wp Try.prog Q a w := by
  obtain ⟨fr, rfl⟩ := hF
  refine wp_q rfl ?_
  have hO := over_any s i w (by omega) hi
  rw [hov] at hO
  have hqa := quote_no hlt h34 h39
  have k0 := nn_lt2 hlt
  have kx34 : ((s[i].toNat : Int) == 34) = false := u8_neq h34 (n := 34) (by decide)
  have kx39 : ((s[i].toNat : Int) == 39) = false := u8_neq h39 (n := 39) (by decide)
  have hit := item_no2 hlt hi2 hi32; have kx45 : ((s[i].toNat : Nat) : Int) = 45 ∧ ((i : Int) + 1 == (s.size : Int)) = false ∧ (i : Int) + 1 < (s.size : Int) ∧ ((s[i + 1].toNat : Int) == 32) = false := ⟨by rw [h45]; rfl, by rw [beq_eq_false_iff_ne]; omega, by omega, u8_neq hi32 (n := 32) (by decide)⟩; clear kx34 kx39
  have hN := name_any s i w (by omega) hi
  rw [← hk] at hN
  have hik : i ≤ k := by rw [hk]; exact behind_ge _ _
  have hks : k ≤ s.size := by rw [hk]; have := behind_le s.data.toList (i := i) (by rw [len_data]; omega); rwa [len_data] at this
  have hco : ¬ (i < behind s.data.toList i ∧ behind s.data.toList i - i ≤ 64 ∧ colon s.data.toList (behind s.data.toList i) = true) := by rw [← hk]; rintro ⟨_, _, h⟩; unfold colon at h; rw [no_data s (by omega)] at h; cases h
  have hX2 : scalar s.data.toList n i out = X := by rw [← hX, items_key (by omega) hov hit, keyed_no hqa hco]
  have k2 : (i : Int) < (k : Int) ∧ wrap64 ((k : Int) - (i : Int)) = (k : Int) - (i : Int) ∧ (k : Int) - (i : Int) ≤ 64 ∧ decide (k < s.size) = false ∧ decide ((k : Int) < (s.size : Int)) = false := ⟨by omega, nn_wsub hik hks hs, by omega, decide_eq_false (by omega), decide_eq_false (by omega)⟩; replace hend := Lib.hid hend
  have hol3 : out.length < 2932031007400 := by omega
  have hm2 := t0.cell_some hm id
  replace hO := Lib.hid hO
  replace hX := Lib.hid hX
  replace hov := Lib.hid hov
  replace hrow := Lib.hid hrow
  replace hret := Lib.hid hret
  replace t0 := Lib.hid t0
  replace hol := Lib.hid hol
  replace hqa := Lib.hid hqa
  replace hit := Lib.hid hit
  replace hf := Lib.hid hf
  replace hi := Lib.hid hi
  replace hco := Lib.hid hco
  replace hX2 := Lib.hid hX2
  replace hol3 := Lib.hid hol3
  replace hk := Lib.hid hk
  replace hik := Lib.hid hik
  replace hks := Lib.hid hks
  replace h34 := Lib.hid h34
  replace h39 := Lib.hid h39
  replace hN := Lib.hid hN
  replace hm := Lib.hid hm
  replace hm2 := Lib.hid hm2
  replace h45 := Lib.hid h45
  replace hi32 := Lib.hid hi32
  go_upto_region 29 with (first
    | (go_at_call 70; refine hO.out.mono ?_; rintro e w2 ⟨rfl, hw2⟩; subst hw2)
    | (go_at_call 72; refine hN.out.mono ?_; rintro e w2 ⟨rfl, hw2⟩; subst hw2)
    | fail)
  go_step3
  rename_i K0 hK0
  refine hK0 _ _ (wp_q2 (l := 1) (by kernel_rfl) ?_)
  exact scal_wp fr60i hs hi.out hrow.out hol3.out t0.out hB hm2.out (by rw [hX2.out]; exact hret.out)
theorem begin_no4b {B : Nat} {s : ByteArray} {n i f : Nat} {out : List Tk} {O : Value} {a : Act} {w w0 : World} {X : Except Int (List Tk)} {Q : Exit → Act → World → Prop} {k : Nat}
    (hF : Fr60 (.string s) (.int .i64 n) O (.int .i64 i) a) (hs : s.size < 4294967281) (hi : i ≤ s.size) (hrow : tkRow w B O out) (hol : out.length ≤ i) (t0 : Tch No w0 w) (hB : B = w0.heap.size) {m : Int} (hm : w0.cell? ⟨0, 0, none⟩ = some (.int .i64 m))
    (hf : s.size - i < f) (hX : items s.data.toList n f i out = X) (hov : over s.data.toList i = false) (hlt : i < s.size) (h34 : ¬ s[i] = 34) (h39 : ¬ s[i] = 39) (h45 : s[i] = 45) (hi2 : i + 1 < s.size) (hi32 : ¬ s[i + 1] = 32) (hk : k = behind s.data.toList i)
    (hret : Retc B w0 X Q) (h0 : i < k) (h1 : k ≤ i + 64) (hend : k < s.size) (h58 : ¬ s[k] = 58) : (q60 0).wp Try.prog Q a w := by
  obtain ⟨fr, rfl⟩ := hF
  refine wp_q rfl ?_
  have hO := over_any s i w (by omega) hi
  rw [hov] at hO
  have hqa := quote_no hlt h34 h39
  have k0 := nn_lt2 hlt
  have kx34 : ((s[i].toNat : Int) == 34) = false := u8_neq h34 (n := 34) (by decide)
  have kx39 : ((s[i].toNat : Int) == 39) = false := u8_neq h39 (n := 39) (by decide)
  have hit := item_no2 hlt hi2 hi32; have kx45 : ((s[i].toNat : Nat) : Int) = 45 ∧ ((i : Int) + 1 == (s.size : Int)) = false ∧ (i : Int) + 1 < (s.size : Int) ∧ ((s[i + 1].toNat : Int) == 32) = false := ⟨by rw [h45]; rfl, by rw [beq_eq_false_iff_ne]; omega, by omega, u8_neq hi32 (n := 32) (by decide)⟩; clear kx34 kx39
  have hN := name_any s i w (by omega) hi
  rw [← hk] at hN
  have hik : i ≤ k := by rw [hk]; exact behind_ge _ _
  have hks : k ≤ s.size := by rw [hk]; have := behind_le s.data.toList (i := i) (by rw [len_data]; omega); rwa [len_data] at this
  have hco : ¬ (i < behind s.data.toList i ∧ behind s.data.toList i - i ≤ 64 ∧ colon s.data.toList (behind s.data.toList i) = true) := by rw [← hk]; rintro ⟨_, _, h⟩; unfold colon at h; rw [at_data s hend, decide_eq_false (fun e => h58 (Option.some.inj e)), Bool.false_and] at h; cases h
  have hX2 : scalar s.data.toList n i out = X := by rw [← hX, items_key (by omega) hov hit, keyed_no hqa hco]
  have k2 : (i : Int) < (k : Int) ∧ wrap64 ((k : Int) - (i : Int)) = (k : Int) - (i : Int) ∧ (k : Int) - (i : Int) ≤ 64 ∧ (k : Int) < (s.size : Int) ∧ ((s[k].toNat : Int) == 58) = false := ⟨by omega, nn_wsub hik hks hs, by omega, by omega, u8_neq h58 (n := 58) (by decide)⟩
  have hol3 : out.length < 2932031007400 := by omega
  have hm2 := t0.cell_some hm id
  replace hO := Lib.hid hO
  replace hX := Lib.hid hX
  replace hov := Lib.hid hov
  replace hrow := Lib.hid hrow
  replace hret := Lib.hid hret
  replace t0 := Lib.hid t0
  replace hol := Lib.hid hol
  replace hqa := Lib.hid hqa
  replace hit := Lib.hid hit
  replace hf := Lib.hid hf
  replace hi := Lib.hid hi
  replace hco := Lib.hid hco
  replace hX2 := Lib.hid hX2
  replace hol3 := Lib.hid hol3
  replace hk := Lib.hid hk
  replace hik := Lib.hid hik
  replace hks := Lib.hid hks
  replace h34 := Lib.hid h34
  replace h39 := Lib.hid h39
  replace hN := Lib.hid hN
  replace hm := Lib.hid hm
  replace hm2 := Lib.hid hm2
  replace h45 := Lib.hid h45
  replace hi32 := Lib.hid hi32
  go_upto_region 29 with (first
    | (go_at_call 70; refine hO.out.mono ?_; rintro e w2 ⟨rfl, hw2⟩; subst hw2)
    | (go_at_call 72; refine hN.out.mono ?_; rintro e w2 ⟨rfl, hw2⟩; subst hw2)
    | fail)
  go_step3
  rename_i K0 hK0
  refine hK0 _ _ (wp_q2 (l := 1) (by kernel_rfl) ?_)
  exact scal_wp fr60i hs hi.out hrow.out hol3.out t0.out hB hm2.out (by rw [hX2.out]; exact hret.out)
theorem begin_no5b {B : Nat} {s : ByteArray} {n i f : Nat} {out : List Tk} {O : Value} {a : Act} {w w0 : World} {X : Except Int (List Tk)} {Q : Exit → Act → World → Prop} {k : Nat}
    (hF : Fr60 (.string s) (.int .i64 n) O (.int .i64 i) a) (hs : s.size < 4294967281) (hi : i ≤ s.size) (hrow : tkRow w B O out) (hol : out.length ≤ i) (t0 : Tch No w0 w) (hB : B = w0.heap.size) {m : Int} (hm : w0.cell? ⟨0, 0, none⟩ = some (.int .i64 m))
    (hf : s.size - i < f) (hX : items s.data.toList n f i out = X) (hov : over s.data.toList i = false) (hlt : i < s.size) (h34 : ¬ s[i] = 34) (h39 : ¬ s[i] = 39) (h45 : s[i] = 45) (hi2 : i + 1 < s.size) (hi32 : ¬ s[i + 1] = 32) (hk : k = behind s.data.toList i)
    (hret : Retc B w0 X Q) (h0 : i < k) (h1 : k ≤ i + 64) (hend0 : k < s.size) (h58 : s[k] = 58) (hend : k + 1 < s.size) (h32 : ¬ s[k + 1] = 32) : (q60 0).wp Try.prog Q a w := by
  obtain ⟨fr, rfl⟩ := hF
  refine wp_q rfl ?_
  have hO := over_any s i w (by omega) hi
  rw [hov] at hO
  have hqa := quote_no hlt h34 h39
  have k0 := nn_lt2 hlt
  have kx34 : ((s[i].toNat : Int) == 34) = false := u8_neq h34 (n := 34) (by decide)
  have kx39 : ((s[i].toNat : Int) == 39) = false := u8_neq h39 (n := 39) (by decide)
  have hit := item_no2 hlt hi2 hi32; have kx45 : ((s[i].toNat : Nat) : Int) = 45 ∧ ((i : Int) + 1 == (s.size : Int)) = false ∧ (i : Int) + 1 < (s.size : Int) ∧ ((s[i + 1].toNat : Int) == 32) = false := ⟨by rw [h45]; rfl, by rw [beq_eq_false_iff_ne]; omega, by omega, u8_neq hi32 (n := 32) (by decide)⟩; clear kx34 kx39
  have hN := name_any s i w (by omega) hi
  rw [← hk] at hN
  have hik : i ≤ k := by rw [hk]; exact behind_ge _ _
  have hks : k ≤ s.size := by rw [hk]; have := behind_le s.data.toList (i := i) (by rw [len_data]; omega); rwa [len_data] at this
  have hco : ¬ (i < behind s.data.toList i ∧ behind s.data.toList i - i ≤ 64 ∧ colon s.data.toList (behind s.data.toList i) = true) := by rw [← hk]; rintro ⟨_, _, h⟩; unfold colon at h; rw [at_data s hend0, at_data s hend, decide_eq_false (show ¬ k + 1 = s.data.toList.length by rw [len_data]; omega), decide_eq_false (fun e => h32 (Option.some.inj e)), Bool.false_or, Bool.and_false] at h; cases h
  have hX2 : scalar s.data.toList n i out = X := by rw [← hX, items_key (by omega) hov hit, keyed_no hqa hco]
  have k2 : (i : Int) < (k : Int) ∧ wrap64 ((k : Int) - (i : Int)) = (k : Int) - (i : Int) ∧ (k : Int) - (i : Int) ≤ 64 ∧ (k : Int) < (s.size : Int) ∧ ((s[k].toNat : Nat) : Int) = 58 ∧ ((k : Int) + 1 == (s.size : Int)) = false ∧ (k : Int) + 1 < (s.size : Int) ∧ ((s[k + 1].toNat : Int) == 32) = false := ⟨by omega, nn_wsub hik hks hs, by omega, by omega, by rw [h58]; rfl, by rw [beq_eq_false_iff_ne]; omega, by omega, u8_neq h32 (n := 32) (by decide)⟩; replace h58 := Lib.hid h58
  have hol3 : out.length < 2932031007400 := by omega
  have hm2 := t0.cell_some hm id
  replace hO := Lib.hid hO
  replace hX := Lib.hid hX
  replace hov := Lib.hid hov
  replace hrow := Lib.hid hrow
  replace hret := Lib.hid hret
  replace t0 := Lib.hid t0
  replace hol := Lib.hid hol
  replace hqa := Lib.hid hqa
  replace hit := Lib.hid hit
  replace hf := Lib.hid hf
  replace hi := Lib.hid hi
  replace hco := Lib.hid hco
  replace hX2 := Lib.hid hX2
  replace hol3 := Lib.hid hol3
  replace hk := Lib.hid hk
  replace hik := Lib.hid hik
  replace hks := Lib.hid hks
  replace h34 := Lib.hid h34
  replace h39 := Lib.hid h39
  replace hN := Lib.hid hN
  replace hm := Lib.hid hm
  replace hm2 := Lib.hid hm2
  replace h45 := Lib.hid h45
  replace hi32 := Lib.hid hi32
  go_upto_region 29 with (first
    | (go_at_call 70; refine hO.out.mono ?_; rintro e w2 ⟨rfl, hw2⟩; subst hw2)
    | (go_at_call 72; refine hN.out.mono ?_; rintro e w2 ⟨rfl, hw2⟩; subst hw2)
    | fail)
  go_step3
  rename_i K0 hK0
  refine hK0 _ _ (wp_q2 (l := 1) (by kernel_rfl) ?_)
  exact scal_wp fr60i hs hi.out hrow.out hol3.out t0.out hB hm2.out (by rw [hX2.out]; exact hret.out)
theorem begin_yes1a {B : Nat} {s : ByteArray} {n i f : Nat} {out : List Tk} {O : Value} {a : Act} {w w0 : World} {X : Except Int (List Tk)} {Q : Exit → Act → World → Prop} {k : Nat}
    (hF : Fr60 (.string s) (.int .i64 n) O (.int .i64 i) a) (hs : s.size < 4294967281) (hi : i ≤ s.size) (hrow : tkRow w B O out) (hol : out.length ≤ i) (t0 : Tch No w0 w) (hB : B = w0.heap.size) {m : Int} (hm : w0.cell? ⟨0, 0, none⟩ = some (.int .i64 m))
    (hf : s.size - i < f) (hX : items s.data.toList n f i out = X) (hov : over s.data.toList i = false) (hlt : i < s.size) (h34 : ¬ s[i] = 34) (h39 : ¬ s[i] = 39) (h45 : ¬ s[i] = 45) (hk : k = behind s.data.toList i)
    (hret : Retc B w0 X Q) (h0 : i < k) (h1 : k ≤ i + 64) (hend0 : k < s.size) (h58 : s[k] = 58) (hend : k + 1 = s.size) : (q60 0).wp Try.prog Q a w := by
  obtain ⟨fr, rfl⟩ := hF
  refine wp_q rfl ?_
  have hO := over_any s i w (by omega) hi
  rw [hov] at hO
  have hqa := quote_no hlt h34 h39
  have k0 := nn_lt2 hlt
  have kx34 : ((s[i].toNat : Int) == 34) = false := u8_neq h34 (n := 34) (by decide)
  have kx39 : ((s[i].toNat : Int) == 39) = false := u8_neq h39 (n := 39) (by decide)
  have hit := item_no hlt h45; have kx45 : ((s[i].toNat : Int) == 45) = false := u8_neq h45 (n := 45) (by decide)
  have hN := name_any s i w (by omega) hi
  rw [← hk] at hN
  have hik : i ≤ k := by rw [hk]; exact behind_ge _ _
  have hks : k ≤ s.size := by rw [hk]; have := behind_le s.data.toList (i := i) (by rw [len_data]; omega); rwa [len_data] at this
  have hco : i < behind s.data.toList i ∧ behind s.data.toList i - i ≤ 64 ∧ colon s.data.toList (behind s.data.toList i) = true := by rw [← hk]; refine ⟨h0, by omega, ?_⟩; unfold colon; rw [at_data s hend0, h58]; rw [decide_eq_true (show k + 1 = s.data.toList.length by rw [len_data]; omega)]; rfl
  obtain ⟨j, hj⟩ : ∃ j, j = blanks s.data.toList (k + 1) := ⟨_, rfl⟩
  have hBl := fun wx => blanks_any s (k + 1) wx (by omega) (by omega)
  simp only [← hj] at hBl
  replace hBl : ∀ wx, Calls Try.prog 69 #[.string s, .int .i64 ((k : Int) + 1)] wx fun e w' => e = .returned (.int .i64 j) ∧ wx = w' := hBl
  have hjs : j ≤ s.size := by rw [hj]; have := blanks_le s.data.toList (i := k + 1) (by rw [len_data]; omega); rwa [len_data] at this
  obtain ⟨t, ht⟩ : ∃ t, t = (s.data.toList.drop i).take (k - i) := ⟨_, rfl⟩
  have hX2 : scalar s.data.toList n j (out ++ [⟨3, n, i, t, false⟩]) = X := by rw [← hX, items_key (by omega) hov hit, keyed_yes hqa hco, hj, ht, hk]
  have hext : tokOf ⟨3, n, i, t, false⟩ = ⟨3, n, i, s.extract i k, false⟩ := by
    unfold tokOf; congr 1
    apply ByteArray.ext; apply Array.toList_inj.1
    rw [pl_ext, ht]
  have k1 : (i : Int) < (k : Int) ∧ (i : Int) ≤ (k : Int) ∧ (k : Int) ≤ (s.size : Int) ∧ wrap64 ((k : Int) - (i : Int)) = (k : Int) - (i : Int) ∧ (k : Int) - (i : Int) ≤ 64 ∧ (k : Int) < (s.size : Int) ∧ ((s[k].toNat : Nat) : Int) = 58 := ⟨by omega, by omega, by omega, nn_wsub hik hks hs, by omega, by omega, by rw [h58]; rfl⟩
  have k2 : ((k : Int) + 1 == (s.size : Int)) = true := by rw [beq_iff_eq]; omega
  have hol2 : (out ++ [(⟨3, n, i, t, false⟩ : Tk)]).length < 2932031007400 := by rw [List.length_append]; simp only [List.length_singleton]; omega
  have hol3 : out.length < 2932031007400 := by omega
  have hw0 : ∀ k, O.ownBlock = some k → w0.heap.size ≤ k := fun k hk => hB ▸ (ownsRow_ge hrow hk).1
  have hBw := Lib.hid (show B ≤ w.heap.size by rw [hB]; exact t0.size)
  obtain ⟨oo, oc, rfl⟩ := ownsRow_shape hrow
  obtain ⟨i0, hif, hz0, hz1, hz2⟩ := info_parts info39
  replace hrow := Lib.hid (show w.ownsRow B 39 5 (.slice oo out.length oc) out.length (tcs (out.map tokOf)) from hrow)
  replace hif := Lib.hid hif
  replace hz0 := Lib.hid hz0
  replace hz1 := Lib.hid hz1
  replace hz2 := Lib.hid hz2
  replace hO := Lib.hid hO
  replace hX := Lib.hid hX
  replace hov := Lib.hid hov
  replace hret := Lib.hid hret
  replace t0 := Lib.hid t0
  replace hol := Lib.hid hol
  replace hqa := Lib.hid hqa
  replace hit := Lib.hid hit
  replace hf := Lib.hid hf
  replace hi := Lib.hid hi
  replace hco := Lib.hid hco
  replace hX2 := Lib.hid hX2
  replace hol2 := Lib.hid hol2
  replace hol3 := Lib.hid hol3
  replace hw0 := Lib.hid hw0
  replace hj := Lib.hid hj
  replace hBl := Lib.hid hBl
  replace hjs := Lib.hid hjs
  replace h58 := Lib.hid h58
  replace hk := Lib.hid hk
  replace hik := Lib.hid hik
  replace hks := Lib.hid hks
  replace h34 := Lib.hid h34
  replace h39 := Lib.hid h39
  replace hN := Lib.hid hN
  replace hm := Lib.hid hm
  replace hext := Lib.hid hext
  replace ht := Lib.hid ht
  replace h45 := Lib.hid h45
  go_upto_region 29 with (first
    | (go_at_call 70; refine hO.out.mono ?_; rintro e w2 ⟨rfl, hw2⟩; subst hw2)
    | (go_at_call 72; refine hN.out.mono ?_; rintro e w2 ⟨rfl, hw2⟩; subst hw2)
    | (go_at_call 69; refine (hBl.out _).mono ?_; rintro e w3 ⟨rfl, hw3⟩; subst hw3)
    | (at_builtin; refine wp_append_us rfl _ _ 23 (by rfl) B 39 i0 (.agg #[.int .i64 0, .int .i64 0, .int .i64 0, .string ⟨#[]⟩, .bool false]) 5 48 Try.underlying23 hif.out hz0.out hz1.out hz2.out rfl (by decide) _ out.length _ (by rfl) hrow.out 1 (by rfl) rfl (by simp [Value.oneCell']) (nn_own (Nat.le_refl _) hol3.out).1 (nn_own (Nat.le_refl _) hol3.out).2 hBw.out ?_; intro v7 w7 hr7 hg7 hl7; obtain ⟨po, pc, rfl⟩ := ownsRow_shape hr7; replace hr7 := Lib.hid hr7; replace hg7 := Lib.hid hg7; replace hl7 := Lib.hid hl7)
    | fail)
  have t7 := (t0.out.trans (Tch.grown (S := fun k => (Value.slice oo out.length oc).ownBlock = some k) hg7.out (fun k hk => .inl hk)) (fun k hk => .inr (hw0.out k hk)))
  go_step3
  rename_i K0 hK0
  refine hK0 _ _ (wp_q2 (l := 1) (by kernel_rfl) ?_)
  exact scal_wp fr60i hs hjs.out (tkRow_snoc hext.out hr7.out) hol2.out t7 hB (t7.cell_some hm.out id) (by rw [hX2.out]; exact hret.out)
theorem begin_yes2a {B : Nat} {s : ByteArray} {n i f : Nat} {out : List Tk} {O : Value} {a : Act} {w w0 : World} {X : Except Int (List Tk)} {Q : Exit → Act → World → Prop} {k : Nat}
    (hF : Fr60 (.string s) (.int .i64 n) O (.int .i64 i) a) (hs : s.size < 4294967281) (hi : i ≤ s.size) (hrow : tkRow w B O out) (hol : out.length ≤ i) (t0 : Tch No w0 w) (hB : B = w0.heap.size) {m : Int} (hm : w0.cell? ⟨0, 0, none⟩ = some (.int .i64 m))
    (hf : s.size - i < f) (hX : items s.data.toList n f i out = X) (hov : over s.data.toList i = false) (hlt : i < s.size) (h34 : ¬ s[i] = 34) (h39 : ¬ s[i] = 39) (h45 : ¬ s[i] = 45) (hk : k = behind s.data.toList i)
    (hret : Retc B w0 X Q) (h0 : i < k) (h1 : k ≤ i + 64) (hend0 : k < s.size) (h58 : s[k] = 58) (hend : k + 1 < s.size) (h32 : s[k + 1] = 32) : (q60 0).wp Try.prog Q a w := by
  obtain ⟨fr, rfl⟩ := hF
  refine wp_q rfl ?_
  have hO := over_any s i w (by omega) hi
  rw [hov] at hO
  have hqa := quote_no hlt h34 h39
  have k0 := nn_lt2 hlt
  have kx34 : ((s[i].toNat : Int) == 34) = false := u8_neq h34 (n := 34) (by decide)
  have kx39 : ((s[i].toNat : Int) == 39) = false := u8_neq h39 (n := 39) (by decide)
  have hit := item_no hlt h45; have kx45 : ((s[i].toNat : Int) == 45) = false := u8_neq h45 (n := 45) (by decide)
  have hN := name_any s i w (by omega) hi
  rw [← hk] at hN
  have hik : i ≤ k := by rw [hk]; exact behind_ge _ _
  have hks : k ≤ s.size := by rw [hk]; have := behind_le s.data.toList (i := i) (by rw [len_data]; omega); rwa [len_data] at this
  have hco : i < behind s.data.toList i ∧ behind s.data.toList i - i ≤ 64 ∧ colon s.data.toList (behind s.data.toList i) = true := by rw [← hk]; refine ⟨h0, by omega, ?_⟩; unfold colon; rw [at_data s hend0, h58]; rw [at_data s hend, h32]; simp
  obtain ⟨j, hj⟩ : ∃ j, j = blanks s.data.toList (k + 1) := ⟨_, rfl⟩
  have hBl := fun wx => blanks_any s (k + 1) wx (by omega) (by omega)
  simp only [← hj] at hBl
  replace hBl : ∀ wx, Calls Try.prog 69 #[.string s, .int .i64 ((k : Int) + 1)] wx fun e w' => e = .returned (.int .i64 j) ∧ wx = w' := hBl
  have hjs : j ≤ s.size := by rw [hj]; have := blanks_le s.data.toList (i := k + 1) (by rw [len_data]; omega); rwa [len_data] at this
  obtain ⟨t, ht⟩ : ∃ t, t = (s.data.toList.drop i).take (k - i) := ⟨_, rfl⟩
  have hX2 : scalar s.data.toList n j (out ++ [⟨3, n, i, t, false⟩]) = X := by rw [← hX, items_key (by omega) hov hit, keyed_yes hqa hco, hj, ht, hk]
  have hext : tokOf ⟨3, n, i, t, false⟩ = ⟨3, n, i, s.extract i k, false⟩ := by
    unfold tokOf; congr 1
    apply ByteArray.ext; apply Array.toList_inj.1
    rw [pl_ext, ht]
  have k1 : (i : Int) < (k : Int) ∧ (i : Int) ≤ (k : Int) ∧ (k : Int) ≤ (s.size : Int) ∧ wrap64 ((k : Int) - (i : Int)) = (k : Int) - (i : Int) ∧ (k : Int) - (i : Int) ≤ 64 ∧ (k : Int) < (s.size : Int) ∧ ((s[k].toNat : Nat) : Int) = 58 := ⟨by omega, by omega, by omega, nn_wsub hik hks hs, by omega, by omega, by rw [h58]; rfl⟩
  have k2 : ((k : Int) + 1 == (s.size : Int)) = false ∧ (k : Int) + 1 < (s.size : Int) ∧ ((s[k + 1].toNat : Nat) : Int) = 32 := ⟨by rw [beq_eq_false_iff_ne]; omega, by omega, by rw [h32]; rfl⟩
  have hol2 : (out ++ [(⟨3, n, i, t, false⟩ : Tk)]).length < 2932031007400 := by rw [List.length_append]; simp only [List.length_singleton]; omega
  have hol3 : out.length < 2932031007400 := by omega
  have hw0 : ∀ k, O.ownBlock = some k → w0.heap.size ≤ k := fun k hk => hB ▸ (ownsRow_ge hrow hk).1
  have hBw := Lib.hid (show B ≤ w.heap.size by rw [hB]; exact t0.size)
  obtain ⟨oo, oc, rfl⟩ := ownsRow_shape hrow
  obtain ⟨i0, hif, hz0, hz1, hz2⟩ := info_parts info39
  replace hrow := Lib.hid (show w.ownsRow B 39 5 (.slice oo out.length oc) out.length (tcs (out.map tokOf)) from hrow)
  replace hif := Lib.hid hif
  replace hz0 := Lib.hid hz0
  replace hz1 := Lib.hid hz1
  replace hz2 := Lib.hid hz2
  replace hO := Lib.hid hO
  replace hX := Lib.hid hX
  replace hov := Lib.hid hov
  replace hret := Lib.hid hret
  replace t0 := Lib.hid t0
  replace hol := Lib.hid hol
  replace hqa := Lib.hid hqa
  replace hit := Lib.hid hit
  replace hf := Lib.hid hf
  replace hi := Lib.hid hi
  replace hco := Lib.hid hco
  replace hX2 := Lib.hid hX2
  replace hol2 := Lib.hid hol2
  replace hol3 := Lib.hid hol3
  replace hw0 := Lib.hid hw0
  replace hj := Lib.hid hj
  replace hBl := Lib.hid hBl
  replace hjs := Lib.hid hjs
  replace h58 := Lib.hid h58
  replace hk := Lib.hid hk
  replace hik := Lib.hid hik
  replace hks := Lib.hid hks
  replace h34 := Lib.hid h34
  replace h39 := Lib.hid h39
  replace hN := Lib.hid hN
  replace hm := Lib.hid hm
  replace hext := Lib.hid hext
  replace ht := Lib.hid ht
  replace h45 := Lib.hid h45
  go_upto_region 29 with (first
    | (go_at_call 70; refine hO.out.mono ?_; rintro e w2 ⟨rfl, hw2⟩; subst hw2)
    | (go_at_call 72; refine hN.out.mono ?_; rintro e w2 ⟨rfl, hw2⟩; subst hw2)
    | (go_at_call 69; refine (hBl.out _).mono ?_; rintro e w3 ⟨rfl, hw3⟩; subst hw3)
    | (at_builtin; refine wp_append_us rfl _ _ 23 (by rfl) B 39 i0 (.agg #[.int .i64 0, .int .i64 0, .int .i64 0, .string ⟨#[]⟩, .bool false]) 5 48 Try.underlying23 hif.out hz0.out hz1.out hz2.out rfl (by decide) _ out.length _ (by rfl) hrow.out 1 (by rfl) rfl (by simp [Value.oneCell']) (nn_own (Nat.le_refl _) hol3.out).1 (nn_own (Nat.le_refl _) hol3.out).2 hBw.out ?_; intro v7 w7 hr7 hg7 hl7; obtain ⟨po, pc, rfl⟩ := ownsRow_shape hr7; replace hr7 := Lib.hid hr7; replace hg7 := Lib.hid hg7; replace hl7 := Lib.hid hl7)
    | fail)
  have t7 := (t0.out.trans (Tch.grown (S := fun k => (Value.slice oo out.length oc).ownBlock = some k) hg7.out (fun k hk => .inl hk)) (fun k hk => .inr (hw0.out k hk)))
  go_step3
  rename_i K0 hK0
  refine hK0 _ _ (wp_q2 (l := 1) (by kernel_rfl) ?_)
  exact scal_wp fr60i hs hjs.out (tkRow_snoc hext.out hr7.out) hol2.out t7 hB (t7.cell_some hm.out id) (by rw [hX2.out]; exact hret.out)
theorem begin_yes1b {B : Nat} {s : ByteArray} {n i f : Nat} {out : List Tk} {O : Value} {a : Act} {w w0 : World} {X : Except Int (List Tk)} {Q : Exit → Act → World → Prop} {k : Nat}
    (hF : Fr60 (.string s) (.int .i64 n) O (.int .i64 i) a) (hs : s.size < 4294967281) (hi : i ≤ s.size) (hrow : tkRow w B O out) (hol : out.length ≤ i) (t0 : Tch No w0 w) (hB : B = w0.heap.size) {m : Int} (hm : w0.cell? ⟨0, 0, none⟩ = some (.int .i64 m))
    (hf : s.size - i < f) (hX : items s.data.toList n f i out = X) (hov : over s.data.toList i = false) (hlt : i < s.size) (h34 : ¬ s[i] = 34) (h39 : ¬ s[i] = 39) (h45 : s[i] = 45) (hi2 : i + 1 < s.size) (hi32 : ¬ s[i + 1] = 32) (hk : k = behind s.data.toList i)
    (hret : Retc B w0 X Q) (h0 : i < k) (h1 : k ≤ i + 64) (hend0 : k < s.size) (h58 : s[k] = 58) (hend : k + 1 = s.size) : (q60 0).wp Try.prog Q a w := by
  obtain ⟨fr, rfl⟩ := hF
  refine wp_q rfl ?_
  have hO := over_any s i w (by omega) hi
  rw [hov] at hO
  have hqa := quote_no hlt h34 h39
  have k0 := nn_lt2 hlt
  have kx34 : ((s[i].toNat : Int) == 34) = false := u8_neq h34 (n := 34) (by decide)
  have kx39 : ((s[i].toNat : Int) == 39) = false := u8_neq h39 (n := 39) (by decide)
  have hit := item_no2 hlt hi2 hi32; have kx45 : ((s[i].toNat : Nat) : Int) = 45 ∧ ((i : Int) + 1 == (s.size : Int)) = false ∧ (i : Int) + 1 < (s.size : Int) ∧ ((s[i + 1].toNat : Int) == 32) = false := ⟨by rw [h45]; rfl, by rw [beq_eq_false_iff_ne]; omega, by omega, u8_neq hi32 (n := 32) (by decide)⟩; clear kx34 kx39
  have hN := name_any s i w (by omega) hi
  rw [← hk] at hN
  have hik : i ≤ k := by rw [hk]; exact behind_ge _ _
  have hks : k ≤ s.size := by rw [hk]; have := behind_le s.data.toList (i := i) (by rw [len_data]; omega); rwa [len_data] at this
  have hco : i < behind s.data.toList i ∧ behind s.data.toList i - i ≤ 64 ∧ colon s.data.toList (behind s.data.toList i) = true := by rw [← hk]; refine ⟨h0, by omega, ?_⟩; unfold colon; rw [at_data s hend0, h58]; rw [decide_eq_true (show k + 1 = s.data.toList.length by rw [len_data]; omega)]; rfl
  obtain ⟨j, hj⟩ : ∃ j, j = blanks s.data.toList (k + 1) := ⟨_, rfl⟩
  have hBl := fun wx => blanks_any s (k + 1) wx (by omega) (by omega)
  simp only [← hj] at hBl
  replace hBl : ∀ wx, Calls Try.prog 69 #[.string s, .int .i64 ((k : Int) + 1)] wx fun e w' => e = .returned (.int .i64 j) ∧ wx = w' := hBl
  have hjs : j ≤ s.size := by rw [hj]; have := blanks_le s.data.toList (i := k + 1) (by rw [len_data]; omega); rwa [len_data] at this
  obtain ⟨t, ht⟩ : ∃ t, t = (s.data.toList.drop i).take (k - i) := ⟨_, rfl⟩
  have hX2 : scalar s.data.toList n j (out ++ [⟨3, n, i, t, false⟩]) = X := by rw [← hX, items_key (by omega) hov hit, keyed_yes hqa hco, hj, ht, hk]
  have hext : tokOf ⟨3, n, i, t, false⟩ = ⟨3, n, i, s.extract i k, false⟩ := by
    unfold tokOf; congr 1
    apply ByteArray.ext; apply Array.toList_inj.1
    rw [pl_ext, ht]
  have k1 : (i : Int) < (k : Int) ∧ (i : Int) ≤ (k : Int) ∧ (k : Int) ≤ (s.size : Int) ∧ wrap64 ((k : Int) - (i : Int)) = (k : Int) - (i : Int) ∧ (k : Int) - (i : Int) ≤ 64 ∧ (k : Int) < (s.size : Int) ∧ ((s[k].toNat : Nat) : Int) = 58 := ⟨by omega, by omega, by omega, nn_wsub hik hks hs, by omega, by omega, by rw [h58]; rfl⟩
  have k2 : ((k : Int) + 1 == (s.size : Int)) = true := by rw [beq_iff_eq]; omega
  have hol2 : (out ++ [(⟨3, n, i, t, false⟩ : Tk)]).length < 2932031007400 := by rw [List.length_append]; simp only [List.length_singleton]; omega
  have hol3 : out.length < 2932031007400 := by omega
  have hw0 : ∀ k, O.ownBlock = some k → w0.heap.size ≤ k := fun k hk => hB ▸ (ownsRow_ge hrow hk).1
  have hBw := Lib.hid (show B ≤ w.heap.size by rw [hB]; exact t0.size)
  obtain ⟨oo, oc, rfl⟩ := ownsRow_shape hrow
  obtain ⟨i0, hif, hz0, hz1, hz2⟩ := info_parts info39
  replace hrow := Lib.hid (show w.ownsRow B 39 5 (.slice oo out.length oc) out.length (tcs (out.map tokOf)) from hrow)
  replace hif := Lib.hid hif
  replace hz0 := Lib.hid hz0
  replace hz1 := Lib.hid hz1
  replace hz2 := Lib.hid hz2
  replace hO := Lib.hid hO
  replace hX := Lib.hid hX
  replace hov := Lib.hid hov
  replace hret := Lib.hid hret
  replace t0 := Lib.hid t0
  replace hol := Lib.hid hol
  replace hqa := Lib.hid hqa
  replace hit := Lib.hid hit
  replace hf := Lib.hid hf
  replace hi := Lib.hid hi
  replace hco := Lib.hid hco
  replace hX2 := Lib.hid hX2
  replace hol2 := Lib.hid hol2
  replace hol3 := Lib.hid hol3
  replace hw0 := Lib.hid hw0
  replace hj := Lib.hid hj
  replace hBl := Lib.hid hBl
  replace hjs := Lib.hid hjs
  replace h58 := Lib.hid h58
  replace hk := Lib.hid hk
  replace hik := Lib.hid hik
  replace hks := Lib.hid hks
  replace h34 := Lib.hid h34
  replace h39 := Lib.hid h39
  replace hN := Lib.hid hN
  replace hm := Lib.hid hm
  replace hext := Lib.hid hext
  replace ht := Lib.hid ht
  replace h45 := Lib.hid h45
  replace hi32 := Lib.hid hi32
  go_upto_region 29 with (first
    | (go_at_call 70; refine hO.out.mono ?_; rintro e w2 ⟨rfl, hw2⟩; subst hw2)
    | (go_at_call 72; refine hN.out.mono ?_; rintro e w2 ⟨rfl, hw2⟩; subst hw2)
    | (go_at_call 69; refine (hBl.out _).mono ?_; rintro e w3 ⟨rfl, hw3⟩; subst hw3)
    | (at_builtin; refine wp_append_us rfl _ _ 23 (by rfl) B 39 i0 (.agg #[.int .i64 0, .int .i64 0, .int .i64 0, .string ⟨#[]⟩, .bool false]) 5 48 Try.underlying23 hif.out hz0.out hz1.out hz2.out rfl (by decide) _ out.length _ (by rfl) hrow.out 1 (by rfl) rfl (by simp [Value.oneCell']) (nn_own (Nat.le_refl _) hol3.out).1 (nn_own (Nat.le_refl _) hol3.out).2 hBw.out ?_; intro v7 w7 hr7 hg7 hl7; obtain ⟨po, pc, rfl⟩ := ownsRow_shape hr7; replace hr7 := Lib.hid hr7; replace hg7 := Lib.hid hg7; replace hl7 := Lib.hid hl7)
    | fail)
  have t7 := (t0.out.trans (Tch.grown (S := fun k => (Value.slice oo out.length oc).ownBlock = some k) hg7.out (fun k hk => .inl hk)) (fun k hk => .inr (hw0.out k hk)))
  go_step3
  rename_i K0 hK0
  refine hK0 _ _ (wp_q2 (l := 1) (by kernel_rfl) ?_)
  exact scal_wp fr60i hs hjs.out (tkRow_snoc hext.out hr7.out) hol2.out t7 hB (t7.cell_some hm.out id) (by rw [hX2.out]; exact hret.out)
theorem begin_yes2b {B : Nat} {s : ByteArray} {n i f : Nat} {out : List Tk} {O : Value} {a : Act} {w w0 : World} {X : Except Int (List Tk)} {Q : Exit → Act → World → Prop} {k : Nat}
    (hF : Fr60 (.string s) (.int .i64 n) O (.int .i64 i) a) (hs : s.size < 4294967281) (hi : i ≤ s.size) (hrow : tkRow w B O out) (hol : out.length ≤ i) (t0 : Tch No w0 w) (hB : B = w0.heap.size) {m : Int} (hm : w0.cell? ⟨0, 0, none⟩ = some (.int .i64 m))
    (hf : s.size - i < f) (hX : items s.data.toList n f i out = X) (hov : over s.data.toList i = false) (hlt : i < s.size) (h34 : ¬ s[i] = 34) (h39 : ¬ s[i] = 39) (h45 : s[i] = 45) (hi2 : i + 1 < s.size) (hi32 : ¬ s[i + 1] = 32) (hk : k = behind s.data.toList i)
    (hret : Retc B w0 X Q) (h0 : i < k) (h1 : k ≤ i + 64) (hend0 : k < s.size) (h58 : s[k] = 58) (hend : k + 1 < s.size) (h32 : s[k + 1] = 32) : (q60 0).wp Try.prog Q a w := by
  obtain ⟨fr, rfl⟩ := hF
  refine wp_q rfl ?_
  have hO := over_any s i w (by omega) hi
  rw [hov] at hO
  have hqa := quote_no hlt h34 h39
  have k0 := nn_lt2 hlt
  have kx34 : ((s[i].toNat : Int) == 34) = false := u8_neq h34 (n := 34) (by decide)
  have kx39 : ((s[i].toNat : Int) == 39) = false := u8_neq h39 (n := 39) (by decide)
  have hit := item_no2 hlt hi2 hi32; have kx45 : ((s[i].toNat : Nat) : Int) = 45 ∧ ((i : Int) + 1 == (s.size : Int)) = false ∧ (i : Int) + 1 < (s.size : Int) ∧ ((s[i + 1].toNat : Int) == 32) = false := ⟨by rw [h45]; rfl, by rw [beq_eq_false_iff_ne]; omega, by omega, u8_neq hi32 (n := 32) (by decide)⟩; clear kx34 kx39
  have hN := name_any s i w (by omega) hi
  rw [← hk] at hN
  have hik : i ≤ k := by rw [hk]; exact behind_ge _ _
  have hks : k ≤ s.size := by rw [hk]; have := behind_le s.data.toList (i := i) (by rw [len_data]; omega); rwa [len_data] at this
  have hco : i < behind s.data.toList i ∧ behind s.data.toList i - i ≤ 64 ∧ colon s.data.toList (behind s.data.toList i) = true := by rw [← hk]; refine ⟨h0, by omega, ?_⟩; unfold colon; rw [at_data s hend0, h58]; rw [at_data s hend, h32]; simp
  obtain ⟨j, hj⟩ : ∃ j, j = blanks s.data.toList (k + 1) := ⟨_, rfl⟩
  have hBl := fun wx => blanks_any s (k + 1) wx (by omega) (by omega)
  simp only [← hj] at hBl
  replace hBl : ∀ wx, Calls Try.prog 69 #[.string s, .int .i64 ((k : Int) + 1)] wx fun e w' => e = .returned (.int .i64 j) ∧ wx = w' := hBl
  have hjs : j ≤ s.size := by rw [hj]; have := blanks_le s.data.toList (i := k + 1) (by rw [len_data]; omega); rwa [len_data] at this
  obtain ⟨t, ht⟩ : ∃ t, t = (s.data.toList.drop i).take (k - i) := ⟨_, rfl⟩
  have hX2 : scalar s.data.toList n j (out ++ [⟨3, n, i, t, false⟩]) = X := by rw [← hX, items_key (by omega) hov hit, keyed_yes hqa hco, hj, ht, hk]
  have hext : tokOf ⟨3, n, i, t, false⟩ = ⟨3, n, i, s.extract i k, false⟩ := by
    unfold tokOf; congr 1
    apply ByteArray.ext; apply Array.toList_inj.1
    rw [pl_ext, ht]
  have k1 : (i : Int) < (k : Int) ∧ (i : Int) ≤ (k : Int) ∧ (k : Int) ≤ (s.size : Int) ∧ wrap64 ((k : Int) - (i : Int)) = (k : Int) - (i : Int) ∧ (k : Int) - (i : Int) ≤ 64 ∧ (k : Int) < (s.size : Int) ∧ ((s[k].toNat : Nat) : Int) = 58 := ⟨by omega, by omega, by omega, nn_wsub hik hks hs, by omega, by omega, by rw [h58]; rfl⟩
  have k2 : ((k : Int) + 1 == (s.size : Int)) = false ∧ (k : Int) + 1 < (s.size : Int) ∧ ((s[k + 1].toNat : Nat) : Int) = 32 := ⟨by rw [beq_eq_false_iff_ne]; omega, by omega, by rw [h32]; rfl⟩
  have hol2 : (out ++ [(⟨3, n, i, t, false⟩ : Tk)]).length < 2932031007400 := by rw [List.length_append]; simp only [List.length_singleton]; omega
  have hol3 : out.length < 2932031007400 := by omega
  have hw0 : ∀ k, O.ownBlock = some k → w0.heap.size ≤ k := fun k hk => hB ▸ (ownsRow_ge hrow hk).1
  have hBw := Lib.hid (show B ≤ w.heap.size by rw [hB]; exact t0.size)
  obtain ⟨oo, oc, rfl⟩ := ownsRow_shape hrow
  obtain ⟨i0, hif, hz0, hz1, hz2⟩ := info_parts info39
  replace hrow := Lib.hid (show w.ownsRow B 39 5 (.slice oo out.length oc) out.length (tcs (out.map tokOf)) from hrow)
  replace hif := Lib.hid hif
  replace hz0 := Lib.hid hz0
  replace hz1 := Lib.hid hz1
  replace hz2 := Lib.hid hz2
  replace hO := Lib.hid hO
  replace hX := Lib.hid hX
  replace hov := Lib.hid hov
  replace hret := Lib.hid hret
  replace t0 := Lib.hid t0
  replace hol := Lib.hid hol
  replace hqa := Lib.hid hqa
  replace hit := Lib.hid hit
  replace hf := Lib.hid hf
  replace hi := Lib.hid hi
  replace hco := Lib.hid hco
  replace hX2 := Lib.hid hX2
  replace hol2 := Lib.hid hol2
  replace hol3 := Lib.hid hol3
  replace hw0 := Lib.hid hw0
  replace hj := Lib.hid hj
  replace hBl := Lib.hid hBl
  replace hjs := Lib.hid hjs
  replace h58 := Lib.hid h58
  replace hk := Lib.hid hk
  replace hik := Lib.hid hik
  replace hks := Lib.hid hks
  replace h34 := Lib.hid h34
  replace h39 := Lib.hid h39
  replace hN := Lib.hid hN
  replace hm := Lib.hid hm
  replace hext := Lib.hid hext
  replace ht := Lib.hid ht
  replace h45 := Lib.hid h45
  replace hi32 := Lib.hid hi32
  go_upto_region 29 with (first
    | (go_at_call 70; refine hO.out.mono ?_; rintro e w2 ⟨rfl, hw2⟩; subst hw2)
    | (go_at_call 72; refine hN.out.mono ?_; rintro e w2 ⟨rfl, hw2⟩; subst hw2)
    | (go_at_call 69; refine (hBl.out _).mono ?_; rintro e w3 ⟨rfl, hw3⟩; subst hw3)
    | (at_builtin; refine wp_append_us rfl _ _ 23 (by rfl) B 39 i0 (.agg #[.int .i64 0, .int .i64 0, .int .i64 0, .string ⟨#[]⟩, .bool false]) 5 48 Try.underlying23 hif.out hz0.out hz1.out hz2.out rfl (by decide) _ out.length _ (by rfl) hrow.out 1 (by rfl) rfl (by simp [Value.oneCell']) (nn_own (Nat.le_refl _) hol3.out).1 (nn_own (Nat.le_refl _) hol3.out).2 hBw.out ?_; intro v7 w7 hr7 hg7 hl7; obtain ⟨po, pc, rfl⟩ := ownsRow_shape hr7; replace hr7 := Lib.hid hr7; replace hg7 := Lib.hid hg7; replace hl7 := Lib.hid hl7)
    | fail)
  have t7 := (t0.out.trans (Tch.grown (S := fun k => (Value.slice oo out.length oc).ownBlock = some k) hg7.out (fun k hk => .inl hk)) (fun k hk => .inr (hw0.out k hk)))
  go_step3
  rename_i K0 hK0
  refine hK0 _ _ (wp_q2 (l := 1) (by kernel_rfl) ?_)
  exact scal_wp fr60i hs hjs.out (tkRow_snoc hext.out hr7.out) hol2.out t7 hB (t7.cell_some hm.out id) (by rw [hX2.out]; exact hret.out)
end Go.Proofs.Ytcnjmkjfgghgoaa
end
