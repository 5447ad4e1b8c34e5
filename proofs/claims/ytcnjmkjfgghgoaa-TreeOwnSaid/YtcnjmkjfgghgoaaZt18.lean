/- Behind label 1 of line: a scalar. -/
import Derived.Test.YtcnjmkjfgghgoaaZt17
section

namespace Go.Proofs.Ytcnjmkjfgghgoaa
open Go.RowKit Go.Ln Go.Mp Go.Tr
set_option linter.unusedVariables false
set_option maxRecDepth 100000
set_option maxHeartbeats 4000000
def tokOf (t : Tk) : Tok := ⟨t.kind, t.line, t.col, ⟨t.text.toArray⟩, t.quoted⟩
def tkRow (w : World) (B : Nat) (O : Value) (ts : List Tk) : Prop := w.ownsRow B 39 5 O ts.length (tcs (ts.map tokOf))
def LOutc (B : Nat) (w : World) (O E : Value) : Except Int (List Tk) → Prop
  | .error k => O = .slice none 0 0 ∧ E = .int .i64 k
  | .ok ts => tkRow w B O ts ∧ E = .int .i64 0
def Retc (B : Nat) (w0 : World) (x : Except Int (List Tk)) (Q : Exit → Act → World → Prop) : Prop :=
  ∀ a' w', a'.defers = [] → LOutc B w' (a'.tmps.getD 4 undef) (a'.tmps.getD 5 undef) x → Tch No w0 w' → Q .ret a' w'
theorem over_lt {s : ByteArray} {i : Nat} (hi : i ≤ s.size) (h : over s.data.toList i = false) : i < s.size := by
  refine Nat.lt_of_le_of_ne hi (fun e => ?_)
  unfold over at h
  rw [decide_eq_true (show i = s.data.toList.length from by rw [len_data]; exact e), Bool.true_or] at h
  cases h
theorem quote_no {s : ByteArray} {i : Nat} (hi : i < s.size) (h1 : ¬ s[i] = 34) (h2 : ¬ s[i] = 39) : quoteAt s.data.toList i = false := by
  unfold quoteAt
  rw [at_data s hi, decide_eq_false (fun h => h1 (Option.some.inj h)), decide_eq_false (fun h => h2 (Option.some.inj h))]; rfl
theorem rtrim_pre (l : List UInt8) : rtrim l <+: l := by
  unfold rtrim
  have h := List.reverse_prefix.2 (List.dropWhile_suffix (fun c => decide (c = (32 : UInt8))) (l := l.reverse))
  rwa [List.reverse_reverse] at h
theorem plain_pre {l t : List UInt8} (h : plain l = some t) : t = l.take t.length := by
  refine List.prefix_iff_eq_take.1 ?_
  cases l with
  | nil => cases h
  | cons c r =>
    by_cases h1 : 0 ≤ Lib.indexByte bads c
    · rw [plain_bad1 h1] at h; cases h
    · by_cases h2 : c = 45 ∧ (r = [] ∨ r[0]? = some 32)
      · rw [plain_bad2 h2.1 h2.2] at h; cases h
      · rw [plain_go h1 h2] at h
        have e : t = rtrim (plainCut (c :: r)) := by
          unfold plainFin at h
          split at h
          · cases h
          · exact (Option.some.inj h).symm
        rw [e]
        refine (rtrim_pre _).trans ?_
        unfold plainCut
        split
        · exact List.take_prefix _ _
        · exact List.prefix_refl _
theorem tkRow_snoc {w : World} {B : Nat} {O : Value} {out : List Tk} {t : Tk} {u : Tok} (he : tokOf t = u) (h : w.ownsRow B 39 5 O (out.length + 1) (tcs (out.map tokOf) ++ tc u)) : tkRow w B O (out ++ [t]) := by
  unfold tkRow; rw [List.length_append, List.map_append, List.map_singleton, tcs_snoc, he]; exact h
theorem quote_yes {s : ByteArray} {i : Nat} (hi : i < s.size) (h : s[i] = 34 ∨ s[i] = 39) : quoteAt s.data.toList i = true := by
  unfold quoteAt
  rw [at_data s hi]
  rcases h with h | h <;> rw [h] <;> rfl
theorem hex_ib (c : UInt8) (w : World) : Calls Try.prog 82 #[.string ⟨hexes.toArray⟩, .int .u8 c.toNat] w fun e w' => e = .returned (.int .i64 (hexI c)) ∧ w' = w := by
  have h := Try.strings_IndexByte ⟨hexes.toArray⟩ (c.toNat : Int) w
  rw [show ((c.toNat : Int).toNat.toUInt8) = c from UInt8.toNat_inj.1 (by simp)] at h
  exact h
noncomputable def q60 (l : Nat) : Code := match findLabel c60 l with
  | some (.seq _ c) => c
  | _ => .skip
theorem wp_q {l : Nat} {R : Code} {Q : Exit → Act → World → Prop} {a : Act} {w : World} (h : findLabel c60 l = some (.seq .skip R)) (hw : R.wp Try.prog Q a w) : (q60 l).wp Try.prog Q a w := by
  unfold q60; rw [h]; exact hw
theorem wp_q2 {l : Nat} {R : Code} {Q : Exit → Act → World → Prop} {a : Act} {w : World} (h : findLabel c60 l = some (.seq .skip R)) (hw : (q60 l).wp Try.prog Q a w) : R.wp Try.prog Q a w := by
  unfold q60 at hw; rw [h] at hw; exact hw
theorem wp_q3 {l : Nat} {R : Code} {Q : Exit → Act → World → Prop} {a : Act} {w : World} (h : findLabel c60 l = some (.seq .skip R)) (hw : (q60 l).wp Try.prog Q a w) : (r60 l).wp Try.prog Q a w := by
  unfold r60; rw [h]; exact wp_seq (wp_skip (wp_q2 h hw))
theorem scal_wp {B : Nat} {s : ByteArray} {n i : Nat} {out : List Tk} {O : Value} {a : Act} {w w0 : World} {m : Int} {Q : Exit → Act → World → Prop}
    (hF : Fr60 (.string s) (.int .i64 n) O (.int .i64 i) a) (hs : s.size < 4294967281) (hi : i ≤ s.size) (hrow : tkRow w B O out) (hol : out.length < 2932031007400) (t0 : Tch No w0 w) (hB : B = w0.heap.size)
    (hm : w.cell? ⟨0, 0, none⟩ = some (.int .i64 m)) (hret : Retc B w0 (scalar s.data.toList n i out) Q) : (q60 1).wp Try.prog Q a w := by
  obtain ⟨f, rfl⟩ := hF
  refine wp_q rfl ?_
  obtain ⟨X, hX⟩ : ∃ X, X = scalar s.data.toList n i out := ⟨_, rfl⟩
  rw [← hX] at hret
  have hO := over_any s i w (by omega) hi
  obtain ⟨ov, hov⟩ : ∃ ov, ov = over s.data.toList i := ⟨_, rfl⟩
  rw [← hov] at hO
  replace hO := Lib.hid hO
  cases ov with
  | true =>
    have hX2 := Lib.hid (show X = .ok out by rw [hX]; unfold scalar; rw [if_pos hov.symm])
    replace hX := Lib.hid hX
    replace hov := Lib.hid hov
    replace hrow := Lib.hid hrow
    replace hret := Lib.hid hret
    replace t0 := Lib.hid t0
    go_wp2_with (first
      | (go_at_call 70; refine hO.out.mono ?_; rintro e w2 ⟨rfl, hw2⟩; subst hw2)
      | fail)
    refine hret.out _ _ rfl ?_ t0.out
    rw [hX2.out]
    exact ⟨hrow.out, rfl⟩
  | false =>
    have hlt := over_lt hi hov.symm
    have k0 := nn_lt2 hlt
    obtain ⟨x, hx⟩ : ∃ x : Int, x = (s[i].toNat : Int) := ⟨_, rfl⟩
    have hx' : (s[i].toNat : Int) = x := hx.symm
    have hP := plain_any s i m w hs hlt hm
    cases q34 : (x == 34) with
    | true =>
      have hqa : quoteAt s.data.toList i = true := quote_yes hlt (.inl (pl_is hx (n := 34) (by decide) q34))
      have hQ := quoted_any s i w hs hlt hex_ib
      cases hq : qread s[i] (s.data.toList.drop (i + 1)) with
      | none =>
        have hX2 := Lib.hid (show X = .error 82 by rw [hX]; unfold scalar; rw [if_neg (by rw [← hov]; decide), if_pos hqa, at_data s hlt]; simp only [Option.getD_some, hq])
        rw [hq] at hQ
        replace hQ : Calls Try.prog 71 #[.string s, .int .i64 i] w fun e w' => e = .returned (.tuple #[.string ⟨#[]⟩, .int .i64 0, .bool false]) ∧ Tch No w w' := hQ
        replace hQ := Lib.hid hQ
        replace hX := Lib.hid hX
        replace hov := Lib.hid hov
        replace hrow := Lib.hid hrow
        replace hret := Lib.hid hret
        replace t0 := Lib.hid t0
        replace hx := Lib.hid hx
        replace hqa := Lib.hid hqa
        replace hq := Lib.hid hq
        replace hP := Lib.hid hP
        go_wp2_with (first
          | (go_at_call 70; refine hO.out.mono ?_; rintro e w2 ⟨rfl, hw2⟩; subst hw2)
          | (go_at_call 71; refine hQ.out.mono ?_; rintro e w2 ⟨rfl, t2⟩; replace t2 := Lib.hid t2)
          | fail)
        refine hret.out _ _ rfl ?_ (t0.out.trans t2.out (fun _ h => h.elim))
        rw [hX2.out]
        exact ⟨rfl, rfl⟩
      | some r =>
        obtain ⟨t, k⟩ := r
        have hkl := q_le hq
        rw [List.length_drop, len_data] at hkl
        obtain ⟨K, hK⟩ : ∃ K, K = i + 1 + k := ⟨_, rfl⟩
        have hKs : K ≤ s.size := by omega
        rw [hq] at hQ
        replace hQ : Calls Try.prog 71 #[.string s, .int .i64 i] w fun e w' => e = .returned (.tuple #[.string ⟨t.toArray⟩, .int .i64 ((i + 1 + k : Nat) : Int), .bool true]) ∧ Tch No w w' := hQ
        rw [← hK] at hQ
        have hBl := fun wx => blanks_any s K wx (by omega) hKs
        obtain ⟨j, hj⟩ : ∃ j, j = blanks s.data.toList K := ⟨_, rfl⟩
        simp only [← hj] at hBl
        have hjs : j ≤ s.size := by rw [hj]; have := blanks_le s.data.toList (i := K) (by rw [len_data]; exact hKs); rwa [len_data] at this
        have hX1 : X = if j < s.data.toList.length ∧ (j = i + 1 + k ∨ s.data.toList[j]? ≠ some 35) then .error 82 else .ok (out ++ [⟨4, n, i, t, true⟩]) := by
          rw [hX]; unfold scalar; rw [if_neg (by rw [← hov]; decide), if_pos hqa, at_data s hlt]; simp only [Option.getD_some, hq, hj, hK]
        by_cases hj2 : j < s.size
        · have p1 : decide (j < s.size) = true := decide_eq_true hj2
          have p2 := nn_lt2 hj2
          cases qe : ((j : Int) == (K : Int)) with
          | true =>
            have hX2 := Lib.hid (show X = .error 82 by rw [hX1, if_pos ⟨by rw [len_data]; exact hj2, .inl (by rw [beq_iff_eq] at qe; omega)⟩])
            replace hX1 := Lib.hid hX1
            replace hj := Lib.hid hj
            replace hjs := Lib.hid hjs
            replace hK := Lib.hid hK
            replace hKs := Lib.hid hKs
            replace hkl := Lib.hid hkl
            replace hBl := Lib.hid hBl
            replace hQ := Lib.hid hQ
            replace hX := Lib.hid hX
            replace hov := Lib.hid hov
            replace hrow := Lib.hid hrow
            replace hret := Lib.hid hret
            replace t0 := Lib.hid t0
            replace hx := Lib.hid hx
            replace hqa := Lib.hid hqa
            replace hq := Lib.hid hq
            replace hP := Lib.hid hP
            go_wp2_with (first
              | (go_at_call 70; refine hO.out.mono ?_; rintro e w2 ⟨rfl, hw2⟩; subst hw2)
              | (go_at_call 71; refine hQ.out.mono ?_; rintro e w2 ⟨rfl, t2⟩; replace t2 := Lib.hid t2)
              | (go_at_call 69; refine (hBl.out _).mono ?_; rintro e w3 ⟨rfl, hw3⟩; subst hw3)
              | fail)
            refine hret.out _ _ rfl ?_ (t0.out.trans t2.out (fun _ h => h.elim))
            rw [hX2.out]
            exact ⟨rfl, rfl⟩
          | false =>
            obtain ⟨z, hz⟩ : ∃ z : Int, z = (s[j].toNat : Int) := ⟨_, rfl⟩
            have hz' : (s[j].toNat : Int) = z := hz.symm
            cases qz : (z == 35) with
            | true =>
              have hX2 := Lib.hid (show X = .ok (out ++ [⟨4, n, i, t, true⟩]) by rw [hX1, if_neg (by rw [at_data s hj2, pl_is hz (n := 35) (by decide) qz]; rintro ⟨_, h | h⟩; exact (by rw [beq_eq_false_iff_ne] at qe; omega); exact h rfl)])
              have qz2 : (z != 35) = false := by simp [bne, qz]
              replace hz := Lib.hid hz
              have hw0 : ∀ k, O.ownBlock = some k → w0.heap.size ≤ k := fun k hk => hB ▸ (ownsRow_ge hrow hk).1
              have hBw := Lib.hid (show B ≤ w.heap.size by rw [hB]; exact t0.size)
              obtain ⟨oo, oc, rfl⟩ := ownsRow_shape hrow
              obtain ⟨i0, hif, hz0, hz1, hz2⟩ := info_parts info39
              replace hif := Lib.hid hif
              replace hz0 := Lib.hid hz0
              replace hz1 := Lib.hid hz1
              replace hz2 := Lib.hid hz2
              replace hrow := Lib.hid (show w.ownsRow B 39 5 (.slice oo out.length oc) out.length (tcs (out.map tokOf)) from hrow)
              replace hw0 := Lib.hid hw0
              replace hol := Lib.hid hol
              replace hX1 := Lib.hid hX1
              replace hj := Lib.hid hj
              replace hjs := Lib.hid hjs
              replace hK := Lib.hid hK
              replace hKs := Lib.hid hKs
              replace hkl := Lib.hid hkl
              replace hBl := Lib.hid hBl
              replace hQ := Lib.hid hQ
              replace hX := Lib.hid hX
              replace hov := Lib.hid hov
              replace hret := Lib.hid hret
              replace t0 := Lib.hid t0
              replace hx := Lib.hid hx
              replace hqa := Lib.hid hqa
              replace hq := Lib.hid hq
              replace hP := Lib.hid hP
              go_wp2_with (first
                | (go_at_call 70; refine hO.out.mono ?_; rintro e w2 ⟨rfl, hw2⟩; subst hw2)
                | (go_at_call 71; refine hQ.out.mono ?_; rintro e w2 ⟨rfl, t2⟩; have hr2 := Lib.hid (ownsRow_tch hrow.out t2 (fun _ _ h => h)); have hB2 := Lib.hid (Nat.le_trans hBw.out t2.size); replace t2 := Lib.hid t2)
                | (go_at_call 69; refine (hBl.out _).mono ?_; rintro e w3 ⟨rfl, hw3⟩; subst hw3)
                | (at_builtin; refine wp_append_us rfl _ _ 23 (by rfl) B 39 i0 (.agg #[.int .i64 0, .int .i64 0, .int .i64 0, .string ⟨#[]⟩, .bool false]) 5 48 Try.underlying23 hif.out hz0.out hz1.out hz2.out rfl (by decide) _ out.length _ (by rfl) hr2.out 1 (by rfl) rfl (by simp [Value.oneCell']) (nn_own (Nat.le_refl _) hol.out).1 (nn_own (Nat.le_refl _) hol.out).2 hB2.out ?_; intro v7 w7 hr7 hg7 hl7; obtain ⟨po, pc, rfl⟩ := ownsRow_shape hr7; replace hr7 := Lib.hid hr7; replace hg7 := Lib.hid hg7; replace hl7 := Lib.hid hl7)
                | fail)
              have t7 := Lib.hid ((t0.out.trans t2.out (fun _ h => h.elim)).trans (Tch.grown (S := fun k => (Value.slice oo out.length oc).ownBlock = some k) hg7.out (fun k hk => .inl hk)) (fun k hk => .inr (hw0.out k hk)))
              refine hret.out _ _ rfl ?_ t7.out
              rw [hX2.out]
              exact ⟨tkRow_snoc rfl hr7.out, rfl⟩
            | false =>
              have qz2 : (z != 35) = true := by simp [bne, qz]
              have hX2 := Lib.hid (show X = .error 82 by rw [hX1, if_pos ⟨by rw [len_data]; exact hj2, .inr (by rw [at_data s hj2]; intro h; exact pl_ne hz (n := 35) (by decide) qz (Option.some.inj h))⟩])
              replace hz := Lib.hid hz
              replace hX1 := Lib.hid hX1
              replace hj := Lib.hid hj
              replace hjs := Lib.hid hjs
              replace hK := Lib.hid hK
              replace hKs := Lib.hid hKs
              replace hkl := Lib.hid hkl
              replace hBl := Lib.hid hBl
              replace hQ := Lib.hid hQ
              replace hX := Lib.hid hX
              replace hov := Lib.hid hov
              replace hrow := Lib.hid hrow
              replace hret := Lib.hid hret
              replace t0 := Lib.hid t0
              replace hx := Lib.hid hx
              replace hqa := Lib.hid hqa
              replace hq := Lib.hid hq
              replace hP := Lib.hid hP
              go_wp2_with (first
                | (go_at_call 70; refine hO.out.mono ?_; rintro e w2 ⟨rfl, hw2⟩; subst hw2)
                | (go_at_call 71; refine hQ.out.mono ?_; rintro e w2 ⟨rfl, t2⟩; replace t2 := Lib.hid t2)
                | (go_at_call 69; refine (hBl.out _).mono ?_; rintro e w3 ⟨rfl, hw3⟩; subst hw3)
                | fail)
              refine hret.out _ _ rfl ?_ (t0.out.trans t2.out (fun _ h => h.elim))
              rw [hX2.out]
              exact ⟨rfl, rfl⟩
        · skip
          have p1 : decide (j < s.size) = false := decide_eq_false hj2
          have p2 : decide ((j : Int) < (s.size : Int)) = false := decide_eq_false (by omega)
          have hX2 := Lib.hid (show X = .ok (out ++ [⟨4, n, i, t, true⟩]) by rw [hX1, if_neg (by rw [len_data]; exact fun h => hj2 h.1)])
          have hw0 : ∀ k, O.ownBlock = some k → w0.heap.size ≤ k := fun k hk => hB ▸ (ownsRow_ge hrow hk).1
          have hBw := Lib.hid (show B ≤ w.heap.size by rw [hB]; exact t0.size)
          obtain ⟨oo, oc, rfl⟩ := ownsRow_shape hrow
          obtain ⟨i0, hif, hz0, hz1, hz2⟩ := info_parts info39
          replace hif := Lib.hid hif
          replace hz0 := Lib.hid hz0
          replace hz1 := Lib.hid hz1
          replace hz2 := Lib.hid hz2
          replace hrow := Lib.hid (show w.ownsRow B 39 5 (.slice oo out.length oc) out.length (tcs (out.map tokOf)) from hrow)
          replace hw0 := Lib.hid hw0
          replace hol := Lib.hid hol
          replace hX1 := Lib.hid hX1
          replace hj := Lib.hid hj
          replace hjs := Lib.hid hjs
          replace hK := Lib.hid hK
          replace hKs := Lib.hid hKs
          replace hkl := Lib.hid hkl
          replace hBl := Lib.hid hBl
          replace hQ := Lib.hid hQ
          replace hX := Lib.hid hX
          replace hov := Lib.hid hov
          replace hret := Lib.hid hret
          replace t0 := Lib.hid t0
          replace hx := Lib.hid hx
          replace hqa := Lib.hid hqa
          replace hq := Lib.hid hq
          replace hP := Lib.hid hP
          go_wp2_with (first
            | (go_at_call 70; refine hO.out.mono ?_; rintro e w2 ⟨rfl, hw2⟩; subst hw2)
            | (go_at_call 71; refine hQ.out.mono ?_; rintro e w2 ⟨rfl, t2⟩; have hr2 := Lib.hid (ownsRow_tch hrow.out t2 (fun _ _ h => h)); have hB2 := Lib.hid (Nat.le_trans hBw.out t2.size); replace t2 := Lib.hid t2)
            | (go_at_call 69; refine (hBl.out _).mono ?_; rintro e w3 ⟨rfl, hw3⟩; subst hw3)
            | (at_builtin; refine wp_append_us rfl _ _ 23 (by rfl) B 39 i0 (.agg #[.int .i64 0, .int .i64 0, .int .i64 0, .string ⟨#[]⟩, .bool false]) 5 48 Try.underlying23 hif.out hz0.out hz1.out hz2.out rfl (by decide) _ out.length _ (by rfl) hr2.out 1 (by rfl) rfl (by simp [Value.oneCell']) (nn_own (Nat.le_refl _) hol.out).1 (nn_own (Nat.le_refl _) hol.out).2 hB2.out ?_; intro v7 w7 hr7 hg7 hl7; obtain ⟨po, pc, rfl⟩ := ownsRow_shape hr7; replace hr7 := Lib.hid hr7; replace hg7 := Lib.hid hg7; replace hl7 := Lib.hid hl7)
            | fail)
          have t7 := Lib.hid ((t0.out.trans t2.out (fun _ h => h.elim)).trans (Tch.grown (S := fun k => (Value.slice oo out.length oc).ownBlock = some k) hg7.out (fun k hk => .inl hk)) (fun k hk => .inr (hw0.out k hk)))
          refine hret.out _ _ rfl ?_ t7.out
          rw [hX2.out]
          exact ⟨tkRow_snoc rfl hr7.out, rfl⟩
    | false =>
      cases q39 : (x == 39) with
      | true =>
        have hqa : quoteAt s.data.toList i = true := quote_yes hlt (.inr (pl_is hx (n := 39) (by decide) q39))
        have hQ := quoted_any s i w hs hlt hex_ib
        cases hq : qread s[i] (s.data.toList.drop (i + 1)) with
        | none =>
          have hX2 := Lib.hid (show X = .error 82 by rw [hX]; unfold scalar; rw [if_neg (by rw [← hov]; decide), if_pos hqa, at_data s hlt]; simp only [Option.getD_some, hq])
          rw [hq] at hQ
          replace hQ : Calls Try.prog 71 #[.string s, .int .i64 i] w fun e w' => e = .returned (.tuple #[.string ⟨#[]⟩, .int .i64 0, .bool false]) ∧ Tch No w w' := hQ
          replace hQ := Lib.hid hQ
          replace hX := Lib.hid hX
          replace hov := Lib.hid hov
          replace hrow := Lib.hid hrow
          replace hret := Lib.hid hret
          replace t0 := Lib.hid t0
          replace hx := Lib.hid hx
          replace hqa := Lib.hid hqa
          replace hq := Lib.hid hq
          replace hP := Lib.hid hP
          go_wp2_with (first
            | (go_at_call 70; refine hO.out.mono ?_; rintro e w2 ⟨rfl, hw2⟩; subst hw2)
            | (go_at_call 71; refine hQ.out.mono ?_; rintro e w2 ⟨rfl, t2⟩; replace t2 := Lib.hid t2)
            | fail)
          refine hret.out _ _ rfl ?_ (t0.out.trans t2.out (fun _ h => h.elim))
          rw [hX2.out]
          exact ⟨rfl, rfl⟩
        | some r =>
          obtain ⟨t, k⟩ := r
          have hkl := q_le hq
          rw [List.length_drop, len_data] at hkl
          obtain ⟨K, hK⟩ : ∃ K, K = i + 1 + k := ⟨_, rfl⟩
          have hKs : K ≤ s.size := by omega
          rw [hq] at hQ
          replace hQ : Calls Try.prog 71 #[.string s, .int .i64 i] w fun e w' => e = .returned (.tuple #[.string ⟨t.toArray⟩, .int .i64 ((i + 1 + k : Nat) : Int), .bool true]) ∧ Tch No w w' := hQ
          rw [← hK] at hQ
          have hBl := fun wx => blanks_any s K wx (by omega) hKs
          obtain ⟨j, hj⟩ : ∃ j, j = blanks s.data.toList K := ⟨_, rfl⟩
          simp only [← hj] at hBl
          have hjs : j ≤ s.size := by rw [hj]; have := blanks_le s.data.toList (i := K) (by rw [len_data]; exact hKs); rwa [len_data] at this
          have hX1 : X = if j < s.data.toList.length ∧ (j = i + 1 + k ∨ s.data.toList[j]? ≠ some 35) then .error 82 else .ok (out ++ [⟨4, n, i, t, true⟩]) := by
            rw [hX]; unfold scalar; rw [if_neg (by rw [← hov]; decide), if_pos hqa, at_data s hlt]; simp only [Option.getD_some, hq, hj, hK]
          by_cases hj2 : j < s.size
          · have p1 : decide (j < s.size) = true := decide_eq_true hj2
            have p2 := nn_lt2 hj2
            cases qe : ((j : Int) == (K : Int)) with
            | true =>
              have hX2 := Lib.hid (show X = .error 82 by rw [hX1, if_pos ⟨by rw [len_data]; exact hj2, .inl (by rw [beq_iff_eq] at qe; omega)⟩])
              replace hX1 := Lib.hid hX1
              replace hj := Lib.hid hj
              replace hjs := Lib.hid hjs
              replace hK := Lib.hid hK
              replace hKs := Lib.hid hKs
              replace hkl := Lib.hid hkl
              replace hBl := Lib.hid hBl
              replace hQ := Lib.hid hQ
              replace hX := Lib.hid hX
              replace hov := Lib.hid hov
              replace hrow := Lib.hid hrow
              replace hret := Lib.hid hret
              replace t0 := Lib.hid t0
              replace hx := Lib.hid hx
              replace hqa := Lib.hid hqa
              replace hq := Lib.hid hq
              replace hP := Lib.hid hP
              go_wp2_with (first
                | (go_at_call 70; refine hO.out.mono ?_; rintro e w2 ⟨rfl, hw2⟩; subst hw2)
                | (go_at_call 71; refine hQ.out.mono ?_; rintro e w2 ⟨rfl, t2⟩; replace t2 := Lib.hid t2)
                | (go_at_call 69; refine (hBl.out _).mono ?_; rintro e w3 ⟨rfl, hw3⟩; subst hw3)
                | fail)
              refine hret.out _ _ rfl ?_ (t0.out.trans t2.out (fun _ h => h.elim))
              rw [hX2.out]
              exact ⟨rfl, rfl⟩
            | false =>
              obtain ⟨z, hz⟩ : ∃ z : Int, z = (s[j].toNat : Int) := ⟨_, rfl⟩
              have hz' : (s[j].toNat : Int) = z := hz.symm
              cases qz : (z == 35) with
              | true =>
                have hX2 := Lib.hid (show X = .ok (out ++ [⟨4, n, i, t, true⟩]) by rw [hX1, if_neg (by rw [at_data s hj2, pl_is hz (n := 35) (by decide) qz]; rintro ⟨_, h | h⟩; exact (by rw [beq_eq_false_iff_ne] at qe; omega); exact h rfl)])
                have qz2 : (z != 35) = false := by simp [bne, qz]
                replace hz := Lib.hid hz
                have hw0 : ∀ k, O.ownBlock = some k → w0.heap.size ≤ k := fun k hk => hB ▸ (ownsRow_ge hrow hk).1
                have hBw := Lib.hid (show B ≤ w.heap.size by rw [hB]; exact t0.size)
                obtain ⟨oo, oc, rfl⟩ := ownsRow_shape hrow
                obtain ⟨i0, hif, hz0, hz1, hz2⟩ := info_parts info39
                replace hif := Lib.hid hif
                replace hz0 := Lib.hid hz0
                replace hz1 := Lib.hid hz1
                replace hz2 := Lib.hid hz2
                replace hrow := Lib.hid (show w.ownsRow B 39 5 (.slice oo out.length oc) out.length (tcs (out.map tokOf)) from hrow)
                replace hw0 := Lib.hid hw0
                replace hol := Lib.hid hol
                replace hX1 := Lib.hid hX1
                replace hj := Lib.hid hj
                replace hjs := Lib.hid hjs
                replace hK := Lib.hid hK
                replace hKs := Lib.hid hKs
                replace hkl := Lib.hid hkl
                replace hBl := Lib.hid hBl
                replace hQ := Lib.hid hQ
                replace hX := Lib.hid hX
                replace hov := Lib.hid hov
                replace hret := Lib.hid hret
                replace t0 := Lib.hid t0
                replace hx := Lib.hid hx
                replace hqa := Lib.hid hqa
                replace hq := Lib.hid hq
                replace hP := Lib.hid hP
                go_wp2_with (first
                  | (go_at_call 70; refine hO.out.mono ?_; rintro e w2 ⟨rfl, hw2⟩; subst hw2)
                  | (go_at_call 71; refine hQ.out.mono ?_; rintro e w2 ⟨rfl, t2⟩; have hr2 := Lib.hid (ownsRow_tch hrow.out t2 (fun _ _ h => h)); have hB2 := Lib.hid (Nat.le_trans hBw.out t2.size); replace t2 := Lib.hid t2)
                  | (go_at_call 69; refine (hBl.out _).mono ?_; rintro e w3 ⟨rfl, hw3⟩; subst hw3)
                  | (at_builtin; refine wp_append_us rfl _ _ 23 (by rfl) B 39 i0 (.agg #[.int .i64 0, .int .i64 0, .int .i64 0, .string ⟨#[]⟩, .bool false]) 5 48 Try.underlying23 hif.out hz0.out hz1.out hz2.out rfl (by decide) _ out.length _ (by rfl) hr2.out 1 (by rfl) rfl (by simp [Value.oneCell']) (nn_own (Nat.le_refl _) hol.out).1 (nn_own (Nat.le_refl _) hol.out).2 hB2.out ?_; intro v7 w7 hr7 hg7 hl7; obtain ⟨po, pc, rfl⟩ := ownsRow_shape hr7; replace hr7 := Lib.hid hr7; replace hg7 := Lib.hid hg7; replace hl7 := Lib.hid hl7)
                  | fail)
                have t7 := Lib.hid ((t0.out.trans t2.out (fun _ h => h.elim)).trans (Tch.grown (S := fun k => (Value.slice oo out.length oc).ownBlock = some k) hg7.out (fun k hk => .inl hk)) (fun k hk => .inr (hw0.out k hk)))
                refine hret.out _ _ rfl ?_ t7.out
                rw [hX2.out]
                exact ⟨tkRow_snoc rfl hr7.out, rfl⟩
              | false =>
                have qz2 : (z != 35) = true := by simp [bne, qz]
                have hX2 := Lib.hid (show X = .error 82 by rw [hX1, if_pos ⟨by rw [len_data]; exact hj2, .inr (by rw [at_data s hj2]; intro h; exact pl_ne hz (n := 35) (by decide) qz (Option.some.inj h))⟩])
                replace hz := Lib.hid hz
                replace hX1 := Lib.hid hX1
                replace hj := Lib.hid hj
                replace hjs := Lib.hid hjs
                replace hK := Lib.hid hK
                replace hKs := Lib.hid hKs
                replace hkl := Lib.hid hkl
                replace hBl := Lib.hid hBl
                replace hQ := Lib.hid hQ
                replace hX := Lib.hid hX
                replace hov := Lib.hid hov
                replace hrow := Lib.hid hrow
                replace hret := Lib.hid hret
                replace t0 := Lib.hid t0
                replace hx := Lib.hid hx
                replace hqa := Lib.hid hqa
                replace hq := Lib.hid hq
                replace hP := Lib.hid hP
                go_wp2_with (first
                  | (go_at_call 70; refine hO.out.mono ?_; rintro e w2 ⟨rfl, hw2⟩; subst hw2)
                  | (go_at_call 71; refine hQ.out.mono ?_; rintro e w2 ⟨rfl, t2⟩; replace t2 := Lib.hid t2)
                  | (go_at_call 69; refine (hBl.out _).mono ?_; rintro e w3 ⟨rfl, hw3⟩; subst hw3)
                  | fail)
                refine hret.out _ _ rfl ?_ (t0.out.trans t2.out (fun _ h => h.elim))
                rw [hX2.out]
                exact ⟨rfl, rfl⟩
          · skip
            have p1 : decide (j < s.size) = false := decide_eq_false hj2
            have p2 : decide ((j : Int) < (s.size : Int)) = false := decide_eq_false (by omega)
            have hX2 := Lib.hid (show X = .ok (out ++ [⟨4, n, i, t, true⟩]) by rw [hX1, if_neg (by rw [len_data]; exact fun h => hj2 h.1)])
            have hw0 : ∀ k, O.ownBlock = some k → w0.heap.size ≤ k := fun k hk => hB ▸ (ownsRow_ge hrow hk).1
            have hBw := Lib.hid (show B ≤ w.heap.size by rw [hB]; exact t0.size)
            obtain ⟨oo, oc, rfl⟩ := ownsRow_shape hrow
            obtain ⟨i0, hif, hz0, hz1, hz2⟩ := info_parts info39
            replace hif := Lib.hid hif
            replace hz0 := Lib.hid hz0
            replace hz1 := Lib.hid hz1
            replace hz2 := Lib.hid hz2
            replace hrow := Lib.hid (show w.ownsRow B 39 5 (.slice oo out.length oc) out.length (tcs (out.map tokOf)) from hrow)
            replace hw0 := Lib.hid hw0
            replace hol := Lib.hid hol
            replace hX1 := Lib.hid hX1
            replace hj := Lib.hid hj
            replace hjs := Lib.hid hjs
            replace hK := Lib.hid hK
            replace hKs := Lib.hid hKs
            replace hkl := Lib.hid hkl
            replace hBl := Lib.hid hBl
            replace hQ := Lib.hid hQ
            replace hX := Lib.hid hX
            replace hov := Lib.hid hov
            replace hret := Lib.hid hret
            replace t0 := Lib.hid t0
            replace hx := Lib.hid hx
            replace hqa := Lib.hid hqa
            replace hq := Lib.hid hq
            replace hP := Lib.hid hP
            go_wp2_with (first
              | (go_at_call 70; refine hO.out.mono ?_; rintro e w2 ⟨rfl, hw2⟩; subst hw2)
              | (go_at_call 71; refine hQ.out.mono ?_; rintro e w2 ⟨rfl, t2⟩; have hr2 := Lib.hid (ownsRow_tch hrow.out t2 (fun _ _ h => h)); have hB2 := Lib.hid (Nat.le_trans hBw.out t2.size); replace t2 := Lib.hid t2)
              | (go_at_call 69; refine (hBl.out _).mono ?_; rintro e w3 ⟨rfl, hw3⟩; subst hw3)
              | (at_builtin; refine wp_append_us rfl _ _ 23 (by rfl) B 39 i0 (.agg #[.int .i64 0, .int .i64 0, .int .i64 0, .string ⟨#[]⟩, .bool false]) 5 48 Try.underlying23 hif.out hz0.out hz1.out hz2.out rfl (by decide) _ out.length _ (by rfl) hr2.out 1 (by rfl) rfl (by simp [Value.oneCell']) (nn_own (Nat.le_refl _) hol.out).1 (nn_own (Nat.le_refl _) hol.out).2 hB2.out ?_; intro v7 w7 hr7 hg7 hl7; obtain ⟨po, pc, rfl⟩ := ownsRow_shape hr7; replace hr7 := Lib.hid hr7; replace hg7 := Lib.hid hg7; replace hl7 := Lib.hid hl7)
              | fail)
            have t7 := Lib.hid ((t0.out.trans t2.out (fun _ h => h.elim)).trans (Tch.grown (S := fun k => (Value.slice oo out.length oc).ownBlock = some k) hg7.out (fun k hk => .inl hk)) (fun k hk => .inr (hw0.out k hk)))
            refine hret.out _ _ rfl ?_ t7.out
            rw [hX2.out]
            exact ⟨tkRow_snoc rfl hr7.out, rfl⟩
      | false =>
        have hqa : quoteAt s.data.toList i = false := quote_no hlt (pl_ne hx (n := 34) (by decide) q34) (pl_ne hx (n := 39) (by decide) q39)
        cases hp : plain (s.data.toList.drop i) with
        | none =>
          have hX2 := Lib.hid (show X = .error 83 by rw [hX]; unfold scalar; rw [if_neg (by rw [← hov]; decide), if_neg (by rw [hqa]; decide), hp])
          rw [hp] at hP
          replace hP : Calls Try.prog 73 #[.string s, .int .i64 i] w fun e w' => e = .returned (.tuple #[.int .i64 0, .bool false]) ∧ w = w' := hP
          replace hP := Lib.hid hP
          replace hX := Lib.hid hX
          replace hov := Lib.hid hov
          replace hrow := Lib.hid hrow
          replace hret := Lib.hid hret
          replace t0 := Lib.hid t0
          replace hx := Lib.hid hx
          replace hqa := Lib.hid hqa
          replace hp := Lib.hid hp
          go_wp2_with (first
            | (go_at_call 70; refine hO.out.mono ?_; rintro e w2 ⟨rfl, hw2⟩; subst hw2)
            | (go_at_call 73; refine hP.out.mono ?_; rintro e w2 ⟨rfl, hw2⟩; subst hw2)
            | fail)
          refine hret.out _ _ rfl ?_ t0.out
          rw [hX2.out]
          exact ⟨rfl, rfl⟩
        | some t =>
          have hpre := plain_pre hp
          have hX2 := Lib.hid (show X = .ok (out ++ [⟨4, n, i, t, false⟩]) by rw [hX]; unfold scalar; rw [if_neg (by rw [← hov]; decide), if_neg (by rw [hqa]; decide), hp])
          have hle : i + t.length ≤ s.size := by
            have := congrArg List.length hpre
            rw [List.length_take, List.length_drop, len_data] at this
            omega
          rw [hp] at hP
          obtain ⟨k, hk⟩ : ∃ k, k = i + t.length := ⟨_, rfl⟩
          replace hP : Calls Try.prog 73 #[.string s, .int .i64 i] w fun e w' => e = .returned (.tuple #[.int .i64 ((i + t.length : Nat) : Int), .bool true]) ∧ w = w' := hP
          rw [← hk] at hP hle
          have hik : i ≤ k := by omega
          have hext : tokOf ⟨4, n, i, t, false⟩ = ⟨4, n, i, s.extract i k, false⟩ := by
            unfold tokOf; congr 1
            apply ByteArray.ext; apply Array.toList_inj.1
            rw [pl_ext, hk, show i + t.length - i = t.length by omega]
            exact hpre
          have hw0 : ∀ k, O.ownBlock = some k → w0.heap.size ≤ k := fun k hk => hB ▸ (ownsRow_ge hrow hk).1
          have hBw := Lib.hid (show B ≤ w.heap.size by rw [hB]; exact t0.size)
          obtain ⟨oo, oc, rfl⟩ := ownsRow_shape hrow
          obtain ⟨i0, hif, hz0, hz1, hz2⟩ := info_parts info39
          replace hif := Lib.hid hif
          replace hz0 := Lib.hid hz0
          replace hz1 := Lib.hid hz1
          replace hz2 := Lib.hid hz2
          replace hrow := Lib.hid (show w.ownsRow B 39 5 (.slice oo out.length oc) out.length (tcs (out.map tokOf)) from hrow)
          replace hP := Lib.hid hP
          replace hX := Lib.hid hX
          replace hov := Lib.hid hov
          replace hret := Lib.hid hret
          replace t0 := Lib.hid t0
          replace hx := Lib.hid hx
          replace hqa := Lib.hid hqa
          replace hp := Lib.hid hp
          replace hpre := Lib.hid hpre
          replace hext := Lib.hid hext
          replace hw0 := Lib.hid hw0
          replace hk := Lib.hid hk
          replace hol := Lib.hid hol
          have hkl : (k : Int) ≤ (s.size : Int) := by omega
          have hikl : (i : Int) ≤ (k : Int) := by omega
          go_wp2_with (first
            | (go_at_call 70; refine hO.out.mono ?_; rintro e w2 ⟨rfl, hw2⟩; subst hw2)
            | (go_at_call 73; refine hP.out.mono ?_; rintro e w2 ⟨rfl, hw2⟩; subst hw2)
            | (at_builtin; refine wp_append_us rfl _ _ 23 (by rfl) B 39 i0 (.agg #[.int .i64 0, .int .i64 0, .int .i64 0, .string ⟨#[]⟩, .bool false]) 5 48 Try.underlying23 hif.out hz0.out hz1.out hz2.out rfl (by decide) _ out.length _ (by rfl) hrow.out 1 (by rfl) rfl (by simp [Value.oneCell']) (nn_own (Nat.le_refl _) hol.out).1 (nn_own (Nat.le_refl _) hol.out).2 hBw.out ?_; intro v7 w7 hr7 hg7 hl7; obtain ⟨po, pc, rfl⟩ := ownsRow_shape hr7; replace hr7 := Lib.hid hr7; replace hg7 := Lib.hid hg7; replace hl7 := Lib.hid hl7)
            | fail)
          have t7 := Lib.hid (t0.out.trans (Tch.grown (S := fun k => (Value.slice oo out.length oc).ownBlock = some k) hg7.out (fun k hk => .inl hk)) (fun k hk => .inr (hw0.out k hk)))
          refine hret.out _ _ rfl ?_ t7.out
          rw [hX2.out]
          exact ⟨tkRow_snoc hext.out hr7.out, rfl⟩
end Go.Proofs.Ytcnjmkjfgghgoaa
end
