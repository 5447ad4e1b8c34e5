/- Quoted texts in plain words: a quoted text is read as itself. -/
import Derived.Test.YtabgckjokniooaaLev
import Derived.Test.YtabgckjokniooaaLql
namespace Go.Ln
open Go.RowKit
set_option linter.unusedVariables false
def dig (n : Nat) : UInt8 := (hexes[n]?).getD 0
def esc (c : UInt8) : List UInt8 :=
  if c = 34 ∨ c = 92 then [92, c] else if c = 10 then [92, 110] else if c = 9 then [92, 116] else if c < 32 ∨ c = 127 then [92, 120, dig (c.toNat / 16), dig (c.toNat % 16)] else [c]
def quoteL (s : List UInt8) : List UInt8 := 34 :: (s.flatMap esc ++ [34])
def good (c : UInt8) : Bool := decide (32 ≤ c) && !decide (c = 127)
theorem hex_all : ∀ n : Fin 256, hexB (dig (n.val / 16)) (dig (n.val % 16)) = some (UInt8.ofNat n.val) := by decide +kernel
theorem esc_all : ∀ n : Fin 256, (esc (UInt8.ofNat n.val)).all good = true := by decide +kernel
theorem esc_good (c : UInt8) : (esc c).all good = true := by
  have h := esc_all ⟨c.toNat, c.toNat_lt⟩
  simpa using h
theorem hex_c (c : UInt8) : hexB (dig (c.toNat / 16)) (dig (c.toNat % 16)) = some c := by
  have h := hex_all ⟨c.toNat, c.toNat_lt⟩
  simpa using h
theorem q_esc (c : UInt8) (r : List UInt8) : qread 34 (esc c ++ r) = more c (esc c).length (qread 34 r) := by
  unfold esc
  by_cases h1 : c = 34 ∨ c = 92
  · rw [if_pos h1]
    exact q_self (c := 92) (d := c) (e := 34) (by decide) (by decide) h1
  · rw [if_neg h1]
    by_cases h2 : c = 10
    · rw [if_pos h2, h2]; exact q_n (c := 92) (e := 34) (by decide) (by decide)
    · rw [if_neg h2]
      by_cases h3 : c = 9
      · rw [if_pos h3, h3]; exact q_t (c := 92) (e := 34) (by decide) (by decide)
      · rw [if_neg h3]
        by_cases h4 : c < 32 ∨ c = 127
        · rw [if_pos h4]
          have h := q_x (c := 92) (e := 34) (r := r) (by decide) (by decide) (dig (c.toNat / 16)) (dig (c.toNat % 16))
          rw [hex_c] at h
          exact h
        · rw [if_neg h4]
          exact q_char (c := c) (e := 34) (r := r) (fun e => h1 (.inl e)) (.inl (fun e => h1 (.inr e)))
theorem q_text (s : List UInt8) : qread 34 (s.flatMap esc ++ [34]) = some (s, (s.flatMap esc).length + 1) := by
  induction s with
  | nil => exact q_end1 rfl
  | cons c s ih =>
    rw [List.flatMap_cons, List.append_assoc, q_esc, ih]
    simp only [more, List.length_append]
    congr 2; omega
theorem ib_none {l : List UInt8} {c : UInt8} (h : c ∉ l) : Lib.indexByte l c = -1 := by
  induction l with
  | nil => rfl
  | cons b l ih =>
    unfold Lib.indexByte
    rw [if_neg (by intro e; exact h (by rw [← beq_iff_eq.1 e]; exact List.mem_cons_self)), ih (fun e => h (List.mem_cons_of_mem _ e))]; rfl
theorem sound_good {l : List UInt8} (h : l.all good = true) : sound l = 0 := by
  have hm : ∀ c ∈ l, good c = true := List.all_eq_true.1 h
  unfold sound
  rw [if_neg (by rw [ib_none (fun e => absurd (hm 9 e) (by decide))]; decide), if_neg]
  intro h2
  obtain ⟨c, hc, h3⟩ := List.any_eq_true.1 h2
  have h4 := hm c hc
  unfold good at h4
  simp only [Bool.and_eq_true, Bool.not_eq_true', decide_eq_true_eq, decide_eq_false_iff_not, Bool.or_eq_true] at h3 h4
  rcases h3 with h3 | h3
  · exact absurd h4.1 (UInt8.not_le.2 h3)
  · exact h4.2 h3
theorem no_ten {l : List UInt8} (h : l.all good = true) : (10 : UInt8) ∉ l := fun e => absurd (List.all_eq_true.1 h 10 e) (by decide)
theorem lines_one {l : List UInt8} (h : (10 : UInt8) ∉ l) : ∀ cur : List UInt8, cur ++ l ≠ [] → linesOf cur l = [cur ++ l] := by
  induction l with
  | nil =>
    intro cur hne
    unfold linesOf
    rw [if_neg (by simpa using hne)]; simp
  | cons c r ih =>
    intro cur hne
    unfold linesOf
    rw [if_neg (fun e => h (by rw [← e]; exact List.mem_cons_self)), ih (fun e => h (List.mem_cons_of_mem _ e)) _ (by simp)]; simp
theorem scan_one {l : List UInt8} (h : (10 : UInt8) ∉ l) (hne : l ≠ []) (hl : l.length ≤ 65536) {ts : List Tk} (hx : line l (1 : Nat) = .ok ts) : scan l = (ts, none) := by
  unfold scan
  rw [if_neg (by omega), lines_one h [] (by simpa using hne), List.nil_append]
  unfold scanL
  rw [hx]
  simp [scanL]
/-- What stands at a quoted text's begin. -/
structure QAt (l : List UInt8) (i : Nat) (s : List UInt8) : Prop where
  at' : l.drop i = quoteL s
theorem QAt.facts {l : List UInt8} {i : Nat} {s : List UInt8} (h : QAt l i s) : l[i]? = some 34 ∧ l.drop (i + 1) = s.flatMap esc ++ [34] ∧ i + 1 + ((s.flatMap esc).length + 1) = l.length := by
  have h1 : l[i]? = some 34 := by
    have := congrArg (fun x => x[0]?) h.at'
    simpa [quoteL] using this
  have h2 : l.drop (i + 1) = s.flatMap esc ++ [34] := by
    have := congrArg (List.drop 1) h.at'
    rw [List.drop_drop] at this
    simpa [quoteL] using this
  have h3 := congrArg List.length h2
  have h4 := (List.getElem?_eq_some_iff.1 h1).1
  rw [List.length_drop, List.length_append, List.length_singleton] at h3
  exact ⟨h1, h2, by omega⟩
theorem blanks_len (l : List UInt8) : blanks l l.length = l.length := by unfold blanks; rw [List.drop_length]; rfl
theorem QAt.scalar {l : List UInt8} {i : Nat} {s : List UInt8} (h : QAt l i s) (n : Int) (out : List Tk) : scalar l n i out = .ok (out ++ [⟨4, n, i, s, true⟩]) := by
  obtain ⟨h1, h2, h3⟩ := h.facts
  have hi := (List.getElem?_eq_some_iff.1 h1).1
  unfold Ln.scalar
  rw [if_neg (by unfold over; rw [h1]; simp; omega), if_pos (by unfold quoteAt; rw [h1]; rfl), h1, h2]
  simp only [Option.getD_some, q_text]
  rw [h3, blanks_len, if_neg (by omega)]
theorem QAt.keyed {l : List UInt8} {i : Nat} {s : List UInt8} (h : QAt l i s) (n : Int) (out : List Tk) : keyed l n i out = .ok (out ++ [⟨4, n, i, s, true⟩]) := by
  obtain ⟨h1, h2, h3⟩ := h.facts
  unfold Ln.keyed
  rw [if_pos (by unfold quoteAt; rw [h1]; rfl), h1, h2]
  simp only [Option.getD_some, q_text]
  rw [h3, if_neg (by unfold colon; rw [List.getElem?_eq_none (Nat.le_refl _)]; simp), h.scalar]
theorem QAt.items {l : List UInt8} {i : Nat} {s : List UInt8} (h : QAt l i s) (n : Int) (f : Nat) (out : List Tk) : items l n (f + 1) i out = .ok (out ++ [⟨4, n, i, s, true⟩]) := by
  obtain ⟨h1, h2, h3⟩ := h.facts
  have hi := (List.getElem?_eq_some_iff.1 h1).1
  unfold Ln.items
  rw [if_neg (by unfold over; rw [h1]; simp; omega), if_neg (by unfold itemAt; rw [h1]; simp), h.keyed]
theorem spaces_rep (b : Nat) (r : List UInt8) (h : spaces r = 0) : spaces (List.replicate b 32 ++ r) = b := by
  induction b with
  | zero => simpa using h
  | succ b ih => rw [List.replicate_succ, List.cons_append]; unfold spaces; rw [if_pos rfl, ih]
theorem good_quote (s : List UInt8) : (quoteL s).all good = true := by
  unfold quoteL
  simp only [List.all_cons, List.all_append, List.all_nil, Bool.and_true, Bool.and_eq_true]
  refine ⟨by decide, ?_, by decide⟩
  rw [List.all_flatMap]
  exact List.all_eq_true.2 fun c _ => esc_good c
theorem doc_no {l : List UInt8} {c : UInt8} {r : List UInt8} (h : l = c :: r) (hc : c ≠ 45) : docAt l = false := by
  unfold docAt
  have : Lib.hasPrefix l [45, 45, 45] = false := by
    rw [h]
    show List.isPrefixOf _ _ = false
    simp only [List.isPrefixOf, Bool.and_eq_false_imp]
    intro e
    exact absurd (beq_iff_eq.1 e).symm hc
  rw [this, Bool.false_and]
def text1 (b : Nat) (s : List UInt8) : List UInt8 := List.replicate b 32 ++ quoteL s
def text2 (b : Nat) (s : List UInt8) : List UInt8 := [107, 101, 121, 58, 32] ++ text1 b s
theorem good1 (b : Nat) (s : List UInt8) : (text1 b s).all good = true := by
  unfold text1
  rw [List.all_append, good_quote, Bool.and_true]
  exact List.all_eq_true.2 fun c hc => by rw [List.eq_of_mem_replicate hc]; decide
theorem good2 (b : Nat) (s : List UInt8) : (text2 b s).all good = true := by
  unfold text2
  rw [List.all_append, good1]; decide
theorem at1 (b : Nat) (s : List UInt8) : QAt (text1 b s) b s := ⟨by unfold text1; rw [List.drop_append_of_le_length (by simp)]; simp⟩
theorem at2 (b : Nat) (s : List UInt8) : QAt (text2 b s) (b + 5) s := ⟨by
  unfold text2
  rw [Nat.add_comm b 5, ← List.drop_drop]
  exact (at1 b s).at'⟩
theorem line1 (b : Nat) (s : List UInt8) (n : Int) : line (text1 b s) n = .ok [⟨4, n, b, s, true⟩] := by
  have hd : docAt (text1 b s) = false := by
    cases b with
    | zero => exact doc_no (c := 34) (r := s.flatMap esc ++ [34]) rfl (by decide)
    | succ b => exact doc_no (c := 32) (r := List.replicate b 32 ++ quoteL s) (by unfold text1; rw [List.replicate_succ]; rfl) (by decide)
  have hb : blanks (text1 b s) 0 = b := by
    unfold blanks text1
    rw [List.drop_zero, spaces_rep _ _ (by unfold quoteL spaces; rw [if_neg (by decide)])]; omega
  unfold line
  rw [sound_good (good1 b s), if_neg (by decide), if_neg (by rw [hd]; decide), hb]
  exact (at1 b s).items n _ []
theorem line2 (b : Nat) (s : List UInt8) (n : Int) : line (text2 b s) n = .ok [⟨3, n, 0, [107, 101, 121], false⟩, ⟨4, n, b + 5, s, true⟩] := by
  have hd : docAt (text2 b s) = false := doc_no (c := 107) (r := [101, 121, 58, 32] ++ text1 b s) rfl (by decide)
  have hb : blanks (text2 b s) 0 = 0 := by
    unfold blanks text2
    rw [List.drop_zero]; unfold spaces; rw [List.cons_append]; simp
  have hb4 : blanks (text2 b s) 4 = b + 5 := by
    unfold blanks text2
    show 4 + spaces (32 :: text1 b s) = b + 5
    unfold spaces text1
    rw [if_pos rfl, spaces_rep _ _ (by unfold quoteL spaces; rw [if_neg (by decide)])]; omega
  have hh : behind (text2 b s) 0 = 3 := by
    unfold behind text2
    rw [List.drop_zero]
    show 0 + letters (107 :: 101 :: 121 :: 58 :: 32 :: text1 b s) = 3
    simp [letters, letter]
  have hc : colon (text2 b s) 3 = true := by unfold colon text2; simp
  unfold line
  rw [sound_good (good2 b s), if_neg (by decide), if_neg (by rw [hd]; decide), hb]
  unfold items
  rw [if_neg (by unfold over text2; simp), if_neg (by unfold itemAt text2; simp)]
  unfold keyed
  rw [if_neg (by unfold quoteAt text2; simp)]
  simp only [hh]
  rw [if_pos ⟨by omega, by omega, hc⟩, hb4, (at2 b s).scalar]
  rfl
theorem esc_len : ∀ n : Fin 256, (esc (UInt8.ofNat n.val)).length ≤ 4 := by decide +kernel
theorem quote_len (s : List UInt8) : (quoteL s).length ≤ 4 * s.length + 2 := by
  unfold quoteL
  have : (s.flatMap esc).length ≤ 4 * s.length := by
    induction s with
    | nil => simp
    | cons c s ih =>
      have h := esc_len ⟨c.toNat, c.toNat_lt⟩
      simp only [UInt8.ofNat_toNat] at h
      rw [List.flatMap_cons, List.length_append, List.length_cons]; omega
  simp only [List.length_cons, List.length_append, List.length_nil]; omega
theorem scan_text1 {b : Nat} {s : List UInt8} (hb : b ≤ 200) (hs : s.length ≤ 16000) : scan (text1 b s) = ([⟨4, 1, b, s, true⟩], none) := by
  have h := quote_len s
  exact scan_one (no_ten (good1 b s)) (by unfold text1 quoteL; simp) (by unfold text1; rw [List.length_append, List.length_replicate]; omega) (line1 b s _)
theorem scan_text2 {b : Nat} {s : List UInt8} (hb : b ≤ 200) (hs : s.length ≤ 16000) : scan (text2 b s) = ([⟨3, 1, 0, [107, 101, 121], false⟩, ⟨4, 1, b + 5, s, true⟩], none) := by
  have h := quote_len s
  exact scan_one (no_ten (good2 b s)) (by unfold text2; simp) (by unfold text2 text1; rw [List.length_append, List.length_append, List.length_replicate]; simp only [List.length_cons, List.length_nil]; omega) (line2 b s _)
theorem scalar_lines {l : List UInt8} {n : Int} {i : Nat} {out ts : List Tk} (ho : ∀ t ∈ out, t.line = n) (h : scalar l n i out = .ok ts) : ∀ t ∈ ts, t.line = n := by
  have key : ∀ u : Tk, u.line = n → ∀ t ∈ out ++ [u], t.line = n := fun u hu t ht => by
    rcases List.mem_append.1 ht with h | h
    · exact ho t h
    · rw [List.mem_singleton.1 h]; exact hu
  unfold scalar at h
  split at h
  · cases h; exact ho
  · split at h
    · split at h
      · cases h
      · dsimp only at h
        split at h <;> cases h
        exact key _ rfl
    · split at h <;> cases h
      exact key _ rfl
theorem keyed_lines {l : List UInt8} {n : Int} {i : Nat} {out ts : List Tk} (ho : ∀ t ∈ out, t.line = n) (h : keyed l n i out = .ok ts) : ∀ t ∈ ts, t.line = n := by
  have key : ∀ u : Tk, u.line = n → ∀ t ∈ out ++ [u], t.line = n := fun u hu t ht => by
    rcases List.mem_append.1 ht with h | h
    · exact ho t h
    · rw [List.mem_singleton.1 h]; exact hu
  unfold keyed at h
  split at h
  · split at h
    · cases h
    · split at h
      · exact scalar_lines (key _ rfl) h
      · exact scalar_lines ho h
  · dsimp only at h
    split at h
    · exact scalar_lines (key _ rfl) h
    · exact scalar_lines ho h
theorem items_lines {l : List UInt8} {n : Int} {ts : List Tk} : ∀ (f i : Nat) (out : List Tk), (∀ t ∈ out, t.line = n) → items l n f i out = .ok ts → ∀ t ∈ ts, t.line = n := by
  intro f
  induction f with
  | zero => intro i out ho h; cases h; exact ho
  | succ f ih =>
    intro i out ho h
    unfold items at h
    split at h
    · cases h; exact ho
    · split at h
      · refine ih _ _ (fun t ht => ?_) h
        rcases List.mem_append.1 ht with h | h
        · exact ho t h
        · rw [List.mem_singleton.1 h]
      · exact keyed_lines ho h
theorem line_lines {l : List UInt8} {n : Int} {ts : List Tk} (h : line l n = .ok ts) : ∀ t ∈ ts, t.line = n := by
  unfold line at h
  split at h
  · cases h
  · split at h
    · cases h; intro t ht; rw [List.mem_singleton.1 ht]
    · exact items_lines _ _ _ (fun t h => by cases h) h
/-- May a text stand plain? -/
def plainB (s : List UInt8) : Bool := match line s 1 with
  | .error _ => false
  | .ok [t] => decide (t.kind = 4) && !t.quoted && decide (t.text = s)
  | .ok _ => false
theorem sound_ten {l : List UInt8} (h : sound l = 0) : (10 : UInt8) ∉ l := by
  intro hm
  unfold sound at h
  split at h
  · cases h
  · rw [if_pos (List.any_eq_true.2 ⟨10, hm, by decide⟩)] at h; cases h
theorem scan_plain {s : List UInt8} (h : plainB s = true) (hs : s.length ≤ 16000) : ∃ c, scan s = ([⟨4, 1, c, s, false⟩], none) := by
  unfold plainB at h
  split at h
  · cases h
  · rename_i t hl
    simp only [Bool.and_eq_true, decide_eq_true_eq, Bool.not_eq_true'] at h
    obtain ⟨⟨h1, h2⟩, h3⟩ := h
    have hs0 : sound s = 0 := by
      unfold line at hl
      split at hl
      · cases hl
      · rename_i hx; simpa using hx
    have hne : s ≠ [] := fun e => by rw [e] at hl; cases hl
    have hln : t.line = 1 := line_lines hl t (List.mem_singleton.2 rfl)
    refine ⟨t.col, scan_one (sound_ten hs0) hne (by omega) ?_⟩
    have e : (⟨4, 1, t.col, s, false⟩ : Tk) = t := by
      cases t; simp_all
    rw [e]; exact hl
  · cases h
end Go.Ln
