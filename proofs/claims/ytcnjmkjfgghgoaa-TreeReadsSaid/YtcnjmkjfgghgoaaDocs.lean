/- All documents of some tokens, in plain words. -/
import Derived.Test.YtcnjmkjfgghgoaaIdx
namespace Go.Tr
def segs (cur : List Tok) : List Tok → List (List Tok)
  | [] => if cur.isEmpty then [] else [cur]
  | t :: r => if t.kind = 1 then (if cur.isEmpty then segs [] r else cur :: segs [] r) else segs (cur ++ [t]) r
def docsRun : Nat → List (List Tok) → Except (Nat × Fa) (List T)
  | _, [] => .ok []
  | k, d :: ds => match doc d with
    | .error x => .error (k, x)
    | .ok t => match docsRun (k + 1) ds with
      | .error x => .error x
      | .ok ts => .ok (t :: ts)
def ofRun (l : List Tok) : Except (Nat × Fa) (List T) := docsRun 0 (segs [] l)
theorem segs_cons (cur : List Tok) (t : Tok) (r : List Tok) : segs cur (t :: r) = if t.kind = 1 then (if cur.isEmpty then segs [] r else cur :: segs [] r) else segs (cur ++ [t]) r := rfl
theorem upDoc_cons (t : Tok) (r : List Tok) : upDoc (t :: r) = if t.kind = 1 then 0 else upDoc r + 1 := rfl
theorem segs_upDoc (cur l : List Tok) : segs cur l = (if (cur ++ l.take (upDoc l)).isEmpty then [] else [cur ++ l.take (upDoc l)]) ++ segs [] (l.drop (upDoc l + 1)) := by
  induction l generalizing cur with
  | nil => simp [segs]
  | cons t r ih =>
    rw [segs_cons, upDoc_cons]
    split
    · simp only [List.take_zero, List.append_nil, Nat.zero_add, List.drop_succ_cons, List.drop_zero]
      split <;> simp
    · rw [ih]; simp
theorem segs_zero {l : List Tok} (h : upDoc l = 0) : segs [] l = segs [] (l.drop 1) := by
  rw [segs_upDoc [] l, h]; simp
theorem segs_pos {l : List Tok} (hl : l ≠ []) (h : 0 < upDoc l) : segs [] l = l.take (upDoc l) :: segs [] (l.drop (upDoc l + 1)) := by
  rw [segs_upDoc [] l, if_neg]
  · simp
  · rw [List.nil_append, List.isEmpty_iff, List.take_eq_nil_iff]
    rintro (h1 | h1)
    · omega
    · exact hl h1
/-- What is left of the documents, some being done. -/
def rest (ts : List T) (l : List Tok) : Except (Nat × Fa) (List T) := match docsRun ts.length (segs [] l) with
  | .error x => .error x
  | .ok us => .ok (ts ++ us)
theorem rest_start (l : List Tok) : ofRun l = rest [] l := by
  unfold ofRun rest
  rw [List.length_nil]
  split <;> simp_all
theorem rest_end (ts : List T) : rest ts [] = .ok ts := by simp [rest, segs, docsRun]
theorem rest_skip {l : List Tok} (h : upDoc l = 0) (ts : List T) : rest ts l = rest ts (l.drop (upDoc l + 1)) := by
  unfold rest; rw [segs_zero h, h]
theorem rest_bad {l : List Tok} (hl : l ≠ []) (h : 0 < upDoc l) {x : Fa} (hd : doc (l.take (upDoc l)) = .error x) (ts : List T) : rest ts l = .error (ts.length, x) := by
  unfold rest; rw [segs_pos hl h]; simp only [docsRun, hd]
theorem rest_doc {l : List Tok} (hl : l ≠ []) (h : 0 < upDoc l) {t : T} (hd : doc (l.take (upDoc l)) = .ok t) (ts : List T) : rest ts l = rest (ts ++ [t]) (l.drop (upDoc l + 1)) := by
  unfold rest; rw [segs_pos hl h]; simp only [docsRun, hd, List.length_append, List.length_cons, List.length_nil]
  rcases docsRun (ts.length + 1) (segs [] (l.drop (upDoc l + 1))) with x | us <;> simp
/-! ### faults are faults -/
def Errs (lp : Lp) : Prop := ∀ kind col at' d made acc ln er, lp kind col at' d made acc = .error (ln, er) → er ≠ 0
theorem block_errs {l : List Tok} {lp : Lp} (h : Errs lp) {at' d made : Nat} {key : ByteArray} {t : Tok} (ht : l[at']? = some t) {ln er : Int} (hr : blockW lp l at' d made key = .error (ln, er)) : er ≠ 0 := by
  unfold blockW at hr
  rw [ht] at hr
  simp only at hr
  split at hr
  · cases hr; decide
  · split at hr
    · cases hr
    · split at hr
      · rename_i he; cases hr; exact h _ _ _ _ _ _ _ _ he
      · cases hr
theorem value_errs {l : List Tok} {lp : Lp} (h : Errs lp) {is : Bool} {u : Tok} {at' d made : Nat} {key : ByteArray} {ln er : Int} (hr : valueW lp l is u at' d made key = .error (ln, er)) : er ≠ 0 := by
  unfold valueW at hr
  split at hr
  · rename_i hh
    simp only [Bool.and_eq_true] at hh
    cases hx : l[at']? with
    | none => rw [hx] at hh; exact absurd hh.2 (by decide)
    | some t => exact block_errs h hx hr
  · split at hr
    · cases hr; decide
    · cases hr
theorem loop_errs (l : List Tok) : ∀ f, Errs (loop l f)
  | 0 => by intro kind col at' d made acc ln er h; cases h
  | f + 1 => by
    intro kind col at' d made acc ln er h
    unfold loop at h
    split at h
    · cases h
    · split at h
      · split at h
        · cases h; decide
        · split at h
          · rename_i he; cases h; exact value_errs (loop_errs l f) he
          · exact loop_errs l f _ _ _ _ _ _ _ _ h
      · cases h
theorem doc_errs {l : List Tok} {ln er : Int} (h : doc l = .error (ln, er)) : er ≠ 0 := by
  unfold doc at h
  split at h
  · rename_i hh
    cases hx : l[0]? with
    | none => rw [hx] at hh; exact absurd hh (by decide)
    | some t =>
      split at h
      · rename_i he; cases h; exact block_errs (loop_errs l _) hx he
      · split at h
        · cases h; decide
        · cases h
  · cases h; decide
end Go.Tr
