/- For any list of tokens and any two numbers the law TreeMoves answers true and leaves its arguments as they were. No condition. -/
import Derived.Test.YtcnjmkjfgghgoaaZt27
import Derived.Test.YtcnjmkjfgghgoaaZt13
import Derived.Test.YtcnjmkjfgghgoaaZt26
import Derived.Test.YtcnjmkjfgghgoaaZt12
import Derived.Test.YtcnjmkjfgghgoaaZt34
import Derived.Test.YtcnjmkjfgghgoaaZt36
import Derived.Test.YtcnjmkjfgghgoaaZt9
import Derived.HandedShaped
import Derived.Shelf.Vars
section
/- Tokens moved: the trees are the same ones, moved. No program in sight. -/
namespace Go.Tr
open Go.RowKit
set_option linter.unusedVariables false
def mv (c d : Int) (t : Tok) : Tok := { t with col := t.col + c, line := t.line + d }
mutual
def lowT (d : Int) : T → T
  | .node k key tx q ln ks => .node k key tx q (ln + d) (lowL d ks)
def lowL (d : Int) : List T → List T
  | [] => []
  | t :: ts => lowT d t :: lowL d ts
end
theorem lowL_map (d : Int) (ts : List T) : lowL d ts = ts.map (lowT d) := by
  induction ts with
  | nil => rfl
  | cons t ts ih => simp only [lowL, List.map_cons, ih]
mutual
theorem lowT_size (d : Int) : ∀ t : T, (lowT d t).size = t.size
  | .node k key tx q ln ks => by simp only [lowT, T.size, lowL_sizes d ks]
theorem lowL_sizes (d : Int) : ∀ ts : List T, sizes (lowL d ts) = sizes ts
  | [] => rfl
  | t :: ts => by simp only [lowL, sizes, lowT_size d t, lowL_sizes d ts]
end
theorem lowT_key (d : Int) : ∀ t : T, (lowT d t).key = t.key
  | .node k key tx q ln ks => rfl
def lowN (d : Int) (n : Nd) : Nd := { n with line := n.line + d }
theorem kidAts_low (d : Int) (b : Nat) (ts : List T) : kidAts b (lowL d ts) = kidAts b ts := by
  induction ts generalizing b with
  | nil => rfl
  | cons t ts ih => simp only [lowL, kidAts, lowT_size, ih]
mutual
theorem lay_low (d : Int) : ∀ (b : Nat) (t : T), lay b (lowT d t) = (lay b t).map (lowN d)
  | b, .node k key tx q ln ks => by
    simp only [lowT, lay, List.map_cons, lowN, kidAts_low]
    rw [lays_low d (b + 1) ks]
theorem lays_low (d : Int) : ∀ (b : Nat) (ts : List T), lays b (lowL d ts) = (lays b ts).map (lowN d)
  | _, [] => rfl
  | b, t :: ts => by
    simp only [lowL, lays, List.map_append, lowT_size]
    rw [lay_low d b t, lays_low d (b + t.size) ts]
end
def mvR {α : Type} (d : Int) (f : α → α) : Res α → Res α
  | .error e => .error (e.1 + d, e.2)
  | .ok (x, a, m) => .ok (f x, a, m)
theorem mv_get (c d : Int) (l : List Tok) (i : Nat) : (l.map (mv c d))[i]? = (l[i]?).map (mv c d) := List.getElem?_map
theorem has_mv (c d : Int) (l : List Tok) (i : Nat) : has (((l.map (mv c d))[i]?).getD zero) = has ((l[i]?).getD zero) := by
  rw [mv_get]
  cases l[i]? <;> rfl
theorem isVal_mv (c d : Int) (kind : Int) (u n : Tok) : isVal kind (mv c d u) (mv c d n) = isVal kind u n := by
  have e1 : decide ((mv c d n).line = (mv c d u).line) = decide (n.line = u.line) := by
    apply decide_eq_decide.2; simp only [mv]; omega
  have e2 : decide ((mv c d u).col < (mv c d n).col) = decide (u.col < n.col) := by
    apply decide_eq_decide.2; simp only [mv]; omega
  have e3 : decide ((mv c d n).col = (mv c d u).col) = decide (n.col = u.col) := by
    apply decide_eq_decide.2; simp only [mv]; omega
  unfold isVal
  rw [e1, e2, e3]
  rfl
def Moves (c d : Int) (l : List Tok) (f : Nat) : Prop := ∀ (kind col : Int) (at' dp made : Nat) (acc : List T), loop (l.map (mv c d)) f kind (col + c) at' dp made (acc.map (lowT d)) = mvR d (List.map (lowT d)) (loop l f kind col at' dp made acc)
theorem block_mv {c d : Int} {l : List Tok} {f : Nat} (ih : Moves c d l f) {at' dp made : Nat} {key : ByteArray} (hh : has ((l[at']?).getD zero) = true) : blockW (loop (l.map (mv c d)) f) (l.map (mv c d)) at' dp made key = mvR d (lowT d) (blockW (loop l f) l at' dp made key) := by
  obtain ⟨t, ht⟩ := has_some hh
  unfold blockW
  rw [mv_get, ht]
  dsimp only [Option.map_some]
  by_cases hf : full dp made = true
  · rw [if_pos hf, if_pos hf]; rfl
  · rw [if_neg hf, if_neg hf]
    have ek : (mv c d t).kind = t.kind := rfl
    rw [ek]
    by_cases h4 : t.kind = 4
    · rw [if_pos h4, if_pos h4]; rfl
    · rw [if_neg h4, if_neg h4]
      have h := ih t.kind t.col at' dp (made + 1) []
      have ec : (mv c d t).col = t.col + c := rfl
      rw [ec]
      rw [List.map_nil] at h
      rw [h]
      cases loop l f t.kind t.col at' dp (made + 1) [] with
      | error e => rfl
      | ok x =>
        obtain ⟨ks, a, m⟩ := x
        simp only [mvR, lowT, lowL_map]
        rfl
theorem value_mv {c d : Int} {l : List Tok} {f : Nat} (ih : Moves c d l f) {is : Bool} {u : Tok} {at' dp made : Nat} {key : ByteArray} : valueW (loop (l.map (mv c d)) f) (l.map (mv c d)) is (mv c d u) at' dp made key = mvR d (lowT d) (valueW (loop l f) l is u at' dp made key) := by
  unfold valueW
  rw [has_mv]
  by_cases h : (is && has ((l[at']?).getD zero)) = true
  · rw [if_pos h, if_pos h]
    rw [Bool.and_eq_true] at h
    exact block_mv ih h.2
  · rw [if_neg h, if_neg h]
    by_cases hf : full dp made = true
    · rw [if_pos hf, if_pos hf]; rfl
    · rw [if_neg hf, if_neg hf]; rfl
/-- Where no token follows it does not matter whether it would be a value. -/
theorem value_none {lp : Lp} {l : List Tok} {is is' : Bool} {u : Tok} {at' dp made : Nat} {key : ByteArray} (h : l[at']? = none) : valueW lp l is u at' dp made key = valueW lp l is' u at' dp made key := by
  unfold valueW
  rw [h]
  have : has ((none : Option Tok).getD zero) = false := by decide
  rw [this, Bool.and_false, Bool.and_false]
theorem loop_mv (c d : Int) (l : List Tok) : ∀ f, Moves c d l f := by
  intro f
  induction f with
  | zero => intro kind col at' dp made acc; rfl
  | succ f ih =>
    intro kind col at' dp made acc
    unfold loop
    rw [mv_get]
    cases hu : l[at']? with
    | none => rfl
    | some u =>
      dsimp only [Option.map_some]
      have ek : (mv c d u).kind = u.kind := rfl
      have ec : ((mv c d u).col = col + c) ↔ u.col = col := by show u.col + c = col + c ↔ _; omega
      have et : (mv c d u).text = u.text := rfl
      rw [ek]
      by_cases hk : u.kind = kind ∧ u.col = col
      · rw [if_pos hk, if_pos ⟨hk.1, ec.2 hk.2⟩]
        have ea : ((acc.map (lowT d)).any fun k => decide (k.key = (mv c d u).text)) = (acc.any fun k => decide (k.key = u.text)) := by
          rw [List.any_map]
          congr 1
          funext k
          simp only [Function.comp, lowT_key, et]
        rw [ea]
        by_cases h3 : kind = 3 ∧ (acc.any fun k => decide (k.key = u.text)) = true
        · rw [if_pos h3, if_pos h3]; rfl
        · rw [if_neg h3, if_neg h3]
          have hv : valueW (loop (l.map (mv c d)) f) (l.map (mv c d)) (isVal kind (mv c d u) (((l.map (mv c d))[at' + 1]?).getD zero)) (mv c d u) (at' + 1) (dp + 1) made (if kind = 3 then (mv c d u).text else ⟨#[]⟩) = mvR d (lowT d) (valueW (loop l f) l (isVal kind u ((l[at' + 1]?).getD zero)) u (at' + 1) (dp + 1) made (if kind = 3 then u.text else ⟨#[]⟩)) := by
            rw [et, mv_get]
            cases hn : l[at' + 1]? with
            | none =>
              rw [value_none (is' := isVal kind u zero) (by rw [mv_get, hn]; rfl)]
              exact value_mv ih
            | some n =>
              simp only [Option.map_some, Option.getD_some]
              rw [isVal_mv]
              exact value_mv ih
          rw [hv]
          cases valueW (loop l f) l (isVal kind u ((l[at' + 1]?).getD zero)) u (at' + 1) (dp + 1) made (if kind = 3 then u.text else ⟨#[]⟩) with
          | error e => rfl
          | ok x =>
            obtain ⟨v, a, m⟩ := x
            simp only [mvR]
            have h := ih kind col a dp m (acc ++ [v])
            rw [List.map_append] at h
            exact h
      · rw [if_neg hk, if_neg (fun h => hk ⟨h.1, ec.1 h.2⟩)]; rfl
def mvD (d : Int) : Except Fa T → Except Fa T
  | .error e => .error (e.1 + d, e.2)
  | .ok t => .ok (lowT d t)
theorem doc_mv (c d : Int) {l : List Tok} (hne : l ≠ []) : doc (l.map (mv c d)) = mvD d (doc l) := by
  obtain ⟨a, r, rfl⟩ := List.exists_cons_of_ne_nil hne
  unfold doc
  rw [has_mv, List.length_map]
  by_cases hh : has ((((a :: r) : List Tok)[0]?).getD zero) = true
  · rw [if_pos hh, if_pos hh, block_mv (loop_mv c d _ _) hh]
    cases blockW (loop (a :: r) (a :: r).length) (a :: r) 0 1 0 ⟨#[]⟩ with
    | error e => rfl
    | ok x =>
      obtain ⟨t, at2, m⟩ := x
      simp only [mvR]
      rw [mv_get]
      cases ((a :: r) : List Tok)[at2]? <;> rfl
  · rw [if_neg hh, if_neg hh]; rfl
theorem segs_mv (c d : Int) : ∀ (l cur : List Tok), segs (cur.map (mv c d)) (l.map (mv c d)) = (segs cur l).map (List.map (mv c d))
  | [], cur => by
    unfold segs
    cases cur <;> rfl
  | t :: r, cur => by
    rw [List.map_cons, segs_cons, segs_cons]
    have ek : (mv c d t).kind = t.kind := rfl
    rw [ek]
    split
    · have h := segs_mv c d r []
      rw [List.map_nil] at h
      rw [h]
      cases cur <;> rfl
    · have h := segs_mv c d r (cur ++ [t])
      rw [List.map_append] at h
      exact h
def mvO (d : Int) (i : Nat) : Except (Nat × Fa) (List T) → Except (Nat × Fa) (List T)
  | .error e => .error (e.1 + i, e.2.1 + d, e.2.2)
  | .ok ts => .ok (ts.map (lowT d))
theorem docsRun_mv (c d : Int) (i : Nat) : ∀ (ds : List (List Tok)) (k : Nat), (∀ x ∈ ds, x ≠ []) → docsRun (k + i) (ds.map (List.map (mv c d))) = mvO d i (docsRun k ds)
  | [], k, _ => rfl
  | x :: ds, k, h => by
    simp only [List.map_cons, docsRun]
    rw [doc_mv c d (h x List.mem_cons_self), show k + i + 1 = (k + 1) + i by omega, docsRun_mv c d i ds (k + 1) (fun y hy => h y (List.mem_cons_of_mem _ hy))]
    cases doc x with
    | error e => rfl
    | ok t =>
      simp only [mvD]
      cases docsRun (k + 1) ds with
      | error e => rfl
      | ok ts => rfl
theorem ofRun_mv (c d : Int) (l : List Tok) : ofRun (l.map (mv c d)) = mvO d 0 (ofRun l) := by
  unfold ofRun
  have h := segs_mv c d l []
  rw [List.map_nil] at h
  rw [h]
  exact docsRun_mv c d 0 _ 0 (fun x hx => (segs_mem l [] x hx).1)
def xTok : Tok := ⟨4, 1, 0, ⟨#[120]⟩, false⟩
def dTok : Tok := ⟨1, 2, 0, ⟨#[]⟩, false⟩
def xT : T := .node 1 ⟨#[]⟩ ⟨#[120]⟩ false 1 []
theorem ofRun_ahead (c d : Int) (l : List Tok) : ofRun (xTok :: dTok :: l.map (mv c d)) = match mvO d 1 (ofRun l) with
    | .error e => .error e
    | .ok ts => .ok (xT :: ts) := by
  unfold ofRun
  have h1 : segs [] (xTok :: dTok :: l.map (mv c d)) = [xTok] :: segs [] (l.map (mv c d)) := rfl
  have h := segs_mv c d l []
  rw [List.map_nil] at h
  rw [h1, h]
  simp only [docsRun]
  have hx : doc [xTok] = .ok xT := rfl
  rw [hx]
  have h2 := docsRun_mv c d 1 (segs [] l) 0 (fun x hx => (segs_mem l [] x hx).1)
  rw [Nat.zero_add] at h2
  simp only
  rw [show 0 + 1 = 1 from rfl, h2]
  cases mvO d 1 (docsRun 0 (segs [] l)) <;> rfl
/-! ### whose lines a tree's nodes have -/
mutual
def linT (P : Int → Prop) : T → Prop
  | .node _ _ _ _ ln ks => P ln ∧ linL P ks
def linL (P : Int → Prop) : List T → Prop
  | [] => True
  | t :: ts => linT P t ∧ linL P ts
end
theorem linL_append {P : Int → Prop} {a b : List T} : linL P (a ++ b) ↔ linL P a ∧ linL P b := by
  induction a with
  | nil => simp [linL]
  | cons t ts ih => simp only [List.cons_append, linL, ih, and_assoc]
mutual
theorem lin_lay {P : Int → Prop} : ∀ (b : Nat) (t : T), linT P t → ∀ n ∈ lay b t, P n.line
  | b, .node k key tx q ln ks, h, n, hn => by
    simp only [linT] at h
    simp only [lay, List.mem_cons] at hn
    rcases hn with rfl | hn
    · exact h.1
    · exact lin_lays (b + 1) ks h.2 n hn
theorem lin_lays {P : Int → Prop} : ∀ (b : Nat) (ts : List T), linL P ts → ∀ n ∈ lays b ts, P n.line
  | b, [], _, n, hn => by cases hn
  | b, t :: ts, h, n, hn => by
    simp only [linL] at h
    simp only [lays, List.mem_append] at hn
    rcases hn with hn | hn
    · exact lin_lay b t h.1 n hn
    · exact lin_lays (b + t.size) ts h.2 n hn
end
def Lins (P : Int → Prop) (l : List Tok) (f : Nat) : Prop := ∀ (kind col : Int) (at' d made : Nat) (acc ks : List T) (at2 made2 : Nat), linL P acc → loop l f kind col at' d made acc = .ok (ks, at2, made2) → linL P ks
theorem block_lin {P : Int → Prop} {l : List Tok} {f : Nat} (hP : ∀ t ∈ l, P t.line) (ih : Lins P l f) {at' d made : Nat} {key : ByteArray} {v : T} {at2 made2 : Nat} (hr : blockW (loop l f) l at' d made key = .ok (v, at2, made2)) : linT P v := by
  unfold blockW at hr
  split at hr
  · cases hr
  · rename_i t ht
    have hl := hP t (List.mem_of_getElem? ht)
    split at hr
    · cases hr
    · split at hr
      · cases hr; exact ⟨hl, trivial⟩
      · split at hr
        · cases hr
        · rename_i ks a2 m2 he
          cases hr
          exact ⟨hl, ih _ _ _ _ _ [] _ _ _ (by simp only [linL]) he⟩
theorem value_lin {P : Int → Prop} {l : List Tok} {f : Nat} (hP : ∀ t ∈ l, P t.line) (ih : Lins P l f) {is : Bool} {u : Tok} (hu : u ∈ l) {at' d made : Nat} {key : ByteArray} {v : T} {at2 made2 : Nat} (hr : valueW (loop l f) l is u at' d made key = .ok (v, at2, made2)) : linT P v := by
  unfold valueW at hr
  split at hr
  · exact block_lin hP ih hr
  · split at hr
    · cases hr
    · cases hr; exact ⟨hP u hu, trivial⟩
theorem loop_lin {P : Int → Prop} {l : List Tok} (hP : ∀ t ∈ l, P t.line) : ∀ f, Lins P l f := by
  intro f
  induction f with
  | zero => intro kind col at' d made acc ks at2 made2 ha h; cases h; exact ha
  | succ f ih =>
    intro kind col at' d made acc ks at2 made2 ha h
    unfold loop at h
    split at h
    · cases h; exact ha
    · rename_i u hu
      split at h
      · split at h
        · cases h
        · split at h
          · cases h
          · rename_i v a2 m2 hv
            exact ih _ _ _ _ _ _ _ _ _ (linL_append.2 ⟨ha, by simp only [linL]; exact ⟨value_lin hP ih (List.mem_of_getElem? hu) hv, trivial⟩⟩) h
      · cases h; exact ha
theorem doc_lin {P : Int → Prop} {l : List Tok} (hP : ∀ t ∈ l, P t.line) {t : T} (h : doc l = .ok t) : linT P t := by
  unfold doc at h
  split at h
  · split at h
    · cases h
    · rename_i v at2 m2 he
      split at h
      · cases h
      · cases h; exact block_lin hP (loop_lin hP _) he
  · cases h
theorem of_lin {P : Int → Prop} {l : List Tok} (hP : ∀ t ∈ l, P t.line) {ts : List T} (h : ofRun l = .ok ts) : ∀ t ∈ ts, linT P t := by
  obtain ⟨h1, h2⟩ := docsRun_at h
  intro t ht
  obtain ⟨i, hi⟩ := List.mem_iff_getElem?.1 ht
  have hl := (List.getElem?_eq_some_iff.1 hi).1
  rw [h1] at hl
  obtain ⟨t', e1, e2⟩ := h2 i _ (List.getElem?_eq_getElem hl)
  rw [hi] at e1
  cases e1
  refine doc_lin (fun u hu => ?_) e2
  have hm := (segs_mem l [] _ (List.getElem_mem hl)).2 u hu
  rcases hm with h3 | h3
  · cases h3
  · exact hP u h3
end Go.Tr
end

section
/- round, moved, lower: walked. -/
namespace Go.Proofs.Ytcnjmkjfgghgoaa
open Go.RowKit Go.Mp Go.Tr
set_option linter.unusedVariables false
set_option maxRecDepth 100000
set_option maxHeartbeats 4000000
theorem round_any (w : World) (x : Int) (h1 : -9223372036854775808 ≤ x) (h2 : x ≤ 9223372036854775807) : Calls Try.prog 24 #[.int .i64 x, .int .i64 1000] w fun e w' => (∃ k : Nat, k < 1000 ∧ e = .returned (.int .i64 k)) ∧ w' = w := by
  have hr : -1000 < Int.tmod x 1000 ∧ Int.tmod x 1000 < 1000 := by
    have := Int.tmod_lt_of_pos x (show (0 : Int) < 1000 by decide)
    have h3 := Int.lt_tmod_of_pos x (show (0 : Int) < 1000 by decide)
    omega
  replace h1 := Lib.hid h1
  replace h2 := Lib.hid h2
  go_enter Try.func24, Try.ntmps24
  by_cases hn : Int.tmod x 1000 < 0
  · have hs : wrap64 (Int.tmod x 1000 + 1000) = Int.tmod x 1000 + 1000 := by unfold wrap64; omega
    replace hr := Lib.hid hr
    replace hs := Lib.hid hs
    go_wp2
    go_ret
    refine ⟨⟨(Int.tmod x 1000 + 1000).toNat, by have := hr.out; omega, ?_⟩, rfl⟩
    have e : (((Int.tmod x 1000 + 1000).toNat : Nat) : Int) = Int.tmod x 1000 + 1000 := by have := hr.out; omega
    rw [e]; exact congrArg (fun z => Ending.returned (Value.int .i64 z)) hs.out
  · have hn' : decide (Int.tmod x 1000 < 0) = false := decide_eq_false hn
    have hn2 : 0 ≤ Int.tmod x 1000 := by omega
    replace hr := Lib.hid hr
    replace hn := Lib.hid hn
    go_wp2
    go_ret
    refine ⟨⟨(Int.tmod x 1000).toNat, by have := hr.out; omega, ?_⟩, rfl⟩
    have e : (((Int.tmod x 1000).toNat : Nat) : Int) = Int.tmod x 1000 := by omega
    rw [e]; rfl
/-- A row of tokens, as tokens that are lent. -/
theorem rowToks {w : World} {B n : Nat} {v : Value} {l : List Tok} (h : w.ownsRow B 48 5 v n (tcs l)) (hn : n = l.length) : ∃ kb, TokS w kb v l ∧ (kb < w.heap.size ∨ l = []) ∧ (l ≠ [] → B ≤ kb) := by
  subst hn
  obtain ⟨ao, cap, rfl⟩ := ownsRow_shape h
  cases l with
  | nil => exact ⟨0, ⟨ao, cap, rfl, fun i t ht => by cases ht⟩, .inr rfl, fun h => absurd rfl h⟩
  | cons a r =>
    obtain ⟨g, rfl, _, _, _, _⟩ := ownsRow_cell h (j := 0 * 5 + 0) (u := .int .i64 a.kind) (by rw [tcs_at (t := a) rfl 0 (by omega)]; rfl)
    refine ⟨g, ⟨_, cap, rfl, fun i t ht => ⟨0, rfl, ?_⟩⟩, .inl (ownsRow_ge h rfl).2, fun _ => (ownsRow_ge h rfl).1⟩
    have key : ∀ (j : Nat) (u : Value), j < 5 → (tc t)[j]? = some u → w.cell? ⟨g, 0 + i * 5 + j, none⟩ = some u := fun j u hj hu => by
      obtain ⟨g', e, _, _, c, _⟩ := ownsRow_cell h (j := i * 5 + j) (u := u) (by rw [tcs_at ht j hj, hu])
      cases e
      rw [Nat.zero_add]; exact c
    exact ⟨key 0 _ (by omega) rfl, key 1 _ (by omega) rfl, key 2 _ (by omega) rfl, key 3 _ (by omega) rfl, key 4 _ (by omega) rfl⟩
theorem info48t : (Try.prog.info? 48).map (fun i => (i.zero, i.size, i.bytes)) = some (some (.agg #[.int .i64 0, .int .i64 0, .int .i64 0, .string ⟨#[]⟩, .bool false]), 5, 48) := by kernel_rfl
def InRange (l : List Tok) : Prop := ∀ t ∈ l, 0 ≤ t.col ∧ t.col ≤ 1048576 ∧ 0 ≤ t.line ∧ t.line ≤ 1048576
def movL (c d : Int) (ahead : Bool) (l : List Tok) : List Tok := (if ahead then [xTok, dTok] else []) ++ l.map (mv c d)
theorem tk5 {w : World} {c : Nat} {t : Tok} {e : TypeId} (h : w.heap[c]? = some (tokO t e)) : w.cell? ⟨c, 0, none⟩ = some (.int .i64 t.kind) ∧ w.cell? ⟨c, 1, none⟩ = some (.int .i64 t.line) ∧ w.cell? ⟨c, 2, none⟩ = some (.int .i64 t.col) ∧ w.cell? ⟨c, 3, none⟩ = some (.string t.text) ∧ w.cell? ⟨c, 4, none⟩ = some (.bool t.quoted) ∧ w.frozen? ⟨c, 1, none⟩ = false ∧ w.frozen? ⟨c, 2, none⟩ = false :=
  ⟨(cell_of_row _ _ 0 _ _ _ h).trans rfl, (cell_of_row _ _ 1 _ _ _ h).trans rfl, (cell_of_row _ _ 2 _ _ _ h).trans rfl, (cell_of_row _ _ 3 _ _ _ h).trans rfl, (cell_of_row _ _ 4 _ _ _ h).trans rfl, frozen_of_row _ _ _ _ _ h, frozen_of_row _ _ _ _ _ h⟩
theorem moved_any {w : World} {kb : Nat} {lv : Value} {l : List Tok} {c d : Nat} (ahead : Bool) (tk : TokS w kb lv l) (hk : kb < w.heap.size ∨ l = []) (hll : l.length < 2932031007320) (hr : InRange l) (hc : c < 1000) (hd : d < 1000) :
    Calls Try.prog 25 #[lv, .int .i64 c, .int .i64 d, .bool ahead] w fun e w' => ∃ v', e = .returned v' ∧ w'.ownsRow w.heap.size 48 5 v' (movL c d ahead l).length (tcs (movL c d ahead l)) ∧ Tch No w w' := by
  obtain ⟨ao, cp, rfl, _⟩ := id tk
  obtain ⟨i0, hi, hz0, hz1, hz2⟩ := info_parts info48t
  obtain ⟨pre, hpre⟩ : ∃ pre, pre = (if ahead then [xTok, dTok] else []) := ⟨_, rfl⟩
  have hpl : pre.length ≤ 2 := by rw [hpre]; cases ahead <;> simp
  have hml : movL c d ahead l = pre ++ l.map (mv c d) := by rw [hpre]; rfl
  rw [hml]
  cases ahead with
  | false =>
    have hp0 : pre = [] := hpre
    replace hi := Lib.hid hi
    replace hz0 := Lib.hid hz0
    replace hz1 := Lib.hid hz1
    replace hz2 := Lib.hid hz2
    replace tk := Lib.hid tk
    replace hk := Lib.hid hk
    replace hll := Lib.hid hll
    replace hr := Lib.hid hr
    replace hc := Lib.hid hc
    replace hd := Lib.hid hd
    replace hpre := Lib.hid hpre
    replace hpl := Lib.hid hpl
    replace hml := Lib.hid hml
    replace hp0 := Lib.hid hp0
    go_enter Try.func25, Try.ntmps25
    go_wp2
    go_loopg [9, 10] (l.length + 1) (fun gg ov iv wr => ∃ i : Nat, gg = l.length - i + 1 ∧ iv = .int .i64 i ∧ i ≤ l.length ∧ Hid (wr.ownsRow w.heap.size 48 5 ov (pre.length + i) (tcs (pre ++ (l.take i).map (mv c d)))) ∧ Tch No w wr)
    case atStart => exact ⟨0, rfl, rfl, Nat.zero_le _, Lib.hid (by rw [hp0.out]; exact World.ownsRow_nil _ _ _ _), Tch.refl _ _⟩
    case round =>
      obtain ⟨i, rfl, rfl, hil, hrow, tr⟩ := hrel
      obtain ⟨oo, oc, rfl⟩ := ownsRow_shape hrow.out
      by_cases hlt : i < l.length
      · have k0 := nn_lt hlt
        obtain ⟨t, ht⟩ : ∃ t, l[i]? = some t := ⟨_, List.getElem?_eq_getElem hlt⟩
        have hts : pre ++ (l.take (i + 1)).map (mv c d) = (pre ++ (l.take i).map (mv c d)) ++ [mv c d t] := by
          obtain ⟨q1, q2⟩ := List.getElem?_eq_some_iff.1 ht
          rw [List.take_succ_eq_append_getElem q1, q2, List.map_append, List.append_assoc]; rfl
        obtain ⟨b1, b2, b3, b4⟩ := hr.out t (List.mem_of_getElem? ht)
        have hkw : kb < w.heap.size := by rcases hk.out with h | h; exact h; rw [h] at ht; simp at ht
        obtain ⟨off, rfl, _, d0, d1, d2, d3, d4⟩ := (tk.out.keep (tr.block kb hkw id)).at ht
        obtain ⟨tk0, tln, tcl, ttx, tqd⟩ := t
        dsimp only at b1 b2 b3 b4 d0 d1 d2 d3 d4
        obtain ⟨nc', hnc⟩ : ∃ x, x = tcl + (c : Int) := ⟨_, rfl⟩
        obtain ⟨nl', hnl⟩ : ∃ x, x = tln + (d : Int) := ⟨_, rfl⟩
        have hw1 : wrap64 (tcl + (c : Int)) = nc' := by have := hc.out; rw [hnc]; unfold wrap64; omega
        have hw2 : wrap64 (tln + (d : Int)) = nl' := by have := hd.out; rw [hnl]; unfold wrap64; omega
        have hmv : mv c d ⟨tk0, tln, tcl, ttx, tqd⟩ = ⟨tk0, nl', nc', ttx, tqd⟩ := by rw [hnc, hnl]; rfl
        rw [hmv] at hts
        obtain ⟨w1, hw⟩ : ∃ w1, w1 = wr.alloc (tokO ⟨tk0, tln, tcl, ttx, tqd⟩ 48) := ⟨_, rfl⟩
        have t1 : Tch No wr w1 := by rw [hw]; exact Tch.alloc No wr _
        obtain ⟨c1, hc1⟩ : ∃ c1, c1 = wr.heap.size := ⟨_, rfl⟩
        have g1 : w1.heap[c1]? = some (tokO ⟨tk0, tln, tcl, ttx, tqd⟩ 48) := by rw [hw, hc1]; exact heap_alloc_new wr _
        obtain ⟨_, _, x2, _, _, _, f2⟩ := tk5 g1
        obtain ⟨w2, hw2e⟩ : ∃ w2, w2 = w1.setCell ⟨c1, 2, none⟩ (.int .i64 nc') := ⟨_, rfl⟩
        have g2 : w2.heap[c1]? = some (tokO ⟨tk0, tln, nc', ttx, tqd⟩ 48) := by rw [hw2e]; simp [World.setCell, Array.getElem?_modify, g1]
        obtain ⟨_, y1, _, _, _, e1, _⟩ := tk5 g2
        obtain ⟨w3, hw3e⟩ : ∃ w3, w3 = w2.setCell ⟨c1, 1, none⟩ (.int .i64 nl') := ⟨_, rfl⟩
        have g3 : w3.heap[c1]? = some (tokO ⟨tk0, nl', nc', ttx, tqd⟩ 48) := by rw [hw3e]; simp [World.setCell, Array.getElem?_modify, g2]
        obtain ⟨z0, z1, z2, z3, z4, _, _⟩ := tk5 g3
        have t13 : Tch (fun k => k = c1) w1 w3 := by
          rw [hw3e, hw2e]
          exact (Tch.setCell (S := fun k => k = c1) w1 (p := ⟨c1, 2, none⟩) rfl _).trans (Tch.setCell (S := fun k => k = c1) _ (p := ⟨c1, 1, none⟩) rfl _) (fun _ h => .inl h)
        have hcB : w.heap.size ≤ c1 := by rw [hc1]; exact tr.size
        have tr3 : Tch No w w3 := (tr.trans t1 (fun _ h => h.elim)).trans t13 (fun k hk => .inr (by rw [hk]; exact hcB))
        have hne : (Value.slice oo (pre.length + i) oc).ownBlock ≠ some c1 := fun e => by
          have := (ownsRow_ge hrow.out e).2
          omega
        have hrow3 := ownsRow_tch (ownsRow_tch hrow.out t1 (fun _ _ h => h)) t13 (fun b hb e => hne (e ▸ hb))
        have hwk := Lib.hid (nn_succ hlt (by have := hll.out; omega))
        replace hts := Lib.hid hts
        replace ht := Lib.hid ht
        replace b1 := Lib.hid b1
        replace b2 := Lib.hid b2
        replace b3 := Lib.hid b3
        replace b4 := Lib.hid b4
        replace hkw := Lib.hid hkw
        replace tr := Lib.hid tr
        replace t1 := Lib.hid t1
        replace g1 := Lib.hid g1
        replace hw := Lib.hid hw
        replace g2 := Lib.hid g2
        replace hw2e := Lib.hid hw2e
        replace g3 := Lib.hid g3
        replace hw3e := Lib.hid hw3e
        replace t13 := Lib.hid t13
        replace hcB := Lib.hid hcB
        replace tr3 := Lib.hid tr3
        replace hne := Lib.hid hne
        replace hrow3 := Lib.hid hrow3
        replace hnc := Lib.hid hnc
        replace hnl := Lib.hid hnl
        replace hmv := Lib.hid hmv
        replace hil := Lib.hid hil
        replace hc1 := Lib.hid hc1
        go_upto_region 8 with fail
        rw [show (wr.alloc (.cells #[.int .i64 tk0, .int .i64 tln, .int .i64 tcl, .string ttx, .bool tqd] 48)) = w1 from hw.out.symm, ← hc1.out]
        go_upto_region 9 with fail
        rw [← hw2e.out]
        clear x2 f2
        go_upto_region 10 with fail
        rw [← hw3e.out]
        clear y1 e1
        go_upto_region 6 with (first
          | (at_builtin; refine wp_append_us rfl _ _ 22 (by rfl) w.heap.size 48 i0 (.agg #[.int .i64 0, .int .i64 0, .int .i64 0, .string ⟨#[]⟩, .bool false]) 5 48 Try.underlying22 hi.out hz0.out hz1.out hz2.out rfl (by decide) _ (pre.length + i) _ (by rfl) hrow3.out 1 (by rfl) rfl (by simp [Value.oneCell']) (by have := hll.out; have := hpl.out; unfold maxLen; omega) (by have := hll.out; have := hpl.out; omega) tr3.out.size ?_; intro v7 w7 hr7 hg7 hl7; obtain ⟨po, pc, rfl⟩ := ownsRow_shape hr7; replace hr7 := Lib.hid hr7; replace hg7 := Lib.hid hg7; replace hl7 := Lib.hid hl7)
          | fail)
        have t7 : Tch No w w7 := tr3.out.trans (Tch.grown (S := fun k => (Value.slice oo (pre.length + i) oc).ownBlock = some k) hg7.out (fun k hk => .inl hk)) (fun k hk => .inr (ownsRow_ge hrow3.out hk).1)
        have hr8 : w7.ownsRow w.heap.size 48 5 (.slice po (pre.length + i + 1) pc) (pre.length + (i + 1)) (tcs (pre ++ (l.take (i + 1)).map (mv c d))) := by
          rw [hts.out, tcs_snoc]; exact hr7.out
        replace t7 := Lib.hid t7
        replace hr8 := Lib.hid hr8
        go_wp2
        go_roundg (l.length - (i + 1) + 1)
        case rel => exact ⟨i + 1, rfl, by rw [hwk.out], hlt, hr8, t7.out⟩
        case measure => exact nn_down2 hlt
      · have k0 := nn_ge hlt
        have k1 : decide (i < l.length) = false := decide_eq_false hlt
        have hin : i = l.length := by omega
        subst hin
        replace tr := Lib.hid tr
        replace hil := Lib.hid hil
        replace hlt := Lib.hid hlt
        go_wp2
        go_ret
        refine ⟨_, rfl, ?_, tr.out⟩
        have h := hrow.out
        rw [List.take_length] at h
        rw [List.length_append, List.length_map]
        exact h
  | true =>
    have hp0 : pre = [xTok, dTok] := hpre
    replace hi := Lib.hid hi
    replace hz0 := Lib.hid hz0
    replace hz1 := Lib.hid hz1
    replace hz2 := Lib.hid hz2
    replace tk := Lib.hid tk
    replace hk := Lib.hid hk
    replace hll := Lib.hid hll
    replace hr := Lib.hid hr
    replace hc := Lib.hid hc
    replace hd := Lib.hid hd
    replace hpre := Lib.hid hpre
    replace hpl := Lib.hid hpl
    replace hml := Lib.hid hml
    replace hp0 := Lib.hid hp0
    go_enter Try.func25, Try.ntmps25
    go_upto_region 4 with (first
      | (at_builtin; refine wpList_append_own_at _ rfl _ _ 22 (by rfl) w.heap.size 48 i0 (.agg #[.int .i64 0, .int .i64 0, .int .i64 0, .string ⟨#[]⟩, .bool false]) 5 48 Try.underlying22 hi.out hz0.out hz1.out hz2.out rfl (by decide) _ 0 [] (by rfl) (World.ownsRow_nil _ _ _ _) ⟨w.heap.size, 0, none⟩ 2 2 (tcs [xTok, dTok]) (by rfl) rfl (new_cells w (tcs [xTok, dTok]) 48) (by simp [tcs, tc, Value.oneCell']) (by unfold maxLen; omega) (by omega) (by simp) ?_; intro v7 w7 hr7 hg7 hn7 hl7; obtain ⟨po, pc, rfl⟩ := ownsRow_shape hr7; replace hr7 := Lib.hid hr7; replace hg7 := Lib.hid hg7; replace hl7 := Lib.hid hl7; clear hn7)
      | fail)
    have t7 : Tch No w w7 := (Tch.alloc No w _).trans (Tch.grown (S := No) hg7.out (fun k hk => by cases hk)) (fun _ h => h.elim)
    have hr8 : w7.ownsRow w.heap.size 48 5 (.slice po (0 + 2) pc) (pre.length + 0) (tcs (pre ++ (l.take 0).map (mv c d))) := by
      rw [hp0.out]; exact hr7.out
    replace t7 := Lib.hid t7
    replace hr8 := Lib.hid hr8
    go_wp2
    go_loopg [9, 10] (l.length + 1) (fun gg ov iv wr => ∃ i : Nat, gg = l.length - i + 1 ∧ iv = .int .i64 i ∧ i ≤ l.length ∧ Hid (wr.ownsRow w.heap.size 48 5 ov (pre.length + i) (tcs (pre ++ (l.take i).map (mv c d)))) ∧ Tch No w wr)
    case atStart => exact ⟨0, rfl, rfl, Nat.zero_le _, hr8, t7.out⟩
    case round =>
      obtain ⟨i, rfl, rfl, hil, hrow, tr⟩ := hrel
      obtain ⟨oo, oc, rfl⟩ := ownsRow_shape hrow.out
      by_cases hlt : i < l.length
      · have k0 := nn_lt hlt
        obtain ⟨t, ht⟩ : ∃ t, l[i]? = some t := ⟨_, List.getElem?_eq_getElem hlt⟩
        have hts : pre ++ (l.take (i + 1)).map (mv c d) = (pre ++ (l.take i).map (mv c d)) ++ [mv c d t] := by
          obtain ⟨q1, q2⟩ := List.getElem?_eq_some_iff.1 ht
          rw [List.take_succ_eq_append_getElem q1, q2, List.map_append, List.append_assoc]; rfl
        obtain ⟨b1, b2, b3, b4⟩ := hr.out t (List.mem_of_getElem? ht)
        have hkw : kb < w.heap.size := by rcases hk.out with h | h; exact h; rw [h] at ht; simp at ht
        obtain ⟨off, rfl, _, d0, d1, d2, d3, d4⟩ := (tk.out.keep (tr.block kb hkw id)).at ht
        obtain ⟨tk0, tln, tcl, ttx, tqd⟩ := t
        dsimp only at b1 b2 b3 b4 d0 d1 d2 d3 d4
        obtain ⟨nc', hnc⟩ : ∃ x, x = tcl + (c : Int) := ⟨_, rfl⟩
        obtain ⟨nl', hnl⟩ : ∃ x, x = tln + (d : Int) := ⟨_, rfl⟩
        have hw1 : wrap64 (tcl + (c : Int)) = nc' := by have := hc.out; rw [hnc]; unfold wrap64; omega
        have hw2 : wrap64 (tln + (d : Int)) = nl' := by have := hd.out; rw [hnl]; unfold wrap64; omega
        have hmv : mv c d ⟨tk0, tln, tcl, ttx, tqd⟩ = ⟨tk0, nl', nc', ttx, tqd⟩ := by rw [hnc, hnl]; rfl
        rw [hmv] at hts
        obtain ⟨w1, hw⟩ : ∃ w1, w1 = wr.alloc (tokO ⟨tk0, tln, tcl, ttx, tqd⟩ 48) := ⟨_, rfl⟩
        have t1 : Tch No wr w1 := by rw [hw]; exact Tch.alloc No wr _
        obtain ⟨c1, hc1⟩ : ∃ c1, c1 = wr.heap.size := ⟨_, rfl⟩
        have g1 : w1.heap[c1]? = some (tokO ⟨tk0, tln, tcl, ttx, tqd⟩ 48) := by rw [hw, hc1]; exact heap_alloc_new wr _
        obtain ⟨_, _, x2, _, _, _, f2⟩ := tk5 g1
        obtain ⟨w2, hw2e⟩ : ∃ w2, w2 = w1.setCell ⟨c1, 2, none⟩ (.int .i64 nc') := ⟨_, rfl⟩
        have g2 : w2.heap[c1]? = some (tokO ⟨tk0, tln, nc', ttx, tqd⟩ 48) := by rw [hw2e]; simp [World.setCell, Array.getElem?_modify, g1]
        obtain ⟨_, y1, _, _, _, e1, _⟩ := tk5 g2
        obtain ⟨w3, hw3e⟩ : ∃ w3, w3 = w2.setCell ⟨c1, 1, none⟩ (.int .i64 nl') := ⟨_, rfl⟩
        have g3 : w3.heap[c1]? = some (tokO ⟨tk0, nl', nc', ttx, tqd⟩ 48) := by rw [hw3e]; simp [World.setCell, Array.getElem?_modify, g2]
        obtain ⟨z0, z1, z2, z3, z4, _, _⟩ := tk5 g3
        have t13 : Tch (fun k => k = c1) w1 w3 := by
          rw [hw3e, hw2e]
          exact (Tch.setCell (S := fun k => k = c1) w1 (p := ⟨c1, 2, none⟩) rfl _).trans (Tch.setCell (S := fun k => k = c1) _ (p := ⟨c1, 1, none⟩) rfl _) (fun _ h => .inl h)
        have hcB : w.heap.size ≤ c1 := by rw [hc1]; exact tr.size
        have tr3 : Tch No w w3 := (tr.trans t1 (fun _ h => h.elim)).trans t13 (fun k hk => .inr (by rw [hk]; exact hcB))
        have hne : (Value.slice oo (pre.length + i) oc).ownBlock ≠ some c1 := fun e => by
          have := (ownsRow_ge hrow.out e).2
          omega
        have hrow3 := ownsRow_tch (ownsRow_tch hrow.out t1 (fun _ _ h => h)) t13 (fun b hb e => hne (e ▸ hb))
        have hwk := Lib.hid (nn_succ hlt (by have := hll.out; omega))
        replace hts := Lib.hid hts
        replace ht := Lib.hid ht
        replace b1 := Lib.hid b1
        replace b2 := Lib.hid b2
        replace b3 := Lib.hid b3
        replace b4 := Lib.hid b4
        replace hkw := Lib.hid hkw
        replace tr := Lib.hid tr
        replace t1 := Lib.hid t1
        replace g1 := Lib.hid g1
        replace hw := Lib.hid hw
        replace g2 := Lib.hid g2
        replace hw2e := Lib.hid hw2e
        replace g3 := Lib.hid g3
        replace hw3e := Lib.hid hw3e
        replace t13 := Lib.hid t13
        replace hcB := Lib.hid hcB
        replace tr3 := Lib.hid tr3
        replace hne := Lib.hid hne
        replace hrow3 := Lib.hid hrow3
        replace hnc := Lib.hid hnc
        replace hnl := Lib.hid hnl
        replace hmv := Lib.hid hmv
        replace hil := Lib.hid hil
        replace hc1 := Lib.hid hc1
        go_upto_region 8 with fail
        rw [show (wr.alloc (.cells #[.int .i64 tk0, .int .i64 tln, .int .i64 tcl, .string ttx, .bool tqd] 48)) = w1 from hw.out.symm, ← hc1.out]
        go_upto_region 9 with fail
        rw [← hw2e.out]
        clear x2 f2
        go_upto_region 10 with fail
        rw [← hw3e.out]
        clear y1 e1
        go_upto_region 6 with (first
          | (at_builtin; refine wp_append_us rfl _ _ 22 (by rfl) w.heap.size 48 i0 (.agg #[.int .i64 0, .int .i64 0, .int .i64 0, .string ⟨#[]⟩, .bool false]) 5 48 Try.underlying22 hi.out hz0.out hz1.out hz2.out rfl (by decide) _ (pre.length + i) _ (by rfl) hrow3.out 1 (by rfl) rfl (by simp [Value.oneCell']) (by have := hll.out; have := hpl.out; unfold maxLen; omega) (by have := hll.out; have := hpl.out; omega) tr3.out.size ?_; intro v7 w7 hr7 hg7 hl7; obtain ⟨po, pc, rfl⟩ := ownsRow_shape hr7; replace hr7 := Lib.hid hr7; replace hg7 := Lib.hid hg7; replace hl7 := Lib.hid hl7)
          | fail)
        have t7 : Tch No w w7 := tr3.out.trans (Tch.grown (S := fun k => (Value.slice oo (pre.length + i) oc).ownBlock = some k) hg7.out (fun k hk => .inl hk)) (fun k hk => .inr (ownsRow_ge hrow3.out hk).1)
        have hr8 : w7.ownsRow w.heap.size 48 5 (.slice po (pre.length + i + 1) pc) (pre.length + (i + 1)) (tcs (pre ++ (l.take (i + 1)).map (mv c d))) := by
          rw [hts.out, tcs_snoc]; exact hr7.out
        replace t7 := Lib.hid t7
        replace hr8 := Lib.hid hr8
        go_wp2
        go_roundg (l.length - (i + 1) + 1)
        case rel => exact ⟨i + 1, rfl, by rw [hwk.out], hlt, hr8, t7.out⟩
        case measure => exact nn_down2 hlt
      · have k0 := nn_ge hlt
        have k1 : decide (i < l.length) = false := decide_eq_false hlt
        have hin : i = l.length := by omega
        subst hin
        replace tr := Lib.hid tr
        replace hil := Lib.hid hil
        replace hlt := Lib.hid hlt
        go_wp2
        go_ret
        refine ⟨_, rfl, ?_, tr.out⟩
        have h := hrow.out
        rw [List.take_length] at h
        rw [List.length_append, List.length_map]
        exact h
end Go.Proofs.Ytcnjmkjfgghgoaa
end

section
/- lower: walked. -/
namespace Go.Proofs.Ytcnjmkjfgghgoaa
open Go.RowKit Go.Mp Go.Tr
set_option linter.unusedVariables false
set_option maxRecDepth 100000
set_option maxHeartbeats 4000000
theorem row_shrink {w : World} {B e size n m cap : Nat} {g : Nat} {xs ys : List Value} (h : w.ownsRow B e size (.slice (some ⟨g, 0, none⟩) m cap) m (xs ++ ys)) (hx : xs.length = n * size) (hn : n ≤ m) : w.ownsRow B e size (.slice (some ⟨g, 0, none⟩) n cap) n xs := by
  refine ⟨hx, ?_⟩
  rcases h.2 with ⟨h0, _⟩ | ⟨g', cp, cur, h0, hb, hg, hm, hmx, hs, ht⟩
  · cases h0
  · simp only [Value.slice.injEq, Option.some.injEq, Addr.mk.injEq] at h0
    obtain ⟨⟨rfl, _⟩, _, rfl⟩ := h0
    refine .inr ⟨g, cap, cur, rfl, hb, hg, by omega, hmx, hs, ?_⟩
    have h2 := congrArg (List.take (n * size)) ht
    have h3 : List.take (n * size) (xs ++ ys) = xs := by rw [← hx, List.take_left]
    rw [List.take_take, Nat.min_eq_left (Nat.mul_le_mul_right _ hn), h3] at h2
    exact h2
theorem NM.shrink {w : World} {B g cap : Nat} {F : Nat → Prop} {R : List (Nd × Value)} {x : Nd × Value} (h : NM w B F (.slice (some ⟨g, 0, none⟩) (R ++ [x]).length cap) (R ++ [x])) : NM w B F (.slice (some ⟨g, 0, none⟩) R.length cap) R := by
  have hat : ∀ (i : Nat) (y : Nd × Value), R[i]? = some y → (R ++ [x])[i]? = some y := fun i y hy => by
    rw [List.getElem?_append_left (List.getElem?_eq_some_iff.1 hy).1]; exact hy
  refine ⟨?_, fun i y hy => h.kid i y (hat i y hy), fun i j y z hij hy hz => h.apart i j y z hij (hat i y hy) (hat j z hz), ⟨fun b hb => h.own.1 b hb, fun i y hy => h.own.2 i y (hat i y hy)⟩, h.lt⟩
  have hr := h.row
  rw [ncs_append] at hr
  exact row_shrink hr (ncs_length R) (by simp)
theorem set_low {ns : List Nd} {k d : Nat} {n : Nd} {M : List Nd} (h : ns[k]? = some n) : ((ns.take k).map (lowN d) ++ ns.drop k ++ M).set k (lowN d n) = (ns.take (k + 1)).map (lowN d) ++ ns.drop (k + 1) ++ M := by
  obtain ⟨h1, h2⟩ := List.getElem?_eq_some_iff.1 h
  rw [List.append_assoc, List.set_append_right _ _ (by simp; omega), List.drop_eq_getElem_cons h1, h2]
  have e : k - ((ns.take k).map (lowN d)).length = 0 := by simp; omega
  rw [e, List.cons_append, List.set_cons_zero, List.take_succ_eq_append_getElem h1, h2]
  simp
theorem at_low {ns : List Nd} {k d : Nat} {n : Nd} {M : List Nd} (h : ns[k]? = some n) : ((ns.take k).map (lowN d) ++ ns.drop k ++ M)[k]? = some n := by
  obtain ⟨h1, h2⟩ := List.getElem?_eq_some_iff.1 h
  rw [List.append_assoc, List.getElem?_append_right (by simp; omega)]
  have e : k - ((ns.take k).map (lowN d)).length = 0 := by simp; omega
  rw [e, List.drop_eq_getElem_cons h1, h2]; rfl
def LowOut (w : World) (d : Nat) (L : List TrX) (e : Ending) (w' : World) : Prop := ∃ v' F' L', e = .returned v' ∧ L'.map (·.1) = (L.map (·.1)).map (lowT d) ∧ TM w' w.heap.size F' v' L' ∧ Tch No w w'
theorem lower_any {w : World} {B : Nat} {F0 : Nat → Prop} {tv : Value} {L : List TrX} {d : Nat} (hT : TM w B F0 tv L) (hs : ∀ x ∈ L, x.1.size ≤ 4096) (hl : ∀ x ∈ L, ∀ n ∈ lay 0 x.1, 0 ≤ n.line ∧ n.line ≤ 1048576) (hd : d < 1000) (hLl : L.length ≤ 3000000000000) :
    Calls Try.prog 26 #[tv, .int .i64 d] w (LowOut w d L) := by
  obtain ⟨ta, tc, rfl⟩ := ownsRow_shape hT.row
  obtain ⟨i0, hi, hz0, hz1, hz2⟩ := info_parts info50
  replace hi := Lib.hid hi
  replace hz0 := Lib.hid hz0
  replace hz1 := Lib.hid hz1
  replace hz2 := Lib.hid hz2
  replace hT := Lib.hid hT
  replace hs := Lib.hid hs
  replace hl := Lib.hid hl
  replace hd := Lib.hid hd
  replace hLl := Lib.hid hLl
  go_enter Try.func26, Try.ntmps26
  go_wp2
  go_loopg [5, 6] (L.length + 1) (fun gg ov iv wr => ∃ (i : Nat) (F : Nat → Prop) (M : List TrX), gg = L.length - i + 1 ∧ iv = .int .i64 i ∧ i ≤ L.length ∧ M.map (·.1) = ((L.take i).map (·.1)).map (lowT d) ∧ Hid (TM wr w.heap.size F ov M) ∧ Tch No w wr)
  case atStart => exact ⟨0, No, [], rfl, rfl, Nat.zero_le _, rfl, Lib.hid (TM.nil _ _), Tch.refl _ _⟩
  case round =>
    obtain ⟨i, F, M, rfl, rfl, hil, hMm, hM, tr⟩ := hrel
    have hMl : M.length = i := by
      have h := congrArg List.length hMm
      rw [List.length_map, List.length_map, List.length_map, List.length_take] at h
      omega
    obtain ⟨wo, hwo⟩ : ∃ wo, wo = wr := ⟨_, rfl⟩
    subst hwo
    obtain ⟨oo, oc, hov⟩ := ownsRow_shape hM.out.row
    rw [hMl] at hov
    subst hov
    have hB := Lib.hid (show w.heap.size ≤ wo.heap.size from tr.size)
    by_cases hlt : i < L.length
    · have k0 := nn_lt hlt
      obtain ⟨x, hx⟩ : ∃ x, L[i]? = some x := ⟨_, List.getElem?_eq_getElem hlt⟩
      have hxm := List.mem_of_getElem? hx
      have hsz := hs.out x hxm
      have hln := hl.out x hxm
      obtain ⟨gv, no, nc, rfl, _, cv, _, hNd, _, _⟩ := (hT.out.tch tr (fun _ _ h => h)).elem hx hsz
      have hkb8 : ∀ n ∈ lay 0 x.1, n.kids.length * 8 ≤ 140737488351232 := fun n hn => by have := (bounds_lay 0 x.1 n hn).1; omega
      have hTw := twin_any hNd hkb8 (by rw [lay_length]; omega)
      obtain ⟨ns, hns⟩ : ∃ ns, ns = lay 0 x.1 := ⟨_, rfl⟩
      have hnl : ns.length = x.1.size := by rw [hns, lay_length]
      rw [← hns] at hTw hln
      rw [← hnl] at cv hTw hsz
      have hts := take_snoc hx
      have hwk := Lib.hid (nn_succ hlt (by have := hLl.out; omega))
      replace hx := Lib.hid hx
      replace hxm := Lib.hid hxm
      replace hsz := Lib.hid hsz
      replace hln := Lib.hid hln
      replace hNd := Lib.hid hNd
      replace hkb8 := Lib.hid hkb8
      replace hTw := Lib.hid hTw
      replace hns := Lib.hid hns
      replace hnl := Lib.hid hnl
      replace hts := Lib.hid hts
      replace hil := Lib.hid hil
      replace hMm := Lib.hid hMm
      replace hMl := Lib.hid hMl
      replace tr := Lib.hid tr
      go_upto_region 6 with (first
        | (go_at_call 22; (with_reducible refine hTw.out.mono ?_); rintro e w2 ⟨g, cap, F2, R, rfl, hcp, hR, hN, t2⟩; replace hR := Lib.hid hR; replace hN := Lib.hid hN; replace t2 := Lib.hid t2; replace hcp := Lib.hid hcp)
        | fail)
      clear cv
      have hM2 := Lib.hid (hM.out.tch t2.out (fun _ _ h => h))
      have hRl : R.length = ns.length + 1 := by have h := congrArg List.length hR.out; simpa using h
      replace hRl := Lib.hid hRl
      go_wp2
      go_loopg [8] (ns.length + 1) (fun g2 kv wq => ∃ (k : Nat) (Q : List (Nd × Value)), g2 = ns.length - k + 1 ∧ kv = .int .i64 k ∧ k ≤ ns.length ∧ Q.map (·.1) = (ns.take k).map (lowN d) ++ ns.drop k ++ [markN] ∧ Hid (NM wq wo.heap.size F2 (.slice (some ⟨g, 0, none⟩) Q.length cap) Q) ∧ Tch (fun b => b = g) w2 wq)
      case atStart => exact ⟨0, R, rfl, rfl, Nat.zero_le _, by simpa using hR.out, Lib.hid (by rw [hRl.out]; exact hN.out), Tch.refl _ _⟩
      case round =>
        obtain ⟨k, Q, rfl, rfl, hkl, hQ, hNq, tq⟩ := hrel
        have hQl : Q.length = ns.length + 1 := by
          have h := congrArg List.length hQ
          simp only [List.length_map, List.length_append, List.length_take, List.length_drop, List.length_cons, List.length_nil] at h
          omega
        by_cases hk : k < ns.length
        · have j0 := nn_lt hk
          obtain ⟨n, hn⟩ : ∃ n, ns[k]? = some n := ⟨_, List.getElem?_eq_getElem hk⟩
          have hq := at_low (d := d) (M := [markN]) hn
          rw [← hQ, List.getElem?_map] at hq
          obtain ⟨y, hy, hy1⟩ : ∃ y, Q[k]? = some y ∧ y.1 = n := by
            cases hz : Q[k]? with
            | none => rw [hz] at hq; cases hq
            | some y => rw [hz] at hq; exact ⟨y, rfl, by simpa using hq⟩
          obtain ⟨yn, kv⟩ := y
          subst hy1
          obtain ⟨b1, b2⟩ := hln.out yn (List.mem_of_getElem? hn)
          obtain ⟨g', cap', eg, hc⟩ := hNq.out.at hy
          simp only [Value.slice.injEq, Option.some.injEq, Addr.mk.injEq] at eg
          obtain ⟨⟨rfl, _⟩, _, rfl⟩ := eg
          obtain ⟨c4, f4⟩ := hc 4 (.int .i64 yn.line) (by omega) rfl
          obtain ⟨nl', hnl'⟩ : ∃ x, x = yn.line + (d : Int) := ⟨_, rfl⟩
          have hwl : wrap64 (yn.line + (d : Int)) = nl' := by have := hd.out; rw [hnl']; unfold wrap64; omega
          have hN2 := hNq.out.store (i := k) (x' := (lowN d yn, kv)) hy (j := 4) (by omega) (u := .int .i64 nl') (by rw [hnl']; rfl) rfl rfl
          have hQ2 : (Q.set k (lowN d yn, kv)).map (·.1) = (ns.take (k + 1)).map (lowN d) ++ ns.drop (k + 1) ++ [markN] := by
            rw [List.map_set, hQ]; exact set_low hn
          have tq2 : Tch (fun b => b = g) w2 (wr.setCell ⟨g, k * 6 + 4, none⟩ (.int .i64 nl')) := tq.trans (Tch.setCell (S := fun b => b = g) wr (p := ⟨g, k * 6 + 4, none⟩) rfl _) (fun _ h => .inl h)
          have hwk2 := Lib.hid (nn_succ hk (by have := hsz.out; omega))
          obtain ⟨w6, hw6⟩ : ∃ w6, w6 = wr.setCell ⟨g, k * 6 + 4, none⟩ (.int .i64 nl') := ⟨_, rfl⟩
          rw [← hw6] at hN2 tq2
          rw [show Q.length = (Q.set k (lowN d yn, kv)).length by rw [List.length_set]] at hN2
          clear hc
          replace hQ := Lib.hid hQ
          replace hQl := Lib.hid hQl
          replace hn := Lib.hid hn
          replace hq := Lib.hid hq
          replace hy := Lib.hid hy
          replace b1 := Lib.hid b1
          replace b2 := Lib.hid b2
          replace hnl' := Lib.hid hnl'
          replace hN2 := Lib.hid hN2
          replace hQ2 := Lib.hid hQ2
          replace tq2 := Lib.hid tq2
          replace tq := Lib.hid tq
          replace hkl := Lib.hid hkl
          go_wp2
          rw [← hw6]
          replace hw6 := Lib.hid hw6
          go_roundg (ns.length - (k + 1) + 1)
          case rel => exact ⟨k + 1, _, rfl, by rw [hwk2.out], hk, hQ2.out, hN2, tq2.out⟩
          case measure => exact nn_down2 hk
        · have j0 := nn_ge hk
          have j1 : decide (k < ns.length) = false := decide_eq_false hk
          have hkn : k = ns.length := by omega
          rw [hkn, List.take_length, List.drop_length, List.append_nil] at hQ
          obtain ⟨Q1, x9, hQe⟩ : ∃ Q1 x9, Q = Q1 ++ [x9] := by
            rcases List.eq_nil_or_concat Q with h | ⟨Q1, x9, h⟩
            · rw [h] at hQl; simp at hQl
            · exact ⟨Q1, x9, by rw [h, List.concat_eq_append]⟩
          subst hQe
          have hQ1 : Q1.map (·.1) = lay 0 (lowT d x.1) := by
            rw [List.map_append] at hQ
            have h := List.append_inj_left' hQ rfl
            rw [h, hns.out, ← lay_low]
          have hQ1l : Q1.length = ns.length := by simp at hQl; exact hQl
          have hNs := hNq.out.shrink
          rw [hQ1l] at hNs
          have hg2 : wo.heap.size ≤ g := (ownsRow_ge hNs.row rfl).1
          have hMq := hM2.out.tch tq (fun b hb e => by
            have h1 := (hM.out.lt b hb).2
            omega)
          have hrow := hMq.row
          rw [hMl.out] at hrow
          have hbq : w.heap.size ≤ wr.heap.size := by have h1 := hB.out; have h2 := t2.out.size; have h3 := tq.size; omega
          have tr2 : Tch No w wr := (tr.out.trans t2.out (fun _ h => h.elim)).trans tq (fun b hb => .inr (by rw [hb]; have := hB.out; omega))
          have hdis : ∀ b, F2 b → ¬ F b := fun b h1 h2 => by
            have h3 := (hNs.lt b h1).1
            have h4 := (hM.out.lt b h2).2
            omega
          have hNl := hNs.lower (B' := w.heap.size) hB.out
          replace hQ := Lib.hid hQ
          replace hQl := Lib.hid hQl
          replace hQ1 := Lib.hid hQ1
          replace hQ1l := Lib.hid hQ1l
          replace hNs := Lib.hid hNs
          replace hg2 := Lib.hid hg2
          replace hMq := Lib.hid hMq
          replace hrow := Lib.hid hrow
          replace tr2 := Lib.hid tr2
          replace hdis := Lib.hid hdis
          replace hNl := Lib.hid hNl
          replace tq := Lib.hid tq
          replace hkl := Lib.hid hkl
          replace hk := Lib.hid hk
          replace hkn := Lib.hid hkn
          go_upto_region 4 with (first
            | (at_builtin; refine wp_append_us rfl _ _ 25 (by rfl) w.heap.size 50 i0 (.slice none 0 0) 1 24 Try.underlying25 hi.out hz0.out hz1.out hz2.out rfl (by decide) _ i _ (by rfl) hrow.out 1 (by rfl) rfl (by simp [Value.oneCell']) (by have := hLl.out; have := hil.out; unfold maxLen; omega) (by have := hLl.out; have := hil.out; omega) hbq ?_; intro v4 w4 hr4 hg4 hl4; obtain ⟨po, pc, rfl⟩ := ownsRow_shape hr4; replace hr4 := Lib.hid hr4; replace hg4 := Lib.hid hg4; replace hl4 := Lib.hid hl4)
            | fail)
          have tg : Tch (fun k => (Value.slice oo i oc).ownBlock = some k) wr w4 := Tch.grown hg4.out (fun k hk => .inl hk)
          have hM4 := hMq.out.push (t := lowT d x.1) hQ1.out hNl.out hdis.out (by rw [hMl.out]; exact hr4.out) (by first | exact tg | (rw [hMl.out]; exact tg)) (by first | exact hl4.out | (rw [hMl.out]; exact hl4.out))
          have tr4 : Tch No w w4 := tr2.out.trans tg (fun b hb => .inr (ownsRow_ge hrow.out hb).1)
          have hMm4 : (M ++ [(lowT d x.1, Value.slice (some ⟨g, 0, none⟩) ns.length cap, F2)]).map (·.1) = ((L.take (i + 1)).map (·.1)).map (lowT d) := by
            rw [List.map_append, hMm.out, hts.out, List.map_append, List.map_append]; rfl
          replace tg := Lib.hid tg
          replace hM4 := Lib.hid hM4
          replace tr4 := Lib.hid tr4
          replace hMm4 := Lib.hid hMm4
          go_wp2
          go_roundg (L.length - (i + 1) + 1)
          case rel => exact ⟨i + 1, _, _, rfl, by rw [hwk.out], hlt, hMm4.out, hM4, tr4.out⟩
          case measure => exact nn_down2 hlt
    · have k0 := nn_ge hlt
      have k1 : decide (i < L.length) = false := decide_eq_false hlt
      have hin : i = L.length := by omega
      subst hin
      rw [List.take_of_length_le (Nat.le_refl _)] at hMm
      replace hMm := Lib.hid hMm
      replace tr := Lib.hid tr
      replace hil := Lib.hid hil
      replace hlt := Lib.hid hlt
      replace hMl := Lib.hid hMl
      go_wp2
      go_ret
      exact ⟨_, F, M, rfl, hMm.out, hM.out, tr.out⟩
end Go.Proofs.Ytcnjmkjfgghgoaa
end

section
/- The law TreeMoves, walked. -/
namespace Go.Tr
theorem doc_small {l : List Tok} {t : T} (h : doc l = .ok t) : t.size ≤ 4096 := by
  unfold doc at h
  split at h
  · split at h
    · cases h
    · rename_i t' a2 m2 he
      split at h
      · cases h
      · cases h
        have h1 := block_caps (loop_caps l _) (Nat.zero_le _) he
        have h2 := block_goes (loop_goes l _) he
        omega
  · cases h
theorem docsRun_lt {k : Nat} {ds : List (List Tok)} {i : Nat} {e : Fa} (h : docsRun k ds = .error (i, e)) : i < k + ds.length := by
  induction ds generalizing k with
  | nil => cases h
  | cons d ds ih =>
    simp only [docsRun] at h
    split at h
    · cases h; simp
    · split at h
      · rename_i x hx
        cases h
        have := ih hx
        simp; omega
      · cases h
theorem segs_len (cur l : List Tok) : (segs cur l).length ≤ l.length + 1 := by
  induction l generalizing cur with
  | nil => simp only [segs]; split <;> simp
  | cons t r ih =>
    rw [segs_cons]
    split
    · split
      · have := ih []; simp; omega
      · have := ih []; simp; omega
    · have := ih (cur ++ [t]); simp; omega
end Go.Tr
namespace Go.Proofs.Ytcnjmkjfgghgoaa
open Go.RowKit Go.Mp Go.Tr
set_option linter.unusedVariables false
set_option maxRecDepth 100000
set_option maxHeartbeats 4000000
theorem TokS.held {w w' : World} {kb : Nat} {v : Value} {l : List Tok} (h : TokS w kb v l) (hk : kb < w.heap.size ∨ l = []) (t : Tch No w w') : TokS w' kb v l ∧ (kb < w'.heap.size ∨ l = []) := by
  refine ⟨?_, hk.imp (fun h => Nat.lt_of_lt_of_le h t.size) id⟩
  rcases hk with hk | hk
  · exact h.keep (t.block kb hk id)
  · subst hk
    obtain ⟨ao, cap, rfl, _⟩ := h
    exact ⟨ao, cap, rfl, fun i t ht => by cases ht⟩
def okTok (t : Tok) : Prop := 0 ≤ t.col ∧ t.col ≤ 1048576 ∧ 0 ≤ t.line ∧ t.line ≤ 1048576
/-- own, then Of: of tokens that are lent. -/
theorem own_at {w0 w : World} {kb : Nat} {lv : Value} {l : List Tok} (tk : TokS w0 kb lv l) (hk : kb < w0.heap.size ∨ l = []) (hll : l.length < 2932031007400) (tt : Tch No w0 w) :
    Calls Try.prog 9 #[lv] w fun e w' => ∃ gb cap, e = .returned (.slice (some ⟨gb, 0, none⟩) l.length cap) ∧ TokV w' gb (.slice (some ⟨gb, 0, none⟩) l.length cap) l ∧ gb < w'.heap.size ∧ Tch No w0 w' := by
  obtain ⟨t1, t2⟩ := tk.held hk tt
  refine (own_any t1 t2 hll).mono ?_
  rintro e w' ⟨gb, cap, rfl, hO, t⟩
  exact ⟨gb, cap, rfl, hO.tok, hO.lt.2, tt.trans t (fun _ h => h.elim)⟩
theorem moves_out {W : World} {kb : Nat} {lv : Value} {l : List Tok} {m : Int} {x y : Int} (tk : TokS W kb lv l) (hk : kb < W.heap.size ∨ l = []) (hll : l.length < 2932031007320) (hm : W.cell? ⟨0, 0, none⟩ = some (.int .i64 m)) {i0 : Nat} {t0 : Tok} (h0 : l[i0]? = some t0) (hb : ¬ okTok t0) (hf : ∀ (j : Nat) (t : Tok), j < i0 → l[j]? = some t → okTok t) :
    Calls Try.prog 6 #[lv, .int .i64 x, .int .i64 y] W fun e w' => e = .returned (.bool true) ∧ Tch No W w' := by
  have hAw := awake_any W m hm
  obtain ⟨ao, cap, rfl, _⟩ := id tk
  replace tk := Lib.hid tk
  replace hk := Lib.hid hk
  replace hll := Lib.hid hll
  replace hm := Lib.hid hm
  replace h0 := Lib.hid h0
  replace hb := Lib.hid hb
  replace hf := Lib.hid hf
  replace hAw := Lib.hid hAw
  go_enter Try.func6, Try.ntmps6
  go_upto_region 3 with (first
    | (go_at_call 19; (with_reducible refine hAw.out.mono ?_); rintro e w1 ⟨rfl, t1⟩; replace t1 := Lib.hid t1)
    | fail)
  obtain ⟨tk1, hk1⟩ := tk.out.held hk.out t1.out
  replace tk1 := Lib.hid tk1
  replace hk1 := Lib.hid hk1
  go_wp2
  go_loopg [7] (l.length + 1) (fun gg iv wr => ∃ i : Nat, gg = l.length - i + 1 ∧ iv = .int .i64 i ∧ i ≤ i0 ∧ wr = w1)
  case atStart => exact ⟨0, rfl, rfl, Nat.zero_le _, rfl⟩
  case round =>
    obtain ⟨i, rfl, rfl, hil, rfl⟩ := hrel
    have hi0 := (List.getElem?_eq_some_iff.1 h0.out).1
    have hlt : i < l.length := by omega
    have k0 := nn_lt hlt
    obtain ⟨t, ht⟩ : ∃ t, l[i]? = some t := ⟨_, List.getElem?_eq_getElem hlt⟩
    obtain ⟨off, rfl, _, d0, d1, d2, d3, d4⟩ := tk1.out.at ht
    have hwk := Lib.hid (nn_succ hlt (by have := hll.out; omega))
    obtain ⟨tk0, tln, tcl, ttx, tqd⟩ := t
    dsimp only at d0 d1 d2 d3 d4
    by_cases hii : i = i0
    · subst hii
      rw [h0.out] at ht
      cases ht
      have hb' := hb.out
      unfold okTok at hb'
      dsimp only at hb'
      replace hil := Lib.hid hil
      replace hi0 := Lib.hid hi0
      by_cases q1 : tcl < 0
      · skip
        replace hb' := Lib.hid hb'
        go_wp2
        go_ret
        exact ⟨rfl, t1.out⟩
      · have q1' : decide (tcl < 0) = false := decide_eq_false q1
        by_cases q2 : 1048576 < tcl
        · skip
          replace hb' := Lib.hid hb'
          replace q1 := Lib.hid q1
          go_wp2
          go_ret
          exact ⟨rfl, t1.out⟩
        · have q2' : decide (1048576 < tcl) = false := decide_eq_false q2
          by_cases q3 : tln < 0
          · skip
            replace hb' := Lib.hid hb'
            replace q1 := Lib.hid q1
            replace q2 := Lib.hid q2
            go_wp2
            go_ret
            exact ⟨rfl, t1.out⟩
          · have q3' : decide (tln < 0) = false := decide_eq_false q3
            have q4 : 1048576 < tln := by omega
            replace hb' := Lib.hid hb'
            replace q1 := Lib.hid q1
            replace q2 := Lib.hid q2
            replace q3 := Lib.hid q3
            go_wp2
            go_ret
            exact ⟨rfl, t1.out⟩
    · obtain ⟨r1, r2, r3, r4⟩ := hf.out i _ (by omega) ht
      dsimp only at r1 r2 r3 r4
      have q1' : decide (tcl < 0) = false := decide_eq_false (by omega)
      have q2' : decide (1048576 < tcl) = false := decide_eq_false (by omega)
      have q3' : decide (tln < 0) = false := decide_eq_false (by omega)
      have q4' : decide (1048576 < tln) = false := decide_eq_false (by omega)
      replace hil := Lib.hid hil
      replace hi0 := Lib.hid hi0
      replace ht := Lib.hid ht
      replace r1 := Lib.hid r1
      replace r2 := Lib.hid r2
      replace r3 := Lib.hid r3
      replace r4 := Lib.hid r4
      replace hii := Lib.hid hii
      go_wp2
      go_roundg (l.length - (i + 1) + 1)
      case rel => exact ⟨i + 1, rfl, by rw [hwk.out], by have := hil.out; have := hii.out; omega, rfl⟩
      case measure => exact nn_down2 hlt
theorem tm_len {w : World} {B : Nat} {F : Nat → Prop} {v : Value} {L : List TrX} {ts : List T} (h : TM w B F v L) (hL : L.map (·.1) = ts) : ∃ ao cap, v = .slice ao ts.length cap := by
  obtain ⟨ao, cap, rfl⟩ := ownsRow_shape h.row
  exact ⟨ao, cap, by rw [← hL, List.length_map]⟩
theorem tail_trees {w : World} {gc n cc : Nat} {N0 : List Nd} {Ns : List (List Nd)} (h : TreesR w (.slice (some ⟨gc, 0, none⟩) (n + 1) cc) (N0 :: Ns)) (hc : n + 1 ≤ cc) : (¬ cc = 1 → TreesR w (.slice (some ⟨gc, 1, none⟩) n (cc - 1)) Ns) ∧ (cc = 1 → TreesR w (.slice (some ⟨gc, 0, none⟩) n 0) Ns) := by
  have hn : Ns.length = n := by
    obtain ⟨_, _, q, _⟩ := h
    simp only [Value.slice.injEq, List.length_cons] at q
    omega
  refine ⟨fun hck => ⟨_, _, by rw [hn], fun i N hN => ?_⟩, fun hck => ⟨_, _, by rw [hn], fun i N hN => ?_⟩⟩
  · obtain ⟨_, _, q, h2⟩ := h
    simp only [Value.slice.injEq] at q
    obtain ⟨rfl, _, _⟩ := q
    obtain ⟨g, off, no, nc, eg, q1, q2⟩ := h2 (i + 1) N (by simpa using hN)
    simp only [Option.some.injEq, Addr.mk.injEq] at eg
    obtain ⟨rfl, rfl, _⟩ := eg
    refine ⟨gc, 1, no, nc, rfl, ?_, q2⟩
    rw [show 1 + i = 0 + (i + 1) by omega]; exact q1
  · have := (List.getElem?_eq_some_iff.1 hN).1
    omega
theorem IntsR.tch {w w' : World} {v : Value} {ks : List Int} (h : IntsR w v ks) (t : Tch No w w') : IntsR w' v ks := by
  obtain ⟨ao, cap, rfl, h⟩ := h
  refine ⟨ao, cap, rfl, fun i k hk => ?_⟩
  obtain ⟨g, off, e, c⟩ := h i k hk
  exact ⟨g, off, e, t.cell_some c id⟩
theorem NodesR.tch {w w' : World} {v : Value} {N : List Nd} (h : NodesR w v N) (t : Tch No w w') : NodesR w' v N := by
  obtain ⟨ao, cap, rfl, h⟩ := h
  refine ⟨ao, cap, rfl, fun i n hn => ?_⟩
  obtain ⟨g, off, ko, kc, e, c0, c1, c2, c3, c4, c5, r⟩ := h i n hn
  exact ⟨g, off, ko, kc, e, t.cell_some c0 id, t.cell_some c1 id, t.cell_some c2 id, t.cell_some c3 id, t.cell_some c4 id, t.cell_some c5 id, r.tch t⟩
theorem TreesR.tch {w w' : World} {v : Value} {Ts : List (List Nd)} (h : TreesR w v Ts) (t : Tch No w w') : TreesR w' v Ts := by
  obtain ⟨ao, cap, rfl, h⟩ := h
  refine ⟨ao, cap, rfl, fun i N hN => ?_⟩
  obtain ⟨g, off, no, nc, e, c, r⟩ := h i N hN
  exact ⟨g, off, no, nc, e, t.cell_some c id, r.tch t⟩
theorem mw_len {n n1 : Nat} (h : n1 = n + 1) (hn : n ≤ 3000000000000) : wrap64 ((n : Int) + 1) = (n1 : Int) ∧ IntKind.i64.wrap ((n : Int) + 1) = (n1 : Int) := ⟨by unfold wrap64; omega, by rw [IntKind.wrap_i64]; omega⟩
theorem moves_in {W : World} {kb : Nat} {lv : Value} {l : List Tok} {m : Int} {x y : Int} (tk : TokS W kb lv l) (hk : kb < W.heap.size ∨ l = []) (hll : l.length < 2932031007320) (hm : W.cell? ⟨0, 0, none⟩ = some (.int .i64 m)) (hr : InRange l) (hx : -9223372036854775808 ≤ x ∧ x ≤ 9223372036854775807) (hy : -9223372036854775808 ≤ y ∧ y ≤ 9223372036854775807) :
    Calls Try.prog 6 #[lv, .int .i64 x, .int .i64 y] W fun e w' => e = .returned (.bool true) ∧ Tch No W w' := by
  have hAw := awake_any W m hm
  obtain ⟨ao, cap, rfl, _⟩ := id tk
  replace tk := Lib.hid tk
  replace hk := Lib.hid hk
  replace hll := Lib.hid hll
  replace hm := Lib.hid hm
  replace hr := Lib.hid hr
  replace hAw := Lib.hid hAw
  replace hx := Lib.hid hx
  replace hy := Lib.hid hy
  go_enter Try.func6, Try.ntmps6
  go_upto_region 3 with (first
    | (go_at_call 19; (with_reducible refine hAw.out.mono ?_); rintro e w1 ⟨rfl, t1⟩; replace t1 := Lib.hid t1)
    | fail)
  obtain ⟨tk1, hk1⟩ := tk.out.held hk.out t1.out
  replace tk1 := Lib.hid tk1
  replace hk1 := Lib.hid hk1
  go_wp2
  go_loopg [7] (l.length + 1) (fun gg iv wr => ∃ i : Nat, gg = l.length - i + 1 ∧ iv = .int .i64 i ∧ i ≤ l.length ∧ wr = w1)
  case atStart => exact ⟨0, rfl, rfl, Nat.zero_le _, rfl⟩
  case round =>
    obtain ⟨i, rfl, rfl, hil, rfl⟩ := hrel
    by_cases hlt : i < l.length
    · have k0 := nn_lt hlt
      obtain ⟨t, ht⟩ : ∃ t, l[i]? = some t := ⟨_, List.getElem?_eq_getElem hlt⟩
      obtain ⟨off, rfl, _, d0, d1, d2, d3, d4⟩ := tk1.out.at ht
      have hwk := Lib.hid (nn_succ hlt (by have := hll.out; omega))
      obtain ⟨r1, r2, r3, r4⟩ := hr.out t (List.mem_of_getElem? ht)
      obtain ⟨tk0, tln, tcl, ttx, tqd⟩ := t
      dsimp only at d0 d1 d2 d3 d4 r1 r2 r3 r4
      have q1' : decide (tcl < 0) = false := decide_eq_false (by omega)
      have q2' : decide (1048576 < tcl) = false := decide_eq_false (by omega)
      have q3' : decide (tln < 0) = false := decide_eq_false (by omega)
      have q4' : decide (1048576 < tln) = false := decide_eq_false (by omega)
      replace hil := Lib.hid hil
      replace ht := Lib.hid ht
      replace r1 := Lib.hid r1
      replace r2 := Lib.hid r2
      replace r3 := Lib.hid r3
      replace r4 := Lib.hid r4
      go_wp2
      go_roundg (l.length - (i + 1) + 1)
      case rel => exact ⟨i + 1, rfl, by rw [hwk.out], hlt, rfl⟩
      case measure => exact nn_down2 hlt
    · have k0 := nn_ge hlt
      have k1 : decide (i < l.length) = false := decide_eq_false hlt
      have hRx := round_any wr x hx.out.1 hx.out.2
      have hRy := round_any wr y hy.out.1 hy.out.2
      obtain ⟨wz, hwz⟩ : ∃ wz, wz = wr := ⟨_, rfl⟩
      subst hwz
      replace hil := Lib.hid hil
      replace hlt := Lib.hid hlt
      replace hRx := Lib.hid hRx
      replace hRy := Lib.hid hRy
      go_upto_region 10 with (first
        | (go_at_call 24; (with_reducible refine hRx.out.mono ?_); rintro e w2 ⟨⟨c, hc, rfl⟩, rfl⟩; replace hc := Lib.hid hc)
        | (go_at_call 24; (with_reducible refine hRy.out.mono ?_); rintro e w3 ⟨⟨d, hd, rfl⟩, rfl⟩; replace hd := Lib.hid hd)
        | fail)
      have hmlF : movL c d false l = l.map (mv c d) := rfl
      have hmlT : movL c d true l = xTok :: dTok :: l.map (mv c d) := rfl
      have hlF : (movL c d false l).length < 2932031007400 := by rw [hmlF, List.length_map]; have := hll.out; omega
      have hlT : (movL c d true l).length < 2932031007400 := by rw [hmlT, List.length_cons, List.length_cons, List.length_map]; have := hll.out; omega
      obtain ⟨r, hrr⟩ : ∃ r, r = ofRun l := ⟨_, rfl⟩
      have hrF : ofRun (movL c d false l) = mvO d 0 r := by rw [hmlF, hrr]; exact ofRun_mv _ _ _
      have hrT : ofRun (movL c d true l) = match mvO d 1 r with
          | .error e => .error e
          | .ok ts => .ok (xT :: ts) := by rw [hmlT, hrr]; exact ofRun_ahead _ _ _
      have hMF : ∀ w', Tch No w3 w' → Calls Try.prog 25 #[.slice ao l.length cap, .int .i64 c, .int .i64 d, .bool false] w' fun e w2 => ∃ v', e = .returned v' ∧ w2.ownsRow w'.heap.size 48 5 v' (movL c d false l).length (tcs (movL c d false l)) ∧ Tch No w' w2 := fun w' tt => by
        obtain ⟨q1, q2⟩ := tk1.out.held hk1.out tt
        exact moved_any false q1 q2 hll.out hr.out hc.out hd.out
      have hMT : ∀ w', Tch No w3 w' → Calls Try.prog 25 #[.slice ao l.length cap, .int .i64 c, .int .i64 d, .bool true] w' fun e w2 => ∃ v', e = .returned v' ∧ w2.ownsRow w'.heap.size 48 5 v' (movL c d true l).length (tcs (movL c d true l)) ∧ Tch No w' w2 := fun w' tt => by
        obtain ⟨q1, q2⟩ := tk1.out.held hk1.out tt
        exact moved_any true q1 q2 hll.out hr.out hc.out hd.out
      replace hmlF := Lib.hid hmlF
      replace hmlT := Lib.hid hmlT
      replace hlF := Lib.hid hlF
      replace hlT := Lib.hid hlT
      replace hrF := Lib.hid hrF
      replace hrT := Lib.hid hrT
      replace hMF := Lib.hid hMF
      replace hMT := Lib.hid hMT
      cases r with
      | error fe =>
        obtain ⟨k, ln, er⟩ := fe
        obtain ⟨hne, t9, ht9, hln⟩ := of_err hrr.symm
        have hkb : k < l.length + 1 := by
          have h1 := docsRun_lt hrr.symm
          have h2 := segs_len [] l
          omega
        obtain ⟨_, _, b3, b4⟩ := hr.out t9 ht9
        rw [hln] at b3 b4
        obtain ⟨k1n, hk1n⟩ : ∃ x, x = k + 1 := ⟨_, rfl⟩
        obtain ⟨ln', hln'⟩ : ∃ x, x = ln + (d : Int) := ⟨_, rfl⟩
        have hrF2 : ofRun (movL c d false l) = .error (k, ln', er) := by rw [hrF.out, hln']; rfl
        have hrT2 : ofRun (movL c d true l) = .error (k1n, ln', er) := by rw [hrT.out, hln', hk1n]; rfl
        have hw1 : wrap64 (ln + (d : Int)) = ln' := by have := hd.out; rw [hln']; unfold wrap64; omega
        have hw2 : wrap64 ((k : Int) + 1) = (k1n : Int) := by have := hll.out; rw [hk1n]; unfold wrap64; omega
        have hnb : (er == 0) = false := by rw [beq_eq_false_iff_ne]; exact hne
        have hnb2 : (er != 0) = true := by simp [bne, hnb]
        replace hrr := Lib.hid hrr
        replace hne := Lib.hid hne
        replace ht9 := Lib.hid ht9
        replace hln := Lib.hid hln
        replace hkb := Lib.hid hkb
        replace b3 := Lib.hid b3
        replace b4 := Lib.hid b4
        replace hk1n := Lib.hid hk1n
        replace hln' := Lib.hid hln'
        replace hrF2 := Lib.hid hrF2
        replace hrT2 := Lib.hid hrT2
        go_upto_region 11 with (first
          | (go_at_call 9; (with_reducible refine (own_at tk1.out hk1.out (by have := hll.out; omega) (Tch.refl No _)).mono ?_); rintro e wA ⟨gA, cA, rfl, tvA, ltA, tA⟩; replace tvA := Lib.hid tvA; replace ltA := Lib.hid ltA; replace tA := Lib.hid tA)
          | (go_at_call 10; (with_reducible refine (of_any tvA.out ltA.out (by have := hll.out; omega)).mono ?_); rintro e wB hB; rw [← hrr.out] at hB; obtain ⟨rfl, tB⟩ := hB; replace tB := Lib.hid (tA.out.trans tB (fun _ h => h.elim)))
          | fail)
        obtain ⟨wC, hwwC⟩ : ∃ w2, w2 = wB.alloc (.cells #[.int .i64 k, .int .i64 ln, .int .i64 er] 28) := ⟨_, rfl⟩
        obtain ⟨b9, hbb9⟩ : ∃ b, b = wB.heap.size := ⟨_, rfl⟩
        rw [← hwwC, ← hbb9]
        have twC : Tch No wB wC := by rw [hwwC]; exact Tch.alloc No wB _
        have gb9 : wC.heap[b9]? = some (.cells #[.int .i64 k, .int .i64 ln, .int .i64 er] 28) := by rw [hwwC, hbb9]; exact heap_alloc_new wB _
        replace hwwC := Lib.hid hwwC
        replace hbb9 := Lib.hid hbb9
        replace twC := Lib.hid twC
        replace gb9 := Lib.hid gb9
        have tC := Lib.hid (tB.out.trans twC.out (fun _ h => h.elim))
        go_upto_region 12 with (first
          | (go_at_call 25; (with_reducible refine (hMF.out _ tC.out).mono ?_); rintro e wD ⟨vD, rfl, rowD, tD⟩; obtain ⟨kbD, tkD, hkD, _⟩ := rowToks rowD rfl; replace tkD := Lib.hid tkD; replace hkD := Lib.hid hkD; replace tD := Lib.hid tD; replace rowD := trivial)
          | (go_at_call 9; (with_reducible refine (own_at tkD.out hkD.out hlF.out (Tch.refl No _)).mono ?_); rintro e wE ⟨gE, cE, rfl, tvE, ltE, tE⟩; replace tvE := Lib.hid tvE; replace ltE := Lib.hid ltE; replace tE := Lib.hid (tD.out.trans tE (fun _ h => h.elim)))
          | (go_at_call 10; (with_reducible refine (of_any tvE.out ltE.out (by have := hlF.out; omega)).mono ?_); rintro e wF hF; rw [hrF2.out] at hF; obtain ⟨rfl, tF⟩ := hF; replace tF := Lib.hid (tE.out.trans tF (fun _ h => h.elim)))
          | fail)
        obtain ⟨wG, hwwG⟩ : ∃ w2, w2 = wF.alloc (.cells #[.int .i64 k, .int .i64 ln', .int .i64 er] 28) := ⟨_, rfl⟩
        obtain ⟨b11, hbb11⟩ : ∃ b, b = wF.heap.size := ⟨_, rfl⟩
        rw [← hwwG, ← hbb11]
        have twG : Tch No wF wG := by rw [hwwG]; exact Tch.alloc No wF _
        have gb11 : wG.heap[b11]? = some (.cells #[.int .i64 k, .int .i64 ln', .int .i64 er] 28) := by rw [hwwG, hbb11]; exact heap_alloc_new wF _
        replace hwwG := Lib.hid hwwG
        replace hbb11 := Lib.hid hbb11
        replace twG := Lib.hid twG
        replace gb11 := Lib.hid gb11
        have tCG := Lib.hid (tF.out.trans twG.out (fun _ h => h.elim))
        have tG := Lib.hid (tC.out.trans tCG.out (fun _ h => h.elim))
        go_upto_region 13 with (first
          | (go_at_call 25; (with_reducible refine (hMT.out _ tG.out).mono ?_); rintro e wH ⟨vH, rfl, rowH, tH⟩; obtain ⟨kbH, tkH, hkH, _⟩ := rowToks rowH rfl; replace tkH := Lib.hid tkH; replace hkH := Lib.hid hkH; replace tH := Lib.hid tH; replace rowH := trivial)
          | (go_at_call 9; (with_reducible refine (own_at tkH.out hkH.out hlT.out (Tch.refl No _)).mono ?_); rintro e wI ⟨gI, cI, rfl, tvI, ltI, tI⟩; replace tvI := Lib.hid tvI; replace ltI := Lib.hid ltI; replace tI := Lib.hid (tH.out.trans tI (fun _ h => h.elim)))
          | (go_at_call 10; (with_reducible refine (of_any tvI.out ltI.out (by have := hlT.out; omega)).mono ?_); rintro e wJ hJ; rw [hrT2.out] at hJ; obtain ⟨rfl, tJ⟩ := hJ; replace tJ := Lib.hid (tI.out.trans tJ (fun _ h => h.elim)))
          | fail)
        obtain ⟨wK, hwwK⟩ : ∃ w2, w2 = wJ.alloc (.cells #[.int .i64 k1n, .int .i64 ln', .int .i64 er] 28) := ⟨_, rfl⟩
        obtain ⟨b13, hbb13⟩ : ∃ b, b = wJ.heap.size := ⟨_, rfl⟩
        rw [← hwwK, ← hbb13]
        have twK : Tch No wJ wK := by rw [hwwK]; exact Tch.alloc No wJ _
        have gb13 : wK.heap[b13]? = some (.cells #[.int .i64 k1n, .int .i64 ln', .int .i64 er] 28) := by rw [hwwK, hbb13]; exact heap_alloc_new wJ _
        replace hwwK := Lib.hid hwwK
        replace hbb13 := Lib.hid hbb13
        replace twK := Lib.hid twK
        replace gb13 := Lib.hid gb13
        have tGK := Lib.hid (tJ.out.trans twK.out (fun _ h => h.elim))
        have tCK := Lib.hid (tCG.out.trans tGK.out (fun _ h => h.elim))
        have h9 := (tCK.out.block b9 (heap_lt gb9.out) id).trans gb9.out
        have h11 := (tGK.out.block b11 (heap_lt gb11.out) id).trans gb11.out
        obtain ⟨x0, x1, x2, _, _, _⟩ := row3_cells h9
        obtain ⟨y0, y1, y2, _, _, _⟩ := row3_cells h11
        obtain ⟨z0, z1, z2, _, _, _⟩ := row3_cells gb13.out
        replace h9 := Lib.hid h9
        replace h11 := Lib.hid h11
        go_wp2
        go_ret
        exact ⟨rfl, (t1.out.trans tC.out (fun _ h => h.elim)).trans tCK.out (fun _ h => h.elim)⟩
      | ok ts =>
        obtain ⟨hd1, hd2⟩ := docsRun_at hrr.symm
        have hsz : ∀ t ∈ ts, t.size ≤ 4096 := fun t ht => by
          obtain ⟨j, hj⟩ := List.mem_iff_getElem?.1 ht
          have hl := (List.getElem?_eq_some_iff.1 hj).1
          rw [hd1] at hl
          obtain ⟨t', e1, e2⟩ := hd2 j _ (List.getElem?_eq_getElem hl)
          rw [hj] at e1
          cases e1
          exact doc_small e2
        have hlin : ∀ t ∈ ts, ∀ n ∈ lay 0 t, 0 ≤ n.line ∧ n.line ≤ 1048576 := fun t ht n hn => lin_lay (P := fun x => 0 ≤ x ∧ x ≤ 1048576) 0 t (of_lin (fun u hu => (hr.out u hu).2.2) hrr.symm t ht) n hn
        have hnt : ts.length ≤ 3000000000000 := by
          have h2 := segs_len [] l
          have := hll.out
          omega
        obtain ⟨nt, hntl⟩ : ∃ x, x = ts.length := ⟨_, rfl⟩
        obtain ⟨n1, hn1⟩ : ∃ x, x = nt + 1 := ⟨_, rfl⟩
        rw [← hntl] at hnt
        obtain ⟨hw1, hw2⟩ := mw_len hn1 hnt
        have hrF2 : ofRun (movL c d false l) = .ok (ts.map (lowT d)) := by rw [hrF.out]; rfl
        have hrT2 : ofRun (movL c d true l) = .ok (xT :: ts.map (lowT d)) := by rw [hrT.out]; rfl
        have hlB : (ts.map (lowT d)).length = nt := by rw [List.length_map, hntl]
        have hlC : (xT :: ts.map (lowT d)).length = n1 := by rw [List.length_cons, hlB, hn1]
        replace hrr := Lib.hid hrr
        replace hd1 := Lib.hid hd1
        replace hd2 := Lib.hid hd2
        replace hsz := Lib.hid hsz
        replace hlin := Lib.hid hlin
        replace hnt := Lib.hid hnt
        replace hntl := Lib.hid hntl
        replace hrF2 := Lib.hid hrF2
        replace hrT2 := Lib.hid hrT2
        replace hlB := Lib.hid hlB
        replace hlC := Lib.hid hlC
        replace hn1 := Lib.hid hn1
        go_upto_region 11 with (first
          | (go_at_call 9; (with_reducible refine (own_at tk1.out hk1.out (by have := hll.out; omega) (Tch.refl No _)).mono ?_); rintro e wA ⟨gA, cA, rfl, tvA, ltA, tA⟩; replace tvA := Lib.hid tvA; replace ltA := Lib.hid ltA; replace tA := Lib.hid tA)
          | (go_at_call 10; (with_reducible refine (of_any tvA.out ltA.out (by have := hll.out; omega)).mono ?_); rintro e wB hB; rw [← hrr.out] at hB; obtain ⟨vA, FA, LA, rfl, hLA, hTA, tB⟩ := hB; obtain ⟨ao1, ac1, hv1⟩ := tm_len hTA hLA; rw [← hntl.out] at hv1; subst hv1; replace hLA := Lib.hid hLA; replace hTA := Lib.hid hTA; replace tB := Lib.hid (tA.out.trans tB (fun _ h => h.elim)))
          | fail)
        obtain ⟨wC, hwwC⟩ : ∃ w2, w2 = wB.alloc (.cells #[.int .i64 0, .int .i64 0, .int .i64 0] 28) := ⟨_, rfl⟩
        obtain ⟨b9, hbb9⟩ : ∃ b, b = wB.heap.size := ⟨_, rfl⟩
        rw [← hwwC, ← hbb9]
        have twC : Tch No wB wC := by rw [hwwC]; exact Tch.alloc No wB _
        have gb9 : wC.heap[b9]? = some (.cells #[.int .i64 0, .int .i64 0, .int .i64 0] 28) := by rw [hwwC, hbb9]; exact heap_alloc_new wB _
        replace hwwC := Lib.hid hwwC
        replace hbb9 := Lib.hid hbb9
        replace twC := Lib.hid twC
        replace gb9 := Lib.hid gb9
        have tC := Lib.hid (tB.out.trans twC.out (fun _ h => h.elim))
        go_upto_region 12 with (first
          | (go_at_call 25; (with_reducible refine (hMF.out _ tC.out).mono ?_); rintro e wD ⟨vD, rfl, rowD, tD⟩; obtain ⟨kbD, tkD, hkD, _⟩ := rowToks rowD rfl; replace tkD := Lib.hid tkD; replace hkD := Lib.hid hkD; replace tD := Lib.hid tD; replace rowD := trivial)
          | (go_at_call 9; (with_reducible refine (own_at tkD.out hkD.out hlF.out (Tch.refl No _)).mono ?_); rintro e wE ⟨gE, cE, rfl, tvE, ltE, tE⟩; replace tvE := Lib.hid tvE; replace ltE := Lib.hid ltE; replace tE := Lib.hid (tD.out.trans tE (fun _ h => h.elim)))
          | (go_at_call 10; (with_reducible refine (of_any tvE.out ltE.out (by have := hlF.out; omega)).mono ?_); rintro e wF hF; rw [hrF2.out] at hF; obtain ⟨vB, FB, LB, rfl, hLB, hTB, tF⟩ := hF; obtain ⟨ao2, ac2, hv2⟩ := tm_len hTB hLB; rw [hlB.out] at hv2; subst hv2; replace hLB := Lib.hid hLB; replace hTB := Lib.hid hTB; replace tF := Lib.hid (tE.out.trans tF (fun _ h => h.elim)))
          | fail)
        obtain ⟨wG, hwwG⟩ : ∃ w2, w2 = wF.alloc (.cells #[.int .i64 0, .int .i64 0, .int .i64 0] 28) := ⟨_, rfl⟩
        obtain ⟨b11, hbb11⟩ : ∃ b, b = wF.heap.size := ⟨_, rfl⟩
        rw [← hwwG, ← hbb11]
        have twG : Tch No wF wG := by rw [hwwG]; exact Tch.alloc No wF _
        have gb11 : wG.heap[b11]? = some (.cells #[.int .i64 0, .int .i64 0, .int .i64 0] 28) := by rw [hwwG, hbb11]; exact heap_alloc_new wF _
        replace hwwG := Lib.hid hwwG
        replace hbb11 := Lib.hid hbb11
        replace twG := Lib.hid twG
        replace gb11 := Lib.hid gb11
        have tCG := Lib.hid (tF.out.trans twG.out (fun _ h => h.elim))
        have tG := Lib.hid (tC.out.trans tCG.out (fun _ h => h.elim))
        go_upto_region 13 with (first
          | (go_at_call 25; (with_reducible refine (hMT.out _ tG.out).mono ?_); rintro e wH ⟨vH, rfl, rowH, tH⟩; obtain ⟨kbH, tkH, hkH, _⟩ := rowToks rowH rfl; replace tkH := Lib.hid tkH; replace hkH := Lib.hid hkH; replace tH := Lib.hid tH; replace rowH := trivial)
          | (go_at_call 9; (with_reducible refine (own_at tkH.out hkH.out hlT.out (Tch.refl No _)).mono ?_); rintro e wI ⟨gI, cI, rfl, tvI, ltI, tI⟩; replace tvI := Lib.hid tvI; replace ltI := Lib.hid ltI; replace tI := Lib.hid (tH.out.trans tI (fun _ h => h.elim)))
          | (go_at_call 10; (with_reducible refine (of_any tvI.out ltI.out (by have := hlT.out; omega)).mono ?_); rintro e wJ hJ; rw [hrT2.out] at hJ; obtain ⟨vC, FC, LC, rfl, hLC, hTC, tJ⟩ := hJ; obtain ⟨ao3, ac3, hv3⟩ := tm_len hTC hLC; rw [hlC.out] at hv3; subst hv3; replace hLC := Lib.hid hLC; replace hTC := Lib.hid hTC; replace tJ := Lib.hid (tI.out.trans tJ (fun _ h => h.elim)))
          | fail)
        obtain ⟨wK, hwwK⟩ : ∃ w2, w2 = wJ.alloc (.cells #[.int .i64 0, .int .i64 0, .int .i64 0] 28) := ⟨_, rfl⟩
        obtain ⟨b13, hbb13⟩ : ∃ b, b = wJ.heap.size := ⟨_, rfl⟩
        rw [← hwwK, ← hbb13]
        have twK : Tch No wJ wK := by rw [hwwK]; exact Tch.alloc No wJ _
        have gb13 : wK.heap[b13]? = some (.cells #[.int .i64 0, .int .i64 0, .int .i64 0] 28) := by rw [hwwK, hbb13]; exact heap_alloc_new wJ _
        replace hwwK := Lib.hid hwwK
        replace hbb13 := Lib.hid hbb13
        replace twK := Lib.hid twK
        replace gb13 := Lib.hid gb13
        have tGK := Lib.hid (tJ.out.trans twK.out (fun _ h => h.elim))
        have tCK := Lib.hid (tCG.out.trans tGK.out (fun _ h => h.elim))
        have h9 := (tCK.out.block b9 (heap_lt gb9.out) id).trans gb9.out
        have h11 := (tGK.out.block b11 (heap_lt gb11.out) id).trans gb11.out
        obtain ⟨_, _, x2, _, _, _⟩ := row3_cells h9
        obtain ⟨_, _, y2, _, _, _⟩ := row3_cells h11
        obtain ⟨_, _, z2, _, _, _⟩ := row3_cells gb13.out
        have hTA2 := hTA.out.tch (twC.out.trans tCK.out (fun _ h => h.elim)) (fun _ _ h => h)
        have hTB2 := hTB.out.tch (twG.out.trans tGK.out (fun _ h => h.elim)) (fun _ _ h => h)
        have hTC2 := hTC.out.tch twK.out (fun _ _ h => h)
        have hRB := treesR_of hTB2 hLB.out
        have hRC := treesR_of hTC2 hLC.out
        obtain ⟨x0, hx0, hx01⟩ : ∃ x0, LC[0]? = some x0 ∧ x0.1 = xT := by
          have h := congrArg (fun z => z[0]?) hLC.out
          simp only [List.getElem?_map, List.getElem?_cons_zero] at h
          cases hq : LC[0]? with
          | none => rw [hq] at h; cases h
          | some y => rw [hq] at h; exact ⟨y, rfl, by simpa using h⟩
        obtain ⟨gc, no, ncp, rfl, hnq, cc0, hnq2, hNx, _, _⟩ := hTC2.elem hx0 (by rw [hx01]; decide)
        clear hnq hnq2
        rw [hx01] at cc0 hNx
        have hxs : xT.size = 1 := by decide
        rw [hxs] at cc0 hNx
        obtain ⟨g0, off0, kvx, rfl, _, _, _, cx2, _, _, _, _⟩ := hNx.at (i := 0) (n := ⟨1, ⟨#[]⟩, ⟨#[120]⟩, false, 1, []⟩) rfl
        simp only [Nat.zero_mul, Nat.add_zero] at cx2
        have hcap3 : n1 ≤ ac3 := by
          obtain ⟨_, _, _, hcp, _⟩ := ownsRow_cell hTC2.row (j := 0) (u := x0.2.1) (by rw [List.getElem?_map, hx0]; rfl)
          have h2 := congrArg List.length hLC.out
          rw [List.length_map, hlC.out] at h2
          omega
        have hRC' : TreesR wK (.slice (some ⟨gc, 0, none⟩) (nt + 1) ac3) (lay 0 xT :: (ts.map (lowT d)).map (lay 0)) := by rw [← hn1.out]; exact hRC
        obtain ⟨hRt1, hRt2⟩ := tail_trees hRC' (by rw [← hn1.out]; exact hcap3)
        rw [show nt = n1 - 1 by have := hn1.out; omega] at hRt1 hRt2
        have hSH : ∀ w', Tch No wK w' → (Tch No wK w' ∧ w'.cell? ⟨b11, 2, none⟩ = some (.int .i64 0) ∧ w'.cell? ⟨b13, 2, none⟩ = some (.int .i64 0) ∧ w'.cell? ⟨gc, 0, none⟩ = some (.slice (some ⟨g0, off0, none⟩) 1 ncp) ∧ w'.cell? ⟨g0, off0 + 2, none⟩ = some (.string ⟨#[120]⟩)) := fun w' tt => ⟨tt, tt.cell_some y2 id, tt.cell_some z2 id, tt.cell_some cc0 id, tt.cell_some cx2 id⟩
        have hWd : Tch No wK wK.drew := Tch.drew No wK
        have hLow : ∀ w', Tch No wK w' → Calls Try.prog 26 #[.slice ao1 nt ac1, .int .i64 d] w' fun e w2 => ∃ lo lc, e = .returned (.slice lo nt lc) ∧ TreesR w2 (.slice lo nt lc) ((ts.map (lowT d)).map (lay 0)) ∧ Tch No wK w2 := fun w' tt => by
          have hmem : ∀ x ∈ LA, x.1 ∈ ts := fun x hx => by rw [← hLA.out]; exact List.mem_map_of_mem hx
          refine (lower_any (hTA2.tch tt (fun _ _ h => h)) (fun x hx => hsz.out _ (hmem x hx)) (fun x hx => hlin.out _ (hmem x hx)) hd.out (by have h2 := congrArg List.length hLA.out; rw [List.length_map, ← hntl.out] at h2; rw [h2]; exact hnt.out)).mono ?_
          rintro e w2 ⟨v', F', L', rfl, q1, q2, q3⟩
          rw [hLA.out] at q1
          obtain ⟨lo, lc, hv⟩ := tm_len q2 q1
          rw [hlB.out] at hv
          subst hv
          exact ⟨lo, lc, rfl, treesR_of q2 q1, tt.trans q3 (fun _ h => h.elim)⟩
        have hSm : ∀ w' v u, TreesR w' v ((ts.map (lowT d)).map (lay 0)) → TreesR w' u ((ts.map (lowT d)).map (lay 0)) → Tch No wK w' → Calls Try.prog 12 #[v, u] w' fun e w2 => e = .returned (.bool true) ∧ Tch No wK w2 := fun w' v u h1 h2 tt => by
          refine (trees_same h1 h2 (by rw [List.length_map, hlB.out]; have := hnt.out; omega) (fun N hN => ?_)).mono ?_
          · obtain ⟨t, ht, rfl⟩ := List.mem_map.1 hN
            obtain ⟨t2, ht2, rfl⟩ := List.mem_map.1 ht
            have h3 := hsz.out t2 ht2
            refine ⟨by rw [lay_length, lowT_size]; omega, fun j n hn => ?_⟩
            have := (bounds_lay 0 _ n (List.mem_of_getElem? hn)).1
            rw [lowT_size] at this
            omega
          · rintro e w2 ⟨rfl, q, rfl⟩
            exact ⟨rfl, tt.trans (Tch.drewN No w' q) (fun _ h => h.elim)⟩
        have hn0 : (0 : Int) < (n1 : Int) := by have := hn1.out; omega
        have hn0n : 0 < n1 := by have := hn1.out; omega
        have hn01 : (1 : Int) ≤ (n1 : Int) := by have := hn1.out; omega
        have hn01n : 1 ≤ n1 := by have := hn1.out; omega
        replace h9 := Lib.hid h9
        replace h11 := Lib.hid h11
        replace hTA2 := Lib.hid hTA2
        replace hTB2 := Lib.hid hTB2
        replace hTC2 := Lib.hid hTC2
        replace hRB := Lib.hid hRB
        replace hRC := Lib.hid hRC
        replace hRC' := Lib.hid hRC'
        replace hRt1 := Lib.hid hRt1
        replace hRt2 := Lib.hid hRt2
        replace hx0 := Lib.hid hx0
        replace hx01 := Lib.hid hx01
        replace hNx := Lib.hid hNx
        replace hcap3 := Lib.hid hcap3
        replace hSH := Lib.hid hSH
        replace hWd := Lib.hid hWd
        replace hLow := Lib.hid hLow
        replace hSm := Lib.hid hSm
        replace hxs := Lib.hid hxs
        by_cases hck : ac3 = 1
        · have hRt := Lib.hid (hRt2.out hck)
          subst hck
          go_upto_region 15 with fail
          go_region_held3 (fun w' => Tch No wK w' ∧ w'.cell? ⟨b11, 2, none⟩ = some (.int .i64 0) ∧ w'.cell? ⟨b13, 2, none⟩ = some (.int .i64 0) ∧ w'.cell? ⟨gc, 0, none⟩ = some (.slice (some ⟨g0, off0, none⟩) 1 ncp) ∧ w'.cell? ⟨g0, off0 + 2, none⟩ = some (.string ⟨#[120]⟩))
            (first | exact hSH.out _ hWd.out | exact hSH.out _ tL.out | exact hSH.out _ tM.out | exact hSH.out _ tN.out | exact hSH.out _ tO.out | fail)
            (first
              | (go_at_call 26; (with_reducible refine (hLow.out _ hWd.out).mono ?_); rintro e wL ⟨lo, lc, rfl, hRL, tL⟩; replace hRL := Lib.hid hRL; replace tL := Lib.hid tL)
              | (go_at_call 12; (with_reducible refine (hSm.out _ _ _ (hRB.out.tch tL.out) hRL.out tL.out).mono ?_); rintro e wM ⟨rfl, tM⟩; replace tM := Lib.hid tM)
              | (go_at_call 26; (with_reducible refine (hLow.out _ tM.out).mono ?_); rintro e wN ⟨lo2, lc2, rfl, hRN, tN⟩; replace hRN := Lib.hid hRN; replace tN := Lib.hid tN)
              | (go_at_call 12; (with_reducible refine (hSm.out _ _ _ (hRt.out.tch tN.out) hRN.out tN.out).mono ?_); rintro e wO ⟨rfl, tO⟩; replace tO := Lib.hid tO)
              | fail)
          all_goals go_wp2
          all_goals go_ret
          all_goals exact ⟨rfl, (t1.out.trans tC.out (fun _ h => h.elim)).trans (tCK.out.trans tO.out (fun _ h => h.elim)) (fun _ h => h.elim)⟩
        · have hRt := Lib.hid (hRt1.out hck)
          go_upto_region 15 with fail
          go_region_held3 (fun w' => Tch No wK w' ∧ w'.cell? ⟨b11, 2, none⟩ = some (.int .i64 0) ∧ w'.cell? ⟨b13, 2, none⟩ = some (.int .i64 0) ∧ w'.cell? ⟨gc, 0, none⟩ = some (.slice (some ⟨g0, off0, none⟩) 1 ncp) ∧ w'.cell? ⟨g0, off0 + 2, none⟩ = some (.string ⟨#[120]⟩))
            (first | exact hSH.out _ hWd.out | exact hSH.out _ tL.out | exact hSH.out _ tM.out | exact hSH.out _ tN.out | exact hSH.out _ tO.out | fail)
            (first
              | (go_at_call 26; (with_reducible refine (hLow.out _ hWd.out).mono ?_); rintro e wL ⟨lo, lc, rfl, hRL, tL⟩; replace hRL := Lib.hid hRL; replace tL := Lib.hid tL)
              | (go_at_call 12; (with_reducible refine (hSm.out _ _ _ (hRB.out.tch tL.out) hRL.out tL.out).mono ?_); rintro e wM ⟨rfl, tM⟩; replace tM := Lib.hid tM)
              | (go_at_call 26; (with_reducible refine (hLow.out _ tM.out).mono ?_); rintro e wN ⟨lo2, lc2, rfl, hRN, tN⟩; replace hRN := Lib.hid hRN; replace tN := Lib.hid tN)
              | (go_at_call 12; (with_reducible refine (hSm.out _ _ _ (hRt.out.tch tN.out) hRN.out tN.out).mono ?_); rintro e wO ⟨rfl, tO⟩; replace tO := Lib.hid tO)
              | fail)
          all_goals go_wp2
          all_goals go_ret
          all_goals exact ⟨rfl, (t1.out.trans tC.out (fun _ h => h.elim)).trans (tCK.out.trans tO.out (fun _ h => h.elim)) (fun _ h => h.elim)⟩
end Go.Proofs.Ytcnjmkjfgghgoaa
end

section
/- What a law is handed: room behind a slice; the cell of a library's variable. -/
namespace Go.Proofs.Ytcnjmkjfgghgoaa
open Go.ChangeShapes Go.WideShapes Go.ChangeAt Go.RowKit
set_option linter.unusedVariables false
set_option maxRecDepth 100000
theorem okWide_cap {P : Program} {w : World} {base : Nat} {t e : TypeId} {ao : Option Addr} {n c : Nat} (ht : P.underlying t = some (.slice e)) (h : Value.okWide P w .any base t (.slice ao n c)) : n ≤ c ∧ (ao = none → c = 0) := by
  simp only [Value.okWide, ht, Cell.okWide] at h
  cases ao with
  | none =>
    cases n with
    | zero => cases c <;> simp_all [Cell.ok]
    | succ n => simp_all [Cell.ok]
  | some a => simp_all [Cell.ok]
theorem hm_of {W : World} (h : W.ShapedOpen Try.prog) : ∃ m, W.cell? ⟨0, 0, none⟩ = some (.int .i64 m) :=
  cell_of_shapedOpen_int (t := 3) (zero := #[.int .i64 0]) h (of_decide_eq_true (by kernel_rfl)) (by kernel_rfl) rfl (by kernel_rfl) (by kernel_rfl) Try.underlying3
theorem tokV_of {W : World} {kb base : Nat} {v : Value} {l : List Go.Tr.Tok} (h : TokS W kb v l) (hv : Value.okWide Try.prog W .any base 22 v) : TokV W kb v l := by
  obtain ⟨ao, cap, rfl, h2⟩ := id h
  exact ⟨h, _, _, rfl, (okWide_cap Try.underlying22 hv).1⟩
end Go.Proofs.Ytcnjmkjfgghgoaa
end

section
/- Tokens as a law is handed them, their number bounded more closely. -/
namespace Go.Proofs.Ytcnjmkjfgghgoaa
open Go.ChangeShapes Go.WideShapes Go.ChangeAt Go.RowKit Go.Tr
set_option linter.unusedVariables false
set_option maxRecDepth 100000
section
variable {H : Type} {enc : TypeId × Value → H} {W : World} {v : Value} {d : DataW H} {pl : List MemPlace} {ts : List TypeId} {ds : List (DataW H)} {j base : Nat}
theorem open_toks2 (hval : Value.okWide Try.prog W .any base 22 v) (hd : DataW.Trod enc Try.prog W 0 (fun _ => true) true 22 v d pl) (hsz : (DataW.weightsEach Try.prog ts ds).all (· ≤ reachBytes) = true) (hts : ts[j]? = some 22) (hds : ds[j]? = some d) :
    ∃ kb l, TokS W kb v l ∧ (kb < W.heap.size ∨ l = []) ∧ l.length < 2932031007320 ∧ ∀ (i : Nat) (t : Tok), l[i]? = some t → (-9223372036854775808 ≤ t.kind ∧ t.kind ≤ 9223372036854775807) ∧ (-9223372036854775808 ≤ t.line ∧ t.line ≤ 9223372036854775807) ∧ (-9223372036854775808 ≤ t.col ∧ t.col ≤ 9223372036854775807) ∧ t.text.size ≤ maxLen := by
  obtain ⟨a0, l0, c0, rfl⟩ := okWide_slice Try.underlying22 hval
  obtain ⟨hs, v', q, r, hB⟩ := Rd.open_arg (Rd.opens_sliceB Try.underlying22 co48 (show Try.prog.bytesOf 48 = 48 by kernel_rfl) (by decide) (by decide) oTok) hd hsz hts hds
  replace q : some (Value.slice a0 l0 c0) = some v' := q
  cases q
  obtain ⟨_, ao, cap, e, h⟩ := r
  cases e
  have hlen : hs.length < 2932031007320 := by omega
  rcases h with h | ⟨b, off, rfl, hb, hx⟩
  · subst h
    exact ⟨0, [], ⟨_, _, rfl, fun i t ht => by cases ht⟩, .inr rfl, by simp, fun i t ht => by cases ht⟩
  · have key : ∀ (i : Nat) (t : Tok), (hs.map tokOfA)[i]? = some t → ∃ x, hs[i]? = some x ∧ tokOfA x = t := fun i t ht => by
      rw [List.getElem?_map] at ht
      cases hq : hs[i]? with
      | none => rw [hq] at ht; cases ht
      | some x => rw [hq] at ht; exact ⟨x, rfl, by simpa using ht⟩
    refine ⟨b, hs.map tokOfA, ⟨some ⟨b, off, none⟩, c0, by rw [List.length_map], fun i t ht => ?_⟩, .inl hb, Nat.lt_of_le_of_lt (Nat.le_of_eq (List.length_map tokOfA)) hlen, fun i t ht => ?_⟩
    · obtain ⟨x, hq, rfl⟩ := key i t ht
      obtain ⟨h1, h2, h3, h4, h5⟩ := tok_cells (hx i x hq)
      exact ⟨off, rfl, h1, h2, h3, h4, h5⟩
    · obtain ⟨x, hq, rfl⟩ := key i t ht
      obtain ⟨h1, h2, h3, h4, h5, _⟩ := hx i x hq
      exact ⟨h1.2, h2.2, h3.2, h4.2⟩
end
end Go.Proofs.Ytcnjmkjfgghgoaa
end

section
/- The law TreeMoves at its arguments as they are handed in. -/
namespace Go.Proofs.Ytcnjmkjfgghgoaa.treeMoves
open Go.ChangeShapes Go.WideShapes Go.ChangeAt Go.RowKit Go.Mp Go.Tr
set_option maxRecDepth 100000
theorem below_of {w w' : World} (t : Tch No w w') : Below w.heap.size w w' := ⟨t.os, t.tape, t.output, t.size, fun k hk => t.block k hk id⟩
theorem first_off (l : List Tok) : (∀ t ∈ l, okTok t) ∨ ∃ i t, l[i]? = some t ∧ ¬ okTok t ∧ ∀ (j : Nat) (u : Tok), j < i → l[j]? = some u → okTok u := by
  induction l with
  | nil => exact .inl (fun t ht => by cases ht)
  | cons a l ih =>
    by_cases ha : okTok a
    · rcases ih with h | ⟨i, t, h1, h2, h3⟩
      · refine .inl (fun t ht => ?_)
        rcases List.mem_cons.1 ht with rfl | ht
        · exact ha
        · exact h t ht
      · refine .inr ⟨i + 1, t, h1, h2, fun j u hj hu => ?_⟩
        cases j with
        | zero => simp only [List.getElem?_cons_zero, Option.some.injEq] at hu; subst hu; exact ha
        | succ j => exact h3 j u (by omega) hu
    · exact .inr ⟨0, a, rfl, ha, fun j u hj => absurd hj (Nat.not_lt_zero j)⟩
theorem walk {H : Type} (enc : TypeId × Value → H) (W : World) (base : Nat) (args : Array Value) (ds : List (DataW H)) (p : List MemPlace)
    (hval0 : ∀ (j : Nat) t v, Try.f6.params[j]? = some t → args[j]? = some v → Value.okWide Try.prog W .any base t v)
    (hA : DataW.TrodAll enc Try.prog W 0 (fun _ => true) true Try.f6.params.toList args.toList ds p) (hsh : W.ShapedOpen Try.prog)
    (hsz : (DataW.weightsEach Try.prog Try.f6.params.toList ds).all (· ≤ reachBytes) = true) :
    Calls Try.prog 6 args W fun e w' => e = .returned (.bool true) ∧ Below W.heap.size W w' := by
  have hval : ∀ (j : Nat) t v, Try.f6.params[j]? = some t → args[j]? = some v → Value.okWide Try.prog W .any base t v := hval0
  rw [Try.params6] at hA hval hsz
  obtain ⟨v0, v1, v2, d0, d1, d2, p0, p1, p2, rfl, rfl, _, h0, h1, h2⟩ := trodAll_three hA
  obtain ⟨m, hm⟩ := hm_of hsh
  obtain ⟨kb, l, h1', h2', h3', _⟩ := open_toks2 (hval 0 22 v0 rfl rfl) h0 hsz (j := 0) rfl rfl
  obtain ⟨x, rfl, _, _, wx⟩ := open_int Try.underlying3 (hval 1 3 v1 rfl rfl) h1
  obtain ⟨y, rfl, _, _, wy⟩ := open_int Try.underlying3 (hval 2 3 v2 rfl rfl) h2
  have done : Calls Try.prog 6 #[v0, .int .i64 x, .int .i64 y] W fun e w' => e = .returned (.bool true) ∧ Tch No W w' := by
    rcases first_off l with h | ⟨i, t, g1, g2, g3⟩
    · exact moves_in h1' h2' h3' hm h (bounds_i64 wx) (bounds_i64 wy)
    · exact moves_out h1' h2' h3' hm g1 g2 g3
  exact done.mono (fun e w' h => ⟨h.1, below_of h.2⟩)
end Go.Proofs.Ytcnjmkjfgghgoaa.treeMoves
end

section

namespace Go.Proofs.Ytcnjmkjfgghgoaa.treeMoves
open Go.ChangeShapes Go.WideShapes Go.ChangeAt Go.RowKit

theorem own : ownKnob Try.prog.godebug = none := by kernel_rfl

set_option maxRecDepth 100000 in
theorem lifted (os : Os) (started : os.Started) (H : Type) (enc : TypeId × Value → H) :
    ReturnsInHanded {} Try.checked os 6 .any (Rows.treeMovesSpec.pre6 enc Try.prog Try.f6 Rows.treeMovesRow.domain false) (Rows.treeMovesSpec.post enc Try.prog Try.f6 false true false false) := by
  refine returnsInHanded_of_change_shaped (C := Try.checked) own started (by kernel_rfl) Try.func6
    (ChangeSpec.witness6 (enc := enc) (C := Try.checked) false ⟨#[], #[.slice none 0 0 , .int .i64 0 , .int .i64 0], []⟩ 8 (by kernel_rfl) (by kernel_rfl) (by kernel_rfl) (by kernel_rfl)) ?_
  intro W base args ds gs before hval hW _ hsz hsh _
  obtain ⟨p, q, hA, hV, hpq, hfz, hnd⟩ := id hW
  refine (walk enc W base args ds p hval hA hsh ?hz).mono ?_
  case hz =>
    obtain ⟨rfl, rfl⟩ := trodVars_none hV
    have e : (Rows.treeMovesSpec.plain.varTypes Try.checked.prog) = [] := rfl
    rw [e, List.append_nil, List.append_nil] at hsz
    exact hsz
  rintro e W' ⟨rfl, hb⟩
  refine ⟨_, rfl, law_post Try.laidOut (by kernel_rfl) rfl Try.underlying4 rfl hW ?_ hb⟩
  intro ds' h
  have h2 : ds'.length = Try.f6.params.toList.length := h
  rw [Try.params6] at h2
  match ds', h2 with
  | [_, _, _], _ => rfl

theorem over : Rows.treeMovesRow.holds Try.pinned (OpenSpec.ofChange Rows.treeMovesSpec) :=
  OpenClaim.holds_of_wide 6 Try.f6 rfl rfl rfl rfl rfl rfl rfl ⟨rfl, rfl, rfl, rfl, rfl⟩ rfl rfl rfl rfl rfl (by kernel_rfl) Try.func6 (by kernel_rfl)
    (of_decide_eq_true (by kernel_rfl)) (by unfold Func.isWrapper; first | (rw [if_pos (by decide +kernel)]; kernel_rfl) | (rw [if_neg (by decide +kernel)]; exact ⟨rfl, rfl⟩))
    (fun os started H enc _ => lifted os started H enc)

/-- THE STATEMENT. -/
theorem proved : Rows.TreeMovesSaid :=
  over
end Go.Proofs.Ytcnjmkjfgghgoaa.treeMoves
end
