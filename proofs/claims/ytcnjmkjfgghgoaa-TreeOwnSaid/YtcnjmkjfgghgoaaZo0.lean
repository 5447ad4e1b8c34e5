/- 'append(v, x..)' onto a row of one's own: in place, or into a new block while the old one keeps what it held. -/
import Derived.Test.YtcnjmkjfgghgoaaZt27
import Derived.Test.YtcnjmkjfgghgoaaZt13
import Derived.Test.YtcnjmkjfgghgoaaZt26
import Derived.Test.YtcnjmkjfgghgoaaZt12
import Derived.Test.YtcnjmkjfgghgoaaZt11
section
/- Tokens moved: the trees are the same ones, moved. No program in sight. -/
namespace Go.Tr
open Go.RowKit
set_option linter.unusedVariables false
def mv (c d : Int) (t : Tok) : Tok := { t with col := t.col + c, line := t.line + d }
mutual
def lowT (d : Int) : T → T
  | .node k key tx q ln ks => .node k key tx q (ln + d) (lowL d ks)
def lowL (d : Int) : List T → List T
  | [] => []
  | t :: ts => lowT d t :: lowL d ts
end
theorem lowL_map (d : Int) (ts : List T) : lowL d ts = ts.map (lowT d) := by
  induction ts with
  | nil => rfl
  | cons t ts ih => simp only [lowL, List.map_cons, ih]
mutual
theorem lowT_size (d : Int) : ∀ t : T, (lowT d t).size = t.size
  | .node k key tx q ln ks => by simp only [lowT, T.size, lowL_sizes d ks]
theorem lowL_sizes (d : Int) : ∀ ts : List T, sizes (lowL d ts) = sizes ts
  | [] => rfl
  | t :: ts => by simp only [lowL, sizes, lowT_size d t, lowL_sizes d ts]
end
theorem lowT_key (d : Int) : ∀ t : T, (lowT d t).key = t.key
  | .node k key tx q ln ks => rfl
def lowN (d : Int) (n : Nd) : Nd := { n with line := n.line + d }
theorem kidAts_low (d : Int) (b : Nat) (ts : List T) : kidAts b (lowL d ts) = kidAts b ts := by
  induction ts generalizing b with
  | nil => rfl
  | cons t ts ih => simp only [lowL, kidAts, lowT_size, ih]
mutual
theorem lay_low (d : Int) : ∀ (b : Nat) (t : T), lay b (lowT d t) = (lay b t).map (lowN d)
  | b, .node k key tx q ln ks => by
    simp only [lowT, lay, List.map_cons, lowN, kidAts_low]
    rw [lays_low d (b + 1) ks]
theorem lays_low (d : Int) : ∀ (b : Nat) (ts : List T), lays b (lowL d ts) = (lays b ts).map (lowN d)
  | _, [] => rfl
  | b, t :: ts => by
    simp only [lowL, lays, List.map_append, lowT_size]
    rw [lay_low d b t, lays_low d (b + t.size) ts]
end
def mvR {α : Type} (d : Int) (f : α → α) : Res α → Res α
  | .error e => .error (e.1 + d, e.2)
  | .ok (x, a, m) => .ok (f x, a, m)
theorem mv_get (c d : Int) (l : List Tok) (i : Nat) : (l.map (mv c d))[i]? = (l[i]?).map (mv c d) := List.getElem?_map
theorem has_mv (c d : Int) (l : List Tok) (i : Nat) : has (((l.map (mv c d))[i]?).getD zero) = has ((l[i]?).getD zero) := by
  rw [mv_get]
  cases l[i]? <;> rfl
theorem isVal_mv (c d : Int) (kind : Int) (u n : Tok) : isVal kind (mv c d u) (mv c d n) = isVal kind u n := by
  have e1 : decide ((mv c d n).line = (mv c d u).line) = decide (n.line = u.line) := by
    apply decide_eq_decide.2; simp only [mv]; omega
  have e2 : decide ((mv c d u).col < (mv c d n).col) = decide (u.col < n.col) := by
    apply decide_eq_decide.2; simp only [mv]; omega
  have e3 : decide ((mv c d n).col = (mv c d u).col) = decide (n.col = u.col) := by
    apply decide_eq_decide.2; simp only [mv]; omega
  unfold isVal
  rw [e1, e2, e3]
  rfl
def Moves (c d : Int) (l : List Tok) (f : Nat) : Prop := ∀ (kind col : Int) (at' dp made : Nat) (acc : List T), loop (l.map (mv c d)) f kind (col + c) at' dp made (acc.map (lowT d)) = mvR d (List.map (lowT d)) (loop l f kind col at' dp made acc)
theorem block_mv {c d : Int} {l : List Tok} {f : Nat} (ih : Moves c d l f) {at' dp made : Nat} {key : ByteArray} (hh : has ((l[at']?).getD zero) = true) : blockW (loop (l.map (mv c d)) f) (l.map (mv c d)) at' dp made key = mvR d (lowT d) (blockW (loop l f) l at' dp made key) := by
  obtain ⟨t, ht⟩ := has_some hh
  unfold blockW
  rw [mv_get, ht]
  dsimp only [Option.map_some]
  by_cases hf : full dp made = true
  · rw [if_pos hf, if_pos hf]; rfl
  · rw [if_neg hf, if_neg hf]
    have ek : (mv c d t).kind = t.kind := rfl
    rw [ek]
    by_cases h4 : t.kind = 4
    · rw [if_pos h4, if_pos h4]; rfl
    · rw [if_neg h4, if_neg h4]
      have h := ih t.kind t.col at' dp (made + 1) []
      have ec : (mv c d t).col = t.col + c := rfl
      rw [ec]
      rw [List.map_nil] at h
      rw [h]
      cases loop l f t.kind t.col at' dp (made + 1) [] with
      | error e => rfl
      | ok x =>
        obtain ⟨ks, a, m⟩ := x
        simp only [mvR, lowT, lowL_map]
        rfl
theorem value_mv {c d : Int} {l : List Tok} {f : Nat} (ih : Moves c d l f) {is : Bool} {u : Tok} {at' dp made : Nat} {key : ByteArray} : valueW (loop (l.map (mv c d)) f) (l.map (mv c d)) is (mv c d u) at' dp made key = mvR d (lowT d) (valueW (loop l f) l is u at' dp made key) := by
  unfold valueW
  rw [has_mv]
  by_cases h : (is && has ((l[at']?).getD zero)) = true
  · rw [if_pos h, if_pos h]
    rw [Bool.and_eq_true] at h
    exact block_mv ih h.2
  · rw [if_neg h, if_neg h]
    by_cases hf : full dp made = true
    · rw [if_pos hf, if_pos hf]; rfl
    · rw [if_neg hf, if_neg hf]; rfl
/-- Where no token follows it does not matter whether it would be a value. -/
theorem value_none {lp : Lp} {l : List Tok} {is is' : Bool} {u : Tok} {at' dp made : Nat} {key : ByteArray} (h : l[at']? = none) : valueW lp l is u at' dp made key = valueW lp l is' u at' dp made key := by
  unfold valueW
  rw [h]
  have : has ((none : Option Tok).getD zero) = false := by decide
  rw [this, Bool.and_false, Bool.and_false]
theorem loop_mv (c d : Int) (l : List Tok) : ∀ f, Moves c d l f := by
  intro f
  induction f with
  | zero => intro kind col at' dp made acc; rfl
  | succ f ih =>
    intro kind col at' dp made acc
    unfold loop
    rw [mv_get]
    cases hu : l[at']? with
    | none => rfl
    | some u =>
      dsimp only [Option.map_some]
      have ek : (mv c d u).kind = u.kind := rfl
      have ec : ((mv c d u).col = col + c) ↔ u.col = col := by show u.col + c = col + c ↔ _; omega
      have et : (mv c d u).text = u.text := rfl
      rw [ek]
      by_cases hk : u.kind = kind ∧ u.col = col
      · rw [if_pos hk, if_pos ⟨hk.1, ec.2 hk.2⟩]
        have ea : ((acc.map (lowT d)).any fun k => decide (k.key = (mv c d u).text)) = (acc.any fun k => decide (k.key = u.text)) := by
          rw [List.any_map]
          congr 1
          funext k
          simp only [Function.comp, lowT_key, et]
        rw [ea]
        by_cases h3 : kind = 3 ∧ (acc.any fun k => decide (k.key = u.text)) = true
        · rw [if_pos h3, if_pos h3]; rfl
        · rw [if_neg h3, if_neg h3]
          have hv : valueW (loop (l.map (mv c d)) f) (l.map (mv c d)) (isVal kind (mv c d u) (((l.map (mv c d))[at' + 1]?).getD zero)) (mv c d u) (at' + 1) (dp + 1) made (if kind = 3 then (mv c d u).text else ⟨#[]⟩) = mvR d (lowT d) (valueW (loop l f) l (isVal kind u ((l[at' + 1]?).getD zero)) u (at' + 1) (dp + 1) made (if kind = 3 then u.text else ⟨#[]⟩)) := by
            rw [et, mv_get]
            cases hn : l[at' + 1]? with
            | none =>
              rw [value_none (is' := isVal kind u zero) (by rw [mv_get, hn]; rfl)]
              exact value_mv ih
            | some n =>
              simp only [Option.map_some, Option.getD_some]
              rw [isVal_mv]
              exact value_mv ih
          rw [hv]
          cases valueW (loop l f) l (isVal kind u ((l[at' + 1]?).getD zero)) u (at' + 1) (dp + 1) made (if kind = 3 then u.text else ⟨#[]⟩) with
          | error e => rfl
          | ok x =>
            obtain ⟨v, a, m⟩ := x
            simp only [mvR]
            have h := ih kind col a dp m (acc ++ [v])
            rw [List.map_append] at h
            exact h
      · rw [if_neg hk, if_neg (fun h => hk ⟨h.1, ec.1 h.2⟩)]; rfl
def mvD (d : Int) : Except Fa T → Except Fa T
  | .error e => .error (e.1 + d, e.2)
  | .ok t => .ok (lowT d t)
theorem doc_mv (c d : Int) {l : List Tok} (hne : l ≠ []) : doc (l.map (mv c d)) = mvD d (doc l) := by
  obtain ⟨a, r, rfl⟩ := List.exists_cons_of_ne_nil hne
  unfold doc
  rw [has_mv, List.length_map]
  by_cases hh : has ((((a :: r) : List Tok)[0]?).getD zero) = true
  · rw [if_pos hh, if_pos hh, block_mv (loop_mv c d _ _) hh]
    cases blockW (loop (a :: r) (a :: r).length) (a :: r) 0 1 0 ⟨#[]⟩ with
    | error e => rfl
    | ok x =>
      obtain ⟨t, at2, m⟩ := x
      simp only [mvR]
      rw [mv_get]
      cases ((a :: r) : List Tok)[at2]? <;> rfl
  · rw [if_neg hh, if_neg hh]; rfl
theorem segs_mv (c d : Int) : ∀ (l cur : List Tok), segs (cur.map (mv c d)) (l.map (mv c d)) = (segs cur l).map (List.map (mv c d))
  | [], cur => by
    unfold segs
    cases cur <;> rfl
  | t :: r, cur => by
    rw [List.map_cons, segs_cons, segs_cons]
    have ek : (mv c d t).kind = t.kind := rfl
    rw [ek]
    split
    · have h := segs_mv c d r []
      rw [List.map_nil] at h
      rw [h]
      cases cur <;> rfl
    · have h := segs_mv c d r (cur ++ [t])
      rw [List.map_append] at h
      exact h
def mvO (d : Int) (i : Nat) : Except (Nat × Fa) (List T) → Except (Nat × Fa) (List T)
  | .error e => .error (e.1 + i, e.2.1 + d, e.2.2)
  | .ok ts => .ok (ts.map (lowT d))
theorem docsRun_mv (c d : Int) (i : Nat) : ∀ (ds : List (List Tok)) (k : Nat), (∀ x ∈ ds, x ≠ []) → docsRun (k + i) (ds.map (List.map (mv c d))) = mvO d i (docsRun k ds)
  | [], k, _ => rfl
  | x :: ds, k, h => by
    simp only [List.map_cons, docsRun]
    rw [doc_mv c d (h x List.mem_cons_self), show k + i + 1 = (k + 1) + i by omega, docsRun_mv c d i ds (k + 1) (fun y hy => h y (List.mem_cons_of_mem _ hy))]
    cases doc x with
    | error e => rfl
    | ok t =>
      simp only [mvD]
      cases docsRun (k + 1) ds with
      | error e => rfl
      | ok ts => rfl
theorem ofRun_mv (c d : Int) (l : List Tok) : ofRun (l.map (mv c d)) = mvO d 0 (ofRun l) := by
  unfold ofRun
  have h := segs_mv c d l []
  rw [List.map_nil] at h
  rw [h]
  exact docsRun_mv c d 0 _ 0 (fun x hx => (segs_mem l [] x hx).1)
def xTok : Tok := ⟨4, 1, 0, ⟨#[120]⟩, false⟩
def dTok : Tok := ⟨1, 2, 0, ⟨#[]⟩, false⟩
def xT : T := .node 1 ⟨#[]⟩ ⟨#[120]⟩ false 1 []
theorem ofRun_ahead (c d : Int) (l : List Tok) : ofRun (xTok :: dTok :: l.map (mv c d)) = match mvO d 1 (ofRun l) with
    | .error e => .error e
    | .ok ts => .ok (xT :: ts) := by
  unfold ofRun
  have h1 : segs [] (xTok :: dTok :: l.map (mv c d)) = [xTok] :: segs [] (l.map (mv c d)) := rfl
  have h := segs_mv c d l []
  rw [List.map_nil] at h
  rw [h1, h]
  simp only [docsRun]
  have hx : doc [xTok] = .ok xT := rfl
  rw [hx]
  have h2 := docsRun_mv c d 1 (segs [] l) 0 (fun x hx => (segs_mem l [] x hx).1)
  rw [Nat.zero_add] at h2
  simp only
  rw [show 0 + 1 = 1 from rfl, h2]
  cases mvO d 1 (docsRun 0 (segs [] l)) <;> rfl
/-! ### whose lines a tree's nodes have -/
mutual
def linT (P : Int → Prop) : T → Prop
  | .node _ _ _ _ ln ks => P ln ∧ linL P ks
def linL (P : Int → Prop) : List T → Prop
  | [] => True
  | t :: ts => linT P t ∧ linL P ts
end
theorem linL_append {P : Int → Prop} {a b : List T} : linL P (a ++ b) ↔ linL P a ∧ linL P b := by
  induction a with
  | nil => simp [linL]
  | cons t ts ih => simp only [List.cons_append, linL, ih, and_assoc]
mutual
theorem lin_lay {P : Int → Prop} : ∀ (b : Nat) (t : T), linT P t → ∀ n ∈ lay b t, P n.line
  | b, .node k key tx q ln ks, h, n, hn => by
    simp only [linT] at h
    simp only [lay, List.mem_cons] at hn
    rcases hn with rfl | hn
    · exact h.1
    · exact lin_lays (b + 1) ks h.2 n hn
theorem lin_lays {P : Int → Prop} : ∀ (b : Nat) (ts : List T), linL P ts → ∀ n ∈ lays b ts, P n.line
  | b, [], _, n, hn => by cases hn
  | b, t :: ts, h, n, hn => by
    simp only [linL] at h
    simp only [lays, List.mem_append] at hn
    rcases hn with hn | hn
    · exact lin_lay b t h.1 n hn
    · exact lin_lays (b + t.size) ts h.2 n hn
end
def Lins (P : Int → Prop) (l : List Tok) (f : Nat) : Prop := ∀ (kind col : Int) (at' d made : Nat) (acc ks : List T) (at2 made2 : Nat), linL P acc → loop l f kind col at' d made acc = .ok (ks, at2, made2) → linL P ks
theorem block_lin {P : Int → Prop} {l : List Tok} {f : Nat} (hP : ∀ t ∈ l, P t.line) (ih : Lins P l f) {at' d made : Nat} {key : ByteArray} {v : T} {at2 made2 : Nat} (hr : blockW (loop l f) l at' d made key = .ok (v, at2, made2)) : linT P v := by
  unfold blockW at hr
  split at hr
  · cases hr
  · rename_i t ht
    have hl := hP t (List.mem_of_getElem? ht)
    split at hr
    · cases hr
    · split at hr
      · cases hr; exact ⟨hl, trivial⟩
      · split at hr
        · cases hr
        · rename_i ks a2 m2 he
          cases hr
          exact ⟨hl, ih _ _ _ _ _ [] _ _ _ (by simp only [linL]) he⟩
theorem value_lin {P : Int → Prop} {l : List Tok} {f : Nat} (hP : ∀ t ∈ l, P t.line) (ih : Lins P l f) {is : Bool} {u : Tok} (hu : u ∈ l) {at' d made : Nat} {key : ByteArray} {v : T} {at2 made2 : Nat} (hr : valueW (loop l f) l is u at' d made key = .ok (v, at2, made2)) : linT P v := by
  unfold valueW at hr
  split at hr
  · exact block_lin hP ih hr
  · split at hr
    · cases hr
    · cases hr; exact ⟨hP u hu, trivial⟩
theorem loop_lin {P : Int → Prop} {l : List Tok} (hP : ∀ t ∈ l, P t.line) : ∀ f, Lins P l f := by
  intro f
  induction f with
  | zero => intro kind col at' d made acc ks at2 made2 ha h; cases h; exact ha
  | succ f ih =>
    intro kind col at' d made acc ks at2 made2 ha h
    unfold loop at h
    split at h
    · cases h; exact ha
    · rename_i u hu
      split at h
      · split at h
        · cases h
        · split at h
          · cases h
          · rename_i v a2 m2 hv
            exact ih _ _ _ _ _ _ _ _ _ (linL_append.2 ⟨ha, by simp only [linL]; exact ⟨value_lin hP ih (List.mem_of_getElem? hu) hv, trivial⟩⟩) h
      · cases h; exact ha
theorem doc_lin {P : Int → Prop} {l : List Tok} (hP : ∀ t ∈ l, P t.line) {t : T} (h : doc l = .ok t) : linT P t := by
  unfold doc at h
  split at h
  · split at h
    · cases h
    · rename_i v at2 m2 he
      split at h
      · cases h
      · cases h; exact block_lin hP (loop_lin hP _) he
  · cases h
theorem of_lin {P : Int → Prop} {l : List Tok} (hP : ∀ t ∈ l, P t.line) {ts : List T} (h : ofRun l = .ok ts) : ∀ t ∈ ts, linT P t := by
  obtain ⟨h1, h2⟩ := docsRun_at h
  intro t ht
  obtain ⟨i, hi⟩ := List.mem_iff_getElem?.1 ht
  have hl := (List.getElem?_eq_some_iff.1 hi).1
  rw [h1] at hl
  obtain ⟨t', e1, e2⟩ := h2 i _ (List.getElem?_eq_getElem hl)
  rw [hi] at e1
  cases e1
  refine doc_lin (fun u hu => ?_) e2
  have hm := (segs_mem l [] _ (List.getElem_mem hl)).2 u hu
  rcases hm with h3 | h3
  · cases h3
  · exact hP u h3
end Go.Tr
end

section
/- round, moved, lower: walked. -/
namespace Go.Proofs.Ytcnjmkjfgghgoaa
open Go.RowKit Go.Mp Go.Tr
set_option linter.unusedVariables false
set_option maxRecDepth 100000
set_option maxHeartbeats 4000000
theorem round_any (w : World) (x : Int) (h1 : -9223372036854775808 ≤ x) (h2 : x ≤ 9223372036854775807) : Calls Try.prog 24 #[.int .i64 x, .int .i64 1000] w fun e w' => (∃ k : Nat, k < 1000 ∧ e = .returned (.int .i64 k)) ∧ w' = w := by
  have hr : -1000 < Int.tmod x 1000 ∧ Int.tmod x 1000 < 1000 := by
    have := Int.tmod_lt_of_pos x (show (0 : Int) < 1000 by decide)
    have h3 := Int.lt_tmod_of_pos x (show (0 : Int) < 1000 by decide)
    omega
  replace h1 := Lib.hid h1
  replace h2 := Lib.hid h2
  go_enter Try.func24, Try.ntmps24
  by_cases hn : Int.tmod x 1000 < 0
  · have hs : wrap64 (Int.tmod x 1000 + 1000) = Int.tmod x 1000 + 1000 := by unfold wrap64; omega
    replace hr := Lib.hid hr
    replace hs := Lib.hid hs
    go_wp2
    go_ret
    refine ⟨⟨(Int.tmod x 1000 + 1000).toNat, by have := hr.out; omega, ?_⟩, rfl⟩
    have e : (((Int.tmod x 1000 + 1000).toNat : Nat) : Int) = Int.tmod x 1000 + 1000 := by have := hr.out; omega
    rw [e]; exact congrArg (fun z => Ending.returned (Value.int .i64 z)) hs.out
  · have hn' : decide (Int.tmod x 1000 < 0) = false := decide_eq_false hn
    have hn2 : 0 ≤ Int.tmod x 1000 := by omega
    replace hr := Lib.hid hr
    replace hn := Lib.hid hn
    go_wp2
    go_ret
    refine ⟨⟨(Int.tmod x 1000).toNat, by have := hr.out; omega, ?_⟩, rfl⟩
    have e : (((Int.tmod x 1000).toNat : Nat) : Int) = Int.tmod x 1000 := by omega
    rw [e]; rfl
/-- A row of tokens, as tokens that are lent. -/
theorem rowToks {w : World} {B n : Nat} {v : Value} {l : List Tok} (h : w.ownsRow B 48 5 v n (tcs l)) (hn : n = l.length) : ∃ kb, TokS w kb v l ∧ (kb < w.heap.size ∨ l = []) ∧ (l ≠ [] → B ≤ kb) := by
  subst hn
  obtain ⟨ao, cap, rfl⟩ := ownsRow_shape h
  cases l with
  | nil => exact ⟨0, ⟨ao, cap, rfl, fun i t ht => by cases ht⟩, .inr rfl, fun h => absurd rfl h⟩
  | cons a r =>
    obtain ⟨g, rfl, _, _, _, _⟩ := ownsRow_cell h (j := 0 * 5 + 0) (u := .int .i64 a.kind) (by rw [tcs_at (t := a) rfl 0 (by omega)]; rfl)
    refine ⟨g, ⟨_, cap, rfl, fun i t ht => ⟨0, rfl, ?_⟩⟩, .inl (ownsRow_ge h rfl).2, fun _ => (ownsRow_ge h rfl).1⟩
    have key : ∀ (j : Nat) (u : Value), j < 5 → (tc t)[j]? = some u → w.cell? ⟨g, 0 + i * 5 + j, none⟩ = some u := fun j u hj hu => by
      obtain ⟨g', e, _, _, c, _⟩ := ownsRow_cell h (j := i * 5 + j) (u := u) (by rw [tcs_at ht j hj, hu])
      cases e
      rw [Nat.zero_add]; exact c
    exact ⟨key 0 _ (by omega) rfl, key 1 _ (by omega) rfl, key 2 _ (by omega) rfl, key 3 _ (by omega) rfl, key 4 _ (by omega) rfl⟩
theorem info48t : (Try.prog.info? 48).map (fun i => (i.zero, i.size, i.bytes)) = some (some (.agg #[.int .i64 0, .int .i64 0, .int .i64 0, .string ⟨#[]⟩, .bool false]), 5, 48) := by kernel_rfl
def InRange (l : List Tok) : Prop := ∀ t ∈ l, 0 ≤ t.col ∧ t.col ≤ 1048576 ∧ 0 ≤ t.line ∧ t.line ≤ 1048576
def movL (c d : Int) (ahead : Bool) (l : List Tok) : List Tok := (if ahead then [xTok, dTok] else []) ++ l.map (mv c d)
theorem tk5 {w : World} {c : Nat} {t : Tok} {e : TypeId} (h : w.heap[c]? = some (tokO t e)) : w.cell? ⟨c, 0, none⟩ = some (.int .i64 t.kind) ∧ w.cell? ⟨c, 1, none⟩ = some (.int .i64 t.line) ∧ w.cell? ⟨c, 2, none⟩ = some (.int .i64 t.col) ∧ w.cell? ⟨c, 3, none⟩ = some (.string t.text) ∧ w.cell? ⟨c, 4, none⟩ = some (.bool t.quoted) ∧ w.frozen? ⟨c, 1, none⟩ = false ∧ w.frozen? ⟨c, 2, none⟩ = false :=
  ⟨(cell_of_row _ _ 0 _ _ _ h).trans rfl, (cell_of_row _ _ 1 _ _ _ h).trans rfl, (cell_of_row _ _ 2 _ _ _ h).trans rfl, (cell_of_row _ _ 3 _ _ _ h).trans rfl, (cell_of_row _ _ 4 _ _ _ h).trans rfl, frozen_of_row _ _ _ _ _ h, frozen_of_row _ _ _ _ _ h⟩
theorem moved_any {w : World} {kb : Nat} {lv : Value} {l : List Tok} {c d : Nat} (ahead : Bool) (tk : TokS w kb lv l) (hk : kb < w.heap.size ∨ l = []) (hll : l.length < 2932031007320) (hr : InRange l) (hc : c < 1000) (hd : d < 1000) :
    Calls Try.prog 25 #[lv, .int .i64 c, .int .i64 d, .bool ahead] w fun e w' => ∃ v', e = .returned v' ∧ w'.ownsRow w.heap.size 48 5 v' (movL c d ahead l).length (tcs (movL c d ahead l)) ∧ Tch No w w' := by
  obtain ⟨ao, cp, rfl, _⟩ := id tk
  obtain ⟨i0, hi, hz0, hz1, hz2⟩ := info_parts info48t
  obtain ⟨pre, hpre⟩ : ∃ pre, pre = (if ahead then [xTok, dTok] else []) := ⟨_, rfl⟩
  have hpl : pre.length ≤ 2 := by rw [hpre]; cases ahead <;> simp
  have hml : movL c d ahead l = pre ++ l.map (mv c d) := by rw [hpre]; rfl
  rw [hml]
  cases ahead with
  | false =>
    have hp0 : pre = [] := hpre
    replace hi := Lib.hid hi
    replace hz0 := Lib.hid hz0
    replace hz1 := Lib.hid hz1
    replace hz2 := Lib.hid hz2
    replace tk := Lib.hid tk
    replace hk := Lib.hid hk
    replace hll := Lib.hid hll
    replace hr := Lib.hid hr
    replace hc := Lib.hid hc
    replace hd := Lib.hid hd
    replace hpre := Lib.hid hpre
    replace hpl := Lib.hid hpl
    replace hml := Lib.hid hml
    replace hp0 := Lib.hid hp0
    go_enter Try.func25, Try.ntmps25
    go_wp2
    go_loopg [9, 10] (l.length + 1) (fun gg ov iv wr => ∃ i : Nat, gg = l.length - i + 1 ∧ iv = .int .i64 i ∧ i ≤ l.length ∧ Hid (wr.ownsRow w.heap.size 48 5 ov (pre.length + i) (tcs (pre ++ (l.take i).map (mv c d)))) ∧ Tch No w wr)
    case atStart => exact ⟨0, rfl, rfl, Nat.zero_le _, Lib.hid (by rw [hp0.out]; exact World.ownsRow_nil _ _ _ _), Tch.refl _ _⟩
    case round =>
      obtain ⟨i, rfl, rfl, hil, hrow, tr⟩ := hrel
      obtain ⟨oo, oc, rfl⟩ := ownsRow_shape hrow.out
      by_cases hlt : i < l.length
      · have k0 := nn_lt hlt
        obtain ⟨t, ht⟩ : ∃ t, l[i]? = some t := ⟨_, List.getElem?_eq_getElem hlt⟩
        have hts : pre ++ (l.take (i + 1)).map (mv c d) = (pre ++ (l.take i).map (mv c d)) ++ [mv c d t] := by
          obtain ⟨q1, q2⟩ := List.getElem?_eq_some_iff.1 ht
          rw [List.take_succ_eq_append_getElem q1, q2, List.map_append, List.append_assoc]; rfl
        obtain ⟨b1, b2, b3, b4⟩ := hr.out t (List.mem_of_getElem? ht)
        have hkw : kb < w.heap.size := by rcases hk.out with h | h; exact h; rw [h] at ht; simp at ht
        obtain ⟨off, rfl, _, d0, d1, d2, d3, d4⟩ := (tk.out.keep (tr.block kb hkw id)).at ht
        obtain ⟨tk0, tln, tcl, ttx, tqd⟩ := t
        dsimp only at b1 b2 b3 b4 d0 d1 d2 d3 d4
        obtain ⟨nc', hnc⟩ : ∃ x, x = tcl + (c : Int) := ⟨_, rfl⟩
        obtain ⟨nl', hnl⟩ : ∃ x, x = tln + (d : Int) := ⟨_, rfl⟩
        have hw1 : wrap64 (tcl + (c : Int)) = nc' := by have := hc.out; rw [hnc]; unfold wrap64; omega
        have hw2 : wrap64 (tln + (d : Int)) = nl' := by have := hd.out; rw [hnl]; unfold wrap64; omega
        have hmv : mv c d ⟨tk0, tln, tcl, ttx, tqd⟩ = ⟨tk0, nl', nc', ttx, tqd⟩ := by rw [hnc, hnl]; rfl
        rw [hmv] at hts
        obtain ⟨w1, hw⟩ : ∃ w1, w1 = wr.alloc (tokO ⟨tk0, tln, tcl, ttx, tqd⟩ 48) := ⟨_, rfl⟩
        have t1 : Tch No wr w1 := by rw [hw]; exact Tch.alloc No wr _
        obtain ⟨c1, hc1⟩ : ∃ c1, c1 = wr.heap.size := ⟨_, rfl⟩
        have g1 : w1.heap[c1]? = some (tokO ⟨tk0, tln, tcl, ttx, tqd⟩ 48) := by rw [hw, hc1]; exact heap_alloc_new wr _
        obtain ⟨_, _, x2, _, _, _, f2⟩ := tk5 g1
        obtain ⟨w2, hw2e⟩ : ∃ w2, w2 = w1.setCell ⟨c1, 2, none⟩ (.int .i64 nc') := ⟨_, rfl⟩
        have g2 : w2.heap[c1]? = some (tokO ⟨tk0, tln, nc', ttx, tqd⟩ 48) := by rw [hw2e]; simp [World.setCell, Array.getElem?_modify, g1]
        obtain ⟨_, y1, _, _, _, e1, _⟩ := tk5 g2
        obtain ⟨w3, hw3e⟩ : ∃ w3, w3 = w2.setCell ⟨c1, 1, none⟩ (.int .i64 nl') := ⟨_, rfl⟩
        have g3 : w3.heap[c1]? = some (tokO ⟨tk0, nl', nc', ttx, tqd⟩ 48) := by rw [hw3e]; simp [World.setCell, Array.getElem?_modify, g2]
        obtain ⟨z0, z1, z2, z3, z4, _, _⟩ := tk5 g3
        have t13 : Tch (fun k => k = c1) w1 w3 := by
          rw [hw3e, hw2e]
          exact (Tch.setCell (S := fun k => k = c1) w1 (p := ⟨c1, 2, none⟩) rfl _).trans (Tch.setCell (S := fun k => k = c1) _ (p := ⟨c1, 1, none⟩) rfl _) (fun _ h => .inl h)
        have hcB : w.heap.size ≤ c1 := by rw [hc1]; exact tr.size
        have tr3 : Tch No w w3 := (tr.trans t1 (fun _ h => h.elim)).trans t13 (fun k hk => .inr (by rw [hk]; exact hcB))
        have hne : (Value.slice oo (pre.length + i) oc).ownBlock ≠ some c1 := fun e => by
          have := (ownsRow_ge hrow.out e).2
          omega
        have hrow3 := ownsRow_tch (ownsRow_tch hrow.out t1 (fun _ _ h => h)) t13 (fun b hb e => hne (e ▸ hb))
        have hwk := Lib.hid (nn_succ hlt (by have := hll.out; omega))
        replace hts := Lib.hid hts
        replace ht := Lib.hid ht
        replace b1 := Lib.hid b1
        replace b2 := Lib.hid b2
        replace b3 := Lib.hid b3
        replace b4 := Lib.hid b4
        replace hkw := Lib.hid hkw
        replace tr := Lib.hid tr
        replace t1 := Lib.hid t1
        replace g1 := Lib.hid g1
        replace hw := Lib.hid hw
        replace g2 := Lib.hid g2
        replace hw2e := Lib.hid hw2e
        replace g3 := Lib.hid g3
        replace hw3e := Lib.hid hw3e
        replace t13 := Lib.hid t13
        replace hcB := Lib.hid hcB
        replace tr3 := Lib.hid tr3
        replace hne := Lib.hid hne
        replace hrow3 := Lib.hid hrow3
        replace hnc := Lib.hid hnc
        replace hnl := Lib.hid hnl
        replace hmv := Lib.hid hmv
        replace hil := Lib.hid hil
        replace hc1 := Lib.hid hc1
        go_upto_region 8 with fail
        rw [show (wr.alloc (.cells #[.int .i64 tk0, .int .i64 tln, .int .i64 tcl, .string ttx, .bool tqd] 48)) = w1 from hw.out.symm, ← hc1.out]
        go_upto_region 9 with fail
        rw [← hw2e.out]
        clear x2 f2
        go_upto_region 10 with fail
        rw [← hw3e.out]
        clear y1 e1
        go_upto_region 6 with (first
          | (at_builtin; refine wp_append_us rfl _ _ 22 (by rfl) w.heap.size 48 i0 (.agg #[.int .i64 0, .int .i64 0, .int .i64 0, .string ⟨#[]⟩, .bool false]) 5 48 Try.underlying22 hi.out hz0.out hz1.out hz2.out rfl (by decide) _ (pre.length + i) _ (by rfl) hrow3.out 1 (by rfl) rfl (by simp [Value.oneCell']) (by have := hll.out; have := hpl.out; unfold maxLen; omega) (by have := hll.out; have := hpl.out; omega) tr3.out.size ?_; intro v7 w7 hr7 hg7 hl7; obtain ⟨po, pc, rfl⟩ := ownsRow_shape hr7; replace hr7 := Lib.hid hr7; replace hg7 := Lib.hid hg7; replace hl7 := Lib.hid hl7)
          | fail)
        have t7 : Tch No w w7 := tr3.out.trans (Tch.grown (S := fun k => (Value.slice oo (pre.length + i) oc).ownBlock = some k) hg7.out (fun k hk => .inl hk)) (fun k hk => .inr (ownsRow_ge hrow3.out hk).1)
        have hr8 : w7.ownsRow w.heap.size 48 5 (.slice po (pre.length + i + 1) pc) (pre.length + (i + 1)) (tcs (pre ++ (l.take (i + 1)).map (mv c d))) := by
          rw [hts.out, tcs_snoc]; exact hr7.out
        replace t7 := Lib.hid t7
        replace hr8 := Lib.hid hr8
        go_wp2
        go_roundg (l.length - (i + 1) + 1)
        case rel => exact ⟨i + 1, rfl, by rw [hwk.out], hlt, hr8, t7.out⟩
        case measure => exact nn_down2 hlt
      · have k0 := nn_ge hlt
        have k1 : decide (i < l.length) = false := decide_eq_false hlt
        have hin : i = l.length := by omega
        subst hin
        replace tr := Lib.hid tr
        replace hil := Lib.hid hil
        replace hlt := Lib.hid hlt
        go_wp2
        go_ret
        refine ⟨_, rfl, ?_, tr.out⟩
        have h := hrow.out
        rw [List.take_length] at h
        rw [List.length_append, List.length_map]
        exact h
  | true =>
    have hp0 : pre = [xTok, dTok] := hpre
    replace hi := Lib.hid hi
    replace hz0 := Lib.hid hz0
    replace hz1 := Lib.hid hz1
    replace hz2 := Lib.hid hz2
    replace tk := Lib.hid tk
    replace hk := Lib.hid hk
    replace hll := Lib.hid hll
    replace hr := Lib.hid hr
    replace hc := Lib.hid hc
    replace hd := Lib.hid hd
    replace hpre := Lib.hid hpre
    replace hpl := Lib.hid hpl
    replace hml := Lib.hid hml
    replace hp0 := Lib.hid hp0
    go_enter Try.func25, Try.ntmps25
    go_upto_region 4 with (first
      | (at_builtin; refine wpList_append_own_at _ rfl _ _ 22 (by rfl) w.heap.size 48 i0 (.agg #[.int .i64 0, .int .i64 0, .int .i64 0, .string ⟨#[]⟩, .bool false]) 5 48 Try.underlying22 hi.out hz0.out hz1.out hz2.out rfl (by decide) _ 0 [] (by rfl) (World.ownsRow_nil _ _ _ _) ⟨w.heap.size, 0, none⟩ 2 2 (tcs [xTok, dTok]) (by rfl) rfl (new_cells w (tcs [xTok, dTok]) 48) (by simp [tcs, tc, Value.oneCell']) (by unfold maxLen; omega) (by omega) (by simp) ?_; intro v7 w7 hr7 hg7 hn7 hl7; obtain ⟨po, pc, rfl⟩ := ownsRow_shape hr7; replace hr7 := Lib.hid hr7; replace hg7 := Lib.hid hg7; replace hl7 := Lib.hid hl7; clear hn7)
      | fail)
    have t7 : Tch No w w7 := (Tch.alloc No w _).trans (Tch.grown (S := No) hg7.out (fun k hk => by cases hk)) (fun _ h => h.elim)
    have hr8 : w7.ownsRow w.heap.size 48 5 (.slice po (0 + 2) pc) (pre.length + 0) (tcs (pre ++ (l.take 0).map (mv c d))) := by
      rw [hp0.out]; exact hr7.out
    replace t7 := Lib.hid t7
    replace hr8 := Lib.hid hr8
    go_wp2
    go_loopg [9, 10] (l.length + 1) (fun gg ov iv wr => ∃ i : Nat, gg = l.length - i + 1 ∧ iv = .int .i64 i ∧ i ≤ l.length ∧ Hid (wr.ownsRow w.heap.size 48 5 ov (pre.length + i) (tcs (pre ++ (l.take i).map (mv c d)))) ∧ Tch No w wr)
    case atStart => exact ⟨0, rfl, rfl, Nat.zero_le _, hr8, t7.out⟩
    case round =>
      obtain ⟨i, rfl, rfl, hil, hrow, tr⟩ := hrel
      obtain ⟨oo, oc, rfl⟩ := ownsRow_shape hrow.out
      by_cases hlt : i < l.length
      · have k0 := nn_lt hlt
        obtain ⟨t, ht⟩ : ∃ t, l[i]? = some t := ⟨_, List.getElem?_eq_getElem hlt⟩
        have hts : pre ++ (l.take (i + 1)).map (mv c d) = (pre ++ (l.take i).map (mv c d)) ++ [mv c d t] := by
          obtain ⟨q1, q2⟩ := List.getElem?_eq_some_iff.1 ht
          rw [List.take_succ_eq_append_getElem q1, q2, List.map_append, List.append_assoc]; rfl
        obtain ⟨b1, b2, b3, b4⟩ := hr.out t (List.mem_of_getElem? ht)
        have hkw : kb < w.heap.size := by rcases hk.out with h | h; exact h; rw [h] at ht; simp at ht
        obtain ⟨off, rfl, _, d0, d1, d2, d3, d4⟩ := (tk.out.keep (tr.block kb hkw id)).at ht
        obtain ⟨tk0, tln, tcl, ttx, tqd⟩ := t
        dsimp only at b1 b2 b3 b4 d0 d1 d2 d3 d4
        obtain ⟨nc', hnc⟩ : ∃ x, x = tcl + (c : Int) := ⟨_, rfl⟩
        obtain ⟨nl', hnl⟩ : ∃ x, x = tln + (d : Int) := ⟨_, rfl⟩
        have hw1 : wrap64 (tcl + (c : Int)) = nc' := by have := hc.out; rw [hnc]; unfold wrap64; omega
        have hw2 : wrap64 (tln + (d : Int)) = nl' := by have := hd.out; rw [hnl]; unfold wrap64; omega
        have hmv : mv c d ⟨tk0, tln, tcl, ttx, tqd⟩ = ⟨tk0, nl', nc', ttx, tqd⟩ := by rw [hnc, hnl]; rfl
        rw [hmv] at hts
        obtain ⟨w1, hw⟩ : ∃ w1, w1 = wr.alloc (tokO ⟨tk0, tln, tcl, ttx, tqd⟩ 48) := ⟨_, rfl⟩
        have t1 : Tch No wr w1 := by rw [hw]; exact Tch.alloc No wr _
        obtain ⟨c1, hc1⟩ : ∃ c1, c1 = wr.heap.size := ⟨_, rfl⟩
        have g1 : w1.heap[c1]? = some (tokO ⟨tk0, tln, tcl, ttx, tqd⟩ 48) := by rw [hw, hc1]; exact heap_alloc_new wr _
        obtain ⟨_, _, x2, _, _, _, f2⟩ := tk5 g1
        obtain ⟨w2, hw2e⟩ : ∃ w2, w2 = w1.setCell ⟨c1, 2, none⟩ (.int .i64 nc') := ⟨_, rfl⟩
        have g2 : w2.heap[c1]? = some (tokO ⟨tk0, tln, nc', ttx, tqd⟩ 48) := by rw [hw2e]; simp [World.setCell, Array.getElem?_modify, g1]
        obtain ⟨_, y1, _, _, _, e1, _⟩ := tk5 g2
        obtain ⟨w3, hw3e⟩ : ∃ w3, w3 = w2.setCell ⟨c1, 1, none⟩ (.int .i64 nl') := ⟨_, rfl⟩
        have g3 : w3.heap[c1]? = some (tokO ⟨tk0, nl', nc', ttx, tqd⟩ 48) := by rw [hw3e]; simp [World.setCell, Array.getElem?_modify, g2]
        obtain ⟨z0, z1, z2, z3, z4, _, _⟩ := tk5 g3
        have t13 : Tch (fun k => k = c1) w1 w3 := by
          rw [hw3e, hw2e]
          exact (Tch.setCell (S := fun k => k = c1) w1 (p := ⟨c1, 2, none⟩) rfl _).trans (Tch.setCell (S := fun k => k = c1) _ (p := ⟨c1, 1, none⟩) rfl _) (fun _ h => .inl h)
        have hcB : w.heap.size ≤ c1 := by rw [hc1]; exact tr.size
        have tr3 : Tch No w w3 := (tr.trans t1 (fun _ h => h.elim)).trans t13 (fun k hk => .inr (by rw [hk]; exact hcB))
        have hne : (Value.slice oo (pre.length + i) oc).ownBlock ≠ some c1 := fun e => by
          have := (ownsRow_ge hrow.out e).2
          omega
        have hrow3 := ownsRow_tch (ownsRow_tch hrow.out t1 (fun _ _ h => h)) t13 (fun b hb e => hne (e ▸ hb))
        have hwk := Lib.hid (nn_succ hlt (by have := hll.out; omega))
        replace hts := Lib.hid hts
        replace ht := Lib.hid ht
        replace b1 := Lib.hid b1
        replace b2 := Lib.hid b2
        replace b3 := Lib.hid b3
        replace b4 := Lib.hid b4
        replace hkw := Lib.hid hkw
        replace tr := Lib.hid tr
        replace t1 := Lib.hid t1
        replace g1 := Lib.hid g1
        replace hw := Lib.hid hw
        replace g2 := Lib.hid g2
        replace hw2e := Lib.hid hw2e
        replace g3 := Lib.hid g3
        replace hw3e := Lib.hid hw3e
        replace t13 := Lib.hid t13
        replace hcB := Lib.hid hcB
        replace tr3 := Lib.hid tr3
        replace hne := Lib.hid hne
        replace hrow3 := Lib.hid hrow3
        replace hnc := Lib.hid hnc
        replace hnl := Lib.hid hnl
        replace hmv := Lib.hid hmv
        replace hil := Lib.hid hil
        replace hc1 := Lib.hid hc1
        go_upto_region 8 with fail
        rw [show (wr.alloc (.cells #[.int .i64 tk0, .int .i64 tln, .int .i64 tcl, .string ttx, .bool tqd] 48)) = w1 from hw.out.symm, ← hc1.out]
        go_upto_region 9 with fail
        rw [← hw2e.out]
        clear x2 f2
        go_upto_region 10 with fail
        rw [← hw3e.out]
        clear y1 e1
        go_upto_region 6 with (first
          | (at_builtin; refine wp_append_us rfl _ _ 22 (by rfl) w.heap.size 48 i0 (.agg #[.int .i64 0, .int .i64 0, .int .i64 0, .string ⟨#[]⟩, .bool false]) 5 48 Try.underlying22 hi.out hz0.out hz1.out hz2.out rfl (by decide) _ (pre.length + i) _ (by rfl) hrow3.out 1 (by rfl) rfl (by simp [Value.oneCell']) (by have := hll.out; have := hpl.out; unfold maxLen; omega) (by have := hll.out; have := hpl.out; omega) tr3.out.size ?_; intro v7 w7 hr7 hg7 hl7; obtain ⟨po, pc, rfl⟩ := ownsRow_shape hr7; replace hr7 := Lib.hid hr7; replace hg7 := Lib.hid hg7; replace hl7 := Lib.hid hl7)
          | fail)
        have t7 : Tch No w w7 := tr3.out.trans (Tch.grown (S := fun k => (Value.slice oo (pre.length + i) oc).ownBlock = some k) hg7.out (fun k hk => .inl hk)) (fun k hk => .inr (ownsRow_ge hrow3.out hk).1)
        have hr8 : w7.ownsRow w.heap.size 48 5 (.slice po (pre.length + i + 1) pc) (pre.length + (i + 1)) (tcs (pre ++ (l.take (i + 1)).map (mv c d))) := by
          rw [hts.out, tcs_snoc]; exact hr7.out
        replace t7 := Lib.hid t7
        replace hr8 := Lib.hid hr8
        go_wp2
        go_roundg (l.length - (i + 1) + 1)
        case rel => exact ⟨i + 1, rfl, by rw [hwk.out], hlt, hr8, t7.out⟩
        case measure => exact nn_down2 hlt
      · have k0 := nn_ge hlt
        have k1 : decide (i < l.length) = false := decide_eq_false hlt
        have hin : i = l.length := by omega
        subst hin
        replace tr := Lib.hid tr
        replace hil := Lib.hid hil
        replace hlt := Lib.hid hlt
        go_wp2
        go_ret
        refine ⟨_, rfl, ?_, tr.out⟩
        have h := hrow.out
        rw [List.take_length] at h
        rw [List.length_append, List.length_map]
        exact h
end Go.Proofs.Ytcnjmkjfgghgoaa
end

section
/- lower: walked. -/
namespace Go.Proofs.Ytcnjmkjfgghgoaa
open Go.RowKit Go.Mp Go.Tr
set_option linter.unusedVariables false
set_option maxRecDepth 100000
set_option maxHeartbeats 4000000
theorem row_shrink {w : World} {B e size n m cap : Nat} {g : Nat} {xs ys : List Value} (h : w.ownsRow B e size (.slice (some ⟨g, 0, none⟩) m cap) m (xs ++ ys)) (hx : xs.length = n * size) (hn : n ≤ m) : w.ownsRow B e size (.slice (some ⟨g, 0, none⟩) n cap) n xs := by
  refine ⟨hx, ?_⟩
  rcases h.2 with ⟨h0, _⟩ | ⟨g', cp, cur, h0, hb, hg, hm, hmx, hs, ht⟩
  · cases h0
  · simp only [Value.slice.injEq, Option.some.injEq, Addr.mk.injEq] at h0
    obtain ⟨⟨rfl, _⟩, _, rfl⟩ := h0
    refine .inr ⟨g, cap, cur, rfl, hb, hg, by omega, hmx, hs, ?_⟩
    have h2 := congrArg (List.take (n * size)) ht
    have h3 : List.take (n * size) (xs ++ ys) = xs := by rw [← hx, List.take_left]
    rw [List.take_take, Nat.min_eq_left (Nat.mul_le_mul_right _ hn), h3] at h2
    exact h2
theorem NM.shrink {w : World} {B g cap : Nat} {F : Nat → Prop} {R : List (Nd × Value)} {x : Nd × Value} (h : NM w B F (.slice (some ⟨g, 0, none⟩) (R ++ [x]).length cap) (R ++ [x])) : NM w B F (.slice (some ⟨g, 0, none⟩) R.length cap) R := by
  have hat : ∀ (i : Nat) (y : Nd × Value), R[i]? = some y → (R ++ [x])[i]? = some y := fun i y hy => by
    rw [List.getElem?_append_left (List.getElem?_eq_some_iff.1 hy).1]; exact hy
  refine ⟨?_, fun i y hy => h.kid i y (hat i y hy), fun i j y z hij hy hz => h.apart i j y z hij (hat i y hy) (hat j z hz), ⟨fun b hb => h.own.1 b hb, fun i y hy => h.own.2 i y (hat i y hy)⟩, h.lt⟩
  have hr := h.row
  rw [ncs_append] at hr
  exact row_shrink hr (ncs_length R) (by simp)
theorem set_low {ns : List Nd} {k d : Nat} {n : Nd} {M : List Nd} (h : ns[k]? = some n) : ((ns.take k).map (lowN d) ++ ns.drop k ++ M).set k (lowN d n) = (ns.take (k + 1)).map (lowN d) ++ ns.drop (k + 1) ++ M := by
  obtain ⟨h1, h2⟩ := List.getElem?_eq_some_iff.1 h
  rw [List.append_assoc, List.set_append_right _ _ (by simp; omega), List.drop_eq_getElem_cons h1, h2]
  have e : k - ((ns.take k).map (lowN d)).length = 0 := by simp; omega
  rw [e, List.cons_append, List.set_cons_zero, List.take_succ_eq_append_getElem h1, h2]
  simp
theorem at_low {ns : List Nd} {k d : Nat} {n : Nd} {M : List Nd} (h : ns[k]? = some n) : ((ns.take k).map (lowN d) ++ ns.drop k ++ M)[k]? = some n := by
  obtain ⟨h1, h2⟩ := List.getElem?_eq_some_iff.1 h
  rw [List.append_assoc, List.getElem?_append_right (by simp; omega)]
  have e : k - ((ns.take k).map (lowN d)).length = 0 := by simp; omega
  rw [e, List.drop_eq_getElem_cons h1, h2]; rfl
def LowOut (w : World) (d : Nat) (L : List TrX) (e : Ending) (w' : World) : Prop := ∃ v' F' L', e = .returned v' ∧ L'.map (·.1) = (L.map (·.1)).map (lowT d) ∧ TM w' w.heap.size F' v' L' ∧ Tch No w w'
theorem lower_any {w : World} {B : Nat} {F0 : Nat → Prop} {tv : Value} {L : List TrX} {d : Nat} (hT : TM w B F0 tv L) (hs : ∀ x ∈ L, x.1.size ≤ 4096) (hl : ∀ x ∈ L, ∀ n ∈ lay 0 x.1, 0 ≤ n.line ∧ n.line ≤ 1048576) (hd : d < 1000) (hLl : L.length ≤ 3000000000000) :
    Calls Try.prog 26 #[tv, .int .i64 d] w (LowOut w d L) := by
  obtain ⟨ta, tc, rfl⟩ := ownsRow_shape hT.row
  obtain ⟨i0, hi, hz0, hz1, hz2⟩ := info_parts info50
  replace hi := Lib.hid hi
  replace hz0 := Lib.hid hz0
  replace hz1 := Lib.hid hz1
  replace hz2 := Lib.hid hz2
  replace hT := Lib.hid hT
  replace hs := Lib.hid hs
  replace hl := Lib.hid hl
  replace hd := Lib.hid hd
  replace hLl := Lib.hid hLl
  go_enter Try.func26, Try.ntmps26
  go_wp2
  go_loopg [5, 6] (L.length + 1) (fun gg ov iv wr => ∃ (i : Nat) (F : Nat → Prop) (M : List TrX), gg = L.length - i + 1 ∧ iv = .int .i64 i ∧ i ≤ L.length ∧ M.map (·.1) = ((L.take i).map (·.1)).map (lowT d) ∧ Hid (TM wr w.heap.size F ov M) ∧ Tch No w wr)
  case atStart => exact ⟨0, No, [], rfl, rfl, Nat.zero_le _, rfl, Lib.hid (TM.nil _ _), Tch.refl _ _⟩
  case round =>
    obtain ⟨i, F, M, rfl, rfl, hil, hMm, hM, tr⟩ := hrel
    have hMl : M.length = i := by
      have h := congrArg List.length hMm
      rw [List.length_map, List.length_map, List.length_map, List.length_take] at h
      omega
    obtain ⟨wo, hwo⟩ : ∃ wo, wo = wr := ⟨_, rfl⟩
    subst hwo
    obtain ⟨oo, oc, hov⟩ := ownsRow_shape hM.out.row
    rw [hMl] at hov
    subst hov
    have hB := Lib.hid (show w.heap.size ≤ wo.heap.size from tr.size)
    by_cases hlt : i < L.length
    · have k0 := nn_lt hlt
      obtain ⟨x, hx⟩ : ∃ x, L[i]? = some x := ⟨_, List.getElem?_eq_getElem hlt⟩
      have hxm := List.mem_of_getElem? hx
      have hsz := hs.out x hxm
      have hln := hl.out x hxm
      obtain ⟨gv, no, nc, rfl, _, cv, _, hNd, _, _⟩ := (hT.out.tch tr (fun _ _ h => h)).elem hx hsz
      have hkb8 : ∀ n ∈ lay 0 x.1, n.kids.length * 8 ≤ 140737488351232 := fun n hn => by have := (bounds_lay 0 x.1 n hn).1; omega
      have hTw := twin_any hNd hkb8 (by rw [lay_length]; omega)
      obtain ⟨ns, hns⟩ : ∃ ns, ns = lay 0 x.1 := ⟨_, rfl⟩
      have hnl : ns.length = x.1.size := by rw [hns, lay_length]
      rw [← hns] at hTw hln
      rw [← hnl] at cv hTw hsz
      have hts := take_snoc hx
      have hwk := Lib.hid (nn_succ hlt (by have := hLl.out; omega))
      replace hx := Lib.hid hx
      replace hxm := Lib.hid hxm
      replace hsz := Lib.hid hsz
      replace hln := Lib.hid hln
      replace hNd := Lib.hid hNd
      replace hkb8 := Lib.hid hkb8
      replace hTw := Lib.hid hTw
      replace hns := Lib.hid hns
      replace hnl := Lib.hid hnl
      replace hts := Lib.hid hts
      replace hil := Lib.hid hil
      replace hMm := Lib.hid hMm
      replace hMl := Lib.hid hMl
      replace tr := Lib.hid tr
      go_upto_region 6 with (first
        | (go_at_call 22; (with_reducible refine hTw.out.mono ?_); rintro e w2 ⟨g, cap, F2, R, rfl, hcp, hR, hN, t2⟩; replace hR := Lib.hid hR; replace hN := Lib.hid hN; replace t2 := Lib.hid t2; replace hcp := Lib.hid hcp)
        | fail)
      clear cv
      have hM2 := Lib.hid (hM.out.tch t2.out (fun _ _ h => h))
      have hRl : R.length = ns.length + 1 := by have h := congrArg List.length hR.out; simpa using h
      replace hRl := Lib.hid hRl
      go_wp2
      go_loopg [8] (ns.length + 1) (fun g2 kv wq => ∃ (k : Nat) (Q : List (Nd × Value)), g2 = ns.length - k + 1 ∧ kv = .int .i64 k ∧ k ≤ ns.length ∧ Q.map (·.1) = (ns.take k).map (lowN d) ++ ns.drop k ++ [markN] ∧ Hid (NM wq wo.heap.size F2 (.slice (some ⟨g, 0, none⟩) Q.length cap) Q) ∧ Tch (fun b => b = g) w2 wq)
      case atStart => exact ⟨0, R, rfl, rfl, Nat.zero_le _, by simpa using hR.out, Lib.hid (by rw [hRl.out]; exact hN.out), Tch.refl _ _⟩
      case round =>
        obtain ⟨k, Q, rfl, rfl, hkl, hQ, hNq, tq⟩ := hrel
        have hQl : Q.length = ns.length + 1 := by
          have h := congrArg List.length hQ
          simp only [List.length_map, List.length_append, List.length_take, List.length_drop, List.length_cons, List.length_nil] at h
          omega
        by_cases hk : k < ns.length
        · have j0 := nn_lt hk
          obtain ⟨n, hn⟩ : ∃ n, ns[k]? = some n := ⟨_, List.getElem?_eq_getElem hk⟩
          have hq := at_low (d := d) (M := [markN]) hn
          rw [← hQ, List.getElem?_map] at hq
          obtain ⟨y, hy, hy1⟩ : ∃ y, Q[k]? = some y ∧ y.1 = n := by
            cases hz : Q[k]? with
            | none => rw [hz] at hq; cases hq
            | some y => rw [hz] at hq; exact ⟨y, rfl, by simpa using hq⟩
          obtain ⟨yn, kv⟩ := y
          subst hy1
          obtain ⟨b1, b2⟩ := hln.out yn (List.mem_of_getElem? hn)
          obtain ⟨g', cap', eg, hc⟩ := hNq.out.at hy
          simp only [Value.slice.injEq, Option.some.injEq, Addr.mk.injEq] at eg
          obtain ⟨⟨rfl, _⟩, _, rfl⟩ := eg
          obtain ⟨c4, f4⟩ := hc 4 (.int .i64 yn.line) (by omega) rfl
          obtain ⟨nl', hnl'⟩ : ∃ x, x = yn.line + (d : Int) := ⟨_, rfl⟩
          have hwl : wrap64 (yn.line + (d : Int)) = nl' := by have := hd.out; rw [hnl']; unfold wrap64; omega
          have hN2 := hNq.out.store (i := k) (x' := (lowN d yn, kv)) hy (j := 4) (by omega) (u := .int .i64 nl') (by rw [hnl']; rfl) rfl rfl
          have hQ2 : (Q.set k (lowN d yn, kv)).map (·.1) = (ns.take (k + 1)).map (lowN d) ++ ns.drop (k + 1) ++ [markN] := by
            rw [List.map_set, hQ]; exact set_low hn
          have tq2 : Tch (fun b => b = g) w2 (wr.setCell ⟨g, k * 6 + 4, none⟩ (.int .i64 nl')) := tq.trans (Tch.setCell (S := fun b => b = g) wr (p := ⟨g, k * 6 + 4, none⟩) rfl _) (fun _ h => .inl h)
          have hwk2 := Lib.hid (nn_succ hk (by have := hsz.out; omega))
          obtain ⟨w6, hw6⟩ : ∃ w6, w6 = wr.setCell ⟨g, k * 6 + 4, none⟩ (.int .i64 nl') := ⟨_, rfl⟩
          rw [← hw6] at hN2 tq2
          rw [show Q.length = (Q.set k (lowN d yn, kv)).length by rw [List.length_set]] at hN2
          clear hc
          replace hQ := Lib.hid hQ
          replace hQl := Lib.hid hQl
          replace hn := Lib.hid hn
          replace hq := Lib.hid hq
          replace hy := Lib.hid hy
          replace b1 := Lib.hid b1
          replace b2 := Lib.hid b2
          replace hnl' := Lib.hid hnl'
          replace hN2 := Lib.hid hN2
          replace hQ2 := Lib.hid hQ2
          replace tq2 := Lib.hid tq2
          replace tq := Lib.hid tq
          replace hkl := Lib.hid hkl
          go_wp2
          rw [← hw6]
          replace hw6 := Lib.hid hw6
          go_roundg (ns.length - (k + 1) + 1)
          case rel => exact ⟨k + 1, _, rfl, by rw [hwk2.out], hk, hQ2.out, hN2, tq2.out⟩
          case measure => exact nn_down2 hk
        · have j0 := nn_ge hk
          have j1 : decide (k < ns.length) = false := decide_eq_false hk
          have hkn : k = ns.length := by omega
          rw [hkn, List.take_length, List.drop_length, List.append_nil] at hQ
          obtain ⟨Q1, x9, hQe⟩ : ∃ Q1 x9, Q = Q1 ++ [x9] := by
            rcases List.eq_nil_or_concat Q with h | ⟨Q1, x9, h⟩
            · rw [h] at hQl; simp at hQl
            · exact ⟨Q1, x9, by rw [h, List.concat_eq_append]⟩
          subst hQe
          have hQ1 : Q1.map (·.1) = lay 0 (lowT d x.1) := by
            rw [List.map_append] at hQ
            have h := List.append_inj_left' hQ rfl
            rw [h, hns.out, ← lay_low]
          have hQ1l : Q1.length = ns.length := by simp at hQl; exact hQl
          have hNs := hNq.out.shrink
          rw [hQ1l] at hNs
          have hg2 : wo.heap.size ≤ g := (ownsRow_ge hNs.row rfl).1
          have hMq := hM2.out.tch tq (fun b hb e => by
            have h1 := (hM.out.lt b hb).2
            omega)
          have hrow := hMq.row
          rw [hMl.out] at hrow
          have hbq : w.heap.size ≤ wr.heap.size := by have h1 := hB.out; have h2 := t2.out.size; have h3 := tq.size; omega
          have tr2 : Tch No w wr := (tr.out.trans t2.out (fun _ h => h.elim)).trans tq (fun b hb => .inr (by rw [hb]; have := hB.out; omega))
          have hdis : ∀ b, F2 b → ¬ F b := fun b h1 h2 => by
            have h3 := (hNs.lt b h1).1
            have h4 := (hM.out.lt b h2).2
            omega
          have hNl := hNs.lower (B' := w.heap.size) hB.out
          replace hQ := Lib.hid hQ
          replace hQl := Lib.hid hQl
          replace hQ1 := Lib.hid hQ1
          replace hQ1l := Lib.hid hQ1l
          replace hNs := Lib.hid hNs
          replace hg2 := Lib.hid hg2
          replace hMq := Lib.hid hMq
          replace hrow := Lib.hid hrow
          replace tr2 := Lib.hid tr2
          replace hdis := Lib.hid hdis
          replace hNl := Lib.hid hNl
          replace tq := Lib.hid tq
          replace hkl := Lib.hid hkl
          replace hk := Lib.hid hk
          replace hkn := Lib.hid hkn
          go_upto_region 4 with (first
            | (at_builtin; refine wp_append_us rfl _ _ 25 (by rfl) w.heap.size 50 i0 (.slice none 0 0) 1 24 Try.underlying25 hi.out hz0.out hz1.out hz2.out rfl (by decide) _ i _ (by rfl) hrow.out 1 (by rfl) rfl (by simp [Value.oneCell']) (by have := hLl.out; have := hil.out; unfold maxLen; omega) (by have := hLl.out; have := hil.out; omega) hbq ?_; intro v4 w4 hr4 hg4 hl4; obtain ⟨po, pc, rfl⟩ := ownsRow_shape hr4; replace hr4 := Lib.hid hr4; replace hg4 := Lib.hid hg4; replace hl4 := Lib.hid hl4)
            | fail)
          have tg : Tch (fun k => (Value.slice oo i oc).ownBlock = some k) wr w4 := Tch.grown hg4.out (fun k hk => .inl hk)
          have hM4 := hMq.out.push (t := lowT d x.1) hQ1.out hNl.out hdis.out (by rw [hMl.out]; exact hr4.out) (by first | exact tg | (rw [hMl.out]; exact tg)) (by first | exact hl4.out | (rw [hMl.out]; exact hl4.out))
          have tr4 : Tch No w w4 := tr2.out.trans tg (fun b hb => .inr (ownsRow_ge hrow.out hb).1)
          have hMm4 : (M ++ [(lowT d x.1, Value.slice (some ⟨g, 0, none⟩) ns.length cap, F2)]).map (·.1) = ((L.take (i + 1)).map (·.1)).map (lowT d) := by
            rw [List.map_append, hMm.out, hts.out, List.map_append, List.map_append]; rfl
          replace tg := Lib.hid tg
          replace hM4 := Lib.hid hM4
          replace tr4 := Lib.hid tr4
          replace hMm4 := Lib.hid hMm4
          go_wp2
          go_roundg (L.length - (i + 1) + 1)
          case rel => exact ⟨i + 1, _, _, rfl, by rw [hwk.out], hlt, hMm4.out, hM4, tr4.out⟩
          case measure => exact nn_down2 hlt
    · have k0 := nn_ge hlt
      have k1 : decide (i < L.length) = false := decide_eq_false hlt
      have hin : i = L.length := by omega
      subst hin
      rw [List.take_of_length_le (Nat.le_refl _)] at hMm
      replace hMm := Lib.hid hMm
      replace tr := Lib.hid tr
      replace hil := Lib.hid hil
      replace hlt := Lib.hid hlt
      replace hMl := Lib.hid hMl
      go_wp2
      go_ret
      exact ⟨_, F, M, rfl, hMm.out, hM.out, tr.out⟩
end Go.Proofs.Ytcnjmkjfgghgoaa
end

section
/- Lists of nodes in memory of their own, apart from each other: what is written into one. -/
namespace Go.Proofs.Ytcnjmkjfgghgoaa
open Go.RowKit Go.Mp Go.Tr
set_option linter.unusedVariables false
abbrev AX := List Nd × Value × (Nat → Prop)
structure AM (w : World) (B : Nat) (F : Nat → Prop) (v : Value) (L : List AX) : Prop where
  row : w.ownsRow B 50 1 v L.length (L.map (·.2.1))
  el : ∀ (i : Nat) (x : AX), L[i]? = some x → ∃ R, R.map (·.1) = x.1 ∧ NM w B x.2.2 x.2.1 R
  sub : ∀ (i : Nat) (x : AX), L[i]? = some x → ∀ k, x.2.2 k → F k ∧ v.ownBlock ≠ some k
  apart : ∀ (i j : Nat) (x y : AX), i ≠ j → L[i]? = some x → L[j]? = some y → ∀ k, x.2.2 k → ¬ y.2.2 k
  own : ∀ g, v.ownBlock = some g → F g
  lt : ∀ k, F k → B ≤ k ∧ k < w.heap.size
section
variable {w w2 w3 : World} {B : Nat} {F S : Nat → Prop} {v v' : Value} {L : List AX}
theorem AM.nil (w : World) (B : Nat) : AM w B No (.slice none 0 0) [] :=
  ⟨World.ownsRow_nil _ _ _ _, (fun i x hx => by cases hx), (fun i x hx => by cases hx), (fun i j x y _ hx => by cases hx), (fun g hg => by cases hg), fun k hk => hk.elim⟩
theorem AM.tch (h : AM w B F v L) (t : Tch S w w2) (hn : ∀ k, F k → ¬ S k) : AM w2 B F v L :=
  ⟨ownsRow_tch h.row t (fun g hg => hn g (h.own g hg)), fun i x hx => by
    obtain ⟨R, h1, h2⟩ := h.el i x hx
    exact ⟨R, h1, h2.tch t (fun k hk => hn k (h.sub i x hx k hk).1)⟩, h.sub, h.apart, h.own, fun k hk => ⟨(h.lt k hk).1, Nat.lt_of_lt_of_le (h.lt k hk).2 t.size⟩⟩
/-- Two lists more. -/
theorem AM.push2 (h : AM w B F v L) {x y : AX} (hx : ∃ R, R.map (·.1) = x.1 ∧ NM w B x.2.2 x.2.1 R) (hy : ∃ R, R.map (·.1) = y.1 ∧ NM w B y.2.2 y.2.1 R) (hdx : ∀ k, x.2.2 k → ¬ F k) (hdy : ∀ k, y.2.2 k → ¬ F k) (hxy : ∀ k, x.2.2 k → ¬ y.2.2 k)
    (row : w2.ownsRow B 50 1 v' (L.length + 2) (L.map (·.2.1) ++ [x.2.1, y.2.1])) (tt : Tch (fun k => v.ownBlock = some k) w w2) (hloc : ∀ g, v'.ownBlock = some g → v.ownBlock = some g ∨ w.heap.size ≤ g) :
    AM w2 B (fun k => F k ∨ x.2.2 k ∨ y.2.2 k ∨ v'.ownBlock = some k) v' (L ++ [x, y]) := by
  obtain ⟨Rx, hx1, hx2⟩ := hx
  obtain ⟨Ry, hy1, hy2⟩ := hy
  have hat : ∀ (i : Nat) (z : AX), (L ++ [x, y])[i]? = some z → L[i]? = some z ∨ (i = L.length ∧ z = x) ∨ (i = L.length + 1 ∧ z = y) := fun i z hz => by
    by_cases hi : i < L.length
    · rw [List.getElem?_append_left hi] at hz; exact .inl hz
    · rw [List.getElem?_append_right (by omega)] at hz
      have hl := (List.getElem?_eq_some_iff.1 hz).1
      simp only [List.length_cons, List.length_nil] at hl
      by_cases h0 : i - L.length = 0
      · rw [h0] at hz; simp at hz; exact .inr (.inl ⟨by omega, hz.symm⟩)
      · rw [show i - L.length = 1 by omega] at hz; simp at hz; exact .inr (.inr ⟨by omega, hz.symm⟩)
  have hvx : ∀ k, x.2.2 k → v.ownBlock ≠ some k := fun k hk e => hdx k hk (h.own k e)
  have hvy : ∀ k, y.2.2 k → v.ownBlock ≠ some k := fun k hk e => hdy k hk (h.own k e)
  refine ⟨by simpa using row, fun i z hz => ?_, fun i z hz k hk => ?_, fun i j z u hij hz hu k hk hk' => ?_, fun g hg => .inr (.inr (.inr hg)), fun k hk => ?_⟩
  · rcases hat i z hz with h1 | ⟨_, rfl⟩ | ⟨_, rfl⟩
    · obtain ⟨R', e1, e2⟩ := h.el i z h1
      exact ⟨R', e1, e2.tch tt (fun k hk e => (h.sub i z h1 k hk).2 e)⟩
    · exact ⟨Rx, hx1, hx2.tch tt (fun k hk e => hvx k hk e)⟩
    · exact ⟨Ry, hy1, hy2.tch tt (fun k hk e => hvy k hk e)⟩
  · have key : ∀ k, (k < w.heap.size) → (v.ownBlock ≠ some k) → v'.ownBlock ≠ some k := fun k h1 h2 e => by
      rcases hloc k e with h3 | h3
      · exact h2 h3
      · omega
    rcases hat i z hz with h1 | ⟨_, rfl⟩ | ⟨_, rfl⟩
    · exact ⟨.inl (h.sub i z h1 k hk).1, key k (h.lt k (h.sub i z h1 k hk).1).2 (h.sub i z h1 k hk).2⟩
    · exact ⟨.inr (.inl hk), key k (hx2.lt k hk).2 (hvx k hk)⟩
    · exact ⟨.inr (.inr (.inl hk)), key k (hy2.lt k hk).2 (hvy k hk)⟩
  · rcases hat i z hz with h1 | ⟨h1, rfl⟩ | ⟨h1, rfl⟩ <;> rcases hat j u hu with h2 | ⟨h2, rfl⟩ | ⟨h2, rfl⟩
    · exact h.apart i j z u hij h1 h2 k hk hk'
    · exact hdx k hk' (h.sub i z h1 k hk).1
    · exact hdy k hk' (h.sub i z h1 k hk).1
    · exact hdx k hk (h.sub j u h2 k hk').1
    · omega
    · exact hxy k hk hk'
    · exact hdy k hk (h.sub j u h2 k hk').1
    · exact hxy k hk' hk
    · omega
  · rcases hk with hk | hk | hk | hk
    · exact ⟨(h.lt k hk).1, Nat.lt_of_lt_of_le (h.lt k hk).2 tt.size⟩
    · exact ⟨(hx2.lt k hk).1, Nat.lt_of_lt_of_le (hx2.lt k hk).2 tt.size⟩
    · exact ⟨(hy2.lt k hk).1, Nat.lt_of_lt_of_le (hy2.lt k hk).2 tt.size⟩
    · exact ownsRow_ge row hk
/-- One list's memory is written. -/
theorem AM.alter (h : AM w B F v L) {i : Nat} {x : AX} (hx : L[i]? = some x) {ns : List Nd} {Fx : Nat → Prop} {R : List (Nd × Value)} (hR : R.map (·.1) = ns) (hN : NM w2 B Fx x.2.1 R) (t : Tch x.2.2 w w2) (hf : ∀ k, Fx k → x.2.2 k ∨ w.heap.size ≤ k) :
    AM w2 B (fun k => F k ∨ Fx k) v (L.set i (ns, x.2.1, Fx)) := by
  have hil := (List.getElem?_eq_some_iff.1 hx).1
  have hat : ∀ (j : Nat) (z : AX), (L.set i (ns, x.2.1, Fx))[j]? = some z → (j = i ∧ z = (ns, x.2.1, Fx)) ∨ (j ≠ i ∧ L[j]? = some z) := fun j z hz => by
    by_cases e : i = j
    · subst e
      rw [List.getElem?_set_self hil] at hz
      exact .inl ⟨rfl, (Option.some.inj hz).symm⟩
    · rw [List.getElem?_set_ne e] at hz
      exact .inr ⟨fun q => e q.symm, hz⟩
  have hvx : ∀ k, x.2.2 k → v.ownBlock ≠ some k := fun k hk => (h.sub i x hx k hk).2
  have hrow : (L.set i (ns, x.2.1, Fx)).map (·.2.1) = L.map (·.2.1) := by
    rw [List.map_set]
    refine List.ext_getElem? (fun j => ?_)
    by_cases e : i = j
    · subst e
      rw [List.getElem?_set_self (by simpa using hil), List.getElem?_map, hx]; rfl
    · rw [List.getElem?_set_ne e]
  refine ⟨?_, fun j z hz => ?_, fun j z hz k hk => ?_, fun j j' z u hij hz hu k hk hk' => ?_, fun g hg => .inl (h.own g hg), fun k hk => ?_⟩
  · rw [hrow, List.length_set]
    exact ownsRow_tch h.row t (fun g hg hs => hvx g hs hg)
  · rcases hat j z hz with ⟨_, rfl⟩ | ⟨hne, h1⟩
    · exact ⟨R, hR, hN⟩
    · obtain ⟨R', e1, e2⟩ := h.el j z h1
      exact ⟨R', e1, e2.tch t (fun k hk hs => h.apart j i z x hne h1 hx k hk hs)⟩
  · rcases hat j z hz with ⟨_, rfl⟩ | ⟨hne, h1⟩
    · refine ⟨.inr hk, fun e => ?_⟩
      rcases hf k hk with h2 | h2
      · exact hvx k h2 e
      · have := (h.lt k (h.own k e)).2; omega
    · exact ⟨.inl (h.sub j z h1 k hk).1, (h.sub j z h1 k hk).2⟩
  · rcases hat j z hz with ⟨e1, rfl⟩ | ⟨hne, h1⟩ <;> rcases hat j' u hu with ⟨e2, rfl⟩ | ⟨hne', h2⟩
    · omega
    · rcases hf k hk with h3 | h3
      · exact h.apart i j' x u (fun e => hne' e.symm) hx h2 k h3 hk'
      · have := (h.lt k (h.sub j' u h2 k hk').1).2; omega
    · rcases hf k hk' with h3 | h3
      · exact h.apart i j x z (fun e => hne e.symm) hx h1 k h3 hk
      · have := (h.lt k (h.sub j z h1 k hk).1).2; omega
    · exact h.apart j j' z u hij h1 h2 k hk hk'
  · rcases hk with hk | hk
    · exact ⟨(h.lt k hk).1, Nat.lt_of_lt_of_le (h.lt k hk).2 t.size⟩
    · exact hN.lt k hk
/-- A number of a node's kids is written. -/
theorem NM.kidWrite {g cap : Nat} {Fx : Nat → Prop} {R : List (Nd × Value)} (h : NM w B Fx (.slice (some ⟨g, 0, none⟩) R.length cap) R) {i : Nat} {x : Nd × Value} (hx : R[i]? = some x) {kg n kc : Nat} (hv : x.2 = .slice (some ⟨kg, 0, none⟩) n kc) (j : Nat) (y : Int) :
    NM (w.setCell ⟨kg, j, none⟩ (.int .i64 y)) B Fx (.slice (some ⟨g, 0, none⟩) R.length cap) (R.set i ({ x.1 with kids := x.1.kids.set j y }, x.2)) := by
  have hil := (List.getElem?_eq_some_iff.1 hx).1
  have hkg : x.2.ownBlock = some kg := by rw [hv]; rfl
  have hgk : kg ≠ g := fun e => rows_apart (h.kid i x hx) h.row (by decide) kg hkg (by rw [e]; rfl)
  have t : Tch (fun k => k = kg) w (w.setCell ⟨kg, j, none⟩ (.int .i64 y)) := Tch.setCell (S := fun k => k = kg) w (p := ⟨kg, j, none⟩) rfl _
  have hat : ∀ (a : Nat) (z : Nd × Value), (R.set i ({ x.1 with kids := x.1.kids.set j y }, x.2))[a]? = some z → (a = i ∧ z = ({ x.1 with kids := x.1.kids.set j y }, x.2)) ∨ (a ≠ i ∧ R[a]? = some z) := fun a z hz => by
    by_cases e : i = a
    · subst e
      rw [List.getElem?_set_self hil] at hz
      exact .inl ⟨rfl, (Option.some.inj hz).symm⟩
    · rw [List.getElem?_set_ne e] at hz
      exact .inr ⟨fun q => e q.symm, hz⟩
  refine ⟨?_, fun a z hz => ?_, fun a b z u hab hz hu c hc => ?_, ⟨h.own.1, fun a z hz c hc => ?_⟩, fun k hk => ⟨(h.lt k hk).1, Nat.lt_of_lt_of_le (h.lt k hk).2 t.size⟩⟩
  · have e : ncs (R.set i ({ x.1 with kids := x.1.kids.set j y }, x.2)) = ncs R := by
      have h5 := ncs_set (x' := ({ x.1 with kids := x.1.kids.set j y }, x.2)) hx 5 (by omega) (u := x.2) (by obtain ⟨a, b⟩ := x; rfl)
      rw [← h5]
      have h6 := ncs_at hx 5 (by omega)
      obtain ⟨hl, he⟩ := List.getElem?_eq_some_iff.1 (h6.trans (show (nc x)[5]? = some x.2 from rfl))
      rw [← he, List.set_getElem_self]
    rw [List.length_set, e]
    exact ownsRow_tch h.row t (fun b hb hs => hgk (by cases hb; exact hs.symm))
  · rcases hat a z hz with ⟨_, rfl⟩ | ⟨hne, h1⟩
    · have hk := h.kid i x hx
      rw [hv] at hk ⊢
      have hnn : n = x.1.kids.length := by rcases hk.2 with ⟨h0, _⟩ | ⟨_, _, _, h0, _⟩ <;> simp only [Value.slice.injEq] at h0
                                           · exact absurd h0.1 (by simp)
                                           · exact h0.2.1
      subst hnn
      have h2 := (hk.stored j (.int .i64 y)).1
      have e : (icells x.1.kids).set j (.int .i64 y) = icells (x.1.kids.set j y) := by simp [icells, List.map_set]
      rw [e] at h2
      simp only [List.length_set]
      exact h2
    · exact ownsRow_tch (h.kid a z h1) t (fun b hb hs => h.apart i a x z (fun q => hne q.symm) hx h1 kg hkg (by rw [hb, hs]))
  · rcases hat a z hz with ⟨e1, rfl⟩ | ⟨hne, h1⟩ <;> rcases hat b u hu with ⟨e2, rfl⟩ | ⟨hne', h2⟩
    · omega
    · exact h.apart i b x u (fun q => hne' q.symm) hx h2 c hc
    · exact fun hc2 => h.apart i a x z (fun q => hne q.symm) hx h1 c hc2 hc
    · exact h.apart a b z u hab h1 h2 c hc
  · rcases hat a z hz with ⟨_, rfl⟩ | ⟨hne, h1⟩
    · exact h.own.2 i x hx c hc
    · exact h.own.2 a z h1 c hc
end
end Go.Proofs.Ytcnjmkjfgghgoaa
end

section
/- Sub: walked. -/
namespace Go.Proofs.Ytcnjmkjfgghgoaa
open Go.RowKit Go.Mp Go.Tr
set_option linter.unusedVariables false
set_option maxRecDepth 100000
set_option maxHeartbeats 4000000
theorem sub_run {g off len cap i n : Nat} (hi : i + n ≤ cap) (hne : i < cap) (I E : Int) (hI : I = (i : Int)) (hE : E = ((i + n : Nat) : Int)) :
    (∀ w, (Instr.sliceAt 50 (.slice (some ⟨g, off, none⟩) len cap) (some (.int .i64 I)) (some (.int .i64 E)) none).run Try.prog w = .ok (.slice (some ⟨g, off + i * 6, none⟩) n (cap - i)) w) ∧ (∀ w, (Instr.slice 50 (.slice (some ⟨g, off, none⟩) len cap) (some (.int .i64 I)) (some (.int .i64 E)) none).run Try.prog w = .ok (.slice (some ⟨g, off + i * 6, none⟩) n (cap - i)) w) := by
  have e : Try.prog.underlying 50 = some (.slice (Try.prog.elem 50)) := by kernel_rfl
  have run2 : ∀ w, (Instr.slice 50 (.slice (some ⟨g, off, none⟩) len cap) (some (.int .i64 I)) (some (.int .i64 E)) none).run Try.prog w = .ok (.slice (some ⟨g, off + i * 6, none⟩) n (cap - i)) w := fun w => by
    have z : (sizeOf (Try.prog.elem 50)).run Try.prog w = .ok 6 w := by kernel_rfl
    rw [run_slice_lh (ht := e) (h0 := by omega) (h1 := by omega) (h2 := by omega), z]
    rw [show I.toNat = i by omega, show E.toNat = i + n by omega]
    simp only [Result.andThen_ok, sliced, if_neg (show ¬ cap = i by omega), Option.map_some, add_at, Nat.add_sub_cancel_left]
  refine ⟨fun w => ?_, run2⟩
  rw [run_sliceAt_slice (h := e)]; exact run2 w
structure SubM (w : World) (B g cap : Nat) (D E : List (Nd × Value)) : Prop where
  row : w.ownsRow B 58 6 (.slice (some ⟨g, 0, none⟩) (D ++ E).length cap) (D ++ E).length (ncs (D ++ E))
  kid : ∀ (i : Nat) (x : Nd × Value), D[i]? = some x → w.ownsRow B 3 1 x.2 x.1.kids.length (icells x.1.kids)
  apart : ∀ (i j : Nat) (x y : Nd × Value), i ≠ j → D[i]? = some x → D[j]? = some y → ∀ g, x.2.ownBlock = some g → y.2.ownBlock ≠ some g
theorem ncs_same {D E : List (Nd × Value)} {n n' : Nd} {v : Value} (h : nc (n, v) = nc (n', v)) : ncs (D ++ (n, v) :: E) = ncs (D ++ (n', v) :: E) := by
  simp only [ncs_append]
  congr 1
  show nc (n, v) ++ ncs E = nc (n', v) ++ ncs E
  rw [h]
section
variable {w w1 : World} {B g cap i : Nat} {D E : List (Nd × Value)} {x : Nd × Value} {v' : Value} {n' : Nd}
theorem SubM.tch {S : Nat → Prop} (h : SubM w B g cap D E) (t : Tch S w w1) (hg : ¬ S g) (hk : ∀ (i : Nat) (x : Nd × Value), D[i]? = some x → ∀ b, x.2.ownBlock = some b → ¬ S b) : SubM w1 B g cap D E :=
  ⟨ownsRow_tch h.row t (fun b hb => by cases hb; exact hg), fun i x hx => ownsRow_tch (h.kid i x hx) t (hk i x hx), h.apart⟩
theorem SubM.at (h : SubM w B g cap D (x :: E)) : ∀ j u, j < 6 → (nc x)[j]? = some u → w.cell? ⟨g, D.length * 6 + j, none⟩ = some u ∧ w.frozen? ⟨g, D.length * 6 + j, none⟩ = false := by
  intro j u hj hu
  have hx : (D ++ x :: E)[D.length]? = some x := by simp
  obtain ⟨g', e, _, _, c, f⟩ := ownsRow_cell h.row (j := D.length * 6 + j) (u := u) (by rw [ncs_at hx j hj, hu])
  cases e
  exact ⟨c, f⟩
theorem nc_set (n : Nd) (v v' : Value) : nc (n, v') = (nc (n, v)).set 5 v' := rfl
/-- The kids of the next node, cloned and laid into it. -/
theorem SubM.lay (h : SubM w B g cap D (x :: E)) {ks : List Int} (row : w1.ownsRow w.heap.size 3 1 v' ks.length (icells ks)) (t : Tch No w w1) (hB : B ≤ w.heap.size) :
    w1.cell? ⟨g, D.length * 6 + 5, none⟩ = some x.2 ∧ w1.frozen? ⟨g, D.length * 6 + 5, none⟩ = false ∧ SubM (w1.setCell ⟨g, D.length * 6 + 5, none⟩ v') B g cap D ((x.1, v') :: E) ∧ (w1.setCell ⟨g, D.length * 6 + 5, none⟩ v').ownsRow w.heap.size 3 1 v' ks.length (icells ks) := by
  have h1 := h.tch t id (fun _ _ _ _ _ => id)
  obtain ⟨c, f⟩ := h1.at 5 x.2 (by omega) rfl
  have hne : v'.ownBlock ≠ some g := fun e => rows_apart row h1.row (by decide) g e rfl
  have tc : Tch (fun k => k = g) w1 (w1.setCell ⟨g, D.length * 6 + 5, none⟩ v') := Tch.setCell (S := fun k => k = g) w1 (p := ⟨g, D.length * 6 + 5, none⟩) rfl _
  refine ⟨c, f, ⟨?_, fun a y hy => ?_, h.apart⟩, ownsRow_setCell_other (a := ⟨g, D.length * 6 + 5, none⟩) row (fun e => hne e) v'⟩
  · have hx : (D ++ x :: E)[D.length]? = some x := by simp
    have hs := (h1.row.stored (D.length * 6 + 5) v').1
    rw [ncs_set (x' := (x.1, v')) hx 5 (by omega) (nc_set x.1 x.2 v'), List.set_append_right _ _ (Nat.le_refl _), Nat.sub_self, List.set_cons_zero] at hs
    have e : (D ++ x :: E).length = (D ++ (x.1, v') :: E).length := by simp
    rw [← e]
    exact hs
  · exact ownsRow_setCell_other (a := ⟨g, D.length * 6 + 5, none⟩) (h1.kid a y hy) (fun e => rows_apart (h1.kid a y hy) h1.row (by decide) _ e rfl) v'
/-- A number of the next node's kids, written anew. -/
theorem SubM.kidSet {n0 : Nd} {kg kc m : Nat} (h : SubM w B g cap D ((n0, v') :: E)) (hv : v' = .slice (some ⟨kg, 0, none⟩) m kc) (hfresh : ∀ (i : Nat) (y : Nd × Value), D[i]? = some y → y.2.ownBlock ≠ some kg) {b2 : Nat} {L : List Value} (row : w.ownsRow b2 3 1 v' m L) (j : Nat) (u : Value) :
    SubM (w.setCell ⟨kg, j, none⟩ u) B g cap D ((n0, v') :: E) ∧ (w.setCell ⟨kg, j, none⟩ u).ownsRow b2 3 1 v' m (L.set j u) := by
  have hg : kg ≠ g := fun e => rows_apart row h.row (by decide) kg (by rw [hv]; rfl) (by rw [e]; rfl)
  refine ⟨h.tch (Tch.setCell (S := fun k => k = kg) w (p := ⟨kg, j, none⟩) rfl u) (fun e => hg e.symm) (fun i y hy b hb e => hfresh i y hy (by rw [hb, e])), ?_⟩
  subst hv
  exact (row.stored j u).1
/-- The next node is done. -/
theorem SubM.done {n0 : Nd} (h : SubM w B g cap D ((n0, v') :: E)) {n' : Nd} (hn : nc (n0, v') = nc (n', v')) (row : w.ownsRow B 3 1 v' n'.kids.length (icells n'.kids)) (hfresh : ∀ (i : Nat) (y : Nd × Value), D[i]? = some y → ∀ b, y.2.ownBlock = some b → v'.ownBlock ≠ some b) : SubM w B g cap (D ++ [(n', v')]) E := by
  have hat : ∀ (i : Nat) (y : Nd × Value), (D ++ [(n', v')])[i]? = some y → D[i]? = some y ∨ i = D.length ∧ y = (n', v') := fun i y hy => by
    by_cases hi : i < D.length
    · rw [List.getElem?_append_left hi] at hy; exact .inl hy
    · rw [List.getElem?_append_right (by omega)] at hy
      have h0 : i - D.length = 0 := by have := (List.getElem?_eq_some_iff.1 hy).1; simp at this; omega
      rw [h0] at hy; simp at hy
      exact .inr ⟨by omega, hy.symm⟩
  refine ⟨?_, fun i y hy => ?_, fun i j y z hij hy hz b hb hb2 => ?_⟩
  · have e : (D ++ (n0, v') :: E).length = (D ++ [(n', v')] ++ E).length := by simp
    rw [← e, List.append_assoc, List.singleton_append, ← ncs_same hn]
    exact h.row
  · rcases hat i y hy with h1 | ⟨_, rfl⟩
    · exact h.kid i y h1
    · exact row
  · rcases hat i y hy with h1 | ⟨h1, rfl⟩ <;> rcases hat j z hz with h2 | ⟨h2, rfl⟩
    · exact h.apart i j y z hij h1 h2 b hb hb2
    · exact hfresh i y h1 b hb hb2
    · exact hfresh j z h2 b hb2 hb
    · omega
theorem SubM.nm (h : SubM w B g cap D []) : NM w B (fun k => k = g ∨ ∃ (i : Nat) (x : Nd × Value), D[i]? = some x ∧ x.2.ownBlock = some k) (.slice (some ⟨g, 0, none⟩) D.length cap) D := by
  have hr := h.row
  rw [List.append_nil] at hr
  refine ⟨hr, h.kid, h.apart, ⟨fun b hb => by cases hb; exact .inl rfl, fun i x hx b hb => .inr ⟨i, x, hx, hb⟩⟩, fun k hk => ?_⟩
  rcases hk with rfl | ⟨i, x, hx, hb⟩
  · exact ownsRow_ge hr rfl
  · exact ownsRow_ge (h.kid i x hx) hb
end
end Go.Proofs.Ytcnjmkjfgghgoaa
end

section
/- Sub: walked whole. -/
namespace Go.Proofs.Ytcnjmkjfgghgoaa
open Go.RowKit Go.Mp Go.Tr
set_option linter.unusedVariables false
set_option maxRecDepth 100000
set_option maxHeartbeats 4000000
theorem set_turn {ks : List Int} {j : Nat} {y a : Int} (h : ks[j]? = some y) : ((ks.take j).map (· - a) ++ ks.drop j).set j (y - a) = (ks.take (j + 1)).map (· - a) ++ ks.drop (j + 1) := by
  obtain ⟨h1, h2⟩ := List.getElem?_eq_some_iff.1 h
  rw [List.set_append_right _ _ (by simp; omega), List.drop_eq_getElem_cons h1, h2]
  have e : j - ((ks.take j).map (· - a)).length = 0 := by simp; omega
  rw [e, List.set_cons_zero, List.take_succ_eq_append_getElem h1, h2]
  simp
theorem icells_set (l : List Int) (j : Nat) (y : Int) : (icells l).set j (.int .i64 y) = icells (l.set j y) := by
  simp [icells, List.map_set]
theorem turn_at {ks : List Int} {j : Nat} {y a : Int} (h : ks[j]? = some y) : ((ks.take j).map (· - a) ++ ks.drop j)[j]? = some y := by
  obtain ⟨h1, h2⟩ := List.getElem?_eq_some_iff.1 h
  rw [List.getElem?_append_right (by simp; omega)]
  have e : j - ((ks.take j).map (· - a)).length = 0 := by simp; omega
  rw [e, List.getElem?_drop]
  simpa using h
theorem sub_may {t s : T} {i : Nat} {w : World} {ao : Option Addr} {n cap : Nat} (hsz : t.size ≤ 4096) (hm : mayR (lay 0 t) = true) (hs : okT 16 s) (hp : lay i s <+: (lay 0 t).drop i) (hN : NdV w (.slice ao n cap) (lay 0 t)) (hcap : n ≤ cap) :
    Calls Try.prog 27 #[.slice ao n cap, .int .i64 i] w fun e w' => ∃ v' F R, e = .returned v' ∧ R.map (·.1) = lay 0 (s.withKey ⟨#[]⟩) ∧ NM w' w.heap.size F v' R ∧ Tch No w w' := by
  have hL := lay_length 0 t
  have hfit := lay_fits hp
  have hpos := Go.Tr.size_pos s
  have hbd := bounds_lay i s
  have hov := overR_lay (lay 0 t) 16 i s hs hp
  have hM := may_any (lay 0 t) _ w hN
  rw [hm] at hM
  have hn : n = (lay 0 t).length := by obtain ⟨_, _, _, e, _⟩ := hN; cases e; rfl
  obtain ⟨ns, hns⟩ : ∃ ns, ns = lay 0 t := ⟨_, rfl⟩
  rw [← hns] at hL hfit hov hn hN hp hm
  have hO : ∀ w', Tch No w w' → Calls Try.prog 39 #[.slice ao n cap, .int .i64 i, .int .i64 1] w' fun e w2 => e = .returned (.int .i64 (overR ns 16 i)) ∧ Below w'.heap.size w' w2 := fun w' t => overN_any ns _ 16 1 rfl w' i (hN.tch t)
  obtain ⟨g0, off, R0, rfl, hg0, hR0, hC0⟩ := hN.rows (fun e => by rw [e] at hL; have := Go.Tr.size_pos t; simp at hL; omega)
  have hlR0 : R0.length = ns.length := by rw [← hR0, List.length_map]
  obtain ⟨m, hmm⟩ : ∃ m, m = s.size := ⟨_, rfl⟩
  obtain ⟨E0, hE0⟩ : ∃ E0, E0 = (R0.drop i).take m := ⟨_, rfl⟩
  have hE0l : E0.length = m := by rw [hE0]; simp; omega
  have hE0m : E0.map (·.1) = lay i s := by
    rw [hE0, List.map_take, List.map_drop, hR0]
    obtain ⟨r, hr⟩ := hp
    rw [← hr, List.take_append_of_le_length (by rw [lay_length]; omega), List.take_of_length_le (by rw [lay_length]; omega)]
  have hCE : NdC w g0 (off + i * 6) E0 := by rw [hE0]; exact (hC0.drop i).take m
  obtain ⟨EE, hEE⟩ : ∃ EE, EE = overR ns 16 i := ⟨_, rfl⟩
  rw [← hEE] at hO hov
  obtain ⟨r1, r2⟩ := sub_run (g := g0) (off := off) (len := n) (cap := cap) (i := i) (n := m) (by omega) (by omega) i EE rfl (by rw [hov, hmm]; omega)
  have i0 : (0 : Int) ≤ (i : Int) := Int.natCast_nonneg i
  have i1 : decide ((i : Int) < 0) = false := decide_eq_false (by omega)
  have i2 : (i : Int) < (n : Int) := by omega
  have i3 : decide ((n : Int) ≤ (i : Int)) = false := decide_eq_false (by omega)
  have i4 : decide (n ≤ i) = false := decide_eq_false (by omega)
  have hi96 : i ≤ 4096 := by omega
  have hm96 : m ≤ 4096 := by omega
  have hmp : 0 < m := by omega
  replace hns := Lib.hid hns
  replace hL := Lib.hid hL
  replace hfit := Lib.hid hfit
  replace hov := Lib.hid hov
  replace hM := Lib.hid hM
  replace hn := Lib.hid hn
  replace hN := Lib.hid hN
  replace hp := Lib.hid hp
  replace hm := Lib.hid hm
  replace hO := Lib.hid hO
  replace hg0 := Lib.hid hg0
  replace hR0 := Lib.hid hR0
  replace hC0 := Lib.hid hC0
  replace hlR0 := Lib.hid hlR0
  replace hmm := Lib.hid hmm
  replace hE0 := Lib.hid hE0
  replace hE0l := Lib.hid hE0l
  replace hE0m := Lib.hid hE0m
  replace hCE := Lib.hid hCE
  replace hEE := Lib.hid hEE
  replace hsz := Lib.hid hsz
  replace hcap := Lib.hid hcap
  replace hpos := Lib.hid hpos
  replace hbd := Lib.hid hbd
  replace hs := Lib.hid hs
  replace hi96 := Lib.hid hi96
  replace hm96 := Lib.hid hm96
  replace hmp := Lib.hid hmp
  go_enter Try.func27, Try.ntmps27
  go_upto_region 4 with (first
    | (go_at_call 21; (with_reducible refine hM.out.mono ?_); rintro ev w1 ⟨rfl, hb1⟩; have t1 := Lib.hid (Tch.of_below (S := No) hb1); have hO1 := Lib.hid (hO.out w1 t1.out); clear hb1)
    | (go_at_call 39; (with_reducible refine hO1.out.mono ?_); rintro ev w2 ⟨rfl, hb2⟩; have t2 := Lib.hid (t1.out.trans (Tch.of_below (S := No) hb2) (fun _ h => h.elim)); clear hb2)
    | (go_at_call 41; (with_reducible refine (clone_nodes (hCE.out.tch t2.out) hE0l.out.symm (by have := hm96.out; omega)).mono ?_); rintro ev w3 ⟨v3, rfl, row3, hb3⟩; replace row3 := Lib.hid (ownsRow_base row3 t2.out.size); have t3 := Lib.hid (t2.out.trans (Tch.of_below (S := No) hb3) (fun _ h => h.elim)); clear hb3)
    | fail)
  obtain ⟨x0, hx0⟩ : ∃ x0, E0[0]? = some x0 := ⟨_, List.getElem?_eq_getElem (by rw [hE0l.out]; exact hmp.out)⟩
  obtain ⟨vo3, cap3, rfl⟩ := ownsRow_shape row3.out
  obtain ⟨g, rfl, _, _, _, _⟩ := ownsRow_cell row3.out (j := 0 * 6 + 0) (u := .int .i64 x0.1.kind) (by rw [ncs_at hx0 0 (by omega)]; rfl)
  have hS3 : SubM w3 w.heap.size g cap3 [] E0 := ⟨by rw [List.nil_append, hE0l.out]; exact row3.out, (fun i x hx => by cases hx), (fun i j x y _ hx => by cases hx)⟩
  replace hS3 := Lib.hid hS3
  replace hx0 := Lib.hid hx0
  clear r1 r2
  go_wp2
  go_loopg [30] (m + 1) (fun gg iv wr => ∃ D E : List (Nd × Value), gg = m - D.length + 1 ∧ iv = .int .i64 D.length ∧ D.length + E.length = m ∧ Hid (SubM wr w.heap.size g cap3 D E) ∧ D.map (·.1) = ((lay i s).take D.length).map (sh i) ∧ E = E0.drop D.length ∧ Tch No w wr)
  case atStart => exact ⟨[], E0, rfl, rfl, by rw [hE0l.out]; simp, hS3, by simp, by simp, t3.out⟩
  case round =>
    obtain ⟨D, E, rfl, rfl, hDE, hS, hDm, hEd, tr⟩ := hrel
    obtain ⟨r, hr⟩ : ∃ r, r = D.length := ⟨_, rfl⟩
    rw [← hr] at hDE hDm hEd ⊢
    replace hr := Lib.hid hr
    by_cases hlt : r < m
    · have k0 := nn_lt hlt
      obtain ⟨x, hx⟩ : ∃ x, E0[r]? = some x := ⟨_, List.getElem?_eq_getElem (by rw [hE0l.out]; exact hlt)⟩
      have hE : E = x :: E0.drop (r + 1) := by
        obtain ⟨hx1, hx2⟩ := List.getElem?_eq_some_iff.1 hx
        rw [hEd, List.drop_eq_getElem_cons hx1, hx2]
      obtain ⟨E', hE'⟩ : ∃ E', E' = E0.drop (r + 1) := ⟨_, rfl⟩
      rw [← hE'] at hE
      subst hE
      have hxl : (lay i s)[r]? = some x.1 := by rw [← hE0m.out, List.getElem?_map, hx]; rfl
      obtain ⟨b1, b2⟩ := hbd.out x.1 (List.mem_of_getElem? hxl)
      have hkx := (hCE.out.kid r x hx).tch tr
      obtain ⟨⟨nk, key, tx, qd, ln, ks⟩, kv⟩ := x
      dsimp only at hkx b1 b2
      obtain ⟨ko, kc, rfl⟩ := hkx.shape
      have hS5 := hS.out.at 5 (.slice ko ks.length kc) (by omega) rfl
      rw [← hr.out] at hS5
      obtain ⟨c5, f5⟩ := hS5
      have hSz := Lib.hid tr.size
      have hks : ks.length ≤ 4096 := by have := hmm.out; have := hm96.out; omega
      have hwk : Hid (wrap64 ((r : Int) + 1) = ((r + 1 : Nat) : Int)) := Lib.hid (by have := hm96.out; unfold wrap64; omega)
      replace hDE := Lib.hid hDE
      replace hDm := Lib.hid hDm
      replace hEd := Lib.hid hEd
      replace hxl := Lib.hid hxl
      replace hE' := Lib.hid hE'
      replace hx := Lib.hid hx
      replace b1 := Lib.hid b1
      replace b2 := Lib.hid b2
      replace hkx := Lib.hid hkx
      replace tr := Lib.hid tr
      replace f5 := Lib.hid f5
      replace hks := Lib.hid hks
      go_upto_region 8 with (first
        | (go_at_call 42; (with_reducible refine (clone_kids hkx.out (by have := hks.out; omega)).mono ?_); rintro ev w4 ⟨v4, rfl, row4, hb4⟩; obtain ⟨vo, vc, rfl⟩ := ownsRow_shape row4; have hl4 := hS.out.lay row4 (Tch.of_below (S := No) hb4) hSz.out; rw [← hr.out] at hl4; obtain ⟨c4, f4, hS4, row5⟩ := hl4; dsimp only at c4 hS4; replace row4 := Lib.hid row4; replace row5 := Lib.hid row5; replace hS4 := Lib.hid hS4; have t4 := Lib.hid (tr.out.trans (Tch.of_below (S := No) hb4) (fun _ h => h.elim)); replace hb4 := Lib.hid hb4)
        | fail)
      have hfr : ∀ (a : Nat) (y : Nd × Value), D[a]? = some y → ∀ b, y.2.ownBlock = some b → (Value.slice vo ks.length vc).ownBlock ≠ some b := fun a y hy b hb e => by
        have h1 := ownsRow_ge row5.out e
        have h2 := ownsRow_ge (hS.out.kid a y hy) hb
        omega
      have hgw : w.heap.size ≤ g := (ownsRow_ge hS.out.row rfl).1
      have hvw : ∀ b, (Value.slice vo ks.length vc).ownBlock = some b → w.heap.size ≤ b := fun b e => by
        have h1 := ownsRow_ge row5.out e
        have := hSz.out; omega
      have t5 : Tch No w (w4.setCell ⟨g, r * 6 + 5, none⟩ (.slice vo ks.length vc)) := t4.out.trans (Tch.setCell (S := fun k => k = g) w4 (p := ⟨g, r * 6 + 5, none⟩) rfl _) (fun k hk => .inr (by rw [hk]; exact hgw))
      replace row5 := Lib.hid (ownsRow_base row5.out hSz.out)
      obtain ⟨w5, hw5⟩ : ∃ w5, w5 = w4.setCell ⟨g, r * 6 + 5, none⟩ (.slice vo ks.length vc) := ⟨_, rfl⟩
      rw [← hw5] at hS4 row5 t5 ⊢
      have hS5 := hS4.out.at 5 (.slice vo ks.length vc) (by omega) rfl
      rw [← hr.out] at hS5
      obtain ⟨c6, f6⟩ := hS5
      replace hfr := Lib.hid hfr
      replace hgw := Lib.hid hgw
      replace hvw := Lib.hid hvw
      replace t5 := Lib.hid t5
      replace hw5 := Lib.hid hw5
      replace f6 := Lib.hid f6
      replace row4 := Lib.hid row4
      clear c4 f4 c5
      go_wp2
      go_loopg [49] (ks.length + 1) (fun g2 jv wq => ∃ j : Nat, g2 = ks.length - j + 1 ∧ jv = .int .i64 j ∧ j ≤ ks.length ∧ Hid (SubM wq w.heap.size g cap3 D ((⟨nk, key, tx, qd, ln, ks⟩, .slice vo ks.length vc) :: E')) ∧ Hid (wq.ownsRow w.heap.size 3 1 (.slice vo ks.length vc) ks.length (icells ((ks.take j).map (· - (i : Int)) ++ ks.drop j))) ∧ Tch No w wq)
      case atStart => exact ⟨0, rfl, rfl, Nat.zero_le _, hS4, Lib.hid (by simpa using row5.out), t5.out⟩
      case round =>
        obtain ⟨j, rfl, rfl, hjl, hSq, rowr, tq⟩ := hrel
        have hSq5 := hSq.out.at 5 (.slice vo ks.length vc) (by omega) rfl
        rw [← hr.out] at hSq5
        obtain ⟨c7, f7⟩ := hSq5
        clear c6
        by_cases hj : j < ks.length
        · have j0 := nn_lt hj
          obtain ⟨y, hy⟩ : ∃ y, ks[j]? = some y := ⟨_, List.getElem?_eq_getElem hj⟩
          obtain ⟨kg, rfl, _, _, cy, fy⟩ := ownsRow_cell rowr.out (j := j) (u := .int .i64 y) (by simp only [icells, List.getElem?_map, turn_at hy]; rfl)
          have hby := b2.out y (List.mem_of_getElem? hy)
          have hwy : wrap64 (y - (i : Int)) = y - (i : Int) := by have := hi96.out; have := hpos.out; have := hfit.out; have := hL.out; have := hsz.out; unfold wrap64; omega
          have hset := hSq.out.kidSet rfl (fun a z hz e => hfr.out a z hz kg e rfl) rowr.out j (.int .i64 (y - (i : Int)))
          obtain ⟨hSs, rows⟩ := hset
          rw [icells_set, set_turn hy] at rows
          have ts : Tch No w (wr.setCell ⟨kg, j, none⟩ (.int .i64 (y - (i : Int)))) := tq.trans (Tch.setCell (S := fun k => k = kg) wr (p := ⟨kg, j, none⟩) rfl _) (fun k hk => .inr (by rw [hk]; exact hvw.out kg rfl))
          have hwj : Hid (wrap64 ((j : Int) + 1) = ((j + 1 : Nat) : Int)) := Lib.hid (by have := hks.out; unfold wrap64; omega)
          obtain ⟨w6, hw6⟩ : ∃ w6, w6 = wr.setCell ⟨kg, j, none⟩ (.int .i64 (y - (i : Int))) := ⟨_, rfl⟩
          rw [← hw6] at hSs rows ts
          replace hSs := Lib.hid hSs
          replace rows := Lib.hid rows
          replace ts := Lib.hid ts
          replace hby := Lib.hid hby
          replace hy := Lib.hid hy
          replace tq := Lib.hid tq
          replace hjl := Lib.hid hjl
          replace f7 := Lib.hid f7
          go_wp2
          rw [← hw6]
          replace hw6 := Lib.hid hw6
          go_roundg (ks.length - (j + 1) + 1)
          case rel => exact ⟨j + 1, rfl, by rw [hwj.out], hj, hSs, rows, ts.out⟩
          case measure => exact nn_down2 hj
        · have j0 := nn_ge hj
          have j1 : decide (j < ks.length) = false := decide_eq_false hj
          have hjj : j = ks.length := by omega
          have hdone : SubM wr w.heap.size g cap3 (D ++ [(⟨nk, key, tx, qd, ln, ks.map (· - (i : Int))⟩, .slice vo ks.length vc)]) E' := hSq.out.done (n' := ⟨nk, key, tx, qd, ln, ks.map (· - (i : Int))⟩) rfl (by
            have h := rowr.out
            rw [hjj, List.take_length, List.drop_length, List.append_nil] at h
            simp only [List.length_map]
            exact h) hfr.out
          replace hdone := Lib.hid hdone
          replace tq := Lib.hid tq
          replace hjl := Lib.hid hjl
          replace hj := Lib.hid hj
          replace f7 := Lib.hid f7
          replace hjj := Lib.hid hjj
          go_wp2
          go_roundg (m - (r + 1) + 1)
          case rel =>
            refine ⟨_, _, by rw [List.length_append, ← hr.out]; rfl, by rw [hwk.out, List.length_append, ← hr.out]; rfl, ?_, hdone, ?_, ?_, tq.out⟩
            · rw [List.length_append, ← hr.out, hE'.out]
              have := hE0l.out
              simp only [List.length_cons, List.length_nil, List.length_drop]
              omega
            · have hxl2 := hxl.out
              obtain ⟨q1, q2⟩ := List.getElem?_eq_some_iff.1 hxl2
              rw [List.length_append, ← hr.out, List.map_append, hDm.out]
              show _ = ((lay i s).take (r + 1)).map (sh i)
              rw [List.take_succ_eq_append_getElem q1, q2, List.map_append]
              rfl
            · rw [List.length_append, ← hr.out]; exact hE'.out
          case measure => rw [← hr.out]; exact nn_down2 hlt
    · have k0 := nn_ge hlt
      have k1 : decide (r < m) = false := decide_eq_false hlt
      have hrm : r = m := by omega
      have hEn : E = [] := by
        have : E.length = 0 := by omega
        exact List.length_eq_zero_iff.1 this
      subst hEn
      have hNM := hS.out.nm
      obtain ⟨x, hx⟩ : ∃ x, D[0]? = some x := ⟨_, List.getElem?_eq_getElem (by have := hmp.out; have := hr.out; omega)⟩
      obtain ⟨g9, cap9, e9, hc9⟩ := hNM.at hx
      cases e9
      obtain ⟨c1, f1⟩ := hc9 1 (.string x.1.key) (by omega) rfl
      simp only [Nat.zero_mul, Nat.zero_add] at c1 f1
      have hN2 := hNM.store (i := 0) (x' := (noKey x.1, x.2)) hx (j := 1) (by omega) (u := .string ⟨#[]⟩) rfl rfl rfl
      simp only [Nat.zero_mul, Nat.zero_add] at hN2
      have hDl : D.map (·.1) = lay 0 s := by
        rw [hDm, hrm, List.take_of_length_le (by rw [lay_length, ← hmm.out]; exact Nat.le_refl _)]
        have := lay_shift 0 i s
        rw [Nat.zero_add] at this
        exact this
      have hgw : w.heap.size ≤ g := (ownsRow_ge hS.out.row rfl).1
      have tf : Tch No w (wr.setCell ⟨g, 1, none⟩ (.string ⟨#[]⟩)) := tr.trans (Tch.setCell (S := fun k => k = g) wr (p := ⟨g, 1, none⟩) rfl _) (fun k hk => .inr (by rw [hk]; exact hgw))
      have hk0 : (0 : Int) < (m : Int) := by have := hmp.out; omega
      have hDlen : D.length = m := by have := hr.out; omega
      rw [hDlen] at hN2
      replace hN2 := Lib.hid hN2
      replace hDl := Lib.hid hDl
      replace tf := Lib.hid tf
      replace tr := Lib.hid tr
      replace hDE := Lib.hid hDE
      replace hDm := Lib.hid hDm
      replace hEd := Lib.hid hEd
      replace hrm := Lib.hid hrm
      replace hlt := Lib.hid hlt
      replace hgw := Lib.hid hgw
      replace hNM := Lib.hid hNM
      replace hc9 := Lib.hid hc9
      replace hDlen := Lib.hid hDlen
      go_wp2
      go_ret
      refine ⟨_, _, _, rfl, ?_, hN2.out, tf.out⟩
      rw [List.map_set, hDl.out, lay_noKey]
      congr 2
      have h0 : (lay 0 s)[0]? = some x.1 := by rw [← hDl.out, List.getElem?_map, hx]; rfl
      obtain ⟨n9, r9, h9, _⟩ := lay_head 0 s
      rw [h9] at h0 ⊢
      simp only [List.getElem?_cons_zero, Option.some.injEq] at h0
      rw [h0]; rfl
theorem sub_not {ns : List Nd} {v : Value} {w : World} {i : Int} (hN : NdV w v ns) (h : mayR ns = false ∨ i < 0 ∨ (ns.length : Int) ≤ i) :
    Calls Try.prog 27 #[v, .int .i64 i] w fun e w' => e = .returned (.slice none 0 0) ∧ Tch No w w' := by
  have hM := may_any ns v w hN
  obtain ⟨ao, cap, rfl⟩ := hN.shape
  cases hm : mayR ns with
  | false =>
    rw [hm] at hM
    replace hM := Lib.hid hM
    replace hN := Lib.hid hN
    replace h := Lib.hid h
    replace hm := Lib.hid hm
    go_enter Try.func27, Try.ntmps27
    go_wp2_with (first
      | (go_at_call 21; (with_reducible refine hM.out.mono ?_); rintro ev w1 ⟨rfl, hb1⟩; have t1 := Lib.hid (Tch.of_below (S := No) hb1); clear hb1)
      | fail)
    go_ret
    exact ⟨rfl, t1.out⟩
  | true =>
    rw [hm] at hM
    rw [hm] at h
    by_cases hi : i < 0
    · skip
      replace hM := Lib.hid hM
      replace hN := Lib.hid hN
      replace h := Lib.hid h
      replace hm := Lib.hid hm
      go_enter Try.func27, Try.ntmps27
      go_wp2_with (first
        | (go_at_call 21; (with_reducible refine hM.out.mono ?_); rintro ev w1 ⟨rfl, hb1⟩; have t1 := Lib.hid (Tch.of_below (S := No) hb1); clear hb1)
        | fail)
      go_ret
      exact ⟨rfl, t1.out⟩
    · have hi' : decide (i < 0) = false := decide_eq_false hi
      have hl : (ns.length : Int) ≤ i := by rcases h with h | h | h; cases h; exact absurd h hi; exact h
      replace hM := Lib.hid hM
      replace hN := Lib.hid hN
      replace h := Lib.hid h
      replace hm := Lib.hid hm
      replace hi := Lib.hid hi
      go_enter Try.func27, Try.ntmps27
      go_wp2_with (first
        | (go_at_call 21; (with_reducible refine hM.out.mono ?_); rintro ev w1 ⟨rfl, hb1⟩; have t1 := Lib.hid (Tch.of_below (S := No) hb1); clear hb1)
        | fail)
      go_ret
      exact ⟨rfl, t1.out⟩
end Go.Proofs.Ytcnjmkjfgghgoaa
end

section
/- Parse: what it answers is memory of its own, and trees that may be. -/
namespace Go.Ln
def Lin (n : Int) (ts : List Tk) : Prop := ∀ t ∈ ts, t.line = n
theorem lin_snoc {n : Int} {ts : List Tk} {t : Tk} (h : Lin n ts) (ht : t.line = n) : Lin n (ts ++ [t]) := fun x hx => by
  rcases List.mem_append.1 hx with h1 | h1
  · exact h x h1
  · rw [List.mem_singleton.1 h1]; exact ht
theorem scalar_lin {l : List UInt8} {n : Int} {i : Nat} {out ts : List Tk} (h : Lin n out) (hr : scalar l n i out = .ok ts) : Lin n ts := by
  unfold scalar at hr
  split at hr
  · cases hr; exact h
  · split at hr
    · split at hr
      · cases hr
      · simp only at hr
        split at hr
        · cases hr
        · cases hr; exact lin_snoc h rfl
    · split at hr
      · cases hr
      · cases hr; exact lin_snoc h rfl
theorem keyed_lin {l : List UInt8} {n : Int} {i : Nat} {out ts : List Tk} (h : Lin n out) (hr : keyed l n i out = .ok ts) : Lin n ts := by
  unfold keyed at hr
  split at hr
  · split at hr
    · cases hr
    · split at hr
      · exact scalar_lin (lin_snoc h rfl) hr
      · exact scalar_lin h hr
  · simp only at hr
    split at hr
    · exact scalar_lin (lin_snoc (t := ⟨3, n, _, _, _⟩) h rfl) hr
    · exact scalar_lin h hr
theorem items_lin {l : List UInt8} {n : Int} : ∀ (f i : Nat) (out ts : List Tk), Lin n out → items l n f i out = .ok ts → Lin n ts
  | 0, _, out, ts, h, hr => by cases hr; exact h
  | f + 1, i, out, ts, h, hr => by
    unfold items at hr
    split at hr
    · cases hr; exact h
    · split at hr
      · exact items_lin f _ _ ts (lin_snoc h rfl) hr
      · exact keyed_lin h hr
theorem line_lin {l : List UInt8} {n : Int} {ts : List Tk} (hr : line l n = .ok ts) : Lin n ts := by
  unfold line at hr
  split at hr
  · cases hr
  · split at hr
    · cases hr
      intro t ht
      rw [List.mem_singleton.1 ht]
    · exact items_lin _ _ _ _ (fun t ht => by cases ht) hr
theorem scanL_lin : ∀ (ls : List (List UInt8)) (d n : Nat), ∀ t ∈ (scanL d n ls).1, 0 ≤ t.line
  | [], d, n, t, ht => by cases ht
  | l :: ls, d, n, t, ht => by
    unfold scanL at ht
    split at ht
    · cases ht
    · rename_i ts hts
      rcases List.mem_append.1 ht with h | h
      · have := line_lin hts t h
        omega
      · exact scanL_lin ls _ _ t h
theorem scan_lin (text : List UInt8) : ∀ t ∈ (scan text).1, 0 ≤ t.line := by
  intro t ht
  unfold scan at ht
  split at ht
  · cases ht
  · exact scanL_lin _ _ _ t ht
end Go.Ln
namespace Go.Proofs.Ytcnjmkjfgghgoaa
open Go.RowKit Go.Ln Go.Mp Go.Tr
set_option linter.unusedVariables false
set_option maxRecDepth 100000
set_option maxHeartbeats 4000000
def MayT (t : T) : Prop := okT 16 t ∧ t.size ≤ 4096 ∧ t.key.toList = []
def ParOut (w : World) (e : Ending) (w' : World) : Prop := ∃ tv a b c F L, e = .returned (.tuple #[tv, .agg #[.int .i64 a, .int .i64 b, .int .i64 c]]) ∧ TM w' w.heap.size F tv L ∧ (∀ x ∈ L, MayT x.1) ∧ Tch No w w'
theorem lines_tokOf {l : List Tk} (h : ∀ t ∈ l, 0 ≤ t.line) : LinesOk (l.map tokOf) := by
  intro t ht
  obtain ⟨x, hx, rfl⟩ := List.mem_map.1 ht
  exact h x hx
theorem parse_may {text : List UInt8} {ts : List T} (h : parseR text = .ok ts) : ∀ t ∈ ts, MayT t := by
  unfold parseR at h
  split at h
  · cases h
  · obtain ⟨h1, h2⟩ := docsRun_at h
    intro t ht
    obtain ⟨j, hj⟩ := List.mem_iff_getElem?.1 ht
    have hl := (List.getElem?_eq_some_iff.1 hj).1
    rw [h1] at hl
    obtain ⟨t', e1, e2⟩ := h2 j _ (List.getElem?_eq_getElem hl)
    rw [hj] at e1
    cases e1
    have hlo : LinesOk (segs [] ((scan text).1.map tokOf))[j] := fun u hu => by
      rcases (segs_mem _ [] _ (List.getElem_mem hl)).2 u hu with h3 | h3
      · cases h3
      · exact lines_tokOf (scan_lin text) u h3
    obtain ⟨o1, o2⟩ := doc_may hlo e2
    refine ⟨o1, ?_, o2⟩
    unfold doc at e2
    split at e2
    · split at e2
      · cases e2
      · rename_i t' a2 m2 he
        split at e2
        · cases e2
        · cases e2
          have h5 := block_caps (loop_caps _ _) (Nat.zero_le _) he
          have h6 := block_goes (loop_goes _ _) he
          omega
    · cases e2
theorem parse_own {b : Nat} {v : Value} {text : List UInt8} {w : World} {m : Int} (hby : BytS w b v text) (hb : b < w.heap.size) (hm : w.cell? ⟨0, 0, none⟩ = some (.int .i64 m)) : Calls Try.prog 16 #[v] w (ParOut w) := by
  refine (parse_any b v text w m hby hb hm).mono ?_
  intro e w' h
  cases hr : parseR text with
  | error x =>
    obtain ⟨k, ln, er⟩ := x
    rw [hr] at h
    obtain ⟨rfl, t⟩ := h
    exact ⟨_, _, _, _, No, [], rfl, TM.nil _ _, (fun x hx => by cases hx), t⟩
  | ok ts =>
    rw [hr] at h
    obtain ⟨tv, F, L, rfl, hL, hT, t⟩ := h
    exact ⟨_, _, _, _, F, L, rfl, hT, (fun x hx => parse_may hr x.1 (by rw [← hL]; exact List.mem_map_of_mem hx)), t⟩
/-- 'append(v, x..)', x some elements of some cells, new: as one step of a region that draws. -/
theorem step_append_um {P : Program} {w : World} {ops : Array Oper} {o : Oper} {a : Act} {K : Act → World → Prop} {Q : Exit → Act → World → Prop} {E : Prop} {us : List Value} {e' : TypeId} (hgd : o.guard = none) (s x : Operand) (t : TypeId)
    (ho : o.op = .call { callee := .builtin .append, args := #[s, x], argTypes := #[t, t] })
    (base : Nat) (e : TypeId) (i : TypeInfo) (z : Value) (size bytes : Nat) (ht : P.underlying t = some (.slice e)) (hi : P.info? e = some i) (hz : i.zero = some z)
    (hsize : i.size = size) (hby : i.bytes = bytes) (hzs : z.cells.size = size) (hpos : 0 < size)
    (v : Value) (n m : Nat) (xs : List Value) (hs : a.eval s = v) (hown : w.ownsRow base e size v n xs)
    (c : Nat) (hx : a.eval x = .slice (some ⟨w.heap.size, 0, none⟩) m c) (hlen : us.length = m * size) (h1 : ∀ u ∈ us, u.oneCell' = true)
    (h63 : n + m ≤ maxLen) (hbytes : (n + m) * bytes ≤ 140737488355328) (hbase : base ≤ w.heap.size)
    (h : ∀ v' w', w'.ownsRow base e size v' (n + m) (xs ++ us) → w.grownBy w' v.ownBlock → (∀ g, v'.ownBlock = some g → v.ownBlock = some g ∨ w.heap.size ≤ g) → K (a.put o.dst v') w') :
    if Region.wanted o (yielded ops a.tmps) = true then Oper.wp P o a (w.alloc (.cells us.toArray e')) K Q else E := by
  have hw : Region.wanted o (yielded ops a.tmps) = true := by simp [Region.wanted, hgd]
  rw [if_pos hw]
  obtain ⟨v', w', hr, h2, h3, h4, h5⟩ := run_append_own_at (P := P) (w.alloc (.cells us.toArray e')) base t o.type e i z size bytes ht hi hz hsize hby hzs hpos v n xs (hown.alloc _) ⟨w.heap.size, 0, none⟩ m c us hlen (new_cells w us e') h1 h63 hbytes (by simp; omega)
  unfold Oper.wp execOp
  simp only [ho, resolve, invoke, builtin, Sem.run_bind, Sem.run_pure, Result.andThen_ok, List.map_toArray, List.map_cons, List.map_nil, hs, hx, hr]
  refine h v' w' h2 (grownBy_alloc_left h3) ?_
  intro g hg'
  rcases h5 with hl | hl
  · exact .inl (by rw [← hl]; exact hg')
  · rw [hl] at hg'; cases hg'; exact .inr (by simp)
end Go.Proofs.Ytcnjmkjfgghgoaa
end

section

namespace Go.Proofs.Ytcnjmkjfgghgoaa
open Go.RowKit Go.Ln Go.Mp Go.Tr
set_option linter.unusedVariables false
theorem grownBy_mono {w w' : World} {r : Option Nat} (h : w.grownBy w' none) : w.grownBy w' r := ⟨h.os, h.tape, h.output, h.size, fun k hk _ => h.block k hk (by simp)⟩
theorem run_append_apart {P : Program} (w : World) (base : Nat) (t ty e : TypeId) (i : TypeInfo) (z : Value) (size bytes : Nat) (ht : P.underlying t = some (.slice e)) (hi : P.info? e = some i) (hz : i.zero = some z)
    (hsize : i.size = size) (hby : i.bytes = bytes) (hzs : z.cells.size = size) (hsz : 0 < size)
    (v : Value) (n : Nat) (xs : List Value) (hown : w.ownsRow base e size v n xs)
    (a : Addr) (m c : Nat) (news : List Value) (hl : news.length = m * size) (hnews : ∀ j u, news[j]? = some u → w.cell? (a.add j) = some u) (h1 : ∀ u ∈ news, u.oneCell' = true)
    (h63 : n + m ≤ maxLen) (hbytes : (n + m) * bytes ≤ 140737488355328) (hbase : base ≤ w.heap.size) :
    ∃ v' w', (Builtin.append_ #[t, t] ty #[v, .slice (some a) m c]).run P w = .ok v' w' ∧ w'.ownsRow base e size v' (n + m) (xs ++ news) ∧ w.grownBy w' v'.ownBlock ∧
      (v'.ownBlock = v.ownBlock ∨ v'.ownBlock = some w.heap.size) := by
  obtain ⟨v', w', hr, h2, h3, h4, h5⟩ := run_append_own_at (P := P) w base t ty e i z size bytes ht hi hz hsize hby hzs hsz v n xs hown a m c news hl hnews h1 h63 hbytes hbase
  refine ⟨v', w', hr, h2, ?_, h5⟩
  rcases h5 with h5 | h5
  · rw [h5]; exact h3
  · have hx := hown
    rcases hx.2 with ⟨hv, _⟩ | ⟨g, cap, cur, hv, hbg, hg, hnc, hcm, hcs, htk⟩
    · rw [hv] at h3
      exact grownBy_mono h3
    · by_cases hroom : n + m ≤ cap
      · have hlen : xs.length = n * size := hx.1
        have hgl : g < w.heap.size := (Array.getElem?_eq_some_iff.1 hg).1
        have hin : ∀ j, j < news.length → n * size + j < cur.size := fun j hj => by
          have h6 : (n + m) * size ≤ cap * size := Nat.mul_le_mul_right _ hroom
          rw [Nat.add_mul] at h6
          rw [hl] at hj
          omega
        have hrc := run_append_room_cells (P := P) w t ty e i ht hi g 0 n cap a m c news (by rw [hsize]; exact hl) hnews h1 hroom
          (fun j hj => by
            have h7 := hin j hj
            simp [World.cell?, hg, hsize, h7])
          (fun j hj => by simp [World.frozen?, hg])
        rw [hv, hrc] at hr
        injection hr with e1 e2
        rw [← e1] at h5
        simp only [Value.ownBlock, Option.some.injEq] at h5
        omega
      · rw [hv] at hr
        obtain ⟨v2, w2, hr2, _, hg2⟩ := run_append_arg_grows (P := P) w t ty e i z size bytes ht hi hz hsize hby hzs hsz ⟨g, 0, none⟩ n cap xs hx.1
          (fun j u hu => by
            have h8 := (List.getElem?_eq_some_iff.1 hu).1
            have h9 := hx.1
            have h10 : cur.toList[j]? = some u := by
              rw [← htk, List.getElem?_take] at hu
              rw [if_pos (by omega)] at hu
              exact hu
            have h11 : cur[j]? = some u := by rw [← Array.getElem?_toList]; exact h10
            simp only [Addr.add]; split <;> simp_all [World.cell?]) a m c news hl hnews (by omega) h63 hbytes
        rw [hr2] at hr
        injection hr with e1 e2
        rw [← e2]
        exact grownBy_mono hg2
theorem step_append_apart {P : Program} {w : World} {ops : Array Oper} {o : Oper} {a : Act} {K : Act → World → Prop} {Q : Exit → Act → World → Prop} {E : Prop} {us : List Value} {e' : TypeId} (hgd : o.guard = none) (s x : Operand) (t : TypeId)
    (ho : o.op = .call { callee := .builtin .append, args := #[s, x], argTypes := #[t, t] })
    (base : Nat) (e : TypeId) (i : TypeInfo) (z : Value) (size bytes : Nat) (ht : P.underlying t = some (.slice e)) (hi : P.info? e = some i) (hz : i.zero = some z)
    (hsize : i.size = size) (hby : i.bytes = bytes) (hzs : z.cells.size = size) (hpos : 0 < size)
    (v : Value) (n m : Nat) (xs : List Value) (hs : a.eval s = v) (hown : w.ownsRow base e size v n xs)
    (c : Nat) (hx : a.eval x = .slice (some ⟨w.heap.size, 0, none⟩) m c) (hlen : us.length = m * size) (h1 : ∀ u ∈ us, u.oneCell' = true)
    (h63 : n + m ≤ maxLen) (hbytes : (n + m) * bytes ≤ 140737488355328) (hbase : base ≤ w.heap.size)
    (h : ∀ v' w', w'.ownsRow base e size v' (n + m) (xs ++ us) → w.grownBy w' v'.ownBlock → (∀ g, v'.ownBlock = some g → v.ownBlock = some g ∨ w.heap.size ≤ g) → K (a.put o.dst v') w') :
    if Region.wanted o (yielded ops a.tmps) = true then Oper.wp P o a (w.alloc (.cells us.toArray e')) K Q else E := by
  have hw : Region.wanted o (yielded ops a.tmps) = true := by simp [Region.wanted, hgd]
  rw [if_pos hw]
  obtain ⟨v', w', hr, h2, h3, h5⟩ := run_append_apart (P := P) (w.alloc (.cells us.toArray e')) base t o.type e i z size bytes ht hi hz hsize hby hzs hpos v n xs (hown.alloc _) ⟨w.heap.size, 0, none⟩ m c us hlen (new_cells w us e') h1 h63 hbytes (by simp; omega)
  unfold Oper.wp execOp
  simp only [ho, resolve, invoke, builtin, Sem.run_bind, Sem.run_pure, Result.andThen_ok, List.map_toArray, List.map_cons, List.map_nil, hs, hx, hr]
  refine h v' w' h2 (grownBy_alloc_left h3) ?_
  intro g hg'
  rcases h5 with hl | hl
  · exact .inl (by rw [← hl]; exact hg')
  · rw [hl] at hg'; cases hg'; exact .inr (by simp)
end Go.Proofs.Ytcnjmkjfgghgoaa
end
