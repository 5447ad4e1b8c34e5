/- Trees of tokens in plain words: what reading them makes, how a tree is laid out as nodes. No program in sight. -/
import Derived.WalkKit
namespace Go.Tr
open Go.RowKit
set_option linter.unusedVariables false
structure Tok where
  kind : Int
  line : Int
  col : Int
  text : ByteArray
  quoted : Bool
def zero : Tok := ⟨0, 0, 0, ⟨#[]⟩, false⟩
structure Nd where
  kind : Int
  key : ByteArray
  text : ByteArray
  quoted : Bool
  line : Int
  kids : List Int
inductive T where
  | node (kind : Int) (key text : ByteArray) (quoted : Bool) (line : Int) (kids : List T)
def T.key : T → ByteArray
  | .node _ k _ _ _ _ => k
def T.withKey (k : ByteArray) : T → T
  | .node n _ t q l ks => .node n k t q l ks
mutual
def T.size : T → Nat
  | .node _ _ _ _ _ ks => 1 + sizes ks
def sizes : List T → Nat
  | [] => 0
  | t :: ts => t.size + sizes ts
end
def kidAts : Nat → List T → List Int
  | _, [] => []
  | b, t :: ts => (b : Int) :: kidAts (b + t.size) ts
mutual
def lay : Nat → T → List Nd
  | b, .node n k t q l ks => ⟨n, k, t, q, l, kidAts (b + 1) ks⟩ :: lays (b + 1) ks
def lays : Nat → List T → List Nd
  | _, [] => []
  | b, t :: ts => lay b t ++ lays (b + t.size) ts
end
theorem sizes_append (ts : List T) (us : List T) : sizes (ts ++ us) = sizes ts + sizes us := by
  induction ts with
  | nil => simp [sizes]
  | cons t ts ih => simp only [List.cons_append, sizes, ih]; omega
theorem kidAts_append (b : Nat) (ts us : List T) : kidAts b (ts ++ us) = kidAts b ts ++ kidAts (b + sizes ts) us := by
  induction ts generalizing b with
  | nil => simp [kidAts, sizes]
  | cons t ts ih => simp only [List.cons_append, kidAts, ih, sizes, Nat.add_assoc]
theorem kidAts_length (b : Nat) (ts : List T) : (kidAts b ts).length = ts.length := by
  induction ts generalizing b with
  | nil => rfl
  | cons t ts ih => simp only [kidAts, List.length_cons, ih]
theorem lays_append (b : Nat) (ts us : List T) : lays b (ts ++ us) = lays b ts ++ lays (b + sizes ts) us := by
  induction ts generalizing b with
  | nil => simp [lays, sizes]
  | cons t ts ih => simp only [List.cons_append, lays, ih, sizes, Nat.add_assoc, List.append_assoc]
mutual
theorem lay_length : ∀ (b : Nat) (t : T), (lay b t).length = t.size
  | b, .node n k t q l ks => by simp only [lay, T.size, List.length_cons, lays_length (b + 1) ks]; omega
theorem lays_length : ∀ (b : Nat) (ts : List T), (lays b ts).length = sizes ts
  | _, [] => rfl
  | b, t :: ts => by simp only [lays, sizes, List.length_append, lay_length b t, lays_length (b + t.size) ts]
end
theorem withKey_size (k : ByteArray) : ∀ t : T, (t.withKey k).size = t.size
  | .node n _ t q l ks => by simp only [T.withKey, T.size]
theorem withKey_key (k : ByteArray) : ∀ t : T, (t.withKey k).key = k
  | .node n _ t q l ks => rfl
/-! ### reading -/
abbrev Fa := Int × Int
abbrev Res (α : Type) := Except Fa (α × Nat × Nat)
abbrev Lp := Int → Int → Nat → Nat → Nat → List T → Res (List T)
def has (t : Tok) : Bool := decide (t.kind = 2) || decide (t.kind = 3) || decide (t.kind = 4)
def isVal (kind : Int) (u n : Tok) : Bool :=
  if kind = 3 then decide (n.line = u.line) && decide (n.kind = 4) || !decide (n.line = u.line) && (decide (u.col < n.col) || decide (n.kind = 2) && decide (n.col = u.col))
  else decide (n.line = u.line) || decide (u.col < n.col)
def full (d made : Nat) : Bool := decide (16 < d) || decide (made = 4096)
def blockW (lp : Lp) (l : List Tok) (at' d made : Nat) (key : ByteArray) : Res T :=
  match l[at']? with
  | none => .error (0, 0)
  | some t =>
    if full d made = true then .error (t.line, 92)
    else if t.kind = 4 then .ok (.node 1 key t.text t.quoted t.line [], at' + 1, made + 1)
    else match lp t.kind t.col at' d (made + 1) [] with
      | .error e => .error e
      | .ok (ks, at2, made2) => .ok (.node (if t.kind = 2 then 3 else 2) key ⟨#[]⟩ false t.line ks, at2, made2)
def valueW (lp : Lp) (l : List Tok) (is : Bool) (u : Tok) (at' d made : Nat) (key : ByteArray) : Res T :=
  if is && has ((l[at']?).getD zero) then blockW lp l at' d made key
  else if full d made = true then .error (u.line, 92) else .ok (.node 1 key ⟨#[]⟩ false u.line [], at', made + 1)
def loop (l : List Tok) : Nat → Lp
  | 0 => fun _ _ at' _ made acc => .ok (acc, at', made)
  | f + 1 => fun kind col at' d made acc =>
    match l[at']? with
    | none => .ok (acc, at', made)
    | some u =>
      if u.kind = kind ∧ u.col = col then
        if kind = 3 ∧ (acc.any fun k => decide (k.key = u.text)) = true then .error (u.line, 91)
        else match valueW (loop l f) l (isVal kind u ((l[at' + 1]?).getD zero)) u (at' + 1) (d + 1) made (if kind = 3 then u.text else ⟨#[]⟩) with
          | .error e => .error e
          | .ok (v, at2, made2) => loop l f kind col at2 d made2 (acc ++ [v])
      else .ok (acc, at', made)
/-! ### what reading keeps -/
def Goes (l : List Tok) (lp : Lp) : Prop := ∀ kind col at' d made acc ks at2 made2, lp kind col at' d made acc = .ok (ks, at2, made2) → at' ≤ at2 ∧ ∃ vs, ks = acc ++ vs ∧ made2 = made + sizes vs
theorem block_goes {l : List Tok} {lp : Lp} (h : Goes l lp) {at' d made : Nat} {key : ByteArray} {v : T} {at2 made2 : Nat} (hr : blockW lp l at' d made key = .ok (v, at2, made2)) : at' ≤ at2 ∧ made2 = made + v.size ∧ v.key = key := by
  unfold blockW at hr
  split at hr
  · cases hr
  · rename_i t ht
    split at hr
    · cases hr
    · split at hr
      · cases hr; exact ⟨Nat.le_succ _, by simp [T.size, sizes], rfl⟩
      · split at hr
        · cases hr
        · rename_i ks a2 m2 he
          cases hr
          obtain ⟨h1, vs, h2, h3⟩ := h _ _ _ _ _ _ _ _ _ he
          refine ⟨h1, ?_, rfl⟩
          rw [List.nil_append] at h2
          rw [h3, h2]; simp only [T.size]; omega
theorem value_goes {l : List Tok} {lp : Lp} (h : Goes l lp) {is : Bool} {u : Tok} {at' d made : Nat} {key : ByteArray} {v : T} {at2 made2 : Nat} (hr : valueW lp l is u at' d made key = .ok (v, at2, made2)) : at' ≤ at2 ∧ made2 = made + v.size ∧ v.key = key := by
  unfold valueW at hr
  split at hr
  · exact block_goes h hr
  · split at hr
    · cases hr
    · cases hr; exact ⟨Nat.le_refl _, by simp [T.size, sizes], rfl⟩
theorem loop_goes (l : List Tok) : ∀ f, Goes l (loop l f)
  | 0 => by
    intro kind col at' d made acc ks at2 made2 h
    cases h
    exact ⟨Nat.le_refl _, [], by simp, by simp [sizes]⟩
  | f + 1 => by
    intro kind col at' d made acc ks at2 made2 h
    unfold loop at h
    split at h
    · cases h; exact ⟨Nat.le_refl _, [], by simp, by simp [sizes]⟩
    · rename_i u hu
      split at h
      · split at h
        · cases h
        · split at h
          · cases h
          · rename_i v a2 m2 hv
            obtain ⟨h1, h2, _⟩ := value_goes (loop_goes l f) hv
            obtain ⟨h3, vs, h4, h5⟩ := loop_goes l f _ _ _ _ _ _ _ _ _ h
            refine ⟨by omega, v :: vs, by rw [h4, List.append_assoc]; rfl, ?_⟩
            rw [h5, h2]; simp only [sizes]; omega
      · cases h; exact ⟨Nat.le_refl _, [], by simp, by simp [sizes]⟩
def Caps (lp : Lp) : Prop := ∀ kind col at' d made acc ks at2 made2, made ≤ 4096 → lp kind col at' d made acc = .ok (ks, at2, made2) → made2 ≤ 4096
theorem full_false {d m : Nat} (h : ¬ full d m = true) : d ≤ 16 ∧ m ≠ 4096 := by
  unfold full at h
  simp at h
  exact h
theorem block_caps {l : List Tok} {lp : Lp} (h : Caps lp) {at' d made : Nat} {key : ByteArray} {v : T} {at2 made2 : Nat} (hm : made ≤ 4096) (hr : blockW lp l at' d made key = .ok (v, at2, made2)) : made2 ≤ 4096 := by
  unfold blockW at hr
  split at hr
  · cases hr
  · split at hr
    · cases hr
    · rename_i hf
      obtain ⟨_, hf⟩ := full_false hf
      split at hr
      · cases hr; omega
      · split at hr
        · cases hr
        · rename_i ks a2 m2 he
          cases hr
          exact h _ _ _ _ _ _ _ _ _ (by omega) he
theorem value_caps {l : List Tok} {lp : Lp} (h : Caps lp) {is : Bool} {u : Tok} {at' d made : Nat} {key : ByteArray} {v : T} {at2 made2 : Nat} (hm : made ≤ 4096) (hr : valueW lp l is u at' d made key = .ok (v, at2, made2)) : made2 ≤ 4096 := by
  unfold valueW at hr
  split at hr
  · exact block_caps h hm hr
  · split at hr
    · cases hr
    · rename_i hf
      obtain ⟨_, hf⟩ := full_false hf
      cases hr; omega
theorem loop_caps (l : List Tok) : ∀ f, Caps (loop l f)
  | 0 => by
    intro kind col at' d made acc ks at2 made2 hm h
    cases h
    exact hm
  | f + 1 => by
    intro kind col at' d made acc ks at2 made2 hm h
    unfold loop at h
    split at h
    · cases h; exact hm
    · split at h
      · split at h
        · cases h
        · split at h
          · cases h
          · rename_i v a2 m2 hv
            exact loop_caps l f _ _ _ _ _ _ _ _ _ (value_caps (loop_caps l f) hm hv) h
      · cases h; exact hm
/-! ### a round -/
theorem loop_none {l : List Tok} {at' : Nat} (h : l[at']? = none) : ∀ g kind col d made acc, loop l g kind col at' d made acc = .ok (acc, at', made)
  | 0, _, _, _, _, _ => rfl
  | g + 1, _, _, _, _, _ => by unfold loop; rw [h]
theorem loop_other {l : List Tok} {at' : Nat} {u : Tok} {kind col : Int} (h : l[at']? = some u) (hn : ¬ (u.kind = kind ∧ u.col = col)) : ∀ g d made acc, loop l g kind col at' d made acc = .ok (acc, at', made)
  | 0, _, _, _ => rfl
  | g + 1, _, _, _ => by unfold loop; rw [h]; simp only [if_neg hn]
theorem loop_twice {l : List Tok} {at' : Nat} {u : Tok} {col : Int} (h : l[at']? = some u) (hn : u.kind = 3 ∧ u.col = col) (g d made : Nat) {acc : List T} (ht : (acc.any fun k => decide (k.key = u.text)) = true) : loop l (g + 1) 3 col at' d made acc = .error (u.line, 91) := by
  unfold loop; rw [h]; simp only [if_pos hn]; rw [if_pos ⟨trivial, ht⟩]
theorem loop_key {l : List Tok} {at' : Nat} {u : Tok} {col : Int} (h : l[at']? = some u) (hn : u.kind = 3 ∧ u.col = col) (g d made : Nat) {acc : List T} (ht : (acc.any fun k => decide (k.key = u.text)) = false) : loop l (g + 1) 3 col at' d made acc = match valueW (loop l g) l (isVal 3 u ((l[at' + 1]?).getD zero)) u (at' + 1) (d + 1) made u.text with
    | .error e => .error e
    | .ok (v, at2, made2) => loop l g 3 col at2 d made2 (acc ++ [v]) := by
  conv => lhs; unfold loop
  rw [h]; simp only [if_pos hn]; rw [if_neg (by rw [ht]; simp)]; simp only [if_true]
theorem loop_item {l : List Tok} {at' : Nat} {u : Tok} {col : Int} (h : l[at']? = some u) (hn : u.kind = 2 ∧ u.col = col) (g d made : Nat) {acc : List T} : loop l (g + 1) 2 col at' d made acc = match valueW (loop l g) l (isVal 2 u ((l[at' + 1]?).getD zero)) u (at' + 1) (d + 1) made ⟨#[]⟩ with
    | .error e => .error e
    | .ok (v, at2, made2) => loop l g 2 col at2 d made2 (acc ++ [v]) := by
  conv => lhs; unfold loop
  rw [h]; simp only [if_pos hn]; rw [if_neg (by simp)]; simp
/-! ### a document, and all of them -/
def doc (l : List Tok) : Except Fa T :=
  if has ((l[0]?).getD zero) then
    match blockW (loop l l.length) l 0 1 0 ⟨#[]⟩ with
    | .error e => .error e
    | .ok (t, at2, _) => match l[at2]? with
      | some n => .error (n.line, 90)
      | none => .ok t
  else .error (((l[0]?).getD zero).line, 90)
end Go.Tr
