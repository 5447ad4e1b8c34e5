/- What a document's tree holds: it may be, and has just its tokens' keys and scalars, in their order. No program in sight. -/
import Derived.Test.YtcnjmkjfgghgoaaZt0
import Derived.Test.YtcnjmkjfgghgoaaZt3
section
/- Nodes that may be a tree are a tree laid out, and the other way round. No program in sight. -/
namespace Go.Tr
open Go.RowKit
set_option linter.unusedVariables false
def T.kids : T → List T
  | .node _ _ _ _ _ ks => ks
def T.kind : T → Int
  | .node k _ _ _ _ _ => k
def okT : Nat → T → Prop
  | 0, _ => False
  | d + 1, .node k _ text q ln ks => 0 ≤ ln ∧ 1 ≤ k ∧ k ≤ 3 ∧ (k = 1 ↔ ks = []) ∧ (k ≠ 1 → text.toList = [] ∧ q = false) ∧ (k = 2 → (ks.map T.key).Nodup) ∧ (k = 3 → ∀ c ∈ ks, c.key.toList = []) ∧ ∀ c ∈ ks, okT d c
theorem drop_of_prefix {α : Type} {a b c : List α} {n : Nat} (h : (a ++ b) <+: c.drop n) : a <+: c.drop n ∧ b <+: c.drop (n + a.length) := by
  obtain ⟨r, hr⟩ := h
  refine ⟨⟨b ++ r, by rw [← hr, List.append_assoc]⟩, ⟨r, ?_⟩⟩
  rw [← List.drop_drop, ← hr, List.append_assoc, List.drop_left]
theorem prefix_get {α : Type} {a : α} {b c : List α} {n : Nat} (h : (a :: b) <+: c.drop n) : c[n]? = some a ∧ n < c.length ∧ b <+: c.drop (n + 1) := by
  have h2 : ([a] ++ b) <+: c.drop n := h
  obtain ⟨_, h3⟩ := drop_of_prefix h2
  obtain ⟨r, hr⟩ := h
  have e : (c.drop n)[0]? = some a := by rw [← hr]; rfl
  rw [List.getElem?_drop, Nat.add_zero] at e
  exact ⟨e, (List.getElem?_eq_some_iff.1 e).1, h3⟩
theorem lay_head (b : Nat) : ∀ t : T, ∃ n r, lay b t = n :: r ∧ n.key = t.key ∧ n.kind = t.kind ∧ n.kids = kidAts (b + 1) t.kids ∧ r = lays (b + 1) t.kids
  | .node k key text q ln ks => ⟨_, _, rfl, rfl, rfl, rfl, rfl⟩
theorem overK_lay (ns : List Nd) (f : Nat) (kind : Int) (ih : ∀ b t, okT f t → lay b t <+: ns.drop b → overR ns f b = b + t.size) :
    ∀ (ks : List T) (e : Nat) (seen : List ByteArray), (∀ c ∈ ks, okT f c) → lays e ks <+: ns.drop e → (kind = 2 → (ks.map T.key).Nodup ∧ ∀ c ∈ ks, c.key ∉ seen) → (kind = 3 → ∀ c ∈ ks, c.key.toList = []) → overK ns (overR ns f) kind e seen (kidAts e ks) = ((e + sizes ks : Nat) : Int) := by
  intro ks
  induction ks with
  | nil => intro e seen _ _ _ _; simp only [kidAts, overK, sizes, Nat.add_zero]
  | cons c ks ihk =>
    intro e seen hok hp h2 h3
    simp only [lays] at hp
    obtain ⟨hp1, hp2⟩ := drop_of_prefix hp
    rw [lay_length] at hp2
    obtain ⟨n, r, hl, hk, _⟩ := lay_head e c
    rw [hl] at hp1
    obtain ⟨g1, g2, _⟩ := prefix_get hp1
    rw [← hl] at hp1
    have hc := hok c (List.mem_cons_self ..)
    have ho := ih e c hc hp1
    unfold kidAts overK
    rw [if_neg (by omega)]
    simp only [Int.toNat_natCast, g1]
    rw [if_neg, ho, if_neg (by omega)]
    · have e1 : ((e : Int) + (c.size : Int)) = ((e + c.size : Nat) : Int) := by omega
      rw [e1, ihk (e + c.size) (n.key :: seen) (fun x hx => hok x (List.mem_cons_of_mem _ hx)) hp2 (fun hh => ?_) (fun hh x hx => h3 hh x (List.mem_cons_of_mem _ hx))]
      · simp only [sizes]; omega
      · obtain ⟨q1, q2⟩ := h2 hh
        rw [List.map_cons, List.nodup_cons] at q1
        refine ⟨q1.2, fun x hx hm => ?_⟩
        rcases List.mem_cons.1 hm with hm | hm
        · rw [hk] at hm
          exact q1.1 (by rw [← hm]; exact List.mem_map_of_mem hx)
        · exact q2 x (List.mem_cons_of_mem _ hx) hm
    · rintro (⟨hh, ha⟩ | ⟨hh, ha⟩)
      · obtain ⟨q1, q2⟩ := h2 hh
        rw [List.any_eq_true] at ha
        obtain ⟨x, hx, he⟩ := ha
        have he := of_decide_eq_true he
        exact q2 c (List.mem_cons_self ..) (by rw [← hk, ← he]; exact hx)
      · exact ha (by rw [hk]; exact h3 hh c (List.mem_cons_self ..))
theorem overR_lay (ns : List Nd) : ∀ f b t, okT f t → lay b t <+: ns.drop b → overR ns f b = b + t.size := by
  intro f
  induction f with
  | zero => intro b t h; exact h.elim
  | succ f ih =>
    intro b t h hp
    obtain ⟨k, key, text, q, ln, ks⟩ := t
    obtain ⟨h1, h2, h3, h4, h5, h6, h7, h8⟩ := h
    simp only [lay] at hp
    obtain ⟨g1, g2, hp2⟩ := prefix_get hp
    unfold overR
    rw [if_neg (by omega)]
    simp only [Int.toNat_natCast, g1]
    have hb : badN ⟨k, key, text, q, ln, kidAts (b + 1) ks⟩ = false := by
      unfold badN
      dsimp only
      rw [decide_eq_false (by omega), decide_eq_false (by omega), decide_eq_false (by omega)]
      by_cases hk : k = 1
      · have := h4.1 hk
        subst this
        subst hk
        rfl
      · obtain ⟨q1, q2⟩ := h5 hk
        have hne : ks ≠ [] := fun e => hk (h4.2 e)
        obtain ⟨c, cs, rfl⟩ := List.exists_cons_of_ne_nil hne
        rw [q1, q2, decide_eq_false hk]
        rfl
    rw [hb, if_neg (by decide)]
    have e1 : ((b : Int) + 1) = ((b + 1 : Nat) : Int) := by omega
    rw [e1, overK_lay ns f k ih ks (b + 1) [] h8 hp2 (fun hh => ⟨h6 hh, fun c _ hm => by cases hm⟩) h7]
    simp only [T.size]; omega
theorem mayR_lay {t : T} (h : okT 16 t) (hs : t.size ≤ 4096) (hk : t.key.toList = []) : mayR (lay 0 t) = true := by
  obtain ⟨n, r, hl, h1, _⟩ := lay_head 0 t
  have hlen := lay_length 0 t
  have hp : 0 < t.size := by rw [← hlen, hl]; simp
  have ho := overR_lay (lay 0 t) 16 0 t h ⟨[], by simp⟩
  unfold mayR
  rw [hlen, decide_eq_true hp, decide_eq_true hs]
  have : overR (lay 0 t) 16 0 = (t.size : Int) := by simpa using ho
  have hz : (lay 0 t)[0]? = some n := by rw [hl]; rfl
  rw [this, hz]
  simp [h1, hk]
/-! ### the other way round -/
theorem append_prefix {α : Type} {a b c : List α} {n m : Nat} (h1 : a <+: c.drop n) (h2 : b <+: c.drop m) (hm : m = n + a.length) : (a ++ b) <+: c.drop n := by
  obtain ⟨r1, e1⟩ := h1
  obtain ⟨r2, e2⟩ := h2
  refine ⟨r2, ?_⟩
  rw [List.append_assoc, e2, ← e1, hm, ← List.drop_drop, ← e1, List.drop_left]
theorem cons_prefix {α : Type} {a : α} {b c : List α} {n : Nat} (h1 : c[n]? = some a) (h2 : b <+: c.drop (n + 1)) : (a :: b) <+: c.drop n := by
  have h3 : [a] <+: c.drop n := by
    obtain ⟨hn, he⟩ := List.getElem?_eq_some_iff.1 h1
    rw [List.drop_eq_getElem_cons hn, he]
    exact ⟨_, rfl⟩
  exact append_prefix h3 h2 rfl
theorem overK_inv (ns : List Nd) (f : Nat) (kind : Int) (ih : ∀ (b : Nat) (r : Int), overR ns f b = r → 0 ≤ r → ∃ t, okT f t ∧ lay b t <+: ns.drop b ∧ r = b + t.size) :
    ∀ (kids : List Int) (e : Nat) (seen : List ByteArray) (r : Int), overK ns (overR ns f) kind e seen kids = r → 0 ≤ r → ∃ ks, kids = kidAts e ks ∧ lays e ks <+: ns.drop e ∧ r = ((e + sizes ks : Nat) : Int) ∧ (∀ c ∈ ks, okT f c) ∧ (kind = 2 → (ks.map T.key).Nodup ∧ ∀ c ∈ ks, c.key ∉ seen) ∧ (kind = 3 → ∀ c ∈ ks, c.key.toList = []) := by
  intro kids
  induction kids with
  | nil =>
    intro e seen r h h0
    refine ⟨[], rfl, ⟨_, rfl⟩, ?_, (fun c hc => by cases hc), (fun _ => ⟨List.nodup_nil, fun c hc => by cases hc⟩), fun _ c hc => by cases hc⟩
    unfold overK at h
    simp only [sizes]; omega
  | cons k kids ihk =>
    intro e seen r h h0
    unfold overK at h
    split at h
    · omega
    · rename_i hke
      have hk : k = (e : Int) := by omega
      subst hk
      simp only [Int.toNat_natCast] at h
      split at h
      · omega
      · rename_i m hm
        split at h
        · omega
        · rename_i hc
          split at h
          · omega
          · rename_i hr
            obtain ⟨t, t1, t2, t3⟩ := ih e _ rfl (by omega)
            have e1 : overR ns f e = ((e + t.size : Nat) : Int) := by omega
            rw [e1] at h
            obtain ⟨ks, k1, k2, k3, k4, k5, k6⟩ := ihk _ _ _ h h0
            obtain ⟨n, rr, hl, hkey, _⟩ := lay_head e t
            have hmk : m.key = t.key := by
              rw [hl] at t2
              have := (prefix_get t2).1
              rw [hm] at this
              cases this
              exact hkey
            refine ⟨t :: ks, by rw [k1]; rfl, ?_, ?_, ?_, ?_, ?_⟩
            · simp only [lays]
              exact append_prefix t2 k2 (by rw [lay_length])
            · rw [k3]; simp only [sizes]; omega
            · intro c hc
              rcases List.mem_cons.1 hc with rfl | hc
              · exact t1
              · exact k4 c hc
            · intro hh
              obtain ⟨q1, q2⟩ := k5 hh
              rw [List.map_cons, List.nodup_cons]
              refine ⟨⟨fun hm' => ?_, q1⟩, fun c hc' hin => ?_⟩
              · obtain ⟨x, hx, hxe⟩ := List.mem_map.1 hm'
                exact q2 x hx (by rw [hxe, hmk]; exact List.mem_cons_self ..)
              · rcases List.mem_cons.1 hc' with rfl | hc'
                · exact hc (.inl ⟨hh, List.any_eq_true.2 ⟨_, hin, decide_eq_true hmk.symm⟩⟩)
                · exact q2 c hc' (List.mem_cons_of_mem _ hin)
            · intro hh c hc'
              rcases List.mem_cons.1 hc' with rfl | hc'
              · by_cases hz : c.key.toList = []
                · exact hz
                · exact absurd (.inr ⟨hh, by rw [hmk]; exact hz⟩) hc
              · exact k6 hh c hc'
theorem overR_inv (ns : List Nd) : ∀ (f : Nat) (b : Nat) (r : Int), overR ns f b = r → 0 ≤ r → ∃ t, okT f t ∧ lay b t <+: ns.drop b ∧ r = b + t.size := by
  intro f
  induction f with
  | zero => intro b r h h0; have : r = -1 := h.symm; omega
  | succ f ih =>
    intro b r h h0
    unfold overR at h
    split at h
    · omega
    · rename_i hb
      simp only [Int.toNat_natCast] at h
      split at h
      · omega
      · rename_i n hn
        split at h
        · omega
        · rename_i hbad
          have e1 : ((b : Int) + 1) = ((b + 1 : Nat) : Int) := by omega
          rw [e1] at h
          obtain ⟨ks, k1, k2, k3, k4, k5, k6⟩ := overK_inv ns f n.kind ih n.kids (b + 1) [] r h h0
          obtain ⟨nk, key, tx, qd, ln, kids⟩ := n
          dsimp only at k1 k5 k6
          subst k1
          unfold badN at hbad
          dsimp only at hbad
          have hemp : (kidAts (b + 1) ks).isEmpty = decide (ks = []) := by cases ks <;> rfl
          rw [hemp] at hbad
          simp only [Bool.or_eq_true, Bool.and_eq_true, decide_eq_true_eq, bne_iff_ne, ne_eq, Bool.not_eq_true', decide_eq_false_iff_not, not_or, not_and, Bool.not_eq_true] at hbad
          obtain ⟨⟨⟨⟨a1, a2⟩, a3⟩, a4⟩, a5⟩ := hbad
          refine ⟨.node nk key tx qd ln ks, ⟨by omega, by omega, by omega, ?_, ?_, fun hh => (k5 hh).1, k6, k4⟩, ?_, ?_⟩
          · simpa using a4
          · intro hne
            obtain ⟨b1, b2⟩ := a5 hne
            refine ⟨?_, b2⟩
            cases hz : tx.toList with
            | nil => rfl
            | cons a l => rw [hz] at b1; simp at b1
          · simp only [lay]
            exact cons_prefix hn k2
          · rw [k3]; simp only [T.size]; omega
theorem mayR_inv {ns : List Nd} (h : mayR ns = true) : ∃ t, ns = lay 0 t ∧ okT 16 t ∧ t.size ≤ 4096 ∧ t.key.toList = [] := by
  unfold mayR at h
  simp only [Bool.and_eq_true, decide_eq_true_eq] at h
  obtain ⟨⟨⟨h1, h2⟩, h3⟩, h4⟩ := h
  obtain ⟨t, t1, t2, t3⟩ := overR_inv ns 16 0 _ h4 (by omega)
  rw [List.drop_zero] at t2
  obtain ⟨r, hr⟩ := t2
  have hl := lay_length 0 t
  have hz : r = [] := by
    have : ns.length = (lay 0 t).length + r.length := by rw [← hr, List.length_append]
    exact List.length_eq_zero_iff.1 (by omega)
  subst hz
  rw [List.append_nil] at hr
  refine ⟨t, hr.symm, t1, by omega, ?_⟩
  obtain ⟨n, rr, hll, hk, _⟩ := lay_head 0 t
  have hz0 : ns[0]? = some n := by rw [← hr, hll]; rfl
  rw [hz0] at h3
  rw [← hk]
  exact List.isEmpty_iff.1 h3
end Go.Tr
end

section
/- slices.IndexFunc at tree.Of's own test: where the first Doc stands. -/
namespace Go.Tr
/-- How many tokens stand ahead of the first Doc. -/
def upDoc : List Tok → Nat
  | [] => 0
  | t :: r => if t.kind = 1 then 0 else upDoc r + 1
theorem upDoc_le (l : List Tok) : upDoc l ≤ l.length := by
  induction l with
  | nil => exact Nat.le_refl _
  | cons t r ih => unfold upDoc; split <;> simp; omega
theorem upDoc_lt {l : List Tok} {i : Nat} {t : Tok} (h : l[i]? = some t) (hi : i < upDoc l) : t.kind ≠ 1 := by
  induction l generalizing i with
  | nil => simp at h
  | cons a r ih =>
    unfold upDoc at hi
    split at hi
    · omega
    · rename_i hk
      cases i with
      | zero => simp at h; subst h; exact hk
      | succ i => simp at h; exact ih h (by omega)
theorem upDoc_at {l : List Tok} {t : Tok} (h : l[upDoc l]? = some t) : t.kind = 1 := by
  induction l with
  | nil => simp at h
  | cons a r ih =>
    unfold upDoc at h
    split at h
    · rename_i hk; simp at h; subst h; exact hk
    · simp at h; exact ih h
theorem upDoc_is {l : List Tok} {i : Nat} {t : Tok} (h : l[i]? = some t) (hk : t.kind = 1) (hi : i ≤ upDoc l) : i = upDoc l := by
  by_cases h2 : i < upDoc l
  · exact absurd hk (upDoc_lt h h2)
  · omega
theorem upDoc_past {l : List Tok} {i : Nat} {t : Tok} (h : l[i]? = some t) (hk : t.kind ≠ 1) (hi : i ≤ upDoc l) : i + 1 ≤ upDoc l := by
  rcases Nat.lt_or_ge i (upDoc l) with h2 | h2
  · exact h2
  · have : i = upDoc l := by omega
    subst this
    exact absurd (upDoc_at h) hk
end Go.Tr
namespace Go.Proofs.Ytcnjmkjfgghgoaa
open Go.RowKit Go.Mp Go.Tr
set_option linter.unusedVariables false
set_option maxRecDepth 20000
theorem isdoc_any (w : World) (t : Tok) : Calls Try.prog 33 #[tokA t] w fun e w' => e = .returned (.bool (t.kind == 1)) ∧ Tch No w w' := by
  obtain ⟨w1, hw1⟩ : ∃ w1, w1 = w.alloc (tokO t 39) := ⟨_, rfl⟩
  have t1 : Tch No w w1 := by rw [hw1]; exact Tch.alloc No w _
  obtain ⟨cb, hcb⟩ : ∃ cb, cb = w.heap.size := ⟨_, rfl⟩
  have hc1 : w1.heap[cb]? = some (tokO t 39) := by rw [hw1, hcb]; exact heap_alloc_new w _
  have c0 := (tokO_cells hc1).1
  replace hc1 := Lib.hid hc1
  replace t1 := Lib.hid t1
  go_enter Try.func33, Try.ntmps33
  go_upto_region 1 with fail
  rw [show (w.alloc (tokO t 39)) = w1 from hw1.symm, ← hcb]
  replace hw1 := Lib.hid hw1
  replace hcb := Lib.hid hcb
  go_wp2
  go_ret
  exact ⟨rfl, t1.out⟩
def idxV (l : List Tok) : Int := if upDoc l < l.length then (upDoc l : Int) else -1
theorem idxV_at {l : List Tok} {i : Nat} {t : Tok} (h : l[i]? = some t) (hk : (t.kind == 1) = true) (hi : i ≤ upDoc l) : idxV l = i := by
  have e := upDoc_is h (by simpa using hk) hi
  have := (List.getElem?_eq_some_iff.1 h).1
  unfold idxV; rw [if_pos (by omega), ← e]
theorem idxV_none {l : List Tok} {i : Nat} (h : ¬ i < l.length) (hi : i ≤ upDoc l) : idxV l = -1 := by
  unfold idxV; rw [if_neg (by omega)]
theorem index_any {w : World} {kb : Nat} {lv : Value} {l : List Tok} (tk : TokS w kb lv l) (hk : kb < w.heap.size) (hll : l.length < 4398046511104) :
    Calls Try.prog 32 #[lv, .func (.func 33) #[] #[]] w fun e w' => e = .returned (.int .i64 (idxV l)) ∧ Tch No w w' := by
  obtain ⟨ao, cap, rfl, _⟩ := id tk
  have hal := Lib.hid (upDoc_le l)
  replace tk := Lib.hid tk
  replace hk := Lib.hid hk
  go_enter Try.func32, Try.ntmps32
  go_wp2
  go_loopg [8] (l.length + 1) (fun gg iv wr => ∃ i : Nat, gg = l.length - i + 1 ∧ iv = .int .i64 i ∧ i ≤ upDoc l ∧ Tch No w wr)
  case atStart => exact ⟨0, rfl, rfl, Nat.zero_le _, Tch.refl _ _⟩
  case round =>
    obtain ⟨i, rfl, rfl, hi, tr⟩ := hrel
    by_cases hlt : i < l.length
    · have k0 := nn_lt hlt
      have hx := List.getElem?_eq_getElem hlt
      generalize l[i] = t at *
      have tkr := tk.out.keep (tr.block kb hk.out id)
      obtain ⟨off, rfl, _, d0, d1, d2, d3, d4⟩ := tkr.at hx
      have hC := Lib.hid (isdoc_any wr t)
      have hwk := nn_succ hlt (Nat.lt_trans hll (by decide))
      replace tkr := Lib.hid tkr
      replace hx := Lib.hid hx
      replace tr := Lib.hid tr
      replace hi := Lib.hid hi
      cases hkd : (t.kind == 1) with
      | true =>
        have hkd := Lib.hid hkd
        go_wp2_with (first
          | (go_at_call 33; refine hC.out.mono ?_; clear hC; rintro _ w2 ⟨rfl, t2⟩; rw [hkd.out]; replace t2 := Lib.hid t2)
          | fail)
        go_ret
        exact ⟨by rw [idxV_at hx.out hkd.out hi.out]; rfl, tr.out.trans t2.out (fun _ h => .inl h)⟩
      | false =>
        have hkd := Lib.hid hkd
        go_wp2_with (first
          | (go_at_call 33; refine hC.out.mono ?_; clear hC; rintro _ w2 ⟨rfl, t2⟩; rw [hkd.out]; replace t2 := Lib.hid t2)
          | fail)
        go_roundg (l.length - (i + 1) + 1)
        case rel => exact ⟨i + 1, rfl, by rw [nn_cast], upDoc_past hx.out (by simpa using hkd.out) hi.out, tr.out.trans t2.out (fun _ h => .inl h)⟩
        case measure => exact Nat.succ_lt_succ (nn_sub hlt)
    · have k0 := nn_ge hlt
      have k1 : decide (i < l.length) = false := decide_eq_false hlt
      have hv := Lib.hid (idxV_none hlt hi)
      replace tr := Lib.hid tr
      replace hi := Lib.hid hi
      replace hlt := Lib.hid hlt
      go_wp2
      go_ret
      exact ⟨by rw [hv.out]; rfl, tr.out⟩
end Go.Proofs.Ytcnjmkjfgghgoaa
end

section
/- All documents of some tokens, in plain words. -/
namespace Go.Tr
def segs (cur : List Tok) : List Tok → List (List Tok)
  | [] => if cur.isEmpty then [] else [cur]
  | t :: r => if t.kind = 1 then (if cur.isEmpty then segs [] r else cur :: segs [] r) else segs (cur ++ [t]) r
def docsRun : Nat → List (List Tok) → Except (Nat × Fa) (List T)
  | _, [] => .ok []
  | k, d :: ds => match doc d with
    | .error x => .error (k, x)
    | .ok t => match docsRun (k + 1) ds with
      | .error x => .error x
      | .ok ts => .ok (t :: ts)
def ofRun (l : List Tok) : Except (Nat × Fa) (List T) := docsRun 0 (segs [] l)
theorem segs_cons (cur : List Tok) (t : Tok) (r : List Tok) : segs cur (t :: r) = if t.kind = 1 then (if cur.isEmpty then segs [] r else cur :: segs [] r) else segs (cur ++ [t]) r := rfl
theorem upDoc_cons (t : Tok) (r : List Tok) : upDoc (t :: r) = if t.kind = 1 then 0 else upDoc r + 1 := rfl
theorem segs_upDoc (cur l : List Tok) : segs cur l = (if (cur ++ l.take (upDoc l)).isEmpty then [] else [cur ++ l.take (upDoc l)]) ++ segs [] (l.drop (upDoc l + 1)) := by
  induction l generalizing cur with
  | nil => simp [segs]
  | cons t r ih =>
    rw [segs_cons, upDoc_cons]
    split
    · simp only [List.take_zero, List.append_nil, Nat.zero_add, List.drop_succ_cons, List.drop_zero]
      split <;> simp
    · rw [ih]; simp
theorem segs_zero {l : List Tok} (h : upDoc l = 0) : segs [] l = segs [] (l.drop 1) := by
  rw [segs_upDoc [] l, h]; simp
theorem segs_pos {l : List Tok} (hl : l ≠ []) (h : 0 < upDoc l) : segs [] l = l.take (upDoc l) :: segs [] (l.drop (upDoc l + 1)) := by
  rw [segs_upDoc [] l, if_neg]
  · simp
  · rw [List.nil_append, List.isEmpty_iff, List.take_eq_nil_iff]
    rintro (h1 | h1)
    · omega
    · exact hl h1
/-- What is left of the documents, some being done. -/
def rest (ts : List T) (l : List Tok) : Except (Nat × Fa) (List T) := match docsRun ts.length (segs [] l) with
  | .error x => .error x
  | .ok us => .ok (ts ++ us)
theorem rest_start (l : List Tok) : ofRun l = rest [] l := by
  unfold ofRun rest
  rw [List.length_nil]
  split <;> simp_all
theorem rest_end (ts : List T) : rest ts [] = .ok ts := by simp [rest, segs, docsRun]
theorem rest_skip {l : List Tok} (h : upDoc l = 0) (ts : List T) : rest ts l = rest ts (l.drop (upDoc l + 1)) := by
  unfold rest; rw [segs_zero h, h]
theorem rest_bad {l : List Tok} (hl : l ≠ []) (h : 0 < upDoc l) {x : Fa} (hd : doc (l.take (upDoc l)) = .error x) (ts : List T) : rest ts l = .error (ts.length, x) := by
  unfold rest; rw [segs_pos hl h]; simp only [docsRun, hd]
theorem rest_doc {l : List Tok} (hl : l ≠ []) (h : 0 < upDoc l) {t : T} (hd : doc (l.take (upDoc l)) = .ok t) (ts : List T) : rest ts l = rest (ts ++ [t]) (l.drop (upDoc l + 1)) := by
  unfold rest; rw [segs_pos hl h]; simp only [docsRun, hd, List.length_append, List.length_cons, List.length_nil]
  rcases docsRun (ts.length + 1) (segs [] (l.drop (upDoc l + 1))) with x | us <;> simp
/-! ### faults are faults -/
def Errs (lp : Lp) : Prop := ∀ kind col at' d made acc ln er, lp kind col at' d made acc = .error (ln, er) → er ≠ 0
theorem block_errs {l : List Tok} {lp : Lp} (h : Errs lp) {at' d made : Nat} {key : ByteArray} {t : Tok} (ht : l[at']? = some t) {ln er : Int} (hr : blockW lp l at' d made key = .error (ln, er)) : er ≠ 0 := by
  unfold blockW at hr
  rw [ht] at hr
  simp only at hr
  split at hr
  · cases hr; decide
  · split at hr
    · cases hr
    · split at hr
      · rename_i he; cases hr; exact h _ _ _ _ _ _ _ _ he
      · cases hr
theorem value_errs {l : List Tok} {lp : Lp} (h : Errs lp) {is : Bool} {u : Tok} {at' d made : Nat} {key : ByteArray} {ln er : Int} (hr : valueW lp l is u at' d made key = .error (ln, er)) : er ≠ 0 := by
  unfold valueW at hr
  split at hr
  · rename_i hh
    simp only [Bool.and_eq_true] at hh
    cases hx : l[at']? with
    | none => rw [hx] at hh; exact absurd hh.2 (by decide)
    | some t => exact block_errs h hx hr
  · split at hr
    · cases hr; decide
    · cases hr
theorem loop_errs (l : List Tok) : ∀ f, Errs (loop l f)
  | 0 => by intro kind col at' d made acc ln er h; cases h
  | f + 1 => by
    intro kind col at' d made acc ln er h
    unfold loop at h
    split at h
    · cases h
    · split at h
      · split at h
        · cases h; decide
        · split at h
          · rename_i he; cases h; exact value_errs (loop_errs l f) he
          · exact loop_errs l f _ _ _ _ _ _ _ _ h
      · cases h
theorem doc_errs {l : List Tok} {ln er : Int} (h : doc l = .error (ln, er)) : er ≠ 0 := by
  unfold doc at h
  split at h
  · rename_i hh
    cases hx : l[0]? with
    | none => rw [hx] at hh; exact absurd hh (by decide)
    | some t =>
      split at h
      · rename_i he; cases h; exact block_errs (loop_errs l _) hx he
      · split at h
        · cases h; decide
        · cases h
  · cases h; decide
end Go.Tr
end

section

namespace Go.Tr
open Go.RowKit
set_option linter.unusedVariables false
theorem nil_toList : (⟨#[]⟩ : ByteArray).toList = [] := by rw [Lib.toList_data]
/-! ### it may be -/
theorem okT_scalar {d : Nat} {key text : ByteArray} {q : Bool} {ln : Int} (h : 0 ≤ ln) : okT (d + 1) (.node 1 key text q ln []) :=
  ⟨h, by omega, by omega, by simp, (fun h => absurd rfl h), (fun h => by omega), (fun h => by omega), fun c hc => by cases hc⟩
def LinesOk (l : List Tok) : Prop := ∀ t ∈ l, 0 ≤ t.line
def Mays (l : List Tok) (f : Nat) : Prop := ∀ (kind col : Int) (at' d made : Nat) (acc ks : List T) (at2 made2 : Nat), l.length ≤ at' + f → d ≤ 16 → (kind = 2 ∨ kind = 3) → loop l f kind col at' d made acc = .ok (ks, at2, made2) →
  ∃ vs, ks = acc ++ vs ∧ (∀ c ∈ vs, okT (16 - d) c) ∧ (kind = 3 → (acc.map T.key).Nodup → (ks.map T.key).Nodup) ∧ (kind = 2 → ∀ c ∈ vs, c.key.toList = []) ∧ ((∃ u, l[at']? = some u ∧ u.kind = kind ∧ u.col = col) → vs ≠ [])
theorem has_or {t : Tok} (h : has t = true) (h4 : ¬ t.kind = 4) : t.kind = 2 ∨ t.kind = 3 := by
  unfold has at h
  simp only [Bool.or_eq_true, decide_eq_true_eq] at h
  omega
theorem block_may {l : List Tok} {f : Nat} (hl : LinesOk l) (ih : Mays l f) {at' d made : Nat} {key : ByteArray} {v : T} {at2 made2 : Nat} (hf : l.length ≤ at' + f) (hd : 1 ≤ d) (hh : has ((l[at']?).getD zero) = true) (hr : blockW (loop l f) l at' d made key = .ok (v, at2, made2)) : okT (17 - d) v := by
  unfold blockW at hr
  split at hr
  · cases hr
  · rename_i t ht
    rw [ht] at hh
    have hln : 0 ≤ t.line := hl t (List.mem_of_getElem? ht)
    split at hr
    · cases hr
    · rename_i hfl
      obtain ⟨hd2, _⟩ := full_false hfl
      have e : 17 - d = (16 - d) + 1 := by omega
      rw [e]
      split at hr
      · cases hr; exact okT_scalar hln
      · rename_i h4
        have hk : t.kind = 2 ∨ t.kind = 3 := has_or hh h4
        split at hr
        · cases hr
        · rename_i ks a2 m2 he
          cases hr
          obtain ⟨vs, h1, h2, h3, h5, h6⟩ := ih _ _ _ _ _ _ _ _ _ hf hd2 hk he
          rw [List.nil_append] at h1
          subst h1
          have hne := h6 ⟨t, ht, rfl, rfl⟩
          refine ⟨hln, ?_, ?_, ?_, fun _ => ⟨nil_toList, rfl⟩, ?_, ?_, h2⟩
          · split <;> omega
          · split <;> omega
          · constructor
            · intro h; split at h <;> omega
            · intro h; exact absurd h hne
          · intro h
            split at h
            · omega
            · exact h3 (by omega) List.nodup_nil
          · intro h
            split at h
            · rename_i h22; exact h5 h22
            · omega
theorem value_may {l : List Tok} {f : Nat} (hl : LinesOk l) (ih : Mays l f) {is : Bool} {u : Tok} {at' d made : Nat} {key : ByteArray} {v : T} {at2 made2 : Nat} (hf : l.length ≤ at' + f) (hd : 1 ≤ d) (hu : 0 ≤ u.line) (hr : valueW (loop l f) l is u at' d made key = .ok (v, at2, made2)) : okT (17 - d) v := by
  unfold valueW at hr
  split at hr
  · rename_i h
    rw [Bool.and_eq_true] at h
    exact block_may hl ih hf hd h.2 hr
  · split at hr
    · cases hr
    · rename_i hfl
      obtain ⟨hd2, _⟩ := full_false hfl
      have e : 17 - d = (16 - d) + 1 := by omega
      rw [e]
      cases hr
      exact okT_scalar hu
theorem loop_may {l : List Tok} (hl : LinesOk l) : ∀ f, Mays l f := by
  intro f
  induction f with
  | zero =>
    intro kind col at' d made acc ks at2 made2 hf hd hk h
    cases h
    refine ⟨[], by simp, (fun c hc => by cases hc), (fun _ h => h), (fun _ c hc => by cases hc), ?_⟩
    rintro ⟨u, hu, _⟩
    have := (List.getElem?_eq_some_iff.1 hu).1
    omega
  | succ f ih =>
    intro kind col at' d made acc ks at2 made2 hf hd hk h
    unfold loop at h
    split at h
    · rename_i hu0
      cases h
      refine ⟨[], by simp, (fun c hc => by cases hc), (fun _ h => h), (fun _ c hc => by cases hc), ?_⟩
      rintro ⟨u, hu, _⟩
      rw [hu0] at hu; cases hu
    · rename_i u hu
      split at h
      · rename_i huk
        split at h
        · cases h
        · rename_i hany
          split at h
          · cases h
          · rename_i v a2 m2 hv
            have hval := value_may hl ih (by omega) (by omega) (hl u (List.mem_of_getElem? hu)) hv
            have hg := value_goes (loop_goes l f) hv
            have e : 17 - (d + 1) = 16 - d := by omega
            rw [e] at hval
            obtain ⟨vs, h1, h2, h3, h5, h6⟩ := ih _ _ _ _ _ _ _ _ _ (by omega) hd hk h
            refine ⟨v :: vs, by rw [h1, List.append_assoc]; rfl, ?_, ?_, ?_, fun _ => by simp⟩
            · intro c hc
              rcases List.mem_cons.1 hc with rfl | hc
              · exact hval
              · exact h2 c hc
            · intro hk3 hnd
              refine h3 hk3 ?_
              rw [List.map_append, List.nodup_append]
              refine ⟨hnd, by simp, ?_⟩
              intro a ha b hb hab
              simp only [List.map_cons, List.map_nil, List.mem_singleton] at hb
              rw [hg.2.2, if_pos hk3] at hb
              obtain ⟨c, hc, hce⟩ := List.mem_map.1 ha
              refine hany ⟨hk3, List.any_eq_true.2 ⟨c, hc, decide_eq_true ?_⟩⟩
              rw [hce, hab, hb]
            · intro hk2 c hc
              rcases List.mem_cons.1 hc with rfl | hc
              · rw [hg.2.2, if_neg (by omega)]; exact nil_toList
              · exact h5 hk2 c hc
      · rename_i huk
        cases h
        refine ⟨[], by simp, (fun c hc => by cases hc), (fun _ h => h), (fun _ c hc => by cases hc), ?_⟩
        rintro ⟨x, hx, hx2⟩
        rw [hu] at hx; cases hx
        exact absurd hx2 huk
theorem doc_may {l : List Tok} (hl : LinesOk l) {t : T} (h : doc l = .ok t) : okT 16 t ∧ t.key.toList = [] := by
  unfold doc at h
  split at h
  · rename_i hh
    split at h
    · cases h
    · rename_i v at2 m2 he
      split at h
      · cases h
      · cases h
        have h1 := block_may hl (loop_may hl l.length) (by omega) (by omega) hh he
        exact ⟨h1, by rw [(block_goes (loop_goes l _) he).2.2]; exact nil_toList⟩
  · cases h
/-! ### keys and scalars -/
def said (tx : ByteArray) (q : Bool) : Bool := !(tx.toList == []) || q
mutual
def keysT : T → List ByteArray
  | .node k _ _ _ _ ks => keysL (decide (k = 2)) ks
def keysL : Bool → List T → List ByteArray
  | _, [] => []
  | m, c :: cs => (if m then [c.key] else []) ++ (keysT c ++ keysL m cs)
end
mutual
def textsT : T → List ByteArray
  | .node k _ tx q _ ks => (if (decide (k = 1) && said tx q) = true then [tx] else []) ++ textsL ks
def textsL : List T → List ByteArray
  | [] => []
  | c :: cs => textsT c ++ textsL cs
end
theorem keysL_append (m : Bool) (a b : List T) : keysL m (a ++ b) = keysL m a ++ keysL m b := by
  induction a with
  | nil => rfl
  | cons c cs ih => simp only [List.cons_append, keysL, ih, List.append_assoc]
theorem textsL_append (a b : List T) : textsL (a ++ b) = textsL a ++ textsL b := by
  induction a with
  | nil => rfl
  | cons c cs ih => simp only [List.cons_append, textsL, ih, List.append_assoc]
def kOf (l : List Tok) : List ByteArray := (l.filter fun t => decide (t.kind = 3)).map Tok.text
def xOf (l : List Tok) : List ByteArray := (l.filter fun t => decide (t.kind = 4) && said t.text t.quoted).map Tok.text
theorem kOf_append (a b : List Tok) : kOf (a ++ b) = kOf a ++ kOf b := by simp [kOf, List.filter_append]
theorem xOf_append (a b : List Tok) : xOf (a ++ b) = xOf a ++ xOf b := by simp [xOf, List.filter_append]
def part (l : List Tok) (a b : Nat) : List Tok := (l.drop a).take (b - a)
theorem part_self (l : List Tok) (a : Nat) : part l a a = [] := by simp [part]
theorem part_one {l : List Tok} {a : Nat} {t : Tok} (h : l[a]? = some t) : part l a (a + 1) = [t] := by
  obtain ⟨h1, h2⟩ := List.getElem?_eq_some_iff.1 h
  unfold part
  rw [List.drop_eq_getElem_cons h1, h2, show a + 1 - a = 1 by omega]
  rfl
theorem part_add (l : List Tok) {a b c : Nat} (h1 : a ≤ b) (h2 : b ≤ c) : part l a c = part l a b ++ part l b c := by
  unfold part
  have e : c - a = (b - a) + (c - b) := by omega
  rw [e, List.take_add, List.drop_drop]
  congr 3
  omega
theorem part_all {l : List Tok} {b : Nat} (h : l.length ≤ b) : part l 0 b = l := by
  unfold part
  rw [List.drop_zero, List.take_of_length_le (by omega)]
def Tells (l : List Tok) (f : Nat) : Prop := ∀ (kind col : Int) (at' d made : Nat) (acc ks : List T) (at2 made2 : Nat), (kind = 2 ∨ kind = 3) → loop l f kind col at' d made acc = .ok (ks, at2, made2) →
  ∃ vs, ks = acc ++ vs ∧ keysL (decide (kind = 3)) vs = kOf (part l at' at2) ∧ textsL vs = xOf (part l at' at2)
theorem block_tells {l : List Tok} {f : Nat} (ih : Tells l f) {at' d made : Nat} {key : ByteArray} {v : T} {at2 made2 : Nat} (hh : has ((l[at']?).getD zero) = true) (hr : blockW (loop l f) l at' d made key = .ok (v, at2, made2)) : keysT v = kOf (part l at' at2) ∧ textsT v = xOf (part l at' at2) := by
  unfold blockW at hr
  split at hr
  · cases hr
  · rename_i t ht
    rw [ht] at hh
    split at hr
    · cases hr
    · split at hr
      · rename_i h4
        cases hr
        rw [part_one ht]
        refine ⟨?_, ?_⟩
        · simp [keysT, keysL, kOf, h4]
        · simp only [textsT, textsL, List.append_nil, decide_true, Bool.true_and, xOf, List.filter_cons, h4, List.filter_nil]
          split <;> rfl
      · rename_i h4
        have hk : t.kind = 2 ∨ t.kind = 3 := has_or hh h4
        split at hr
        · cases hr
        · rename_i ks a2 m2 he
          cases hr
          obtain ⟨vs, h1, h2, h3⟩ := ih _ _ _ _ _ _ _ _ _ hk he
          rw [List.nil_append] at h1
          subst h1
          refine ⟨?_, ?_⟩
          · rw [← h2]
            simp only [keysT]
            congr 1
            rcases hk with hk | hk <;> simp [hk]
          · rw [← h3]
            simp only [textsT]
            rcases hk with hk | hk <;> simp [hk]
theorem value_tells {l : List Tok} {f : Nat} (ih : Tells l f) {is : Bool} {u : Tok} {at' d made : Nat} {key : ByteArray} {v : T} {at2 made2 : Nat} (hr : valueW (loop l f) l is u at' d made key = .ok (v, at2, made2)) : keysT v = kOf (part l at' at2) ∧ textsT v = xOf (part l at' at2) := by
  unfold valueW at hr
  split at hr
  · rename_i h
    rw [Bool.and_eq_true] at h
    exact block_tells ih h.2 hr
  · split at hr
    · cases hr
    · cases hr
      rw [part_self]
      refine ⟨rfl, ?_⟩
      have : said ⟨#[]⟩ false = false := by unfold said; rw [nil_toList]; rfl
      simp only [textsT, textsL, this]; rfl
theorem loop_tells (l : List Tok) : ∀ f, Tells l f := by
  intro f
  induction f with
  | zero =>
    intro kind col at' d made acc ks at2 made2 hk h
    cases h
    rw [part_self]
    exact ⟨[], by simp, rfl, rfl⟩
  | succ f ih =>
    intro kind col at' d made acc ks at2 made2 hk h
    unfold loop at h
    split at h
    · cases h
      rw [part_self]
      exact ⟨[], by simp, rfl, rfl⟩
    · rename_i u hu
      split at h
      · rename_i huk
        split at h
        · cases h
        · split at h
          · cases h
          · rename_i v a2 m2 hv
            obtain ⟨g1, _, g3⟩ := value_goes (loop_goes l f) hv
            obtain ⟨g4, _⟩ := loop_goes l f _ _ _ _ _ _ _ _ _ h
            obtain ⟨k1, k2⟩ := value_tells ih hv
            obtain ⟨vs, h1, h2, h3⟩ := ih _ _ _ _ _ _ _ _ _ hk h
            refine ⟨v :: vs, by rw [h1, List.append_assoc]; rfl, ?_, ?_⟩
            · rw [part_add l (show at' ≤ at' + 1 by omega) (show at' + 1 ≤ at2 by omega), part_one hu, part_add l g1 g4, kOf_append, kOf_append, ← h2, ← k1]
              simp only [keysL]
              rcases hk with rfl | rfl
              · simp [kOf, huk.1]
              · simp [kOf, huk.1, g3]
            · rw [part_add l (show at' ≤ at' + 1 by omega) (show at' + 1 ≤ at2 by omega), part_one hu, part_add l g1 g4, xOf_append, xOf_append, ← h3, ← k2]
              simp only [textsL]
              have : xOf [u] = [] := by
                have h4 : ¬ u.kind = 4 := by omega
                simp [xOf, h4]
              rw [this]; rfl
      · cases h
        rw [part_self]
        exact ⟨[], by simp, rfl, rfl⟩
theorem doc_tells {l : List Tok} {t : T} (h : doc l = .ok t) : keysT t = kOf l ∧ textsT t = xOf l := by
  unfold doc at h
  split at h
  · rename_i hh
    split at h
    · cases h
    · rename_i v at2 m2 he
      split at h
      · cases h
      · rename_i hn
        cases h
        have h1 := block_tells (loop_tells l l.length) hh he
        rw [part_all (List.getElem?_eq_none_iff.1 hn)] at h1
        exact h1
  · cases h
/-! ### the same of the nodes as they are laid -/
def mp (ns : List Nd) (j : Nat) : Bool := ns.any fun n => decide (n.kind = 2) && n.kids.any fun k => decide (k = (j : Int))
theorem mp_append (a b : List Nd) (j : Nat) : mp (a ++ b) j = (mp a j || mp b j) := by simp [mp, List.any_append]
theorem kidAts_mem {b : Nat} {ts : List T} {x : Int} (h : x ∈ kidAts b ts) : (b : Int) ≤ x ∧ x < ((b + sizes ts : Nat) : Int) := by
  induction ts generalizing b with
  | nil => cases h
  | cons t ts ih =>
    simp only [kidAts, List.mem_cons] at h
    have hp : 0 < t.size := by cases t; simp only [T.size]; omega
    simp only [sizes]
    rcases h with rfl | h
    · omega
    · have := ih h; omega
mutual
theorem mp_lay : ∀ (b : Nat) (t : T) (j : Nat), mp (lay b t) j = true → b < j ∧ j < b + t.size
  | b, .node k key tx q ln ks, j, h => by
    simp only [lay, mp, List.any_cons, Bool.or_eq_true, Bool.and_eq_true, decide_eq_true_eq] at h
    simp only [T.size]
    rcases h with ⟨_, h⟩ | h
    · rw [List.any_eq_true] at h
      obtain ⟨x, hx, he⟩ := h
      have he := of_decide_eq_true he
      have := kidAts_mem hx
      omega
    · have := mp_lays (b + 1) ks j h
      omega
theorem mp_lays : ∀ (b : Nat) (ts : List T) (j : Nat), mp (lays b ts) j = true → b ≤ j ∧ j < b + sizes ts ∧ (j : Int) ∉ kidAts b ts
  | b, [], j, h => by simp [lays, mp] at h
  | b, t :: ts, j, h => by
    simp only [lays] at h
    rw [mp_append, Bool.or_eq_true] at h
    have hp := size_pos t
    simp only [sizes, kidAts, List.mem_cons, not_or]
    rcases h with h | h
    · have := mp_lay b t j h
      refine ⟨by omega, by omega, by omega, fun hm => ?_⟩
      have := kidAts_mem hm
      omega
    · have := mp_lays (b + t.size) ts j h
      exact ⟨by omega, by omega, by omega, this.2.2⟩
end
def keysFrom (f : Nat → Bool) : Nat → List Nd → List ByteArray
  | _, [] => []
  | b, n :: ns => (if f b then [n.key] else []) ++ keysFrom f (b + 1) ns
theorem keysFrom_append (f : Nat → Bool) (b : Nat) (x y : List Nd) : keysFrom f b (x ++ y) = keysFrom f b x ++ keysFrom f (b + x.length) y := by
  induction x generalizing b with
  | nil => simp [keysFrom]
  | cons n x ih =>
    simp only [List.cons_append, keysFrom, ih, List.length_cons, List.append_assoc]
    congr 3
    omega
mutual
theorem keys_lay : ∀ (f : Nat → Bool) (b : Nat) (t : T), (∀ j, b < j → j < b + t.size → f j = mp (lay b t) j) → keysFrom f b (lay b t) = (if f b then [t.key] else []) ++ keysT t
  | f, b, .node k key tx q ln ks, h => by
    simp only [lay, keysFrom, T.key, keysT]
    congr 1
    refine keys_lays f (b + 1) (decide (k = 2)) ks (fun j h1 h2 => ?_)
    have hj := h j (by omega) (by simp only [T.size]; omega)
    rw [hj]
    simp only [lay, mp, List.any_cons]
    have e : (lays (b + 1) ks).any (fun n => decide (n.kind = 2) && n.kids.any fun k => decide (k = (j : Int))) = mp (lays (b + 1) ks) j := rfl
    rw [e]
    by_cases hm : (j : Int) ∈ kidAts (b + 1) ks
    · rw [if_pos hm]
      have hz : mp (lays (b + 1) ks) j = false := by
        cases hx : mp (lays (b + 1) ks) j with
        | false => rfl
        | true => exact absurd hm (mp_lays _ _ _ hx).2.2
      have ha : (kidAts (b + 1) ks).any (fun k => decide (k = (j : Int))) = true := List.any_eq_true.2 ⟨_, hm, decide_eq_true rfl⟩
      rw [hz, ha]; simp
    · rw [if_neg hm]
      have ha : (kidAts (b + 1) ks).any (fun k => decide (k = (j : Int))) = false := by
        rw [List.any_eq_false]
        intro x hx
        rw [decide_eq_true_iff]
        rintro rfl
        exact hm hx
      rw [ha]; simp
theorem keys_lays : ∀ (f : Nat → Bool) (b : Nat) (m : Bool) (ts : List T), (∀ j, b ≤ j → j < b + sizes ts → f j = if (j : Int) ∈ kidAts b ts then m else mp (lays b ts) j) → keysFrom f b (lays b ts) = keysL m ts
  | f, b, m, [], h => rfl
  | f, b, m, t :: ts, h => by
    have hp := size_pos t
    simp only [lays]
    rw [keysFrom_append, lay_length]
    have h1 : keysFrom f b (lay b t) = (if f b then [t.key] else []) ++ keysT t := keys_lay f b t (fun j j1 j2 => by
      rw [h j (by omega) (by simp only [sizes]; omega), if_neg]
      · simp only [lays]
        rw [mp_append]
        have hz : mp (lays (b + t.size) ts) j = false := by
          cases hx : mp (lays (b + t.size) ts) j with
          | false => rfl
          | true => have := mp_lays _ _ _ hx; omega
        rw [hz, Bool.or_false]
      · simp only [kidAts, List.mem_cons, not_or]
        refine ⟨by omega, fun hm => ?_⟩
        have := kidAts_mem hm
        omega)
    have hb : f b = m := by
      rw [h b (by omega) (by simp only [sizes]; omega), if_pos]
      simp only [kidAts]
      exact List.mem_cons_self ..
    have h2 : keysFrom f (b + t.size) (lays (b + t.size) ts) = keysL m ts := keys_lays f (b + t.size) m ts (fun j j1 j2 => by
      rw [h j (by omega) (by simp only [sizes]; omega)]
      have hiff : (j : Int) ∈ kidAts b (t :: ts) ↔ (j : Int) ∈ kidAts (b + t.size) ts := by
        simp only [kidAts, List.mem_cons]
        constructor
        · rintro (hx | hx)
          · omega
          · exact hx
        · exact .inr
      by_cases hm : (j : Int) ∈ kidAts (b + t.size) ts
      · rw [if_pos hm, if_pos (hiff.2 hm)]
      · rw [if_neg hm, if_neg (fun hx => hm (hiff.1 hx))]
        simp only [lays]
        rw [mp_append]
        have hz : mp (lay b t) j = false := by
          cases hx : mp (lay b t) j with
          | false => rfl
          | true => have := mp_lay _ _ _ hx; omega
        rw [hz, Bool.false_or])
    rw [h1, h2, hb]
    simp only [keysL, List.append_assoc]
end
def textsN (ns : List Nd) : List ByteArray := (ns.filter fun n => decide (n.kind = 1) && said n.text n.quoted).map Nd.text
theorem textsN_append (a b : List Nd) : textsN (a ++ b) = textsN a ++ textsN b := by simp [textsN, List.filter_append]
mutual
theorem texts_lay : ∀ (b : Nat) (t : T), textsN (lay b t) = textsT t
  | b, .node k key tx q ln ks => by
    simp only [lay, textsT]
    rw [← texts_lays (b + 1) ks, show (⟨k, key, tx, q, ln, kidAts (b + 1) ks⟩ :: lays (b + 1) ks : List Nd) = [⟨k, key, tx, q, ln, kidAts (b + 1) ks⟩] ++ lays (b + 1) ks from rfl, textsN_append]
    congr 1
    simp only [textsN, List.filter_cons, List.filter_nil]
    split <;> rfl
theorem texts_lays : ∀ (b : Nat) (ts : List T), textsN (lays b ts) = textsL ts
  | _, [] => rfl
  | b, t :: ts => by
    simp only [lays, textsL]
    rw [textsN_append, texts_lay b t, texts_lays (b + t.size) ts]
end
def keysN (ns : List Nd) : List ByteArray := keysFrom (mp ns) 0 ns
theorem keysN_lay (t : T) : keysN (lay 0 t) = keysT t := by
  have h := keys_lay (mp (lay 0 t)) 0 t (fun j _ _ => rfl)
  have h0 : mp (lay 0 t) 0 = false := by
    cases hx : mp (lay 0 t) 0 with
    | false => rfl
    | true => have := mp_lay _ _ _ hx; omega
  unfold keysN
  rw [h, h0]; rfl
end Go.Tr
end
