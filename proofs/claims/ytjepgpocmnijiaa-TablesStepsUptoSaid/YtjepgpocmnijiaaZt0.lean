/- The law TablesSteps. -/
import Derived.Test.YtjepgpocmnijiaaZy36
import Derived.Test.YtjepgpocmnijiaaZy32
import Derived.Test.YtjepgpocmnijiaaZy34
import Derived.Deep.QuietTactic
import Derived.BigQuiet
import Derived.Test.YtjepgpocmnijiaaZy41
import Derived.Test.YtjepgpocmnijiaaZy44
import Derived.Test.YtjepgpocmnijiaaZy30
import Derived.Test.YtjepgpocmnijiaaZy43
import Derived.Deep.CondSized
import Derived.JoinedCond
section
/- Steps rise, and name what has a share: in plain words. -/
namespace Go.Ck
open Go.Proofs.Ytjepgpocmnijiaa.Fl Ieee
open Go.Proofs.Ytjepgpocmnijiaa (kindP)
set_option linter.unusedVariables false
theorem fadd_lt {s x : Nat} (hs : s < INF) (hx : x < INF) : fadd s x = D (V s + V x) (-1074) := by
  unfold fadd; rw [add_eq s x hs hx]; rfl
theorem fadd_infl {x : Nat} (hx : x ≤ INF) : fadd INF x = INF := by
  rcases Nat.lt_or_eq_of_le hx with h | h
  · obtain ⟨r, m, e, _⟩ := read_V x h
    unfold fadd Format.add
    rw [e, readINF]; simp only [Datum.sum, Option.map_some]; rfl
  · subst h
    unfold fadd Format.add
    rw [readINF]; simp only [Datum.sum]; rfl
theorem fadd_infr {s : Nat} (hs : s < INF) : fadd s INF = INF := by
  obtain ⟨r, m, e, _⟩ := read_V s hs
  unfold fadd Format.add
  rw [e, readINF]; simp only [Datum.sum, Option.map_some]; rfl
theorem fadd_up {s x : Nat} (hs : s ≤ INF) (hx : x ≤ INF) : s ≤ fadd s x := by
  rcases Nat.lt_or_eq_of_le hs with h | h
  · rcases Nat.lt_or_eq_of_le hx with h2 | h2
    · rw [fadd_lt h h2]
      have hm := D_mono0 (n := V s) (m := V s + V x) 0 (Nat.le_add_right _ _)
      rw [show (-1074 - ((0 : Nat) : Int)) = -1074 from rfl] at hm
      calc s = D (V s) (-1074) := (D_V s h).symm
        _ ≤ _ := hm
    · subst h2; rw [fadd_infr h]; exact hs
  · subst h; rw [fadd_infl hx]; exact Nat.le_refl _
theorem fadd_first {x : Nat} (hx : x ≤ INF) : fadd 0 x = x := by
  rcases Nat.lt_or_eq_of_le hx with h | h
  · have h0 : (0 : Nat) < INF := by decide
    have hV : V 0 = 0 := by decide
    rw [fadd_lt h0 h, hV, Nat.zero_add, D_V x h]
  · subst h; exact fadd_infr (by decide)
theorem leF_of {x y : Nat} (hy : y ≤ INF) (h : x ≤ y) : leF x y = true := by
  rcases Nat.lt_or_eq_of_le hy with h1 | h1
  · have e := order_eq x y (by omega) h1
    have e' : FloatKind.f64.format.order x y = some (compare x y) := e
    unfold leF
    rw [e']
    rcases Nat.lt_or_eq_of_le h with q | q
    · rw [Nat.compare_eq_lt.2 q]; rfl
    · rw [Nat.compare_eq_eq.2 q]; rfl
  · subst h1
    rcases Nat.lt_or_eq_of_le h with q | q
    · obtain ⟨r, m, e, _⟩ := read_V x q
      have e' : FloatKind.f64.format.order x INF = some .lt := by
        have : dbl.order x INF = some .lt := by
          unfold Format.order
          rw [e, readINF]; rfl
        exact this
      unfold leF
      rw [e']; rfl
    · subst q
      unfold leF
      decide +kernel
/-- Steps that rise, or stay, up to the last but one; the last is one, the first above nought. -/
structure Ris (a : List Shr) : Prop where
  up : ∀ (i : Nat) (x y : Shr), i + 2 < a.length → a[i]? = some x → a[i + 1]? = some y → leF x.upto y.upto = true
  last : ∀ x, a[a.length - 1]? = some x → x.upto = ONE
  first : ∀ x, a[0]? = some x → pos x.upto = true
structure Up (p : List Shr × Nat) : Prop where
  all : ∀ y ∈ p.1, y.upto ≤ p.2
  srt : ∀ (i : Nat) (x y : Shr), p.1[i]? = some x → p.1[i + 1]? = some y → x.upto ≤ y.upto
  fst : ∀ x, p.1[0]? = some x → 0 < x.upto
  inf : p.2 ≤ INF
  nil : p.1 = [] → p.2 = 0
theorem Up.step {p : List Shr × Nat} (h : Up p) {s : Shr} (hs : s.upto < 18446744073709551616) : Up (stF p s) := by
  unfold stF
  split
  · rename_i hp
    obtain ⟨h0, h1⟩ := (pos_iff s.upto hs).1 hp
    have hup := fadd_up h.inf h1
    have hinf := (add_ge p.2 s.upto h.inf hs (pos_ge hp)).2
    refine ⟨fun y hy => ?_, fun i x y hx hy => ?_, fun x hx => ?_, hinf, fun e => absurd e (by simp)⟩
    · rcases List.mem_append.1 hy with q | q
      · exact Nat.le_trans (h.all y q) hup
      · rw [List.mem_singleton.1 q]; exact Nat.le_refl _
    · have hyl := (List.getElem?_eq_some_iff.1 hy).1
      rw [List.length_append, List.length_singleton] at hyl
      rw [List.getElem?_append_left (by omega)] at hx
      by_cases q : i + 1 < p.1.length
      · rw [List.getElem?_append_left q] at hy
        exact h.srt i x y hx hy
      · rw [List.getElem?_append_right (by omega), show i + 1 - p.1.length = 0 by omega] at hy
        simp only [List.getElem?_cons_zero, Option.some.injEq] at hy
        subst hy
        exact Nat.le_trans (h.all x (List.mem_of_getElem? hx)) hup
    · cases hl : p.1 with
      | nil =>
        rw [hl] at hx
        simp only [List.nil_append, List.getElem?_cons_zero, Option.some.injEq] at hx
        subst hx
        show 0 < fadd p.2 s.upto
        rw [h.nil hl, fadd_first h1]; exact h0
      | cons z t =>
        rw [hl] at hx
        exact h.fst x (by rw [hl]; simpa using hx)
  · exact h
theorem up_fold : ∀ (l : List Shr) (p : List Shr × Nat), Up p → (∀ s ∈ l, s.upto < 18446744073709551616) → Up (l.foldl stF p)
  | [], p, h, _ => h
  | s :: l, p, h, hl => up_fold l _ (h.step (hl s (.head _))) (fun t ht => hl t (.tail _ ht))
theorem stL_up {l : List Shr} (hl : ∀ s ∈ l, s.upto < 18446744073709551616) : Up (stL l) :=
  up_fold l _ ⟨fun y hy => (by cases hy), fun i x y hx => (by cases hx), fun x hx => (by cases hx), Nat.zero_le _, fun _ => rfl⟩ hl
theorem steps_rise {l : List Shr} (hl : ∀ s ∈ l, s.upto < 18446744073709551616) : Ris (stepsS l) := by
  have h := stL_up hl
  unfold stepsS
  generalize stL l = p at h
  obtain ⟨a, q⟩ := p
  show Ris (lastOne a)
  rcases Nat.eq_zero_or_pos a.length with h0 | h0
  · have e : a = [] := List.eq_nil_of_length_eq_zero h0
    subst e
    exact ⟨fun i x y hi => (by simp [lastOne_nil] at hi), fun x hx => (by cases hx), fun x hx => (by cases hx)⟩
  · obtain ⟨z, hz⟩ : ∃ z, a[a.length - 1]? = some z := ⟨_, List.getElem?_eq_getElem (by omega)⟩
    rw [lastOne_at hz]
    refine ⟨fun i x y hi hx hy => ?_, fun x hx => ?_, fun x hx => ?_⟩
    · rw [List.length_set] at hi
      rw [List.getElem?_set_ne (by omega)] at hx hy
      have hym := List.mem_of_getElem? hy
      exact leF_of (Nat.le_trans (h.all y hym) h.inf) (h.srt i x y hx hy)
    · rw [List.length_set, List.getElem?_set_self (by omega)] at hx
      cases hx; rfl
    · by_cases h1 : a.length = 1
      · rw [show a.length - 1 = 0 by omega, List.getElem?_set_self (by omega)] at hx
        cases hx
        show pos ONE = true
        decide +kernel
      · rw [List.getElem?_set_ne (by omega)] at hx
        have hxm := List.mem_of_getElem? hx
        have hle : x.upto ≤ INF := Nat.le_trans (h.all x hxm) h.inf
        refine (pos_iff x.upto (Nat.lt_of_le_of_lt hle (by decide))).2 ⟨h.fst x hx, hle⟩
/-! ### what steps name -/
def posS (s : Shr) : Bool := pos s.upto
theorem fold_serv : ∀ (l : List Shr) (p : List Shr × Nat), ((l.foldl stF p).1).map (·.service) = p.1.map (·.service) ++ (l.filter posS).map (·.service)
  | [], p => by simp
  | s :: l, p => by
    rw [List.foldl_cons, fold_serv l, List.filter_cons]
    unfold stF
    by_cases h : pos s.upto = true
    · rw [if_pos h, if_pos (show posS s = true from h)]
      simp
    · rw [if_neg h, if_neg (show ¬ posS s = true from h)]
theorem last_serv (a : List Shr) : (lastOne a).map (·.service) = a.map (·.service) := by
  rcases Nat.eq_zero_or_pos a.length with h0 | h0
  · have e : a = [] := List.eq_nil_of_length_eq_zero h0
    subst e; rfl
  · obtain ⟨z, hz⟩ : ∃ z, a[a.length - 1]? = some z := ⟨_, List.getElem?_eq_getElem (by omega)⟩
    rw [lastOne_at hz, List.map_set]
    have h1 : (a.map (·.service))[a.length - 1]? = some z.service := by rw [List.getElem?_map, hz]; rfl
    obtain ⟨hl, he⟩ := List.getElem?_eq_some_iff.1 h1
    show (a.map (·.service)).set (a.length - 1) z.service = _
    rw [← he]; exact List.set_getElem_self hl
theorem steps_serv (l : List Shr) : (stepsS l).map (·.service) = (l.filter posS).map (·.service) := by
  unfold stepsS stL
  rw [last_serv, fold_serv]; rfl
/-- The service of the step that a share becomes. -/
theorem steps_at {l : List Shr} {i : Nat} {x : Shr} (hx : l[i]? = some x) (hp : pos x.upto = true) : ∃ y, (stepsS l)[((l.take i).filter posS).length]? = some y ∧ y.service = x.service := by
  have hil := (List.getElem?_eq_some_iff.1 hx).1
  have e : l.filter posS = (l.take i).filter posS ++ x :: (l.drop (i + 1)).filter posS := by
    have h1 : l = l.take i ++ x :: l.drop (i + 1) := by
      have := (List.getElem?_eq_some_iff.1 hx).2
      conv => lhs; rw [← List.take_append_drop i l]
      rw [List.drop_eq_getElem_cons hil, this]
    conv => lhs; rw [h1]
    rw [List.filter_append, List.filter_cons, if_pos (show posS x = true from hp)]
  have h2 : (l.filter posS)[((l.take i).filter posS).length]? = some x := by
    rw [e, List.getElem?_append_right (Nat.le_refl _), Nat.sub_self]; rfl
  have h3 : ((stepsS l).map (·.service))[((l.take i).filter posS).length]? = some x.service := by
    rw [steps_serv, List.getElem?_map, h2]; rfl
  rw [List.getElem?_map] at h3
  cases hy : (stepsS l)[((l.take i).filter posS).length]? with
  | none => rw [hy] at h3; cases h3
  | some y =>
    rw [hy] at h3
    simp only [Option.map_some, Option.some.injEq] at h3
    exact ⟨y, rfl, h3⟩
theorem filter_takeS {α : Type} {l : List α} {i : Nat} {x : α} {p : α → Bool} (h : l[i]? = some x) : (l.take (i + 1)).filter p = (l.take i).filter p ++ (if p x = true then [x] else []) := by
  rw [List.take_add_one, h, List.filter_append]
  show _ ++ [x].filter p = _
  rw [List.filter_cons]; rfl
theorem posn_yes {l : List Shr} {i : Nat} {x : Shr} (hx : l[i]? = some x) (hp : pos x.upto = true) : ((l.take (i + 1)).filter posS).length = ((l.take i).filter posS).length + 1 := by
  rw [filter_takeS hx, if_pos (show posS x = true from hp), List.length_append]; rfl
theorem posn_no {l : List Shr} {i : Nat} {x : Shr} (hx : l[i]? = some x) (hp : pos x.upto = false) : ((l.take (i + 1)).filter posS).length = ((l.take i).filter posS).length := by
  rw [filter_takeS hx, if_neg (show ¬ posS x = true by unfold posS; rw [hp]; decide), List.append_nil]
theorem posn_all (l : List Shr) : ((l.take l.length).filter posS).length = (stepsS l).length := by
  have := congrArg List.length (steps_serv l)
  rw [List.length_map, List.length_map] at this
  rw [List.take_length, this]
theorem steps_named {l : List Res} {a : List Shr} (h : Named l a) : Named l (stepsS a) := fun s hs => by
  have h1 : s.service ∈ (stepsS a).map (·.service) := List.mem_map_of_mem hs
  rw [steps_serv] at h1
  obtain ⟨t, ht, e⟩ := List.mem_map.1 h1
  rw [← e]
  exact h t (List.mem_filter.1 ht).1
theorem svc_mem {l : List Res} {n : ByteArray} (h : has l 1 n = true) : n ∈ svcsOf l := by
  obtain ⟨r, hr, hk, hn⟩ := has_iff.1 h
  unfold svcsOf
  refine List.mem_map.2 ⟨r, List.mem_filter.2 ⟨hr, ?_⟩, hn⟩
  unfold kindP
  simp [hk]
end Go.Ck
end

section
/- The walks of the laws' own rises and among. -/
namespace Go.Proofs.Ytjepgpocmnijiaa
open Go.RowKit Go.Mp Go.Ck Go.Stab
set_option linter.unusedVariables false
set_option maxRecDepth 100000
set_option maxHeartbeats 8000000
theorem rises46 (a : List Shr) (v : Value) (w : World) (hl : ShS w v a) (hR : Ris a) : Calls Try.prog 46 #[v] w fun e w' => e = .returned (.bool true) ∧ Below w.heap.size w w' := by
  obtain ⟨ao, cap, rfl⟩ := slice_shape hl
  have hlen := hl.1
  replace hl := Lib.hid hl
  replace hR := Lib.hid hR
  go_enter Try.func46, Try.ntmps46
  go_wp2
  go_loopg [3] (a.length + 1) (fun gg ic wr => ∃ i : Nat, gg = a.length - i + 1 ∧ i ≤ a.length ∧ ic = .int .i64 i ∧ Hid (Below w.heap.size w wr))
  case atStart => exact ⟨0, rfl, Nat.zero_le _, rfl, Lib.hid (Below.refl _ _)⟩
  case round =>
    obtain ⟨i, rfl, hi, rfl, hbw⟩ := hrel
    have hw2 : IntKind.i64.wrap ((i : Int) + 2) = ((i + 2 : Nat) : Int) := by rw [IntKind.wrap_i64]; omega
    by_cases hlt : i + 2 < a.length
    · obtain ⟨x, hx⟩ : ∃ x, a[i]? = some x := ⟨_, List.getElem?_eq_getElem (by omega)⟩
      obtain ⟨y, hy⟩ : ∃ y, a[i + 1]? = some y := ⟨_, List.getElem?_eq_getElem (by omega)⟩
      obtain ⟨b, off, hao, hbl, c0, c1, _, _⟩ := shr_at hl.out hbw.out hx
      subst hao
      obtain ⟨b', off', hao', _, d0, d1, _, _⟩ := shr_at hl.out hbw.out hy
      simp only [Option.some.injEq, Addr.mk.injEq, and_true] at hao'
      obtain ⟨rfl, rfl⟩ := hao'
      have hk2 : ((i + 2 : Nat) : Int) < (a.length : Int) := nn_lt hlt
      have hk0 : (i : Int) < (a.length : Int) := nn_lt (by omega)
      have hk1 : ((i + 1 : Nat) : Int) < (a.length : Int) := nn_lt (by omega)
      have hw1 : IntKind.i64.wrap ((i : Int) + 1) = ((i + 1 : Nat) : Int) := by rw [IntKind.wrap_i64]; omega
      have hwk := Lib.hid hw1
      have hle := hR.out.up i x y hlt hx hy
      unfold leF at hle
      obtain ⟨j, hj⟩ : ∃ j, j = i + 1 := ⟨_, rfl⟩
      rw [← hj] at hw1 hk1 d0 d1
      obtain ⟨j2, hj2⟩ : ∃ j, j = i + 2 := ⟨_, rfl⟩
      rw [← hj2] at hw2 hk2
      have hj0 : (0 : Int) ≤ (j : Int) := by omega
      have hB := Lib.hid hbw.out
      replace hx := Lib.hid hx
      replace hy := Lib.hid hy
      replace hj := Lib.hid hj
      replace hj2 := Lib.hid hj2
      replace hlt := Lib.hid hlt
      clear c0 d0
      go_upto_region 4 with fail
      go_quiet (fail)
      go_wp2
      go_roundg (a.length - (i + 1) + 1)
      case rel => exact ⟨i + 1, rfl, by have := hlt.out; omega, by first | rw [hwk.out] | rw [hj.out] | go_num, Lib.hid (seq_below hB.out (drew_below _ _))⟩
      case measure => have := hlt.out; omega
    · have hk2 : decide (((i + 2 : Nat) : Int) < (a.length : Int)) = false := decide_eq_false (by omega)
      have hk3 : ¬ ((i + 2 : Nat) : Int) < (a.length : Int) := by omega
      obtain ⟨j2, hj2⟩ : ∃ j, j = i + 2 := ⟨_, rfl⟩
      rw [← hj2] at hw2 hk2 hk3
      replace hj2 := Lib.hid hj2
      rcases Nat.eq_zero_or_pos a.length with h0 | h0
      · have e0 : a = [] := List.eq_nil_of_length_eq_zero h0
        subst e0
        go_wp2
        go_ret
        exact ⟨rfl, hbw.out⟩
      · have e1 : decide ((a.length : Int) = 0) = false := decide_eq_false (by omega)
        have e2 : ¬ (a.length : Int) = 0 := by omega
        obtain ⟨m, hm⟩ : ∃ m, m = a.length - 1 := ⟨_, rfl⟩
        have hwm : IntKind.i64.wrap ((a.length : Int) - 1) = (m : Int) := by rw [IntKind.wrap_i64]; omega
        have hm0 : (0 : Int) ≤ (m : Int) := by omega
        have hm1 : (m : Int) < (a.length : Int) := by omega
        have hl0 : (0 : Int) < (a.length : Int) := by omega
        obtain ⟨x, hx⟩ : ∃ x, a[m]? = some x := ⟨_, List.getElem?_eq_getElem (by omega)⟩
        obtain ⟨y, hy⟩ : ∃ y, a[0]? = some y := ⟨_, List.getElem?_eq_getElem (by omega)⟩
        obtain ⟨b, off, hao, hbl, c0, c1, _, _⟩ := shr_at hl.out hbw.out hx
        subst hao
        obtain ⟨b', off', hao', _, d0, d1, _, _⟩ := shr_at hl.out hbw.out hy
        simp only [Option.some.injEq, Addr.mk.injEq, and_true] at hao'
        obtain ⟨rfl, rfl⟩ := hao'
        have hlast := hR.out.last x (by rw [← hm]; exact hx)
        rw [hlast] at c1
        have d1' : wr.cell? ⟨b, off + 1, none⟩ = some (.float .f64 y.upto) := by simpa using d1
        have hpos := hR.out.first y hy
        have hp1 : (FloatKind.f64.format.order y.upto 0 == some Ordering.gt) = true := hpos
        have hp2 : (FloatKind.f64.format.order 4607182418800017408 4607182418800017408 == some Ordering.eq) = true := by decide +kernel
        have c1' : wr.cell? ⟨b, off + m * 2 + 1, none⟩ = some (.float .f64 4607182418800017408) := c1
        replace hx := Lib.hid hx
        replace hy := Lib.hid hy
        replace hm := Lib.hid hm
        replace hlast := Lib.hid hlast
        replace hpos := Lib.hid hpos
        clear c0 d0 c1 d1
        go_wp2
        all_goals
          go_ret
          exact ⟨rfl, hbw.out⟩
theorem among48 (ss : List ByteArray) (s : ByteArray) (v : Value) (w : World) (hl : Rd.SliceOf Rd.str w v ss) (hm : s ∈ ss) : Calls Try.prog 48 #[v, .string s] w fun e w' => e = .returned (.bool true) ∧ Below w.heap.size w w' := by
  obtain ⟨ao, cap, rfl⟩ := slice_shape hl
  have hlen := hl.1
  replace hl := Lib.hid hl
  replace hm := Lib.hid hm
  go_enter Try.func48, Try.ntmps48
  go_wp2
  go_loopg [5] (ss.length + 1) (fun gg ic wr => ∃ i : Nat, gg = ss.length - i + 1 ∧ i ≤ ss.length ∧ ic = .int .i64 i ∧ Hid (∀ j t, j < i → ss[j]? = some t → t ≠ s) ∧ Hid (Below w.heap.size w wr))
  case atStart => exact ⟨0, rfl, Nat.zero_le _, rfl, Lib.hid (fun j t hj => absurd hj (Nat.not_lt_zero j)), Lib.hid (Below.refl _ _)⟩
  case round =>
    obtain ⟨i, rfl, hi, rfl, hno, hbw⟩ := hrel
    by_cases hlt : i < ss.length
    · obtain ⟨x, hx⟩ : ∃ x, ss[i]? = some x := ⟨_, List.getElem?_eq_getElem hlt⟩
      obtain ⟨b, off, hao, hbl, hcc⟩ := at_i hl.out hbw.out hx
      subst hao
      have c0 : wr.cell? ⟨b, off + i, none⟩ = some (.string x) := by
        have h := hcc.1
        rw [show Rd.str.k = 1 from rfl, Nat.mul_one] at h
        exact h
      have hk0 : (i : Int) < (ss.length : Int) := nn_lt hlt
      have hwk := Lib.hid (nn_succ2 hlt hlen)
      by_cases he : (x.toList == s.toList) = true
      · skip
        replace hx := Lib.hid hx
        replace hcc := Lib.hid hcc
        go_wp2
        go_ret
        exact ⟨rfl, hbw.out⟩
      · have he' : (x.toList == s.toList) = false := by simpa using he
        have hno2 : Hid (∀ j t, j < i + 1 → ss[j]? = some t → t ≠ s) := Lib.hid (fun j t hj ht => by
          rcases Nat.lt_succ_iff_lt_or_eq.1 hj with q | q
          · exact hno.out j t q ht
          · subst q
            rw [hx] at ht
            cases ht
            intro e
            rw [e] at he
            exact he (by simp))
        replace hx := Lib.hid hx
        replace hcc := Lib.hid hcc
        replace he := Lib.hid he
        go_wp2
        go_roundg (ss.length - (i + 1) + 1)
        case rel => exact ⟨i + 1, rfl, hlt, by first | rw [hwk.out] | go_num, hno2, hbw⟩
        case measure => exact nn_downS hlt
    · exfalso
      obtain ⟨j, hj, e⟩ := List.getElem_of_mem hm.out
      exact hno.out j ss[j] (by omega) (List.getElem?_eq_getElem hj) e
end Go.Proofs.Ytjepgpocmnijiaa
end

section
/- The law TablesSteps: its walk. -/
namespace Go.Ck
open Go.RowKit Go.Mp Go.Stab
open Go.Proofs.Ytjepgpocmnijiaa
open Go.Proofs.Ytjepgpocmnijiaa.Fl (D_le INF)
set_option linter.unusedVariables false
theorem tabs_rise {C : List Res} {ver : Int} (h0 : codeV ver C = 0) (hC : Cfg C) : ∀ h ∈ hostsV ver C, ∀ e ∈ h.entries, Ris e.shares ∧ ∀ s ∈ e.shares, s.service ∈ svcsV ver C := by
  unfold hostsV svcsV
  rw [if_pos h0, if_pos h0]
  intro h hh e he
  unfold hostsOf at hh
  obtain ⟨r, hr, rfl⟩ := List.mem_map.1 (List.mem_mergeSort.1 hh)
  obtain ⟨q, hq, rfl⟩ := List.mem_map.1 he
  refine ⟨steps_rise (fun s hs => ?_), fun s hs => svc_mem (steps_named (shOf_named hC q.split) s hs)⟩
  exact Nat.lt_of_le_of_lt (Nat.le_trans (shOf_bd hC q.split s hs) (D_le _ _)) (by decide)
theorem hosts_count {C : List Res} {ver : Int} (h0 : codeV ver C = 0) : (hostsV ver C).length = (C.filter (kindP 3)).length := by
  unfold hostsV hostsOf
  rw [if_pos h0, List.length_mergeSort, List.length_map]
theorem tabs_none {C : List Res} {ver : Int} (h0 : codeV ver C ≠ 0) : hostsV ver C = [] ∧ svcsV ver C = [] ∧ verV ver C = 0 := by
  unfold hostsV svcsV verV
  rw [if_neg h0, if_neg h0, if_neg h0]
  exact ⟨rfl, rfl, rfl⟩
end Go.Ck
namespace Go.Proofs.Ytjepgpocmnijiaa
open Go.RowKit Go.Mp Go.Ck Go.Stab
open Fl (pos)
set_option linter.unusedVariables false
set_option maxRecDepth 100000
set_option maxHeartbeats 8000000
theorem cell_lt' {w : World} {b o : Nat} {u : Value} (h : w.cell? ⟨b, o, none⟩ = some u) : b < w.heap.size := World.block_lt_of_cell? w ⟨b, o, none⟩ h
theorem steps12 (l : List Shr) (ver : Int) (C : List Res) (v0 v2 : Value) (w : World) (h0 : ShS w v0 l) (h2 : ResS w v2 C) (hl : l.length ≤ 1048576) (hC : listM C ≤ 1048576) : Calls Try.prog 12 #[v0, .int .i64 ver, v2] w fun e w' => e = .returned (.bool true) ∧ Below w.heap.size w w' := by
  obtain ⟨ao, acp, rfl⟩ := slice_shape h0
  obtain ⟨bo, bcp, rfl⟩ := slice_shape h2
  obtain ⟨i73, h73, h730, h731, h732⟩ := info_parts info73
  obtain ⟨H, hH⟩ : ∃ H, H = hostsV ver C := ⟨_, rfl⟩
  obtain ⟨S, hS⟩ : ∃ S, S = svcsV ver C := ⟨_, rfl⟩
  obtain ⟨V, hV⟩ : ∃ V, V = verV ver C := ⟨_, rfl⟩
  obtain ⟨cc, hcc⟩ : ∃ c, c = codeV ver C := ⟨_, rfl⟩
  have k38 : Hid (∀ w', Below w.heap.size w w' → Calls Try.prog 38 #[.slice bo C.length bcp] w' fun e w2 => ∃ g c, e = .returned (.slice (some ⟨g, 0, none⟩) C.length c) ∧ ResS w2 (.slice (some ⟨g, 0, none⟩) C.length c) C ∧ Below w'.heap.size w' w2) := Lib.hid (fun w' hb => (twin38w (h2.below hb) hC).mono (fun e w2 q => by
    obtain ⟨g, c, rfl, _, h, _, _, hb⟩ := q
    exact ⟨g, c, rfl, h, hb⟩))
  have k47 : Hid (∀ v' w', ResS w' v' C → Calls Try.prog 47 #[.int .i64 ver, v'] w' (fun e w2 => TabO w' V H S (fun t => .tuple #[t, .int .i64 cc]) e w2 ∧ (cc = 0 → Cfg C))) := Lib.hid (fun v' w' h => (comp47 C ver v' w' h hC).mono (fun e w2 q => by
    have hcfg : codeV ver C = 0 → Cfg C := by
      obtain ⟨_, _, _, _, _, _, h⟩ := q
      exact h
    rw [hH, hS, hV, hcc]
    exact ⟨compT hC q, hcfg⟩))
  have hlen : C.length ≤ 1048576 := Nat.le_trans (len_le C) hC
  obtain ⟨SL, hSL⟩ : ∃ a, a = stepsS l := ⟨_, rfl⟩
  have hRis : Ris SL := by rw [hSL]; exact steps_rise (fun s hs => (h0.ok s hs).2)
  have hSLl : SL.length ≤ 1048576 := by rw [hSL]; exact Nat.le_trans (steps_lenw l) hl
  have k41 : Hid (∀ v' w', ShS w' v' l → Calls Try.prog 41 #[v'] w' fun e w2 => ∃ o c, e = .returned (.slice o SL.length c) ∧ ShS w2 (.slice o SL.length c) SL ∧ Below w'.heap.size w' w2) := Lib.hid (fun v' w' h => (steps41 l v' w' h (by omega)).mono (fun e w2 q => by
    obtain ⟨v3, rfl, hO, hb⟩ := q
    rw [← hSL] at hO
    obtain ⟨o, c, rfl⟩ := ownsRow_shape hO.row
    exact ⟨o, c, rfl, hO.reads (by omega), hb⟩))
  have hat : Hid (∀ i x, l[i]? = some x → pos x.upto = true → ∃ y, SL[((l.take i).filter posS).length]? = some y ∧ y.service = x.service) := Lib.hid (fun i x hx hp => by rw [hSL]; exact steps_at hx hp)
  have hall : ((l.take l.length).filter posS).length = SL.length := by rw [hSL]; exact posn_all l
  have hok := h0.ok
  replace h0 := Lib.hid h0
  replace h2 := Lib.hid h2
  replace hl := Lib.hid hl
  replace hC := Lib.hid hC
  replace hH := Lib.hid hH
  replace hS := Lib.hid hS
  replace hV := Lib.hid hV
  replace hcc := Lib.hid hcc
  replace h73 := Lib.hid h73
  replace h730 := Lib.hid h730
  replace h731 := Lib.hid h731
  replace h732 := Lib.hid h732
  replace hlen := Lib.hid hlen
  replace hSL := Lib.hid hSL
  replace hRis := Lib.hid hRis
  replace hSLl := Lib.hid hSLl
  replace hall := Lib.hid hall
  replace hok := Lib.hid hok
  go_enter Try.func12, Try.ntmps12
  go_upto_region 3 with (first
    | (go_at_call 45; (with_reducible refine (awake45 w).mono ?_); rintro e w0 ⟨rfl, hb0⟩; replace hb0 := Lib.hid hb0)
    | fail)
  have hrow0 := Lib.hid (empty_row w0 w0.heap.size (Nat.le_refl _) 73 2)
  have hba := Lib.hid (seq_below hb0.out (alloc_below w0 (.cells #[] 73)))
  have hsrc := Lib.hid (h0.out.below hba.out)
  have hB0 : Hid (w0.heap.size ≤ (w0.alloc (.cells #[] 73)).heap.size) := Lib.hid (by simp)
  go_upto_region 4 with (first
    | (at_builtin; refine Rd.wp_append_src shrC (by rfl) _ _ 67 (by rfl) w0.heap.size 73 i73 _ 24 Try.underlying67 h73.out h730.out h731.out h732.out rfl _ 0 [] (by rfl) hrow0.out _ l (by rfl) hsrc.out (by have := hl.out; unfold maxLen; omega) (by have := hl.out; omega) hB0.out ?_; intro v3 w3 hr3 hg3 hl3; rw [Nat.zero_add, List.nil_append] at hr3; obtain ⟨o3, c3, rfl⟩ := ownsRow_shape hr3; have hrd : Hid (ShS w3 (.slice o3 l.length c3) l) := Lib.hid (OwnS.reads ⟨hr3, hok.out⟩ (by have := hl.out; omega)); have hb3 : Hid (Below w0.heap.size w0 w3) := Lib.hid ((alloc_below w0 (.cells #[] 73)).grown hg3 (alloc_below w0 (.cells #[] 73)).size (fun q hq => by cases hq; exact Nat.le_refl _)); clear hr3 hg3 hl3)
    | (go_at_call 41; (with_reducible refine (k41.out _ _ hrd.out).mono ?_); rintro e w4 ⟨so4, sc4, rfl, hS4, hb4⟩; replace hS4 := Lib.hid hS4; replace hb4 := Lib.hid hb4)
    | fail)
  have hw4 := Lib.hid (seq_below hb0.out (seq_below hb3.out hb4.out))
  obtain ⟨m, hm⟩ : ∃ m, m = SL.length := ⟨_, rfl⟩
  rw [← hm] at hall hSLl
  have hS4' : Hid (ShS w4 (.slice so4 m sc4) SL) := Lib.hid (by rw [hm]; exact hS4.out)
  rw [← hm]
  replace hm := Lib.hid hm
  clear hS4 hrow0 hsrc hba hB0
  go_wp2
  go_loopg [9, 8] (l.length + 1) (fun gg ic nc wx => ∃ i n : Nat, gg = l.length - i + 1 ∧ i ≤ l.length ∧ ic = .int .i64 i ∧ nc = .int .i64 n ∧ Hid (n = ((l.take i).filter posS).length) ∧ Hid (n ≤ m) ∧ Hid (Below w4.heap.size w4 wx))
  case atStart => exact ⟨0, 0, rfl, Nat.zero_le _, rfl, rfl, Lib.hid rfl, Lib.hid (Nat.zero_le _), Lib.hid (Below.refl _ _)⟩
  case round =>
    obtain ⟨i, n, rfl, hi, rfl, rfl, hn, hnm, hbw⟩ := hrel
    by_cases hlt : i < l.length
    · obtain ⟨x, hx⟩ : ∃ x, l[i]? = some x := ⟨_, List.getElem?_eq_getElem hlt⟩
      have hbw0 := seq_below hw4.out hbw.out
      obtain ⟨b, off, hao, hbl, c0, c1, _, _⟩ := shr_at h0.out hbw0 hx
      subst hao
      have hk0 : (i : Int) < (l.length : Int) := nn_lt hlt
      have hwk := Lib.hid (nn_succ2 hlt (by have := hl.out; omega))
      obtain ⟨kb, hkb⟩ : ∃ b, pos x.upto = b := ⟨_, rfl⟩
      have hA : (FloatKind.f64.format.order x.upto 0 == some Ordering.gt) = kb := hkb
      cases kb with
      | true =>
        obtain ⟨y, hy, hys⟩ := hat.out i x hx hkb
        rw [← hn.out] at hy
        have hny : n < m := by have := (List.getElem?_eq_some_iff.1 hy).1; have := hm.out; omega
        obtain ⟨b2, off2, hso, _, d0, d1, _, _⟩ := shr_at hS4'.out hbw.out hy
        subst hso
        rw [hys] at d0
        have hn1 : (n : Int) < (m : Int) := nn_lt hny
        have hn2 : decide ((m : Int) ≤ (n : Int)) = false := decide_eq_false (by omega)
        have hn3 : ¬ (m : Int) ≤ (n : Int) := by omega
        have hwn := Lib.hid (nn_succ2 hny (by have := hSLl.out; omega))
        have hnN : Hid (n + 1 = ((l.take (i + 1)).filter posS).length) := Lib.hid (by rw [posn_yes hx hkb, hn.out])
        have hnn : Hid (n < m) := Lib.hid hny
        replace hx := Lib.hid hx
        replace hkb := Lib.hid hkb
        replace hy := Lib.hid hy
        replace hys := Lib.hid hys
        replace hny := Lib.hid hny
        replace hbw0 := Lib.hid hbw0
        clear d1
        go_upto_region 9 with fail
        clear c1
        go_quiet (fail)
        go_wp2
        go_roundg (l.length - (i + 1) + 1)
        case rel => exact ⟨i + 1, n + 1, rfl, hlt, by first | rw [hwk.out] | go_num, by first | rw [hwn.out] | go_num, hnN, Lib.hid hnn.out, Lib.hid (seq_below hbw.out (drew_below _ _))⟩
        case measure => exact nn_downS hlt
      | false =>
        have hnN : Hid (n = ((l.take (i + 1)).filter posS).length) := Lib.hid (by rw [posn_no hx hkb, hn.out])
        replace hx := Lib.hid hx
        replace hkb := Lib.hid hkb
        replace hbw0 := Lib.hid hbw0
        clear c0
        go_wp2
        go_roundg (l.length - (i + 1) + 1)
        case rel => exact ⟨i + 1, n, rfl, hlt, by first | rw [hwk.out] | go_num, rfl, hnN, hnm, hbw⟩
        case measure => exact nn_downS hlt
    · have hk0 : decide ((i : Int) < (l.length : Int)) = false := decide_eq_false (by omega)
      have hk1 : ¬ (i : Int) < (l.length : Int) := by omega
      have hnm2 : n = m := by
        have e : i = l.length := by omega
        rw [hn.out, e, hall.out]
      subst hnm2
      have hS5 := Lib.hid (hS4'.out.below hbw.out)
      have hw5 := Lib.hid (seq_below hw4.out hbw.out)
      go_upto_region 14 with (first
        | (go_at_call 46; (with_reducible refine (rises46 SL _ _ hS5.out hRis.out).mono ?_); rintro e w6 ⟨rfl, hb6⟩; replace hb6 := Lib.hid hb6)
        | fail)
      have hw6 := Lib.hid (seq_below hw5.out hb6.out)
      clear hk0 hk1
      go_upto_region 15 with (first
        | (go_at_call 38; (with_reducible refine (k38.out _ hw6.out).mono ?_); rintro e w7 ⟨g, gc, rfl, hG, hb7⟩; replace hG := Lib.hid hG; replace hb7 := Lib.hid hb7)
        | (go_at_call 47; (with_reducible refine (k47.out _ _ hG.out).mono ?_); rintro e w8 ⟨⟨ho, hc, so, sc, rfl, hT, hb8⟩, hcfg⟩; replace hT := Lib.hid hT; replace hb8 := Lib.hid hb8; replace hcfg := Lib.hid hcfg)
        | fail)
      obtain ⟨wA, hwA⟩ : ∃ wA, wA = w8.alloc (.cells #[.int .i64 V, .slice ho H.length hc, .slice so S.length sc] 62) := ⟨_, rfl⟩
      obtain ⟨tb, htb⟩ : ∃ b, b = w8.heap.size := ⟨_, rfl⟩
      have bA : Below w8.heap.size w8 wA := by rw [hwA]; exact alloc_below _ _
      have hXA : Hid (Bx 0 wA tb #[.int .i64 V, .slice ho H.length hc, .slice so S.length sc] 62) := Lib.hid ⟨Nat.zero_le _, by rw [hwA, htb]; exact heap_alloc_new _ _⟩
      have hTA := Lib.hid (hT.out.below bA)
      have hbA := Lib.hid (seq_below hw6.out (seq_below hb7.out (seq_below hb8.out bA)))
      rw [← hwA, ← htb]
      replace hwA := Lib.hid hwA
      replace htb := Lib.hid htb
      replace bA := Lib.hid bA
      have x0 := hXA.out.cell (j := 0) (u := .int .i64 V) rfl
      have x1 := hXA.out.cell (j := 1) (u := .slice ho H.length hc) rfl
      have x2 := hXA.out.cell (j := 2) (u := .slice so S.length sc) rfl
      by_cases hc0 : cc = 0
      · subst hc0
        have hrise : Hid (∀ h ∈ H, ∀ e ∈ h.entries, Ris e.shares ∧ ∀ s ∈ e.shares, s.service ∈ S) := Lib.hid (by rw [hH.out, hS.out]; exact tabs_rise hcc.out.symm (hcfg.out rfl))
        have hcnt : Hid (H.length = (C.filter (kindP 3)).length) := Lib.hid (by rw [hH.out]; exact hosts_count hcc.out.symm)
        have hVv : V = ver := by
          rw [hV.out]; unfold verV; rw [if_pos hcc.out.symm]
        subst hVv
        obtain ⟨T, hTm, hTs, hTq⟩ := HsM.reads hTA.out.h hTA.out.nh hTA.out.sm
        have hTl : T.length = H.length := by rw [← hTm, List.length_map]
        obtain ⟨L, hL⟩ : ∃ L, L = T.map (·.1) := ⟨_, rfl⟩
        rw [← hL] at hTs
        have hLl : L.length = H.length := by rw [hL, List.length_map, hTl]
        have hLq : Hid (∀ (k : Nat) (x : HV), L[k]? = some x → ∃ h, h ∈ H ∧ HQ wA x h) := Lib.hid (fun k x hx => by
          rw [hL, List.getElem?_map] at hx
          cases hp : T[k]? with
          | none => rw [hp] at hx; cases hx
          | some p =>
            rw [hp] at hx
            simp only [Option.map_some, Option.some.injEq] at hx
            subst hx
            have hm := List.mem_of_getElem? hp
            exact ⟨p.2, by rw [← hTm]; exact List.mem_map_of_mem hm, hTq p hm⟩)
        have hsv := Lib.hid (SvM.reads hTA.out.s hTA.out.ns)
        have hH64 : H.length ≤ 64 := hTA.out.nh
        have hsm : Hid (∀ h ∈ H, Sml h) := Lib.hid hTA.out.sm
        obtain ⟨N, hN⟩ : ∃ n, n = H.length := ⟨_, rfl⟩
        rw [← hN] at hXA hLl hcnt hH64 hTs
        rw [← hN]
        have x1 := hXA.out.cell (j := 1) (u := .slice ho N hc) rfl
        replace hTm := Lib.hid hTm
        replace hTs := Lib.hid hTs
        replace hTq := Lib.hid hTq
        replace hTl := Lib.hid hTl
        replace hL := Lib.hid hL
        replace hLl := Lib.hid hLl
        replace hH64 := Lib.hid hH64
        replace hN := Lib.hid hN
        clear hT hTA
        go_upto_region 19 with fail
        clear x0 x1 x2
        go_loopg [13, 12] (C.length + 1) (fun gg ic rc wx => ∃ i r : Nat, gg = C.length - i + 1 ∧ i ≤ C.length ∧ ic = .int .i64 i ∧ rc = .int .i64 r ∧ Hid (r = ((C.take i).filter (kindP 3)).length) ∧ Hid (Below wA.heap.size wA wx))
        case atStart => exact ⟨0, 0, rfl, Nat.zero_le _, rfl, rfl, Lib.hid rfl, Lib.hid (Below.refl _ _)⟩
        case round =>
          obtain ⟨i, r, rfl, hi, rfl, rfl, hr, hbw⟩ := hrel
          by_cases hlt : i < C.length
          · obtain ⟨x, hx⟩ : ∃ x, C[i]? = some x := ⟨_, List.getElem?_eq_getElem hlt⟩
            obtain ⟨b, off, eo, ec, ta, tc, ra, rc, hbo, hbl, c, hp⟩ := res_at2 h2.out hx
            subst hbo
            obtain ⟨c0, c1, c2, c3, c4, c5, c6, c7⟩ := c.below hbl (seq_below hbA.out hbw.out)
            have hk0 : (i : Int) < (C.length : Int) := nn_lt hlt
            have hwk := Lib.hid (nn_succ2 hlt (by have := hlen.out; omega))
            by_cases hk : x.kind = 3
            · have hrN : Hid (r + 1 = ((C.take (i + 1)).filter (kindP 3)).length) := Lib.hid (by
                have e : kindP 3 x = true := by unfold kindP; simp [hk]
                rw [filter_takeS hx, if_pos e, List.length_append, hr.out]; rfl)
              have hwr := Lib.hid (nn_succ2 (show r < C.length + 1 by
                have h1 : r ≤ C.length := by rw [hr.out]; exact Nat.le_trans (List.length_filter_le _ _) (by rw [List.length_take]; omega)
                omega) (by have := hlen.out; omega))
              rw [hk] at c0
              replace hx := Lib.hid hx
              replace c := Lib.hid c
              replace hp := Lib.hid hp
              replace hk := Lib.hid hk
              clear c1 c2 c3 c4 c5 c6 c7
              go_wp2
              go_roundg (C.length - (i + 1) + 1)
              case rel => exact ⟨i + 1, r + 1, rfl, hlt, by first | rw [hwk.out] | go_num, by first | rw [hwr.out] | go_num, hrN, hbw⟩
              case measure => exact nn_downS hlt
            · have hrN : Hid (r = ((C.take (i + 1)).filter (kindP 3)).length) := Lib.hid (by
                have e : ¬ kindP 3 x = true := by unfold kindP; simp [hk]
                rw [filter_takeS hx, if_neg e, List.append_nil, hr.out])
              have hkd : decide (x.kind = 3) = false := decide_eq_false hk
              replace hx := Lib.hid hx
              replace c := Lib.hid c
              replace hp := Lib.hid hp
              clear c1 c2 c3 c4 c5 c6 c7
              go_wp2
              go_roundg (C.length - (i + 1) + 1)
              case rel => exact ⟨i + 1, r, rfl, hlt, by first | rw [hwk.out] | go_num, rfl, hrN, hbw⟩
              case measure => exact nn_downS hlt
          · have hk0 : decide ((i : Int) < (C.length : Int)) = false := decide_eq_false (by omega)
            have hk1 : ¬ (i : Int) < (C.length : Int) := by omega
            have hrN : r = N := by
              have e : i = C.length := by omega
              rw [hr.out, e, List.take_length, hcnt.out]
            subst hrN
            have hXs : Hid (∀ wx, Below wA.heap.size wA wx → wx.cell? ⟨tb, 0, none⟩ = some (.int .i64 V) ∧ wx.cell? ⟨tb, 1, none⟩ = some (.slice ho r hc) ∧ wx.cell? ⟨tb, 2, none⟩ = some (.slice so S.length sc)) := Lib.hid (fun wx h => ⟨(hXA.out.below h).cell (j := 0) (u := .int .i64 V) rfl, (hXA.out.below h).cell (j := 1) (u := .slice ho r hc) rfl, (hXA.out.below h).cell (j := 2) (u := .slice so S.length sc) rfl⟩)
            go_upto_region 24 with fail
            clear hk0 hk1
            go_loopg [14] (r + 1) (fun gg ic wx => ∃ i : Nat, gg = r - i + 1 ∧ i ≤ r ∧ ic = .int .i64 i ∧ Hid (Below wA.heap.size wA wx))
            case atStart => exact ⟨0, rfl, Nat.zero_le _, rfl, hbw⟩
            case round =>
              clear hbw hi
              obtain ⟨i, rfl, hi, rfl, hbw⟩ := hrel
              obtain ⟨x0, x1, x2⟩ := hXs.out _ hbw.out
              by_cases hlt : i < r
              · have hk0 : (i : Int) < (r : Int) := nn_lt hlt
                have hwk := Lib.hid (nn_succ2 hlt (by have := hH64.out; omega))
                obtain ⟨y, hy⟩ : ∃ y, L[i]? = some y := ⟨_, List.getElem?_eq_getElem (by have := hLl.out; omega)⟩
                obtain ⟨b, off, hho, _, _, c2, _⟩ := hv_at hTs.out hbw.out hy
                have hbb : b < wA.heap.size := by
                  obtain ⟨b3, off3, hho3, q3, _⟩ := hv_at hTs.out (Below.refl _ _) hy
                  rw [hho] at hho3
                  simp only [Option.some.injEq, Addr.mk.injEq, and_true] at hho3
                  obtain ⟨rfl, rfl⟩ := hho3
                  exact cell_lt' q3
                obtain ⟨h, hhH, hhq⟩ := hLq.out i y hy
                obtain ⟨yh, yr, yeo, yen, yec, ypo, ypn, ypc⟩ := y
                obtain ⟨E, hEm, hEs, hEq⟩ := hhq.es
                have hEl : (E.map (·.1)).length = yen := by
                  obtain ⟨_, _, e⟩ := slice_shape hEs
                  simp only [Value.slice.injEq] at e
                  exact e.2.1.symm
                have hEn : yen ≤ 4194304 := by
                  have := (hsm.out h hhH).e
                  rw [← hEl, List.length_map]
                  rw [← hEm, List.length_map] at this
                  exact this
                have hcs : Hid (∀ wx, Below wA.heap.size wA wx → wx.cell? ⟨b, off + i * 4 + 2, none⟩ = some (.slice yeo yen yec)) := Lib.hid (fun wx h => by
                  obtain ⟨b3, off3, hho3, _, _, q3, _⟩ := hv_at hTs.out h hy
                  rw [hho] at hho3
                  simp only [Option.some.injEq, Addr.mk.injEq, and_true] at hho3
                  obtain ⟨rfl, rfl⟩ := hho3
                  exact q3)
                subst hho
                replace hy := Lib.hid hy
                replace hhH := Lib.hid hhH
                replace hhq := Lib.hid hhq
                replace hEm := Lib.hid hEm
                replace hEs := Lib.hid hEs
                replace hEq := Lib.hid hEq
                replace hEl := Lib.hid hEl
                replace hEn := Lib.hid hEn
                replace hbb := Lib.hid hbb
                go_upto_region 27 with fail
                clear x0 x1 x2 c2
                go_loopg [15] (yen + 1) (fun gg kc wx => ∃ k : Nat, gg = yen - k + 1 ∧ k ≤ yen ∧ kc = .int .i64 k ∧ Hid (Below wA.heap.size wA wx))
                case atStart => exact ⟨0, rfl, Nat.zero_le _, rfl, hbw⟩
                case round =>
                  clear hbw
                  obtain ⟨k, rfl, hk, rfl, hbw⟩ := hrel
                  obtain ⟨x0, x1, x2⟩ := hXs.out _ hbw.out
                  have c2 := hcs.out _ hbw.out
                  by_cases hlt2 : k < yen
                  · have hk2 : (k : Int) < (yen : Int) := nn_lt hlt2
                    have hwk2 := Lib.hid (nn_succ2 hlt2 (by have := hEn.out; omega))
                    have hkE : k < E.length := by have := hEl.out; rw [List.length_map] at this; omega
                    have hz : (E.map (·.1))[k]? = some E[k].1 := by rw [List.getElem?_map, List.getElem?_eq_getElem hkE]; rfl
                    have hzm := List.getElem_mem hkE
                    have hzq := hEq.out _ hzm
                    have hze : E[k].2 ∈ h.entries := by rw [← hEm.out]; exact List.mem_map_of_mem hzm
                    obtain ⟨hris, hnam⟩ := hrise.out h hhH.out _ hze
                    have hs64 := (hsm.out h hhH.out).s _ hze
                    obtain ⟨eb, eoff, heo, _, _, d2⟩ := ev_at hEs.out hbw.out hz
                    subst heo
                    generalize E[k] = z at *
                    obtain ⟨⟨zp, zm, zso, zsn, zsc⟩, en⟩ := z
                    obtain ⟨_, _, e3⟩ := slice_shape hzq.sh
                    simp only [Value.slice.injEq] at e3
                    have hzn : zsn = en.shares.length := e3.2.1
                    subst hzn
                    have hzsh : Hid (ShS wA (.slice zso en.shares.length zsc) en.shares) := Lib.hid hzq.sh
                    have hris' : Hid (Ris en.shares) := Lib.hid hris
                    have hnam' : Hid (∀ s ∈ en.shares, s.service ∈ S) := Lib.hid hnam
                    have hs64' : Hid (en.shares.length ≤ 64) := Lib.hid hs64
                    have d2' : wr.cell? ⟨eb, eoff + k * 3 + 2, none⟩ = some (.slice zso en.shares.length zsc) := d2
                    replace hz := Lib.hid hz
                    replace hzm := Lib.hid hzm
                    replace hzq := Lib.hid hzq
                    replace hze := Lib.hid hze
                    replace hkE := Lib.hid hkE
                    replace hris := Lib.hid hris
                    replace hnam := Lib.hid hnam
                    replace hs64 := Lib.hid hs64
                    clear d2 e3
                    go_upto_region 33 with (first
                      | (go_at_call 46; (with_reducible refine (rises46 en.shares _ _ (hzsh.out.below hbw.out) hris'.out).mono ?_); rintro e w9 ⟨rfl, hb9⟩; replace hb9 := Lib.hid hb9)
                      | fail)
                    have hbw9 := Lib.hid (seq_below hbw.out hb9.out)
                    clear x0 x1 x2 c2 d2'
                    go_loopg [17] (en.shares.length + 1) (fun gg jc wx => ∃ j : Nat, gg = en.shares.length - j + 1 ∧ j ≤ en.shares.length ∧ jc = .int .i64 j ∧ Hid (Below wA.heap.size wA wx))
                    case atStart => exact ⟨0, rfl, Nat.zero_le _, rfl, hbw9⟩
                    case round =>
                      clear hbw hb9 hbw9
                      obtain ⟨j, rfl, hj, rfl, hbw⟩ := hrel
                      by_cases hlt3 : j < en.shares.length
                      · have hk3 : (j : Int) < (en.shares.length : Int) := nn_lt hlt3
                        have hwk3 := Lib.hid (nn_succ2 hlt3 (by have := hs64'.out; omega))
                        obtain ⟨q, hq⟩ : ∃ q, en.shares[j]? = some q := ⟨_, List.getElem?_eq_getElem hlt3⟩
                        obtain ⟨sb, soff, hso, hsb, s0, _, _, _⟩ := shr_at hzsh.out hbw.out hq
                        subst hso
                        have hmem := hnam'.out q (List.mem_of_getElem? hq)
                        have hcells : Hid (∀ w', Below wr.heap.size wr w' → w'.cell? ⟨tb, 2, none⟩ = some (.slice so S.length sc) ∧ w'.cell? ⟨sb, soff + j * 2, none⟩ = some (.string q.service)) := Lib.hid (fun w' h => ⟨(hXs.out w' (seq_below hbw.out h)).2.2, (h.cell (p := ⟨sb, soff + j * 2, none⟩) (Nat.lt_of_lt_of_le hsb hbw.out.size)).trans s0⟩)
                        have h48 : Hid (∀ w', Below wr.heap.size wr w' → Calls Try.prog 48 #[.slice so S.length sc, .string q.service] w' fun e w2 => e = .returned (.bool true) ∧ Below w'.heap.size w' w2) := Lib.hid (fun w' h => among48 S q.service _ w' (hsv.out.below (seq_below hbw.out h)) hmem)
                        have hcur : Hid (Below wr.heap.size wr wr.drew) := Lib.hid (drew_below wr 1)
                        replace hq := Lib.hid hq
                        replace hmem := Lib.hid hmem
                        replace hsb := Lib.hid hsb
                        clear s0
                        go_upto_region 35 with fail
                        go_cut [147] (fun bv wx => bv = .bool false ∧ Hid (Below wr.heap.size wr wx))
                        case first =>
                          go_region_held3 (fun w' => w'.cell? ⟨tb, 2, none⟩ = some (.slice so S.length sc) ∧ w'.cell? ⟨sb, soff + j * 2, none⟩ = some (.string q.service))
                            (first | exact hcells.out _ hcur.out | fail)
                            (first
                              | (go_at_call 48; (with_reducible refine (h48.out _ hcur.out).mono ?_); rintro e2 w2 ⟨rfl, hb2⟩; replace hcur := Lib.hid (seq_below hcur.out hb2); clear hb2)
                              | fail)
                          all_goals (first | (go_wp2; go_meet; exact ⟨rfl, hcur⟩) | (go_meet; exact ⟨rfl, hcur⟩))
                        case rest =>
                          obtain ⟨rfl, hbz⟩ := hcut
                          go_wp2
                          go_roundg (en.shares.length - (j + 1) + 1)
                          case rel => exact ⟨j + 1, rfl, hlt3, by first | rw [hwk3.out] | go_num, Lib.hid (seq_below hbw.out hbz.out)⟩
                          case measure => exact nn_downS hlt3
                      · have hk3 : decide ((j : Int) < (en.shares.length : Int)) = false := decide_eq_false (by omega)
                        have hk4 : ¬ (j : Int) < (en.shares.length : Int) := by omega
                        go_wp2
                        go_roundg (yen - (k + 1) + 1)
                        case rel => exact ⟨k + 1, rfl, hlt2, by first | rw [hwk2.out] | go_num, hbw⟩
                        case measure => exact nn_downS hlt2
                  · have hk2 : decide ((k : Int) < (yen : Int)) = false := decide_eq_false (by omega)
                    have hk3 : ¬ (k : Int) < (yen : Int) := by omega
                    go_wp2
                    go_roundg (r - (i + 1) + 1)
                    case rel => exact ⟨i + 1, rfl, hlt, by first | rw [hwk.out] | go_num, hbw⟩
                    case measure => exact nn_downS hlt
              · have hk0 : decide ((i : Int) < (r : Int)) = false := decide_eq_false (by omega)
                have hk1 : ¬ (i : Int) < (r : Int) := by omega
                go_wp2
                go_ret
                exact ⟨rfl, seq_below hbA.out hbw.out⟩
      · obtain ⟨n1, n2, n3⟩ := tabs_none (C := C) (ver := ver) (by rw [← hcc.out]; exact hc0)
        rw [← hH.out] at n1
        rw [← hS.out] at n2
        rw [← hV.out] at n3
        have hl1 : H.length = 0 := by rw [n1]; rfl
        have hl2 : S.length = 0 := by rw [n2]; rfl
        rw [hl1] at x1
        rw [hl2] at x2
        rw [n3] at x0
        have hd : decide (cc = 0) = false := decide_eq_false hc0
        replace n1 := Lib.hid n1
        replace n2 := Lib.hid n2
        replace n3 := Lib.hid n3
        replace hl1 := Lib.hid hl1
        replace hl2 := Lib.hid hl2
        go_wp2
        go_ret
        exact ⟨rfl, hbA.out⟩
end Go.Proofs.Ytjepgpocmnijiaa
end

section
/- A list of shares among the arguments, opened. -/
namespace Go.Proofs.Ytjepgpocmnijiaa.rdBulk
open Go.ChangeShapes Go.WideShapes Go.ChangeAt Go.RowKit Go.Rd Go.Ck
set_option linter.unusedVariables false
set_option maxRecDepth 100000
theorem co73 : Try.prog.cellsOf 73 = 2 := by kernel_rfl
theorem oShr : OpensM Try.prog shrE 73 (fun t => t.service.size + 1 + (1 + 0)) := opensM_map (fun x => ⟨x.1, x.2.1⟩) (fun _ => rfl) (fun _ => rfl)
  (opensM_struct Try.underlying73 (opensFM_cons rfl co9 (opensM_str Try.underlying9) (opensFM_cons rfl co55 (opensM_of (Rd.opens_float Try.underlying55)) (opensFM_nil _))))
theorem open_shares {H : Type} {enc : TypeId × Value → H} {W : World} {v : Value} {d : DataW H} {pl : List MemPlace} {ts : List TypeId} {ds : List (DataW H)} {j base : Nat} (hval : Value.okWide Try.prog W .any base 67 v) (hd : DataW.Trod enc Try.prog W 0 (fun _ => true) true 67 v d pl) (hsz : (DataW.weightsEach Try.prog ts ds).all (· ≤ reachBytes) = true) (hts : ts[j]? = some 67) (hds : ds[j]? = some d) :
    ∃ l : List Shr, ShS W v l ∧ l.length ≤ Rows.uptoBulk d := by
  obtain ⟨a0, l0, c0, rfl⟩ := okWide_slice Try.underlying67 hval
  obtain ⟨l, ⟨v', q, r⟩, hm⟩ := openM_arg (opensM_slice Try.underlying67 co73 (show Try.prog.bytesOf 73 = 24 by kernel_rfl) (by decide) (by decide) oShr) hd hsz hts hds
  replace q : some (Value.slice a0 l0 c0) = some v' := q
  cases q
  have h1 : l.length ≤ (l.map (fun t : Shr => t.service.size + 1 + (1 + 0))).sum := sum_len _ (fun t => by omega) l
  exact ⟨l, r, by omega⟩
end Go.Proofs.Ytjepgpocmnijiaa.rdBulk
end

section

namespace Go.Proofs.Ytjepgpocmnijiaa.tablesSteps
open Go.ChangeShapes Go.WideShapes Go.ChangeAt Go.RowKit
open Go.Ck Go.Proofs.Ytjepgpocmnijiaa
open Go.Proofs.Ytjepgpocmnijiaa.rdBulk
set_option linter.unusedVariables false
set_option maxRecDepth 100000
theorem walk {H : Type} (enc : TypeId × Value → H) (W : World) (base : Nat) (args : Array Value) (ds : List (DataW H)) (p : List MemPlace)
    (hval0 : ∀ (j : Nat) t v, Try.f12.params[j]? = some t → args[j]? = some v → Value.okWide Try.prog W .any base t v)
    (hA : DataW.TrodAll enc Try.prog W 0 (fun _ => true) true Try.f12.params.toList args.toList ds p)
    (hsz : (DataW.weightsEach Try.prog Try.f12.params.toList ds).all (· ≤ reachBytes) = true) (hk : Rows.uptoSmall H ds = true) :
    Calls Try.prog 12 args W fun e w' => e = .returned (.bool true) ∧ Below W.heap.size W w' := by
  have hval : ∀ (j : Nat) t v, Try.f12.params[j]? = some t → args[j]? = some v → Value.okWide Try.prog W .any base t v := hval0
  have hkb : Rows.uptoBulkAll ds ≤ 1048576 := of_decide_eq_true hk
  rw [Try.params12] at hA hval hsz
  obtain ⟨v0, v1, v2, d0, d1, d2, p0, p1, p2, rfl, rfl, rfl, h0, h1, h2⟩ := trodAll_three hA
  have hk0 := bulks.part_le (d := d0) (l := [d0, d1, d2]) (by simp)
  obtain ⟨l0, r0, hM0⟩ := open_shares (hval 0 67 v0 rfl rfl) h0 hsz (j := 0) rfl rfl
  obtain ⟨l1, rfl⟩ := okWide_int Try.underlying3 (hval 1 3 v1 rfl rfl)
  have hk2 := bulks.part_le (d := d2) (l := [d0, d1, d2]) (by simp)
  obtain ⟨l2, r2, hM2⟩ := open_res (hval 2 22 v2 rfl rfl) h2 hsz (j := 2) rfl rfl
  exact steps12 l0 l1 l2 v0 v2 W r0 r2 (Nat.le_trans hM0 (Nat.le_trans hk0 hkb)) (Nat.le_trans hM2 (Nat.le_trans hk2 hkb))

theorem own : ownKnob Try.prog.godebug = none := by kernel_rfl

set_option maxRecDepth 100000 in
theorem lifted (os : Os) (started : os.Started) (H : Type) (enc : TypeId × Value → H) (F : Stop.Interp) :
    ReturnsInHanded {} Try.checked os 12 .any ((Rows.OpenSpec.upto Rows.tablesStepsSpec).pre6 enc Try.prog Try.f12 Rows.tablesStepsUptoRow.domain false) (((Rows.OpenSpec.upto Rows.tablesStepsSpec).at F).post enc Try.prog Try.f12 false true false false) := by
  refine returnsInHanded_of_cond_sized (C := Try.checked) (s := Rows.OpenSpec.upto Rows.tablesStepsSpec) (k := Rows.uptoSmall) rfl own started (by kernel_rfl) Try.func12
    (OpenSpec.witness (enc := enc) (C := Try.checked) (s := Rows.OpenSpec.upto Rows.tablesStepsSpec) (k := Rows.uptoSmall) rfl false ⟨#[], #[.slice none 0 0, .int .i64 0, .slice none 0 0], []⟩ 8 (by kernel_rfl) (by kernel_rfl) (by kernel_rfl)
      (x := ([.nil, .lit (.int .i64 0), .nil], [], [])) (by kernel_rfl) rfl (by kernel_rfl)) ?_
  intro W base args ds gs before hval hW _ hk hsz _
  obtain ⟨p, q, hA, hV, hpq, hfz, hnd⟩ := id hW
  obtain ⟨rfl, rfl⟩ := trodVars_none hV
  have e : ((Rows.OpenSpec.upto Rows.tablesStepsSpec).bare.plain.varTypes Try.checked.prog) = [] := rfl
  rw [e, List.append_nil, List.append_nil] at hsz
  rw [List.append_nil] at hk
  refine (walk enc W base args ds p hval hA hsz hk).mono ?_
  rintro e W' ⟨rfl, hb⟩
  refine ⟨_, rfl, law_post (s := Rows.tablesStepsSpec) Try.laidOut (by kernel_rfl) rfl Try.underlying4 rfl hW ?_ hb⟩
  intro ds' h
  have h2 : ds'.length = Try.f12.params.toList.length := h
  rw [Try.params12] at h2
  match ds', h2 with
  | [_, _, _], _ => rfl

theorem fact1 : (Rows.tablesStepsUptoRow.inPlace == Try.checked.prog.inPlace 12) = true := by kernel_rfl
theorem fact2 : (Rows.tablesStepsUptoRow.unfollowed == Try.checked.prog.unfollowed 12) = true := by kernel_rfl
theorem fact3 : (Rows.tablesStepsUptoRow.recurses == Try.checked.prog.recurses 12) = true := by kernel_rfl
theorem fact4 : (Rows.tablesStepsUptoRow.named == Try.checked.prog.varsNamed 12) = true := by kernel_rfl
theorem closed : joinedFacts Try.checked.prog 12 Try.f12 (Rows.OpenSpec.upto Rows.tablesStepsSpec).bare Rows.tablesStepsUptoRow = true := by
  unfold joinedFacts
  rw [fact1, fact2, fact3, fact4]
  kernel_rfl
/-- THE STATEMENT. -/
theorem proved : Rows.TablesStepsUptoSaid :=
  OpenClaim.holds_of_cond 12 Try.f12 rfl rfl rfl rfl rfl rfl rfl ⟨rfl, rfl, rfl, rfl, rfl⟩ rfl rfl rfl rfl rfl (by kernel_rfl) Try.func12 closed
    (of_decide_eq_true (by kernel_rfl)) (by unfold Func.isWrapper; first | (rw [if_pos (by decide +kernel)]; kernel_rfl) | (rw [if_neg (by decide +kernel)]; exact ⟨rfl, rfl⟩))
    (fun os started H enc _ F => lifted os started H enc F)
end Go.Proofs.Ytjepgpocmnijiaa.tablesSteps
end
