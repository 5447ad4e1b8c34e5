/- The walks of the document's own Cumulate, Place and Pick. Any weights, any list, any real, any word. -/
import Derived.Test.YtfdmfihifjlidaaRefCum
namespace Go.Proofs.Ytfdmfihifjlidaa
open Go.ChangeShapes Go.WideShapes Go.ChangeAt Go.RowKit
open Cum (sumTo sums lastTo outs good)
open Fl (fin lt0 ge INF)

theorem fadd_inf_left (x : Nat) (hx : x < 18446744073709551616) (hg : ge x = true) : Fl.fadd INF x = INF := by
  unfold Fl.fadd Ieee.Format.add
  rcases (Fl.ge_iff x hx).1 hg with h | h
  · rcases Nat.lt_or_ge x INF with h2 | h2
    · obtain ⟨r, m, e, _⟩ := Fl.read_V x h2
      rw [Fl.readINF, e]; rfl
    · obtain rfl : x = INF := Nat.le_antisymm h h2
      rw [Fl.readINF]; rfl
  · subst h
    rw [Fl.readINF, Fl.readN0]; rfl
theorem fadd_inf_right (s : Nat) (hs : s ≤ INF) : Fl.fadd s INF = INF := by
  unfold Fl.fadd Ieee.Format.add
  rcases Nat.lt_or_ge s INF with h2 | h2
  · obtain ⟨r, m, e, _⟩ := Fl.read_V s h2
    rw [Fl.readINF, e]; rfl
  · obtain rfl : s = INF := Nat.le_antisymm hs h2
    rw [Fl.readINF]; rfl
theorem getD_ge {ws : List Nat} (h : ws.all ge = true) {k : Nat} (hk : k < ws.length) : ge (ws.getD k 0) = true := by
  have : ws.getD k 0 = ws[k] := by simp [List.getD, hk]
  rw [this]; exact List.all_eq_true.1 h _ (List.getElem_mem hk)
theorem take_ge {ws : List Nat} (h : ws.all ge = true) (k : Nat) : (ws.take k).all ge = true := List.all_eq_true.2 fun x hx => List.all_eq_true.1 h x (List.mem_of_mem_take hx)
theorem inf_stays (ws : List Nat) (hw : ∀ x ∈ ws, x < 18446744073709551616) (h : ws.all ge = true) (k : Nat) (hk : k < ws.length) (hx : ws.getD k 0 = INF) : ∀ d, k + 1 + d ≤ ws.length → sumTo ws (k + 1 + d) = INF
  | 0, _ => by
    show Fl.fadd (sumTo ws k) (ws.getD k 0) = INF
    rw [hx]; exact fadd_inf_right _ (Cum.sumTo_le ws hw k (by omega) (take_ge h k))
  | d + 1, hd => by
    show Fl.fadd (sumTo ws (k + 1 + d)) (ws.getD (k + 1 + d) 0) = INF
    rw [inf_stays ws hw h k hk hx d (by omega)]
    exact fadd_inf_left _ (Cum.getD_lt hw _) (getD_ge h (by omega))
theorem bad_of (ws : List Nat) (hw : ∀ x ∈ ws, x < 18446744073709551616) (k : Nat) (hk : k < ws.length) (h : fin (ws.getD k 0) = false ∨ lt0 (ws.getD k 0) = true) : good ws = false := by
  rw [Bool.eq_false_iff]
  intro hg
  unfold good at hg
  rw [Bool.and_eq_true, Bool.and_eq_true, decide_eq_true_iff, decide_eq_true_iff] at hg
  have hge := getD_ge hg.1.1 hk
  have hinf : ws.getD k 0 = INF := by
    rcases Nat.decEq (ws.getD k 0) INF with hne | he
    · have := (fin_cases _ (Cum.getD_lt hw k)).2 hge hne
      rcases h with h | h
      · rw [this.1] at h; cases h
      · rw [this.2] at h; cases h
    · exact he
  have := inf_stays ws hw hg.1.1 k hk hinf (ws.length - (k + 1)) (by omega)
  rw [show k + 1 + (ws.length - (k + 1)) = ws.length from by omega] at this
  have h2 := hg.2
  rw [this] at h2; exact absurd h2 (Nat.lt_irrefl _)

/-- The sums with ones from the last on, the first k. -/
def outsTo (ws : List Nat) (k : Nat) : List Nat := (List.range k).map fun (i : Nat) => if (i : Int) < lastTo ws ws.length then sumTo ws (i + 1) else 4607182418800017408
theorem outsTo_succ (ws : List Nat) (k : Nat) : outsTo ws (k + 1) = outsTo ws k ++ [if (k : Int) < lastTo ws ws.length then sumTo ws (k + 1) else 4607182418800017408] := by simp [outsTo, List.range_succ]

/-- What Cumulate hands back, both outcomes in one form. -/
def cumL (ws : List Nat) : List Nat := if good ws then outs ws else []
def cumE (ws : List Nat) : Int := if good ws then 0 else 2
def CumUni (ws : List Nat) (W : World) (e : Ending) (w' : World) : Prop :=
  ∃ v, e = .returned (.tuple #[v, .int .i64 (cumE ws)]) ∧ w'.ownsRow W.heap.size 29 1 v (cumL ws).length ((cumL ws).map (Value.float .f64)) ∧ Below W.heap.size W w'
theorem CumUni.bad {ws : List Nat} {W w' : World} (hg : good ws = false) (hb : Below W.heap.size W w') : CumUni ws W (.returned (.tuple #[.slice none 0 0, .int .i64 2])) w' := by
  refine ⟨.slice none 0 0, by unfold cumE; rw [hg]; rfl, ?_, hb⟩
  unfold cumL; rw [hg]; exact World.ownsRow_nil _ _ _ _
theorem CumUni.fine {ws : List Nat} {W w' : World} {v : Value} (hg : good ws = true) (hb : Below W.heap.size W w') (ho : w'.ownsRow W.heap.size 29 1 v ws.length ((outs ws).map (Value.float .f64))) : CumUni ws W (.returned (.tuple #[v, .int .i64 0])) w' := by
  refine ⟨v, by unfold cumE; rw [hg]; rfl, ?_, hb⟩
  unfold cumL; rw [hg, if_pos rfl, Cum.outs_length]; exact ho
theorem cum_uni (ws : List Nat) (hw : ∀ x ∈ ws, x < 18446744073709551616) (v : Value) (w : World) (hv : Tp.RdF w v ws) (hlen : ws.length * 8 ≤ 140737488351232) :
    Calls Try.prog 23 #[v] w (CumUni ws w) :=
  (cum_any ws hw v w hv hlen).mono fun e w' ⟨h, hb⟩ => by
    rcases h with ⟨hg, rfl⟩ | ⟨hg, v, rfl, ho⟩
    · exact CumUni.bad hg hb
    · exact CumUni.fine hg hb ho

set_option maxHeartbeats 2000000 in
theorem refcum_some (ws : List Nat) (hw : ∀ x ∈ ws, x < 18446744073709551616) (b off cap : Nat) (w : World) (hb : b < w.heap.size) (hc : ∀ i, i < ws.length → w.cell? ⟨b, off + i, none⟩ = some (.float .f64 (ws.getD i 0)))
    (hn : 0 < ws.length) (hlen : ws.length * 8 ≤ 140737488351232) :
    Calls Try.prog 24 #[.slice (some ⟨b, off, none⟩) ws.length cap] w (CumUni ws w) := by
  obtain ⟨i0, hi, hz0, hz1, hz2⟩ := info_parts Try.info29
  go_enter Try.func24, Try.ntmps24
  go_wp2
  go_loop [4, 5] (fun l i => ∃ k : Nat, k ≤ ws.length ∧ i = .int .i64 k ∧ l = .int .i64 (lastTo ws k) ∧ (ws.take k).all ge = true) (fun _ i => ws.length - (intOf i).toNat)
  case atStart => exact ⟨0, by omega, rfl, rfl, rfl⟩
  case round =>
    obtain ⟨k, hk, rfl, rfl, hall⟩ := hrel
    have hbd := Cum.lastTo_bd ws k
    by_cases hlt : k < ws.length
    · have hcx := hc k hlt
      obtain ⟨x, hx⟩ : ∃ x, x = ws.getD k 0 := ⟨_, rfl⟩
      rw [← hx] at hcx
      have hx64 : x < 18446744073709551616 := by rw [hx]; exact Cum.getD_lt hw k
      have hbad := bad_of ws hw k hlt
      rw [← hx] at hbad
      by_cases hf : fin x = true
      · have hfy := Lib.hid (finite_yes x hf)
        by_cases hl : lt0 x = true
        · have hl' : (FloatKind.f64.format.order x 0 == some Ordering.lt) = true := hl
          replace hbad := Lib.hid (hbad (.inr hl))
          clear hx hl hf hc hall
          go_wp2_with (go_at_call 36; refine (hfy.out _).mono ?_; rintro e w' ⟨rfl, rfl⟩)
          go_ret2
          exact CumUni.bad hbad.out (Below.refl _ _)
        · have hl0 : lt0 x = false := by simpa using hl
          have hl' : (FloatKind.f64.format.order x 0 == some Ordering.lt) = false := hl0
          have hall' := Cum.all_take hlt hall (by rw [← hx]; exact (fin_cases x hx64).1 ⟨hf, hl0⟩)
          have hl1 : lastTo ws (k + 1) = if Fl.pos x then (k : Int) else lastTo ws k := by rw [hx]; rfl
          replace hall' := Lib.hid hall'
          clear hx hl hl0 hf hc hall hbad hx64
          by_cases hpos : Fl.pos x = true
          · have hA : (FloatKind.f64.format.order x 0 == some Ordering.gt) = true := hpos
            rw [if_pos hpos] at hl1
            replace hl1 := Lib.hid hl1
            clear hpos
            go_wp2_with (go_at_call 36; refine (hfy.out _).mono ?_; rintro e w' ⟨rfl, rfl⟩)
            go_round
            case rel => exact ⟨k + 1, by omega, by go_num, by rw [hl1.out], hall'.out⟩
            case measure => simp [intOf]; omega
          · have hA : (FloatKind.f64.format.order x 0 == some Ordering.gt) = false := by
              have h : Fl.pos x = false := by simpa using hpos
              exact h
            rw [if_neg hpos] at hl1
            replace hl1 := Lib.hid hl1
            clear hpos
            go_wp2_with (go_at_call 36; refine (hfy.out _).mono ?_; rintro e w' ⟨rfl, rfl⟩)
            go_round
            case rel => exact ⟨k + 1, by omega, by go_num, by rw [hl1.out], hall'.out⟩
            case measure => simp [intOf]; omega
      · have hf0 : fin x = false := by simpa using hf
        have hfn := Lib.hid (finite_no x hf0)
        replace hbad := Lib.hid (hbad (.inl hf0))
        clear hx hf hf0 hc hall
        go_wp2_with (go_at_call 36; refine (hfn.out _).mono ?_; rintro e w' ⟨rfl, rfl⟩)
        go_ret2
        exact CumUni.bad hbad.out (Tp.Below_drewN 1)
    · obtain rfl : k = ws.length := by omega
      rw [List.take_length] at hall
      have hsum := Cum.sumTo_le ws hw ws.length (Nat.le_refl _) (by rw [List.take_length]; exact hall)
      clear hlt
      by_cases hl0 : lastTo ws ws.length < 0
      · have hbad : good ws = false := by unfold good; rw [show decide (0 ≤ lastTo ws ws.length) = false from by rw [decide_eq_false_iff_not]; omega]; simp
        replace hbad := Lib.hid hbad
        clear hall hc
        go_wp2
        go_ret2
        exact CumUni.bad hbad.out (Below.refl _ _)
      · go_wp2
        go_loopw [6, 7, 8] (fun v s i wr => ∃ k : Nat, k ≤ ws.length ∧ i = .int .i64 k ∧ s = .float .f64 (sumTo ws k) ∧ wr.ownsRow w.heap.size 29 1 v k ((outsTo ws k).map (Value.float .f64)) ∧ Below w.heap.size w wr)
          (fun _ _ i _ => ws.length - (intOf i).toNat)
        case atStart => exact ⟨0, by omega, rfl, rfl, World.ownsRow_nil _ _ _ _, Below.refl _ _⟩
        case round =>
          obtain ⟨k, hk, rfl, rfl, hown, hbel⟩ := hrel
          have hs := hbel.size
          by_cases hlt : k < ws.length
          · have hcx := (hbel.cell (by exact hb)).trans (hc k hlt)
            obtain ⟨x, hx⟩ : ∃ x, x = ws.getD k 0 := ⟨_, rfl⟩
            rw [← hx] at hcx
            have hadd : ∀ w, (binOp .add 29 (.float .f64 (sumTo ws k)) (.float .f64 x)).run Try.prog w = .ok (.float .f64 (sumTo ws (k + 1))) w := fun w => run_float_arith w _ _ _ _ _ _ (by
              have := Cum.add_step ws hw k hlt (take_ge hall k) (getD_ge hall hlt)
              rw [hx]; exact this)
            have hss := outsTo_succ ws k
            by_cases hkl : (k : Int) < lastTo ws ws.length
            · rw [if_pos hkl] at hss
              replace hss := Lib.hid hss
              clear hx hc hall
              go_wp2_with (at_builtin; refine Tp.wpList_append_one rfl _ _ 47 rfl w.heap.size 29 i0 (.float .f64 0) 8 Try.underlying47 hi hz0 hz1 hz2 rfl _ _ _ rfl hown 1 rfl rfl (by unfold maxLen; omega) (by omega) hs ?_; intro v' w1 hown' hg' hbel' _)
              have hbel2 := hbel' _ _ hbel (Nat.le_refl _)
              clear hbel' hbel hown hg'
              go_roundw
              case rel => exact ⟨k + 1, by omega, by go_num, rfl, by rw [hss.out, List.map_append]; exact hown', hbel2⟩
              case measure => simp [intOf]; omega
            · rw [if_neg hkl] at hss
              replace hss := Lib.hid hss
              clear hx hc hall
              go_wp2_with (at_builtin; refine Tp.wpList_append_one rfl _ _ 47 rfl w.heap.size 29 i0 (.float .f64 0) 8 Try.underlying47 hi hz0 hz1 hz2 rfl _ _ _ rfl hown 1 rfl rfl (by unfold maxLen; omega) (by omega) hs ?_; intro v' w1 hown' hg' hbel' _)
              have hbel2 := hbel' _ _ hbel (Nat.le_refl _)
              clear hbel' hbel hown hg'
              go_roundw
              case rel => exact ⟨k + 1, by omega, by go_num, rfl, by rw [hss.out, List.map_append]; exact hown', hbel2⟩
              case measure => simp [intOf]; omega
          · obtain rfl : k = ws.length := by omega
            by_cases hinf : sumTo ws ws.length = INF
            · have hbad : good ws = false := by unfold good; rw [show decide (sumTo ws ws.length < INF) = false from by rw [decide_eq_false_iff_not]; omega]; simp
              have hfin : fin (sumTo ws ws.length) = false := by rw [hinf]; unfold fin; rw [Fl.readINF]
              have hfn := Lib.hid (finite_no _ hfin)
              replace hbad := Lib.hid hbad
              clear hinf hfin hall hc
              go_wp2_with (go_at_call 36; refine (hfn.out _).mono ?_; rintro e w' ⟨rfl, rfl⟩)
              go_ret2
              exact CumUni.bad hbad.out hbel.drew
            · have hok : good ws = true := by
                unfold good; rw [hall, show decide (0 ≤ lastTo ws ws.length) = true from by rw [decide_eq_true_iff]; omega, show decide (sumTo ws ws.length < INF) = true from by rw [decide_eq_true_iff]; omega]; rfl
              have hfin : fin (sumTo ws ws.length) = true := by
                obtain ⟨r, m, e, _⟩ := Fl.read_V (sumTo ws ws.length) (by omega)
                unfold fin; rw [e]
              have hfn := Lib.hid (finite_yes _ hfin)
              replace hok := Lib.hid hok
              clear hinf hfin hall hc
              go_wp2_with (go_at_call 36; refine (hfn.out _).mono ?_; rintro e w' ⟨rfl, rfl⟩)
              go_ret2
              exact CumUni.fine hok.out hbel hown

theorem refcum_zero (ao : Option Addr) (cap : Nat) (w : World) : Calls Try.prog 24 #[.slice ao 0 cap] w (CumUni [] w) := by
  go_enter Try.func24, Try.ntmps24
  go_wp2
  refine wp_loop_rounds 1 ?_
  rw [rounds_succ]
  go_wp2
  go_ret2
  exact CumUni.bad rfl (Below.refl _ _)
theorem refcum_any (ws : List Nat) (hw : ∀ x ∈ ws, x < 18446744073709551616) (v : Value) (w : World) (hv : Tp.RdF w v ws) (hlen : ws.length * 8 ≤ 140737488351232) :
    Calls Try.prog 24 #[v] w (CumUni ws w) := by
  obtain ⟨ao, cap, rfl, h⟩ := hv
  rcases h with rfl | ⟨b, off, rfl, hb, hc⟩
  · exact refcum_zero ao cap w
  · by_cases h0 : ws = []
    · subst h0; exact refcum_zero _ cap w
    · exact refcum_some ws hw b off cap w hb hc (List.length_pos_iff.2 h0) hlen

theorem refplace_some (l : List Nat) (x b off cap : Nat) (w : World) (hc : ∀ i, i < l.length → w.cell? ⟨b, off + i, none⟩ = some (.float .f64 (l.getD i 0)))
    (hlen : l.length * 8 ≤ 140737488351232) :
    Calls Try.prog 28 #[.slice (some ⟨b, off, none⟩) l.length cap, .float .f64 x] w fun e w' => e = .returned (PlaceV l x) ∧ w = w' := by
  go_enter Try.func28, Try.ntmps28
  go_wp2
  go_loop [6] (fun i => ∃ k : Nat, k ≤ l.length ∧ i = .int .i64 k ∧ ∀ j, j < k → gt (l.getD j 0) x = false) (fun i => l.length - (intOf i).toNat)
  case atStart => exact ⟨0, by omega, rfl, fun j hj => by omega⟩
  case round =>
    obtain ⟨k, hk, rfl, hall⟩ := hrel
    replace hall := Lib.hid hall
    by_cases hlt : k < l.length
    · have hcx := hc k hlt
      obtain ⟨y, hy⟩ : ∃ y, y = l.getD k 0 := ⟨_, rfl⟩
      rw [← hy] at hcx
      by_cases hg : gt y x = true
      · have ht : (FloatKind.f64.format.order y x == some Ordering.gt) = true := hg
        have hp : PlaceV l x = .tuple #[.int .i64 k, .bool true] := by unfold PlaceV; rw [first_some hlt hall.out (by rw [← hy]; exact hg)]
        replace hp := Lib.hid hp
        clear hc hy hg
        go_wp2
        go_ret2
        exact ⟨by rw [hp.out]; rfl, rfl⟩
      · have hg0 : gt y x = false := by simpa using hg
        have ht : (FloatKind.f64.format.order y x == some Ordering.gt) = false := hg0
        have hall' : ∀ j, j < k + 1 → gt (l.getD j 0) x = false := by
          intro j hj
          rcases Nat.lt_succ_iff_lt_or_eq.1 hj with h | rfl
          · exact hall.out j h
          · rw [← hy]; exact hg0
        replace hall' := Lib.hid hall'
        clear hc hy hg hg0
        go_wp2
        go_round
        case rel => exact ⟨k + 1, by omega, by go_num, hall'.out⟩
        case measure => simp [intOf]; omega
    · obtain rfl : k = l.length := by omega
      have hp : PlaceV l x = .tuple #[.int .i64 0, .bool false] := by unfold PlaceV; rw [first_none hall.out]
      replace hp := Lib.hid hp
      clear hc
      go_wp2
      go_ret2
      exact ⟨by rw [hp.out]; rfl, rfl⟩
theorem refplace_zero (x : Nat) (ao : Option Addr) (cap : Nat) (w : World) :
    Calls Try.prog 28 #[.slice ao 0 cap, .float .f64 x] w fun e w' => e = .returned (PlaceV [] x) ∧ w = w' := by
  go_enter Try.func28, Try.ntmps28
  go_wp2
  refine wp_loop_rounds 1 ?_
  rw [rounds_succ]
  go_wp2
  go_ret2
  exact ⟨rfl, rfl⟩
theorem refplace_any (l : List Nat) (x : Nat) (v : Value) (w : World) (hv : Tp.RdF w v l) (hlen : l.length * 8 ≤ 140737488351232) :
    Calls Try.prog 28 #[v, .float .f64 x] w fun e w' => e = .returned (PlaceV l x) ∧ w = w' := by
  obtain ⟨ao, cap, rfl, h⟩ := hv
  rcases h with rfl | ⟨b, off, rfl, hb, hc⟩
  · exact refplace_zero x ao cap w
  · exact refplace_some l x b off cap w hc hlen

theorem refpick_any (a : Nat) (ha : a < 18446744073709551616) (ws : List Nat) (hw : ∀ x ∈ ws, x < 18446744073709551616) (v : Value) (w : World) (hv : Tp.RdF w v ws) (hlen : ws.length * 8 ≤ 140737488351232) :
    Calls Try.prog 26 #[.int .u64 a, v] w fun e w' => e = .returned (PickV a ws) ∧ Below w.heap.size w w' := by
  have hr := fun w => refunit_any a w ha
  rw [xs_end a] at hr
  replace hr := Lib.hid hr
  go_enter Try.func26, Try.ntmps26
  go_wp2_with fail
  refine (refcum_any ws hw v w hv hlen).mono ?_
  rintro e w1 ⟨v, rfl, hown, hbel⟩
  by_cases hg : good ws = true
  · have e1 : cumE ws = 0 := by unfold cumE; rw [hg]; rfl
    have e2 : cumL ws = outs ws := by unfold cumL; rw [hg]; rfl
    rw [e2] at hown
    rw [e1]
    have hp : PickV a ws = .tuple #[.int .i64 ((first (outs ws) (Fl.D (a / 2048) (-53))).getD 0), .int .i64 0] := by unfold PickV; rw [hg]; rfl
    have hlo := Cum.outs_length ws
    have hpl := refplace_any (outs ws) (Fl.D (a / 2048) (-53)) v w1 (Tp.RdF.own hown) (by rw [hlo]; exact hlen)
    unfold PlaceV at hpl
    clear hg hown hlo e1 e2
    cases hf : first (outs ws) (Fl.D (a / 2048) (-53)) with
    | none =>
      rw [hf] at hp hpl
      replace hp := Lib.hid hp
      replace hpl := Lib.hid hpl
      clear hf
      go_wp2_with (first | (go_at_call 14; refine (hr.out _).mono ?_; rintro e w' ⟨rfl, rfl⟩) | (go_at_call 28; refine hpl.out.mono ?_; rintro e w' ⟨rfl, rfl⟩))
      go_ret2
      exact ⟨by rw [hp.out]; rfl, hbel⟩
    | some i =>
      rw [hf] at hp hpl
      replace hp := Lib.hid hp
      replace hpl := Lib.hid hpl
      clear hf
      go_wp2_with (first | (go_at_call 14; refine (hr.out _).mono ?_; rintro e w' ⟨rfl, rfl⟩) | (go_at_call 28; refine hpl.out.mono ?_; rintro e w' ⟨rfl, rfl⟩))
      go_ret2
      exact ⟨by rw [hp.out]; rfl, hbel⟩
  · have hg0 : good ws = false := by simpa using hg
    have e1 : cumE ws = 2 := by unfold cumE; rw [hg0]; rfl
    have hp : PickV a ws = .tuple #[.int .i64 0, .int .i64 2] := by unfold PickV; rw [hg0]; rfl
    rw [e1]
    replace hp := Lib.hid hp
    clear hg hg0 hown e1
    go_wp2
    go_ret2
    exact ⟨by rw [hp.out]; rfl, hbel⟩
end Go.Proofs.Ytfdmfihifjlidaa
