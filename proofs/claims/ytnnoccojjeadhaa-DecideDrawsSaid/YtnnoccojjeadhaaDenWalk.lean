/- The walk of the law on denied requests. -/
import Derived.Test.YtnnoccojjeadhaaAw
import Derived.Test.YtnnoccojjeadhaaOpen
import Derived.Test.YtnnoccojjeadhaaFrame
import Derived.Test.YtnnoccojjeadhaaStepsWalk
import Derived.Deep.RegionHeld3
import Derived.Deep.QuietTactic
import Derived.BigQuiet
namespace Go.Dec
open Go.Pa
/-- A decision, but for a forwarding and a want of health, hangs neither on the draws nor on who is healthy. -/
theorem dec_apart (ts : List Host) (hl hl' : List Healthy) (m h p : ByteArray) (u u' : Nat) (n n' : Int) :
    (decOf ts hl m h p u n).kind = 1 ∨ (decOf ts hl m h p u n).kind = 5 ∨
    (decOf ts hl' m h p u' n' = decOf ts hl m h p u n ∧ ((firstI (takesH h.data.toList) ts = -1 ∧ decOf ts hl m h p u n = ⟨2, 404, nil, -1, nil, nil⟩) ∨
      (∃ (k : Nat) (ro : ByteArray), firstI (takesH h.data.toList) ts = k ∧ decOf ts hl m h p u n = ⟨3, 404, ro, -1, nil, nil⟩) ∨
      (∃ (k i : Nat) (ro : ByteArray), firstI (takesH h.data.toList) ts = k ∧ decOf ts hl m h p u n = ⟨4, 403, ro, i, nil, nil⟩))) := by
  rcases first_cases (takesH h.data.toList) ts with h1 | ⟨k, r, hk, h1, _⟩
  · exact .inr (.inr ⟨by rw [dec_nohost h1, dec_nohost h1], .inl ⟨h1, dec_nohost h1⟩⟩)
  · rcases first_cases (takesE m.data.toList p.data.toList) r.2.2.1 with h2 | ⟨i, e, hi, h2, _⟩
    · exact .inr (.inr ⟨by rw [dec_norule h1 hk h2, dec_norule h1 hk h2], .inr (.inl ⟨k, r.2.1, h1, dec_norule h1 hk h2⟩)⟩)
    · cases h3 : allowB (takesP m.data.toList p.data.toList) r.2.2.2.1 with
      | false => exact .inr (.inr ⟨by rw [dec_denied h1 hk h2 hi h3, dec_denied h1 hk h2 hi h3], .inr (.inr ⟨k, i, r.2.1, h1, dec_denied h1 hk h2 hi h3⟩)⟩)
      | true =>
        rw [dec_last h1 hk h2 hi h3]
        unfold lastOf
        generalize (if e.2.2.1 = [] then [] else allOf hl (shareOf u e.2.2.1)) = all
        dsimp only
        cases all[(max n 0 % (all.length : Int)).toNat]? with
        | some ep => exact .inl rfl
        | none => exact .inr (.inl rfl)
end Go.Dec
namespace Go.Proofs.Ytnnoccojjeadhaa.decideDenied
open Go.ChangeShapes Go.WideShapes Go.ChangeAt Go.RowKit
open Go.Pa Go.Dec
open decideSteps (tblk qblk)
set_option linter.unusedVariables false
def dblk (d : Dc) : Obj := .cells #[.int .i64 d.kind, .int .i64 d.status, .string d.route, .int .i64 d.rule, .string d.svc, .string d.ep] 46
set_option maxHeartbeats 4000000 in
set_option maxRecDepth 100000 in
theorem denied (ver : Int) (v1 v2 vh vo : Value) (ts : List Host) (hl ho : List Healthy) (m h p m' h' p' : ByteArray) (u u' : Nat) (n a b n' a' b' : Int) (w : World)
    (hm : m.size ≤ maxLen) (hh : h.size ≤ maxLen) (hp : p.size ≤ maxLen) (hn : -9223372036854775808 ≤ n ∧ n ≤ 9223372036854775807) (hn' : -9223372036854775808 ≤ n' ∧ n' ≤ 9223372036854775807)
    (hrd : Rd.SliceOf hostE w v1 ts) (hrh : Rd.SliceOf healthyE w vh hl) (hro : Rd.SliceOf healthyE w vo ho) :
    Calls Try.prog 4 #[.agg #[.int .i64 ver, v1, v2], vh, vo, .agg #[.string m, .string h, .string p, .float .f64 u, .int .i64 n, .int .u64 a, .int .u64 b], .agg #[.string m', .string h', .string p', .float .f64 u', .int .i64 n', .int .u64 a', .int .u64 b']] w fun e w' => e = .returned (.bool true) ∧ Below w.heap.size w w' := by
  have hb0 := Tp.Below_seq (Tp.Below_seq (Tp.Below_alloc w (tblk ver v1 v2)) (Tp.Below_alloc _ (qblk m h p u n a b))) (Tp.Below_alloc _ (qblk m' h' p' u' n' a' b'))
  have hx : (((w.alloc (tblk ver v1 v2)).alloc (qblk m h p u n a b)).alloc (qblk m' h' p' u' n' a' b')).heap[w.heap.size]? = some (tblk ver v1 v2) ∧
      (((w.alloc (tblk ver v1 v2)).alloc (qblk m h p u n a b)).alloc (qblk m' h' p' u' n' a' b')).heap[w.heap.size + 1]? = some (qblk m h p u n a b) ∧
      (((w.alloc (tblk ver v1 v2)).alloc (qblk m h p u n a b)).alloc (qblk m' h' p' u' n' a' b')).heap[w.heap.size + 1 + 1]? = some (qblk m' h' p' u' n' a' b') := by
    refine ⟨?_, ?_, ?_⟩
    all_goals
      simp only [alloc_heap, alloc_size]
      repeat first
        | rw [if_pos trivial]
        | rw [if_pos rfl]
        | rw [if_neg (by omega)]
  obtain ⟨wb, hwb⟩ : ∃ wb, wb = ((w.alloc (tblk ver v1 v2)).alloc (qblk m h p u n a b)).alloc (qblk m' h' p' u' n' a' b') := ⟨_, rfl⟩
  rw [← hwb] at hb0 hx
  obtain ⟨hxa, hxb, hxc⟩ := hx
  have la := (Array.getElem?_eq_some_iff.1 hxa).1
  have lb := (Array.getElem?_eq_some_iff.1 hxb).1
  have lc := (Array.getElem?_eq_some_iff.1 hxc).1
  have hS : ∀ w', Below wb.heap.size wb w' → (w'.cell? ⟨w.heap.size, 0, none⟩ = some (.int .i64 ver) ∧ w'.cell? ⟨w.heap.size, 1, none⟩ = some v1 ∧ w'.cell? ⟨w.heap.size, 2, none⟩ = some v2) ∧
      (w'.cell? ⟨w.heap.size + 1, 0, none⟩ = some (.string m) ∧ w'.cell? ⟨w.heap.size + 1, 1, none⟩ = some (.string h) ∧ w'.cell? ⟨w.heap.size + 1, 2, none⟩ = some (.string p) ∧ w'.cell? ⟨w.heap.size + 1, 3, none⟩ = some (.float .f64 u) ∧ w'.cell? ⟨w.heap.size + 1, 4, none⟩ = some (.int .i64 n)) ∧
      (w'.cell? ⟨w.heap.size + 1 + 1, 3, none⟩ = some (.float .f64 u') ∧ w'.cell? ⟨w.heap.size + 1 + 1, 4, none⟩ = some (.int .i64 n')) := by
    intro w' hb
    have ha := (hb.block _ la).trans hxa
    have hb2 := (hb.block _ lb).trans hxb
    have hb3 := (hb.block _ lc).trans hxc
    exact ⟨⟨(cell_of_row _ _ 0 _ _ _ ha).trans rfl, (cell_of_row _ _ 1 _ _ _ ha).trans rfl, (cell_of_row _ _ 2 _ _ _ ha).trans rfl⟩,
      ⟨(cell_of_row _ _ 0 _ _ _ hb2).trans rfl, (cell_of_row _ _ 1 _ _ _ hb2).trans rfl, (cell_of_row _ _ 2 _ _ _ hb2).trans rfl, (cell_of_row _ _ 3 _ _ _ hb2).trans rfl, (cell_of_row _ _ 4 _ _ _ hb2).trans rfl⟩,
      ⟨(cell_of_row _ _ 3 _ _ _ hb3).trans rfl, (cell_of_row _ _ 4 _ _ _ hb3).trans rfl⟩⟩
  have c14 : ∀ w', Calls Try.prog 14 #[] w' fun e w'' => e = .returned (.bool true) ∧ Below w'.heap.size w' w'' := awake14
  have c15 : ∀ w', Below wb.heap.size wb w' → Calls Try.prog 15 #[.agg #[.int .i64 ver, v1, v2], vh, .string m, .string h, .string p, .float .f64 u, .int .i64 n] w' fun e w'' => e = .returned (decOf ts hl m h p u n).v ∧ Below w'.heap.size w' w'' := fun w' hb => decide15 ver v1 v2 vh ts hl m h p u n w' hm hh hp hn (hrd.below (Tp.Below_seq hb0 hb)) (hrh.below (Tp.Below_seq hb0 hb))
  have c15o : ∀ w', Below wb.heap.size wb w' → Calls Try.prog 15 #[.agg #[.int .i64 ver, v1, v2], vo, .string m, .string h, .string p, .float .f64 u', .int .i64 n'] w' fun e w'' => e = .returned (decOf ts ho m h p u' n').v ∧ Below w'.heap.size w' w'' := fun w' hb => decide15 ver v1 v2 vo ts ho m h p u' n' w' hm hh hp hn' (hrd.below (Tp.Below_seq hb0 hb)) (hro.below (Tp.Below_seq hb0 hb))
  have c6 : ∀ w', Below wb.heap.size wb w' → Calls Try.prog 6 #[.agg #[.int .i64 ver, v1, v2], .string h] w' fun e w'' => e = .returned (.int .i64 (firstI (takesH h.data.toList) ts)) ∧ Below w'.heap.size w' w'' := fun w' hb => find6 ver v1 v2 ts h w' hh (hrd.below (Tp.Below_seq hb0 hb))
  have hap := dec_apart ts hl ho m h p u u' n n'
  generalize decOf ts hl m h p u n = d at *
  generalize decOf ts ho m h p u' n' = dd at *
  generalize firstI (takesH h.data.toList) ts = fi at *
  clear hrd hrh hro hxa hxb hxc hm hh hp hn hn'
  replace hS := Lib.hid hS
  replace c14 := Lib.hid c14
  replace c15 := Lib.hid c15
  replace c15o := Lib.hid c15o
  replace c6 := Lib.hid c6
  replace hap := Lib.hid hap
  replace hb0 := Lib.hid hb0
  go_enter Try.func4, Try.ntmps4
  go_upto_region 1 with fail
  change Code.wp _ _ _ _ (((w.alloc (tblk ver v1 v2)).alloc (qblk m h p u n a b)).alloc (qblk m' h' p' u' n' a' b'))
  rw [← hwb]
  replace hwb := Lib.hid hwb
  go_wp2_with fail
  refine (c14.out _).mono ?_
  rintro e w1 ⟨rfl, hb1⟩
  clear c14
  obtain ⟨⟨t0, t1, t2⟩, ⟨q0, q1, q2, q3, q4⟩, ⟨y3, y4⟩⟩ := hS.out w1 hb1
  replace hb1 := Lib.hid hb1
  go_wp2_with fail
  refine (c15.out _ hb1.out).mono ?_
  rintro e w2 ⟨rfl, hb2⟩
  clear c15
  unfold Dc.v
  go_upto_region 4 with fail
  have hbd := heap_alloc_new w2 (dblk d)
  have hb3 := Tp.Below_seq (Tp.Below_seq hb1.out hb2) (Tp.Below_alloc w2 (dblk d))
  change Code.wp _ _ _ _ (w2.alloc (dblk d))
  generalize w2.alloc (dblk d) = w3 at *
  generalize w2.heap.size = bd at *
  clear hb2 hb1 t0 t1 t2 q0 q1 q2 q3 q4 y3 y4
  have d0 : w3.cell? ⟨bd, 0, none⟩ = some (.int .i64 d.kind) := cell_of_row _ _ 0 _ _ _ hbd
  replace hbd := Lib.hid hbd
  have hend := Lib.hid (Tp.Below_seq hb0.out hb3)
  rcases hap.out with hk | hk | ⟨hdd, hcase⟩
  · rw [hk] at d0
    replace hk := Lib.hid hk
    clear hap
    replace hb3 := Lib.hid hb3
    go_wp2
    go_ret
    exact ⟨rfl, hend.out⟩
  · rw [hk] at d0
    replace hk := Lib.hid hk
    clear hap
    replace hb3 := Lib.hid hb3
    go_wp2
    go_ret
    exact ⟨rfl, hend.out⟩
  · have hdd2 := hdd.symm
    clear hdd
    subst hdd2
    clear hap
    have hk : d.kind = 2 ∨ d.kind = 3 ∨ d.kind = 4 := by rcases hcase with ⟨_, h⟩ | ⟨_, _, _, h⟩ | ⟨_, _, _, _, h⟩ <;> rw [h] <;> simp
    have e1 : (d.kind == 1) = false := by simp; omega
    have e5 : (d.kind == 5) = false := by simp; omega
    replace hcase := Lib.hid hcase
    replace hk := Lib.hid hk
    obtain ⟨⟨t0, t1, t2⟩, ⟨q0, q1, q2, q3, q4⟩, ⟨y3, y4⟩⟩ := hS.out w3 hb3
    replace hb3 := Lib.hid hb3
    go_wp2_with fail
    refine (c15o.out _ hb3.out).mono ?_
    rintro e w4 ⟨rfl, hb4⟩
    clear c15o
    unfold Dc.v
    go_upto_region 7 with fail
    have hbe := heap_alloc_new w4 (dblk d)
    have hb5 := Tp.Below_seq hb4 (Tp.Below_alloc w4 (dblk d))
    change Code.wp _ _ _ _ (w4.alloc (dblk d))
    generalize w4.alloc (dblk d) = w5 at *
    generalize w4.heap.size = be at *
    have hbd5 := (hb5.block _ (Array.getElem?_eq_some_iff.1 hbd.out).1).trans hbd.out
    have hb6 := Tp.Below_seq hb3.out hb5
    clear t0 t1 t2 q0 q1 q2 q3 q4 y3 y4 d0 e1 e5 hk hb4 hb5 hend hbd
    have lbd := (Array.getElem?_eq_some_iff.1 hbd5).1
    have lbe := (Array.getElem?_eq_some_iff.1 hbe).1
    have hS7 : ∀ w', Below w5.heap.size w5 w' → Below w5.heap.size w5 w' ∧ (w'.cell? ⟨w.heap.size, 0, none⟩ = some (.int .i64 ver) ∧ w'.cell? ⟨w.heap.size, 1, none⟩ = some v1 ∧ w'.cell? ⟨w.heap.size, 2, none⟩ = some v2 ∧ w'.cell? ⟨w.heap.size + 1, 1, none⟩ = some (.string h)) ∧
        (w'.cell? ⟨bd, 0, none⟩ = some (.int .i64 d.kind) ∧ w'.cell? ⟨bd, 1, none⟩ = some (.int .i64 d.status) ∧ w'.cell? ⟨bd, 2, none⟩ = some (.string d.route) ∧ w'.cell? ⟨bd, 3, none⟩ = some (.int .i64 d.rule) ∧ w'.cell? ⟨bd, 4, none⟩ = some (.string d.svc) ∧ w'.cell? ⟨bd, 5, none⟩ = some (.string d.ep)) ∧
        (w'.cell? ⟨be, 0, none⟩ = some (.int .i64 d.kind) ∧ w'.cell? ⟨be, 1, none⟩ = some (.int .i64 d.status) ∧ w'.cell? ⟨be, 2, none⟩ = some (.string d.route) ∧ w'.cell? ⟨be, 3, none⟩ = some (.int .i64 d.rule) ∧ w'.cell? ⟨be, 4, none⟩ = some (.string d.svc) ∧ w'.cell? ⟨be, 5, none⟩ = some (.string d.ep)) := by
      intro w' hb
      obtain ⟨⟨t0, t1, t2⟩, ⟨_, q1, _⟩, _⟩ := hS.out w' (Tp.Below_seq hb6 hb)
      have x := (hb.block _ lbd).trans hbd5
      have y := (hb.block _ lbe).trans hbe
      exact ⟨hb, ⟨t0, t1, t2, q1⟩, ⟨(cell_of_row _ _ 0 _ _ _ x).trans rfl, (cell_of_row _ _ 1 _ _ _ x).trans rfl, (cell_of_row _ _ 2 _ _ _ x).trans rfl, (cell_of_row _ _ 3 _ _ _ x).trans rfl, (cell_of_row _ _ 4 _ _ _ x).trans rfl, (cell_of_row _ _ 5 _ _ _ x).trans rfl⟩,
        ⟨(cell_of_row _ _ 0 _ _ _ y).trans rfl, (cell_of_row _ _ 1 _ _ _ y).trans rfl, (cell_of_row _ _ 2 _ _ _ y).trans rfl, (cell_of_row _ _ 3 _ _ _ y).trans rfl, (cell_of_row _ _ 4 _ _ _ y).trans rfl, (cell_of_row _ _ 5 _ _ _ y).trans rfl⟩⟩
    have hc6 : ∀ w', Below w5.heap.size w5 w' → Calls Try.prog 6 #[.agg #[.int .i64 ver, v1, v2], .string h] w' fun e w'' => e = .returned (.int .i64 fi) ∧ Below w'.heap.size w' w'' := fun w' hb => c6.out w' (Tp.Below_seq hb6 hb)
    have hfin := Lib.hid (Tp.Below_seq hb0.out hb6)
    replace hc6 := Lib.hid hc6
    clear c6 hS hb3 hb6 hb0 hbd5 hbe lbd lbe la lb lc hwb
    rcases hcase.out with ⟨hf, hd⟩ | ⟨k, ro, hf, hd⟩ | ⟨k, i, ro, hf, hd⟩
    · subst hd
      subst hf
      clear hcase
      dsimp only [Go.Dec.nil] at hS7
      replace hS7 := Lib.hid hS7
      go_region_held3 (fun w' => Below w5.heap.size w5 w' ∧ (w'.cell? ⟨w.heap.size, 0, none⟩ = some (.int .i64 ver) ∧ w'.cell? ⟨w.heap.size, 1, none⟩ = some v1 ∧ w'.cell? ⟨w.heap.size, 2, none⟩ = some v2 ∧ w'.cell? ⟨w.heap.size + 1, 1, none⟩ = some (.string h)) ∧ (w'.cell? ⟨bd, 0, none⟩ = some (.int .i64 2) ∧ w'.cell? ⟨bd, 1, none⟩ = some (.int .i64 404) ∧ w'.cell? ⟨bd, 2, none⟩ = some (.string ⟨#[]⟩) ∧ w'.cell? ⟨bd, 3, none⟩ = some (.int .i64 (-1)) ∧ w'.cell? ⟨bd, 4, none⟩ = some (.string ⟨#[]⟩) ∧ w'.cell? ⟨bd, 5, none⟩ = some (.string ⟨#[]⟩)) ∧ (w'.cell? ⟨be, 0, none⟩ = some (.int .i64 2) ∧ w'.cell? ⟨be, 1, none⟩ = some (.int .i64 404) ∧ w'.cell? ⟨be, 2, none⟩ = some (.string ⟨#[]⟩) ∧ w'.cell? ⟨be, 3, none⟩ = some (.int .i64 (-1)) ∧ w'.cell? ⟨be, 4, none⟩ = some (.string ⟨#[]⟩) ∧ w'.cell? ⟨be, 5, none⟩ = some (.string ⟨#[]⟩)))
        (first | exact hS7.out _ (below_drewN (Below.refl _ _) 1) | exact hS7.out _ (by assumption) | exact hS7.out _ (Tp.Below_seq (below_drewN (Below.refl _ _) 1) hb'))
        (first | (go_at_call 6; (refine (hc6.out _ ?_).mono ?_); (first | assumption | exact below_drewN (Below.refl _ _) 1); rintro e w' ⟨rfl, hb'⟩))
      go_wp2_with fail
      go_ret
      first | exact ⟨rfl, Tp.Below_seq hfin.out (Tp.Below_seq (below_drewN (Below.refl _ _) 1) hb')⟩ | exact ⟨rfl, Tp.Below_seq hfin.out (below_drewN (Below.refl _ _) 1)⟩
    · subst hd
      subst hf
      clear hcase
      dsimp only [Go.Dec.nil] at hS7
      have hk0 : decide ((k : Int) < 0) = false := decide_eq_false (by omega)
      have er : (ro.toList == ro.toList) = true := by simp
      by_cases hro : ro.data.toList = []
      · have hro2 : ro = ⟨#[]⟩ := by
          obtain ⟨⟨l⟩⟩ := ro
          have hro : l = [] := hro
          rw [hro]
        subst hro2
        clear hro er
        replace hS7 := Lib.hid hS7
        go_region_held3 (fun w' => Below w5.heap.size w5 w' ∧ (w'.cell? ⟨w.heap.size, 0, none⟩ = some (.int .i64 ver) ∧ w'.cell? ⟨w.heap.size, 1, none⟩ = some v1 ∧ w'.cell? ⟨w.heap.size, 2, none⟩ = some v2 ∧ w'.cell? ⟨w.heap.size + 1, 1, none⟩ = some (.string h)) ∧ (w'.cell? ⟨bd, 0, none⟩ = some (.int .i64 3) ∧ w'.cell? ⟨bd, 1, none⟩ = some (.int .i64 404) ∧ w'.cell? ⟨bd, 2, none⟩ = some (.string ⟨#[]⟩) ∧ w'.cell? ⟨bd, 3, none⟩ = some (.int .i64 (-1)) ∧ w'.cell? ⟨bd, 4, none⟩ = some (.string ⟨#[]⟩) ∧ w'.cell? ⟨bd, 5, none⟩ = some (.string ⟨#[]⟩)) ∧ (w'.cell? ⟨be, 0, none⟩ = some (.int .i64 3) ∧ w'.cell? ⟨be, 1, none⟩ = some (.int .i64 404) ∧ w'.cell? ⟨be, 2, none⟩ = some (.string ⟨#[]⟩) ∧ w'.cell? ⟨be, 3, none⟩ = some (.int .i64 (-1)) ∧ w'.cell? ⟨be, 4, none⟩ = some (.string ⟨#[]⟩) ∧ w'.cell? ⟨be, 5, none⟩ = some (.string ⟨#[]⟩)))
          (first | exact hS7.out _ (below_drewN (Below.refl _ _) 1) | exact hS7.out _ (by assumption) | exact hS7.out _ (Tp.Below_seq (below_drewN (Below.refl _ _) 1) hb'))
          (first | (go_at_call 6; (refine (hc6.out _ ?_).mono ?_); (first | assumption | exact below_drewN (Below.refl _ _) 1); rintro e w' ⟨rfl, hb'⟩))
        go_wp2_with fail
        go_ret
        first | exact ⟨rfl, Tp.Below_seq hfin.out (Tp.Below_seq (below_drewN (Below.refl _ _) 1) hb')⟩ | exact ⟨rfl, Tp.Below_seq hfin.out (below_drewN (Below.refl _ _) 1)⟩
      · have e1 : (ro.toList == []) = false := by rw [eq_const]; simpa using hro
        have e2 : ro.toList.isEmpty = false := by rw [empty_list]; simpa using hro
        have e3 : (ro.toList = []) = False := by rw [Lib.toList_data]; simpa using hro
        replace hro := Lib.hid hro
        obtain ⟨_, ⟨t0, t1, t2, q1⟩, ⟨d0, d1, d2, d3, d4, d5⟩, ⟨z0, z1, z2, z3, z4, z5⟩⟩ := hS7 w5 (Below.refl _ _)
        clear hS7 hc6
        go_quiet (fail)
        go_wp2_with fail
        go_ret
        exact ⟨rfl, Tp.Below_seq hfin.out (below_drewN (Below.refl _ _) _)⟩
    · subst hd
      subst hf
      clear hcase
      dsimp only [Go.Dec.nil] at hS7
      have hk0 : decide ((k : Int) < 0) = false := decide_eq_false (by omega)
      have hi0 : ((i : Int) == -1) = false := by simp
      have er : (ro.toList == ro.toList) = true := by simp
      by_cases hro : ro.data.toList = []
      · have hro2 : ro = ⟨#[]⟩ := by
          obtain ⟨⟨l⟩⟩ := ro
          have hro : l = [] := hro
          rw [hro]
        subst hro2
        clear hro er
        obtain ⟨_, ⟨t0, t1, t2, q1⟩, ⟨d0, d1, d2, d3, d4, d5⟩, ⟨z0, z1, z2, z3, z4, z5⟩⟩ := hS7 w5 (Below.refl _ _)
        clear hS7 hc6
        go_quiet (fail)
        go_wp2_with fail
        go_ret
        exact ⟨rfl, Tp.Below_seq hfin.out (below_drewN (Below.refl _ _) _)⟩
      · have e1 : (ro.toList == []) = false := by rw [eq_const]; simpa using hro
        have e2 : ro.toList.isEmpty = false := by rw [empty_list]; simpa using hro
        have e3 : (ro.toList = []) = False := by rw [Lib.toList_data]; simpa using hro
        replace hro := Lib.hid hro
        obtain ⟨_, ⟨t0, t1, t2, q1⟩, ⟨d0, d1, d2, d3, d4, d5⟩, ⟨z0, z1, z2, z3, z4, z5⟩⟩ := hS7 w5 (Below.refl _ _)
        clear hS7 hc6
        go_quiet (fail)
        go_wp2_with fail
        go_ret
        exact ⟨rfl, Tp.Below_seq hfin.out (below_drewN (Below.refl _ _) _)⟩
end Go.Proofs.Ytnnoccojjeadhaa.decideDenied
