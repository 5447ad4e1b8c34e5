/- Hosts compared by their patterns: the comparing function, its order. -/
import Derived.Test.YtjepgpocmnijiaaZy20
import Derived.Test.YtjepgpocmnijiaaZy22
section

namespace Go.Proofs.Ytjepgpocmnijiaa
open Go.RowKit Go.Mp Go.Ck Go.Stab
set_option linter.unusedVariables false
set_option maxRecDepth 100000
set_option maxHeartbeats 8000000
/-- How two hosts compare. -/
def cH (x y : HV) : Int := Pa.orderH x.host.data.toList y.host.data.toList
theorem leC_cH (x y : HV) : leC cH x y = true ↔ cH x y ≤ 0 := by
  rw [leC_true]
  unfold cH
  have := Pa.order_anti x.host.data.toList y.host.data.toList
  omega
theorem tot_cH : Tot (leC cH) where
  trans := fun a b c h1 h2 => by
    rw [leC_cH] at h1 h2 ⊢
    exact Pa.order_trans h1 h2
  total := fun a b => by
    rw [Bool.or_eq_true, leC_cH, leC_cH]
    have := Pa.order_anti a.host.data.toList b.host.data.toList
    unfold cH
    omega
def okH (x : HV) : Prop := x.host.size ≤ maxLen
theorem cmp102 (x y : HV) (w : World) (hx : okH x) (hy : okH y) : Calls Try.prog 102 #[.agg #[.string x.host, .string x.route, .slice x.eo x.en x.ec, .slice x.po x.pn x.pc], .agg #[.string y.host, .string y.route, .slice y.eo y.en y.ec, .slice y.po y.pn y.pc]] w fun e w' => e = .returned (.int .i64 (cH x y)) ∧ Below w.heap.size w w' := by
  unfold cH
  have hb1 := alloc_below w (.cells #[.string x.host, .string x.route, .slice x.eo x.en x.ec, .slice x.po x.pn x.pc] 83)
  have hc := fun wx => order33 x.host y.host wx hx hy
  generalize Pa.orderH x.host.data.toList y.host.data.toList = z at *
  have hb2 := seq_below hb1 (alloc_below _ (.cells #[.string y.host, .string y.route, .slice y.eo y.en y.ec, .slice y.po y.pn y.pc] 83))
  replace hb1 := Lib.hid hb1
  replace hb2 := Lib.hid hb2
  replace hx := Lib.hid hx
  replace hy := Lib.hid hy
  replace hc := Lib.hid hc
  go_enter Try.func102, Try.ntmps102
  go_wp2_with (first
    | (go_at_call 53; (with_reducible refine (hc.out _).mono ?_); rintro e wC ⟨rfl, hb3⟩; have hb4 := Lib.hid (seq_below hb2.out hb3); clear hb3)
    | fail)
  go_ret
  exact ⟨rfl, hb4.out⟩
theorem cmpK_cH : CmpK cH okH := ⟨tot_cH, fun x y hx hy wx => cmp102 x y wx hx hy⟩
end Go.Proofs.Ytjepgpocmnijiaa
end
