/- The walks of draw.Place and draw.Pick: any list, any real, any word. -/
import Derived.Test.YtfdmfihifjlidaaCumWalk
namespace Go.Proofs.Ytfdmfihifjlidaa
open Go.ChangeShapes Go.WideShapes Go.ChangeAt Go.RowKit
open Cum (sumTo sums lastTo outs good)

/-- Is the one above the other? -/
def gt (c x : Nat) : Bool := FloatKind.f64.format.order c x == some Ordering.gt
/-- The first place whose real is above x. -/
def first (l : List Nat) (x : Nat) : Option Nat := l.findIdx? (gt · x)
def PlaceV (l : List Nat) (x : Nat) : Value := match first l x with
  | some i => .tuple #[.int .i64 i, .bool true]
  | none => .tuple #[.int .i64 0, .bool false]

theorem first_none {l : List Nat} {x : Nat} (h : ∀ j, j < l.length → gt (l.getD j 0) x = false) : first l x = none := by
  unfold first
  rw [List.findIdx?_eq_none_iff]
  intro c hc
  obtain ⟨j, hj, rfl⟩ := List.mem_iff_getElem.1 hc
  have := h j hj
  simpa [List.getD, hj] using this
theorem first_some {l : List Nat} {x k : Nat} (hk : k < l.length) (h : ∀ j, j < k → gt (l.getD j 0) x = false) (hx : gt (l.getD k 0) x = true) : first l x = some k := by
  unfold first
  rw [List.findIdx?_eq_some_iff_getElem]
  refine ⟨hk, by simpa [List.getD, hk] using hx, fun j hj => ?_⟩
  have := h j hj
  have hj2 : j < l.length := by omega
  simpa [List.getD, hj2] using this

theorem place_some (l : List Nat) (x b off cap : Nat) (w : World) (hc : ∀ i, i < l.length → w.cell? ⟨b, off + i, none⟩ = some (.float .f64 (l.getD i 0)))
    (hlen : l.length * 8 ≤ 140737488351232) :
    Calls Try.prog 27 #[.slice (some ⟨b, off, none⟩) l.length cap, .float .f64 x] w fun e w' => e = .returned (PlaceV l x) ∧ w = w' := by
  go_enter Try.func27, Try.ntmps27
  go_wp2
  go_step3
  go_wp2
  go_step3
  go_wp2
  go_loop [6, 7, 12] (fun a f i => ∃ k : Nat, k ≤ l.length ∧ a = .int .i64 0 ∧ f = .bool false ∧ i = .int .i64 k ∧ ∀ j, j < k → gt (l.getD j 0) x = false)
    (fun _ _ i => l.length - (intOf i).toNat)
  case atStart => exact ⟨0, by omega, rfl, rfl, rfl, fun j hj => by omega⟩
  case round =>
    obtain ⟨k, hk, rfl, rfl, rfl, hall⟩ := hrel
    replace hall := Lib.hid hall
    by_cases hlt : k < l.length
    · have hcx := hc k hlt
      obtain ⟨y, hy⟩ : ∃ y, y = l.getD k 0 := ⟨_, rfl⟩
      rw [← hy] at hcx
      by_cases hg : gt y x = true
      · have ht : (FloatKind.f64.format.order y x == some Ordering.gt) = true := hg
        have hp : PlaceV l x = .tuple #[.int .i64 k, .bool true] := by unfold PlaceV; rw [first_some hlt hall.out (by rw [← hy]; exact hg)]
        replace hp := Lib.hid hp
        clear hc hy hg
        go_wp2
        try rw [Exit.noGoto_ret]
        go_ret2
        exact ⟨by rw [hp.out]; rfl, rfl⟩
      · have ht : (FloatKind.f64.format.order y x == some Ordering.gt) = false := by simpa [gt] using hg
        have hall' : ∀ j, j < k + 1 → gt (l.getD j 0) x = false := by
          intro j hj
          rcases Nat.lt_succ_iff_lt_or_eq.1 hj with h | rfl
          · exact hall.out j h
          · rw [← hy]; simpa using hg
        have hall' := Lib.hid hall'
        clear hc hy hg
        go_wp2
        go_round
        case rel => exact ⟨k + 1, by omega, rfl, rfl, by go_num, hall'.out⟩
        case measure => simp [intOf]; omega
    · obtain rfl : k = l.length := by omega
      have hp : PlaceV l x = .tuple #[.int .i64 0, .bool false] := by unfold PlaceV; rw [first_none hall.out]
      replace hp := Lib.hid hp
      clear hc
      go_wp2
      try rw [Exit.noGoto_ret]
      go_ret2
      exact ⟨by rw [hp.out]; rfl, rfl⟩
theorem place_zero (x : Nat) (ao : Option Addr) (cap : Nat) (w : World) :
    Calls Try.prog 27 #[.slice ao 0 cap, .float .f64 x] w fun e w' => e = .returned (PlaceV [] x) ∧ w = w' := by
  go_enter Try.func27, Try.ntmps27
  go_wp2
  go_step3
  go_wp2
  go_step3
  go_wp2
  refine wp_loop_rounds 1 ?_
  rw [rounds_succ]
  go_wp2
  try rw [Exit.noGoto_ret]
  go_ret2
  exact ⟨rfl, rfl⟩
theorem place_any (l : List Nat) (x : Nat) (v : Value) (w : World) (hv : Tp.RdF w v l) (hlen : l.length * 8 ≤ 140737488351232) :
    Calls Try.prog 27 #[v, .float .f64 x] w fun e w' => e = .returned (PlaceV l x) ∧ w = w' := by
  obtain ⟨ao, cap, rfl, h⟩ := hv
  rcases h with rfl | ⟨b, off, rfl, hb, hc⟩
  · exact place_zero x ao cap w
  · exact place_some l x b off cap w hc hlen

/-- What Pick hands back. -/
def PickV (a : Nat) (ws : List Nat) : Value := if good ws then .tuple #[.int .i64 ((first (outs ws) (Fl.D (a / 2048) (-53))).getD 0), .int .i64 0] else .tuple #[.int .i64 0, .int .i64 2]
theorem pick_any (a : Nat) (ha : a < 18446744073709551616) (ws : List Nat) (hw : ∀ x ∈ ws, x < 18446744073709551616) (v : Value) (w : World) (hv : Tp.RdF w v ws) (hlen : ws.length * 8 ≤ 140737488351232) :
    Calls Try.prog 25 #[.int .u64 a, v] w fun e w' => e = .returned (PickV a ws) ∧ Below w.heap.size w w' := by
  go_enter Try.func25, Try.ntmps25
  go_wp2_with fail
  refine (cum_any ws hw v w hv hlen).mono ?_
  rintro e w1 ⟨h, hbel⟩
  rcases h with ⟨hg, rfl⟩ | ⟨hg, v, rfl, hown⟩
  · have hp : PickV a ws = .tuple #[.int .i64 0, .int .i64 2] := by unfold PickV; rw [hg]; rfl
    replace hp := Lib.hid hp
    clear hg
    go_wp2
    go_ret2
    exact ⟨by rw [hp.out]; rfl, hbel⟩
  · have hlo := Cum.outs_length ws
    have hp : PickV a ws = .tuple #[.int .i64 ((first (outs ws) (Fl.D (a / 2048) (-53))).getD 0), .int .i64 0] := by unfold PickV; rw [hg]; rfl
    have hr : Tp.RdF w1 v (outs ws) := Tp.RdF.own (by rw [Cum.outs_length]; exact hown)
    have hlen2 : (outs ws).length * 8 ≤ 140737488351232 := by rw [hlo]; exact hlen
    have hpl := Lib.hid (place_any (outs ws) (Fl.D (a / 2048) (-53)) v w1 hr hlen2)
    replace hp := Lib.hid hp
    clear hg hown hr hlo
    unfold PlaceV at hpl
    cases hf : first (outs ws) (Fl.D (a / 2048) (-53)) with
    | none =>
      rw [hf] at hp hpl
      clear hf
      go_wp2_with (first | (go_at_call 13; refine (unit_nat _ _ ha).mono ?_; rintro e w' ⟨rfl, rfl⟩) | (go_at_call 27; refine hpl.out.mono ?_; rintro e w' ⟨rfl, rfl⟩))
      go_ret2
      exact ⟨by rw [hp.out]; rfl, hbel⟩
    | some i =>
      rw [hf] at hp hpl
      clear hf
      go_wp2_with (first | (go_at_call 13; refine (unit_nat _ _ ha).mono ?_; rintro e w' ⟨rfl, rfl⟩) | (go_at_call 27; refine hpl.out.mono ?_; rintro e w' ⟨rfl, rfl⟩))
      go_ret2
      exact ⟨by rw [hp.out]; rfl, hbel⟩
end Go.Proofs.Ytfdmfihifjlidaa
