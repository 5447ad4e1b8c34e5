/- Plain: may a text stand plain? -/
import Derived.Test.YtabgckjokniooaaLqo
import Derived.Test.YtabgckjokniooaaLaz
namespace Go.Proofs.Ytabgckjokniooaa
open Go.RowKit Go.Ln Go.Mp Go.Tr
set_option linter.unusedVariables false
set_option maxRecDepth 100000
set_option maxHeartbeats 4000000
theorem plain_err (s : ByteArray) (w : World) (m : Int) (hs : s.size < 4294967281) (hm : w.cell? ⟨0, 0, none⟩ = some (.int .i64 m)) {e : Int} (hx : line s.data.toList 1 = .error e) :
    Calls Try.prog 9 #[.string s] w fun e w' => e = .returned (.bool false) ∧ Tch No w w' := by
  have hL := line_any s 1 w m hs hm
  rw [show ((1 : Nat) : Int) = 1 from rfl, hx] at hL
  replace hL : Calls Try.prog 11 #[.string s, .int .i64 1] w (LinePost w (.error e)) := hL
  have he := line_err hx
  have e1 : (e == 0) = false := by rw [beq_eq_false_iff_ne]; omega
  replace hL := Lib.hid hL
  replace hx := Lib.hid hx
  replace he := Lib.hid he
  go_enter Try.func9, Try.ntmps9
  go_wp2_with (first
    | (go_at_call 11; refine hL.out.mono ?_; rintro e5 w4 ⟨O, E, rfl, ⟨rfl, rfl⟩, t4⟩; replace t4 := Lib.hid t4)
    | fail)
  go_ret
  exact ⟨rfl, t4.out⟩
theorem plain_many (s : ByteArray) (w : World) (m : Int) (hs : s.size < 4294967281) (hm : w.cell? ⟨0, 0, none⟩ = some (.int .i64 m)) {ts : List Tk} (hx : line s.data.toList 1 = .ok ts) (hn : ts.length ≠ 1) :
    Calls Try.prog 9 #[.string s] w fun e w' => e = .returned (.bool false) ∧ Tch No w w' := by
  have hL := line_any s 1 w m hs hm
  rw [show ((1 : Nat) : Int) = 1 from rfl, hx] at hL
  replace hL : Calls Try.prog 11 #[.string s, .int .i64 1] w (LinePost w (.ok ts)) := hL
  have n1 : ((ts.length : Int) == 1) = false := by rw [beq_eq_false_iff_ne]; omega
  have n2 : (ts.length == 1) = false := by rw [beq_eq_false_iff_ne]; omega
  replace hL := Lib.hid hL
  replace hx := Lib.hid hx
  replace hn := Lib.hid hn
  go_enter Try.func9, Try.ntmps9
  go_wp2_with (first
    | (go_at_call 11; refine hL.out.mono ?_; rintro e5 w4 ⟨O, E, rfl, ⟨hrow, rfl⟩, t4⟩; obtain ⟨oo, oc, rfl⟩ := ownsRow_shape hrow; replace hrow := Lib.hid hrow; replace t4 := Lib.hid t4)
    | fail)
  go_ret
  exact ⟨rfl, t4.out⟩
theorem plain_kind (s : ByteArray) (w : World) (m : Int) (hs : s.size < 4294967281) (hm : w.cell? ⟨0, 0, none⟩ = some (.int .i64 m)) {t : Tk} (hx : line s.data.toList 1 = .ok [t]) (hk : (t.kind == 4) = false) :
    Calls Try.prog 9 #[.string s] w fun e w' => e = .returned (.bool false) ∧ Tch No w w' := by
  have hL := line_any s 1 w m hs hm
  rw [show ((1 : Nat) : Int) = 1 from rfl, hx] at hL
  replace hL : Calls Try.prog 11 #[.string s, .int .i64 1] w (LinePost w (.ok [t])) := hL
  replace hL := Lib.hid hL
  replace hx := Lib.hid hx
  go_enter Try.func9, Try.ntmps9
  go_wp2_with (first
    | (go_at_call 11; refine hL.out.mono ?_; rintro e5 w4 ⟨O, E, rfl, ⟨hrow, rfl⟩, t4⟩; obtain ⟨oo, oc, rfl⟩ := ownsRow_shape hrow; obtain ⟨g, rfl, hg, c0, c1, c2, c3, c4⟩ := tk_cells hrow (i := 0) rfl; simp only [Nat.zero_mul, Nat.zero_add] at c0 c1 c2 c3 c4; replace hrow := Lib.hid hrow; replace t4 := Lib.hid t4; skip)
    | fail)
  go_ret
  exact ⟨rfl, t4.out⟩
theorem plain_quot (s : ByteArray) (w : World) (m : Int) (hs : s.size < 4294967281) (hm : w.cell? ⟨0, 0, none⟩ = some (.int .i64 m)) {t : Tk} (hx : line s.data.toList 1 = .ok [t]) (hk : (t.kind == 4) = true) (hq : t.quoted = true) :
    Calls Try.prog 9 #[.string s] w fun e w' => e = .returned (.bool false) ∧ Tch No w w' := by
  have hL := line_any s 1 w m hs hm
  rw [show ((1 : Nat) : Int) = 1 from rfl, hx] at hL
  replace hL : Calls Try.prog 11 #[.string s, .int .i64 1] w (LinePost w (.ok [t])) := hL
  replace hL := Lib.hid hL
  replace hx := Lib.hid hx
  go_enter Try.func9, Try.ntmps9
  go_wp2_with (first
    | (go_at_call 11; refine hL.out.mono ?_; rintro e5 w4 ⟨O, E, rfl, ⟨hrow, rfl⟩, t4⟩; obtain ⟨oo, oc, rfl⟩ := ownsRow_shape hrow; obtain ⟨g, rfl, hg, c0, c1, c2, c3, c4⟩ := tk_cells hrow (i := 0) rfl; simp only [Nat.zero_mul, Nat.zero_add] at c0 c1 c2 c3 c4; replace hrow := Lib.hid hrow; replace t4 := Lib.hid t4; skip)
    | fail)
  go_ret
  exact ⟨rfl, t4.out⟩
theorem plain_text (s : ByteArray) (w : World) (m : Int) (hs : s.size < 4294967281) (hm : w.cell? ⟨0, 0, none⟩ = some (.int .i64 m)) {t : Tk} (hx : line s.data.toList 1 = .ok [t]) (hk : (t.kind == 4) = true) (hq : t.quoted = false) {T : ByteArray} (hT : Hid (T = ⟨t.text.toArray⟩)) (hne : (T.toList == s.toList) = false) :
    Calls Try.prog 9 #[.string s] w fun e w' => e = .returned (.bool false) ∧ Tch No w w' := by
  have hL := line_any s 1 w m hs hm
  rw [show ((1 : Nat) : Int) = 1 from rfl, hx] at hL
  replace hL : Calls Try.prog 11 #[.string s, .int .i64 1] w (LinePost w (.ok [t])) := hL
  replace hL := Lib.hid hL
  replace hx := Lib.hid hx
  go_enter Try.func9, Try.ntmps9
  go_wp2_with (first
    | (go_at_call 11; refine hL.out.mono ?_; rintro e5 w4 ⟨O, E, rfl, ⟨hrow, rfl⟩, t4⟩; obtain ⟨oo, oc, rfl⟩ := ownsRow_shape hrow; obtain ⟨g, rfl, hg, c0, c1, c2, c3, c4⟩ := tk_cells hrow (i := 0) rfl; simp only [Nat.zero_mul, Nat.zero_add] at c0 c1 c2 c3 c4; replace hrow := Lib.hid hrow; replace t4 := Lib.hid t4; rw [← hT.out] at c3)
    | fail)
  go_ret
  exact ⟨rfl, t4.out⟩
theorem plain_yes (s : ByteArray) (w : World) (m : Int) (hs : s.size < 4294967281) (hm : w.cell? ⟨0, 0, none⟩ = some (.int .i64 m)) {t : Tk} (hx : line s.data.toList 1 = .ok [t]) (hk : (t.kind == 4) = true) (hq : t.quoted = false) (hT : Hid (s = ⟨t.text.toArray⟩)) :
    Calls Try.prog 9 #[.string s] w fun e w' => e = .returned (.bool true) ∧ Tch No w w' := by
  have hL := line_any s 1 w m hs hm
  rw [show ((1 : Nat) : Int) = 1 from rfl, hx] at hL
  replace hL : Calls Try.prog 11 #[.string s, .int .i64 1] w (LinePost w (.ok [t])) := hL
  replace hL := Lib.hid hL
  replace hx := Lib.hid hx
  go_enter Try.func9, Try.ntmps9
  go_wp2_with (first
    | (go_at_call 11; refine hL.out.mono ?_; rintro e5 w4 ⟨O, E, rfl, ⟨hrow, rfl⟩, t4⟩; obtain ⟨oo, oc, rfl⟩ := ownsRow_shape hrow; obtain ⟨g, rfl, hg, c0, c1, c2, c3, c4⟩ := tk_cells hrow (i := 0) rfl; simp only [Nat.zero_mul, Nat.zero_add] at c0 c1 c2 c3 c4; replace hrow := Lib.hid hrow; replace t4 := Lib.hid t4; rw [← hT.out] at c3)
    | fail)
  go_ret
  exact ⟨rfl, t4.out⟩
theorem plain_call (s : ByteArray) (w : World) (m : Int) (hs : s.size < 4294967281) (hm : w.cell? ⟨0, 0, none⟩ = some (.int .i64 m)) :
    Calls Try.prog 9 #[.string s] w fun e w' => e = .returned (.bool (plainB s.data.toList)) ∧ Tch No w w' := by
  unfold plainB
  cases hx : line s.data.toList 1 with
  | error e => exact plain_err s w m hs hm hx
  | ok ts =>
    match ts, hx with
    | [], hx => exact plain_many s w m hs hm hx (by decide)
    | [t], hx =>
      dsimp only
      by_cases hk : t.kind = 4
      · have hk2 : (t.kind == 4) = true := beq_iff_eq.2 hk
        cases hq : t.quoted with
        | true => rw [decide_eq_true hk]; exact plain_quot s w m hs hm hx hk2 hq
        | false =>
          by_cases ht : t.text = s.data.toList
          · rw [decide_eq_true hk, decide_eq_true ht]
            exact plain_yes s w m hs hm hx hk2 hq (Lib.hid (by rw [ht]))
          · rw [decide_eq_true hk, decide_eq_false ht]
            exact plain_text s w m hs hm hx hk2 hq (T := ⟨t.text.toArray⟩) (Lib.hid rfl) (by
              rw [beq_eq_false_iff_ne, ne_eq, Lib.toList_data, Lib.toList_data]
              intro e
              exact ht e)
      · rw [decide_eq_false hk]
        exact plain_kind s w m hs hm hx (beq_eq_false_iff_ne.2 hk)
    | _ :: _ :: r, hx => exact plain_many s w m hs hm hx (by simp)
end Go.Proofs.Ytabgckjokniooaa
