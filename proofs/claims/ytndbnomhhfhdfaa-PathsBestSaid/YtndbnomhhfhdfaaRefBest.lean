/- The walk of the document's Best: each pattern held against all. -/
import Derived.Test.YtndbnomhhfhdfaaOpen
import Derived.StillTailTactics
namespace Go.Proofs.Ytndbnomhhfhdfaa
open Go.ChangeShapes Go.WideShapes Go.ChangeAt Go.RowKit
open Go.Pa
set_option linter.unusedVariables false

/-- What bars pattern i: pattern k takes the host, and stands ahead of it. -/
def bars (l : List Bs) (h : Bs) (i k : Nat) : Prop := hostTakes (l.getD k []) h = true ∧ (orderH (l.getD k []) (l.getD i []) < 0 ∨ (orderH (l.getD k []) (l.getD i []) = 0 ∧ k < i))
theorem not_best_of_bar {l : List Bs} {h : Bs} {n i k : Nat} (hk : k < n) (hb : bars l h i k) : ¬ IsBest l h n i := by
  intro hB
  have := hB.least k hk hb.1
  rcases hb.2 with h1 | ⟨h1, h2⟩
  · omega
  · have := this.2 h1; omega
/-- What the inner loop has found out behind k patterns. -/
def Inner (l : List Bs) (h : Bs) (i k : Nat) (ok : Bool) : Prop := if ok then (hostTakes (l.getD i []) h = true ∧ ∀ j, j < k → ¬ bars l h i j) else ¬ IsBest l h l.length i
def OuterR (l : List Bs) (h : Bs) (i : Nat) : Prop := ∀ j, j < i → ¬ IsBest l h l.length j

set_option maxHeartbeats 8000000 in
theorem best26 (ss : List ByteArray) (hss : ∀ s ∈ ss, s.size ≤ maxLen) (name : ByteArray) (hn : name.size ≤ maxLen) (v : Value) (w : World) (hrd : RdS w v ss) (hlen : ss.length ≤ 100000000000000) :
    Calls Try.prog 26 #[v, .string name] w (BestPost ss name w) := by
  obtain ⟨ao, cap, rfl, hr⟩ := hrd
  replace hr := Lib.hid hr
  have hbl : (bl ss).length = ss.length := by unfold bl; simp
  replace hbl := Lib.hid hbl
  go_enter Try.func26, Try.ntmps26
  go_wp2
  go_loopg [6] ss.length (fun g ic wr => ∃ (i : Nat), i ≤ ss.length ∧ g = ss.length - i ∧ ic = .int .i64 i ∧ OuterR (bl ss) name.data.toList i ∧ Below w.heap.size w wr)
  case atStart => exact ⟨0, by omega, rfl, rfl, fun j hj => by omega, Below.refl _ _⟩
  case round =>
    obtain ⟨i, hi, rfl, rfl, hO, hbel⟩ := hrel
    replace hO := Lib.hid hO
    obtain ⟨wo, rfl⟩ : ∃ wo : World, wo = wr := ⟨_, rfl⟩
    by_cases hlt : i < ss.length
    · obtain ⟨b, off, hao, hbw, hc⟩ := hr.out.resolve_left (by rintro rfl; simp at hlt)
      subst hao
      replace hc := Lib.hid hc
      have hi0 : (i : Int) < (ss.length : Int) := by omega
      have hci : wo.cell? ⟨b, off + i, none⟩ = some (.string (ss.getD i ByteArray.empty)) := (hbel.cell (by exact hbw)).trans (hc.out i hlt)
      obtain ⟨p, hp⟩ : ∃ p, p = ss.getD i ByteArray.empty := ⟨_, rfl⟩
      rw [← hp] at hci
      have hpl : (bl ss).getD i [] = p.data.toList := by rw [bl_at, ← hp]
      have hps : p.size ≤ maxLen := by rw [hp]; exact size_at hss i
      have hcall := Lib.hid (host20 p name wo hps hn)
      replace hp := Lib.hid hp
      go_wp2_with fail
      refine hcall.out.mono ?_
      rintro e w1 ⟨rfl, hb1⟩
      have hbel1 := Tp.Below_seq hbel hb1
      have hI0 : Inner (bl ss) name.data.toList i 0 (hostTakes p.data.toList name.data.toList) := by
        unfold Inner
        rw [hpl]
        by_cases ht : hostTakes p.data.toList name.data.toList = true
        · rw [ht, if_pos rfl]; exact ⟨rfl, fun j hj => by omega⟩
        · rw [if_neg ht]; intro hB; have := hB.takes; rw [hpl] at this; exact ht this
      generalize hostTakes p.data.toList name.data.toList = t at *
      replace hI0 := Lib.hid hI0
      replace hpl := Lib.hid hpl
      clear hb1 hcall hbel hci
      go_wp2_with fail
      go_loopg [7, 8] ss.length (fun g ok kc wx => ∃ (k : Nat) (o : Bool), k ≤ ss.length ∧ g = ss.length - k ∧ kc = .int .i64 k ∧ ok = .bool o ∧ Inner (bl ss) name.data.toList i k o ∧ Below w.heap.size w wx)
      case atStart => exact ⟨0, t, by omega, rfl, rfl, rfl, hI0.out, hbel1⟩
      case round =>
        obtain ⟨k, o, hk, rfl, rfl, rfl, hI, hbx⟩ := hrel
        clear hI0 hbel1
        cases o with
        | true =>
          by_cases hlk : k < ss.length
          · obtain ⟨hti, hno⟩ := hI
            have hk0 : (k : Int) < (ss.length : Int) := by omega
            have hdk : decide ((k : Int) < (ss.length : Int)) = true := decide_eq_true hk0
            have hck0 := hc.out k hlk
            have hci0 := hc.out i hlt
            obtain ⟨q, hq⟩ : ∃ q, q = ss.getD k ByteArray.empty := ⟨_, rfl⟩
            rw [← hq] at hck0
            rw [← hp.out] at hci0
            have hck : wr.cell? ⟨b, off + k, none⟩ = some (.string q) := (hbx.cell (by exact hbw)).trans hck0
            have hci : wr.cell? ⟨b, off + i, none⟩ = some (.string p) := (hbx.cell (by exact hbw)).trans hci0
            have hql : (bl ss).getD k [] = q.data.toList := by rw [bl_at, ← hq]
            have hqs : q.size ≤ maxLen := by rw [hq]; exact size_at hss k
            have hord := order34 q p wr.drew hqs hps
            have htk := fun w => host20 q name w hqs hn
            have hbar : bars (bl ss) name.data.toList i k ↔ (hostTakes q.data.toList name.data.toList = true ∧ (orderH q.data.toList p.data.toList < 0 ∨ (orderH q.data.toList p.data.toList = 0 ∧ k < i))) := by unfold bars; rw [hql, hpl.out]
            generalize hostTakes q.data.toList name.data.toList = tk at *
            generalize orderH q.data.toList p.data.toList = oo at *
            have hyes : bars (bl ss) name.data.toList i k → Inner (bl ss) name.data.toList i (k + 1) false := fun hb => by
              unfold Inner; rw [if_neg (by simp)]; rw [hbl.out]; exact not_best_of_bar hlk hb
            have hnot : ¬ bars (bl ss) name.data.toList i k → Inner (bl ss) name.data.toList i (k + 1) true := fun hb => by
              unfold Inner; rw [if_pos rfl]
              refine ⟨hti, fun j hj => ?_⟩
              rcases Nat.lt_or_ge j k with h | h
              · exact hno j h
              · obtain rfl : j = k := by omega
                exact hb
            rw [hbar] at hyes hnot
            replace hord := Lib.hid hord
            replace htk := Lib.hid htk
            replace hyes := Lib.hid hyes
            replace hnot := Lib.hid hnot
            replace hck0 := Lib.hid hck0
            clear hti hno hbar hq hql hqs hci0
            go_wp2_with fail
            go_still_tail 8, (by kernel_rfl)
            change wpList _ _ _ _ _ wr.drew
            go_wp2_with fail
            refine hord.out.mono ?_
            rintro e w3 ⟨rfl, hb3⟩
            have hbel3 : Below w.heap.size w w3 := Tp.Below_seq (below_drewN hbx 1) hb3
            have hck3 : w3.cell? ⟨b, off + k, none⟩ = some (.string q) := (hbel3.cell (by exact hbw)).trans hck0.out
            have hcall3 := Lib.hid (htk.out w3)
            clear hb3 hord hck hci hbx
            go_wp2_with fail
            refine hcall3.out.mono ?_
            rintro e w4 ⟨rfl, hb4⟩
            have hbel4 := Lib.hid (Tp.Below_seq hbel3 hb4)
            clear hb4 hcall3 hbel3 hck3
            cases tk with
            | false =>
              have hI2 := Lib.hid (hnot.out (by simp))
              clear hyes hnot
              go_wp2
              go_roundg (ss.length - (k + 1))
              case measure => omega
              case rel => exact ⟨k + 1, true, by omega, rfl, by go_num, rfl, hI2.out, hbel4.out⟩
            | true =>
              rcases (show oo < 0 ∨ (oo = 0 ∧ k < i) ∨ (oo = 0 ∧ ¬ k < i) ∨ 0 < oo from by omega) with h | ⟨h, h2⟩ | ⟨h, h2⟩ | h
              · have hI2 := Lib.hid (hyes.out ⟨rfl, .inl h⟩)
                clear hyes hnot
                go_wp2
                go_roundg (ss.length - (k + 1))
                case measure => omega
                case rel => exact ⟨k + 1, false, by omega, rfl, by go_num, rfl, hI2.out, hbel4.out⟩
              · subst h
                have hI2 := Lib.hid (hyes.out ⟨rfl, .inr ⟨rfl, h2⟩⟩)
                have h2' : (k : Int) < (i : Int) := by omega
                clear hyes hnot
                go_wp2
                go_roundg (ss.length - (k + 1))
                case measure => omega
                case rel => exact ⟨k + 1, false, by omega, rfl, by go_num, rfl, hI2.out, hbel4.out⟩
              · subst h
                have hI2 := Lib.hid (hnot.out (by rintro ⟨_, h | ⟨_, h⟩⟩; omega; exact h2 h))
                have h2' : (i : Int) ≤ (k : Int) := by omega
                clear hyes hnot
                go_wp2
                go_roundg (ss.length - (k + 1))
                case measure => omega
                case rel => exact ⟨k + 1, true, by omega, rfl, by go_num, rfl, hI2.out, hbel4.out⟩
              · have hI2 := Lib.hid (hnot.out (by rintro ⟨_, h' | ⟨h', _⟩⟩ <;> omega))
                have he0 : (oo == 0) = false := by simp; omega
                have hle : 0 ≤ oo := by omega
                clear hyes hnot
                go_wp2
                go_roundg (ss.length - (k + 1))
                case measure => omega
                case rel => exact ⟨k + 1, true, by omega, rfl, by go_num, rfl, hI2.out, hbel4.out⟩
          · have hB : BestIs (bl ss) name.data.toList ss.length i true := by
              obtain ⟨hti, hno⟩ := hI
              refine best_first hlt hti fun j hj => ?_
              exact hno j (by omega)
            have hfin : BestPost ss name w (.returned (.tuple #[.int .i64 i, .bool true])) wr := ⟨i, true, rfl, hB, hbx⟩
            replace hfin := Lib.hid hfin
            have hk0 : (ss.length : Int) ≤ (k : Int) := by omega
            have hdk : decide ((k : Int) < (ss.length : Int)) = false := by simp; omega
            clear hI hB hbx
            go_wp2
            go_ret2
            exact hfin.out
        | false =>
          have hO2 : OuterR (bl ss) name.data.toList (i + 1) := by
            intro j hj
            rcases Nat.lt_or_ge j i with h | h
            · exact hO.out j h
            · obtain rfl : j = i := by omega
              exact hI
          replace hO2 := Lib.hid hO2
          clear hI
          by_cases hlk : k < ss.length
          · have hdk : decide ((k : Int) < (ss.length : Int)) = true := by simp; omega
            go_wp2
            go_roundg (ss.length - (i + 1))
            case measure => omega
            case rel => exact ⟨i + 1, by omega, rfl, by go_num, hO2.out, hbx⟩
          · have hdk : decide ((k : Int) < (ss.length : Int)) = false := by simp; omega
            go_wp2
            go_roundg (ss.length - (i + 1))
            case measure => omega
            case rel => exact ⟨i + 1, by omega, rfl, by go_num, hO2.out, hbx⟩
    · have hB : BestIs (bl ss) name.data.toList ss.length 0 false := by
        obtain ⟨j, f, hB⟩ := best_exists (bl ss) name.data.toList ss.length
        rcases hB with ⟨rfl, rfl, h⟩ | ⟨rfl, h⟩
        · exact .inl ⟨rfl, rfl, h⟩
        · have h2 := hO.out j (by have := h.lt; omega)
          rw [hbl.out] at h2
          exact absurd h h2
      have hfin : BestPost ss name w (.returned (.tuple #[.int .i64 0, .bool false])) wo := ⟨0, false, rfl, hB, hbel⟩
      replace hfin := Lib.hid hfin
      clear hB hbel
      go_wp2
      go_ret2
      exact hfin.out
end Go.Proofs.Ytndbnomhhfhdfaa
