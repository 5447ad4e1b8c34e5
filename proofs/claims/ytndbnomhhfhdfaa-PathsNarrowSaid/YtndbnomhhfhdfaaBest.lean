/- The walk of paths.Best: the first of the patterns that take a host. -/
import Derived.Test.YtndbnomhhfhdfaaLaw
import Derived.Test.YtndbnomhhfhdfaaOrder
namespace Go.Proofs.Ytndbnomhhfhdfaa
open Go.ChangeShapes Go.WideShapes Go.ChangeAt Go.RowKit
open Go.Pa
set_option linter.unusedVariables false

/-- The value is a slice of texts that reads as the list (a nil one as the empty list). -/
def RdS (w : World) (v : Value) (ss : List ByteArray) : Prop :=
  ∃ ao cap, v = .slice ao ss.length cap ∧ (ss = [] ∨ ∃ b off, ao = some ⟨b, off, none⟩ ∧ b < w.heap.size ∧ ∀ i, i < ss.length → w.cell? ⟨b, off + i, none⟩ = some (.string (ss.getD i ByteArray.empty)))
theorem RdS.below {w w' : World} {v : Value} {ss : List ByteArray} (h : RdS w v ss) (hb : Below w.heap.size w w') : RdS w' v ss := by
  obtain ⟨ao, cap, rfl, h⟩ := h
  refine ⟨ao, cap, rfl, ?_⟩
  rcases h with h | ⟨b, off, rfl, hb', hc⟩
  · exact .inl h
  · exact .inr ⟨b, off, rfl, Nat.lt_of_lt_of_le hb' hb.size, fun i hi => (hb.cell (by exact hb')).trans (hc i hi)⟩
def bl (ss : List ByteArray) : List Bs := ss.map fun s => s.data.toList
theorem bl_at (ss : List ByteArray) (k : Nat) : (bl ss).getD k [] = (ss.getD k ByteArray.empty).data.toList := by
  unfold bl
  rw [List.getD, List.getD, List.getElem?_map]
  cases ss[k]? <;> rfl
theorem size_at {ss : List ByteArray} (h : ∀ s ∈ ss, s.size ≤ maxLen) (k : Nat) : (ss.getD k ByteArray.empty).size ≤ maxLen := by
  rw [List.getD]
  cases hk : ss[k]? with
  | none => exact Nat.zero_le _
  | some s => exact h s (List.mem_of_getElem? hk)
def BestPost (ss : List ByteArray) (name : ByteArray) (w : World) (e : Ending) (w' : World) : Prop := ∃ (i : Nat) (f : Bool), e = .returned (.tuple #[.int .i64 i, .bool f]) ∧ BestIs (bl ss) name.data.toList ss.length i f ∧ Below w.heap.size w w'

set_option maxHeartbeats 4000000 in
theorem best25 (ss : List ByteArray) (hss : ∀ s ∈ ss, s.size ≤ maxLen) (name : ByteArray) (hn : name.size ≤ maxLen) (v : Value) (w : World) (hrd : RdS w v ss) (hlen : ss.length ≤ 100000000000000) :
    Calls Try.prog 25 #[v, .string name] w (BestPost ss name w) := by
  obtain ⟨ao, cap, rfl, hr⟩ := hrd
  replace hr := Lib.hid hr
  go_enter Try.func25, Try.ntmps25
  go_wp2
  go_loopg [6, 7, 12] ss.length (fun g bv fv ic wr => ∃ (k i : Nat) (f : Bool), k ≤ ss.length ∧ g = ss.length - k ∧ ic = .int .i64 k ∧ bv = .int .i64 i ∧ fv = .bool f ∧ BestIs (bl ss) name.data.toList k i f ∧ Below w.heap.size w wr)
  case atStart => exact ⟨0, 0, false, by omega, rfl, rfl, rfl, rfl, .inl ⟨rfl, rfl, fun k hk => by omega⟩, Below.refl _ _⟩
  case round =>
    obtain ⟨k, i, f, hk, rfl, rfl, rfl, rfl, hB, hbel⟩ := hrel
    by_cases hlt : k < ss.length
    · obtain ⟨b, off, hao, hbw, hc⟩ := hr.out.resolve_left (by rintro rfl; simp at hlt)
      subst hao
      have hk0 : (k : Int) < (ss.length : Int) := by omega
      have hck : wr.cell? ⟨b, off + k, none⟩ = some (.string (ss.getD k ByteArray.empty)) := (hbel.cell (by exact hbw)).trans (hc k hlt)
      obtain ⟨p, hp⟩ : ∃ p, p = ss.getD k ByteArray.empty := ⟨_, rfl⟩
      rw [← hp] at hck
      have hpl : (bl ss).getD k [] = p.data.toList := by rw [bl_at, ← hp]
      have hps : p.size ≤ maxLen := by rw [hp]; exact size_at hss k
      have hcall := host19 p name wr hps hn
      generalize htk : hostTakes p.data.toList name.data.toList = t at *
      have hsk := fun h2 => best_skip (n := k) hB h2
      have htake := fun h1 h2 => best_take (n := k) hB h1 h2
      rw [hpl, htk] at hsk htake
      replace hcall := Lib.hid hcall
      cases t with
      | false =>
        have hB2 := Lib.hid (hsk (.inl rfl))
        clear hc hB hp hpl hsk htake htk hps
        go_wp2_with fail
        refine hcall.out.mono ?_
        rintro e w1 ⟨rfl, hb1⟩
        have hbel2 := Lib.hid (Tp.Below_seq hbel hb1)
        clear hbel hb1 hcall
        go_wp2
        go_roundg (ss.length - (k + 1))
        case measure => omega
        case rel => exact ⟨k + 1, i, f, by omega, rfl, by go_num, rfl, rfl, hB2.out, hbel2.out⟩
      | true =>
        cases f with
        | false =>
          have hB2 := Lib.hid (htake rfl (.inl rfl))
          clear hc hB hp hpl hsk htake htk hps
          go_wp2_with fail
          refine hcall.out.mono ?_
          rintro e w1 ⟨rfl, hb1⟩
          have hbel2 := Lib.hid (Tp.Below_seq hbel hb1)
          clear hbel hb1 hcall
          go_wp2
          go_roundg (ss.length - (k + 1))
          case measure => omega
          case rel => exact ⟨k + 1, k, true, by omega, rfl, by go_num, rfl, rfl, hB2.out, hbel2.out⟩
        | true =>
          have hi : i < ss.length := by
            rcases hB with ⟨h, _⟩ | ⟨_, h⟩
            · cases h
            · have := h.lt; omega
          have hi0 : (i : Int) < (ss.length : Int) := by omega
          have hci := hc i hi
          obtain ⟨q, hq⟩ : ∃ q, q = ss.getD i ByteArray.empty := ⟨_, rfl⟩
          rw [← hq] at hci
          have hql : (bl ss).getD i [] = q.data.toList := by rw [bl_at, ← hq]
          have hqs : q.size ≤ maxLen := by rw [hq]; exact size_at hss i
          have hord := fun w => order33 p q w hps hqs
          rw [hql] at hsk htake
          generalize orderH p.data.toList q.data.toList = o at *
          replace hord := Lib.hid hord
          have hci0 := Lib.hid hci
          by_cases ho : o < 0
          · have hB2 := Lib.hid (htake rfl (.inr ho))
            clear hc hB hp hpl hsk htake htk hps hq hql hqs hci
            go_wp2_with fail
            refine hcall.out.mono ?_
            rintro e w1 ⟨rfl, hb1⟩
            have hbel2 := Tp.Below_seq hbel hb1
            have hci1 : w1.cell? ⟨b, off + i, none⟩ = some (.string q) := (hbel2.cell (by exact hbw)).trans hci0.out
            replace hbel2 := Lib.hid hbel2
            have ho1 := Lib.hid (hord.out w1)
            clear hbel hb1 hcall
            go_wp2_with fail
            refine ho1.out.mono ?_
            rintro e w2 ⟨rfl, hb2⟩
            have hbel3 := Lib.hid (Tp.Below_seq hbel2.out hb2)
            clear hb2 hbel2
            go_wp2
            go_roundg (ss.length - (k + 1))
            case measure => omega
            case rel => exact ⟨k + 1, k, true, by omega, rfl, by go_num, rfl, rfl, hB2.out, hbel3.out⟩
          · have hB2 := Lib.hid (hsk (.inr ⟨rfl, by omega⟩))
            have ho' : 0 ≤ o := by omega
            clear hc hB hp hpl hsk htake htk hps hq hql hqs hci
            go_wp2_with fail
            refine hcall.out.mono ?_
            rintro e w1 ⟨rfl, hb1⟩
            have hbel2 := Tp.Below_seq hbel hb1
            have hci1 : w1.cell? ⟨b, off + i, none⟩ = some (.string q) := (hbel2.cell (by exact hbw)).trans hci0.out
            replace hbel2 := Lib.hid hbel2
            have ho1 := Lib.hid (hord.out w1)
            clear hbel hb1 hcall
            go_wp2_with fail
            refine ho1.out.mono ?_
            rintro e w2 ⟨rfl, hb2⟩
            have hbel3 := Lib.hid (Tp.Below_seq hbel2.out hb2)
            clear hb2 hbel2
            go_wp2
            go_roundg (ss.length - (k + 1))
            case measure => omega
            case rel => exact ⟨k + 1, i, true, by omega, rfl, by go_num, rfl, rfl, hB2.out, hbel3.out⟩
    · obtain rfl : k = ss.length := by omega
      have hfin : BestPost ss name w (.returned (.tuple #[.int .i64 i, .bool f])) wr := ⟨i, f, rfl, hB, hbel⟩
      replace hfin := Lib.hid hfin
      clear hB hbel
      go_wp2
      go_ret2
      exact hfin.out
end Go.Proofs.Ytndbnomhhfhdfaa
