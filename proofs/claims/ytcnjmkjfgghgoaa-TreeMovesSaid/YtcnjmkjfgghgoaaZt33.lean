/- ints, nodes, trees: what reads alike is told to be the same. -/
import Derived.Test.YtcnjmkjfgghgoaaZt9
import Derived.Deep.QuietTactic
import Derived.BigQuiet
section

namespace Go.Proofs.Ytcnjmkjfgghgoaa
open Go.RowKit Go.Mp Go.Tr
set_option linter.unusedVariables false
set_option maxRecDepth 100000
set_option maxHeartbeats 1000000
def IntsR (w : World) (v : Value) (ks : List Int) : Prop := ∃ ao cap, v = .slice ao ks.length cap ∧ ∀ i k, ks[i]? = some k → ∃ g off, ao = some ⟨g, off, none⟩ ∧ w.cell? ⟨g, off + i, none⟩ = some (.int .i64 k)
def NodesR (w : World) (v : Value) (N : List Nd) : Prop := ∃ ao cap, v = .slice ao N.length cap ∧ ∀ i n, N[i]? = some n → ∃ g off ko kc, ao = some ⟨g, off, none⟩ ∧ w.cell? ⟨g, off + i * 6, none⟩ = some (.int .i64 n.kind) ∧ w.cell? ⟨g, off + i * 6 + 1, none⟩ = some (.string n.key) ∧ w.cell? ⟨g, off + i * 6 + 2, none⟩ = some (.string n.text) ∧
  w.cell? ⟨g, off + i * 6 + 3, none⟩ = some (.bool n.quoted) ∧ w.cell? ⟨g, off + i * 6 + 4, none⟩ = some (.int .i64 n.line) ∧ w.cell? ⟨g, off + i * 6 + 5, none⟩ = some (.slice ko n.kids.length kc) ∧ IntsR w (.slice ko n.kids.length kc) n.kids
def TreesR (w : World) (v : Value) (Ts : List (List Nd)) : Prop := ∃ ao cap, v = .slice ao Ts.length cap ∧ ∀ i N, Ts[i]? = some N → ∃ g off no nc, ao = some ⟨g, off, none⟩ ∧ w.cell? ⟨g, off + i, none⟩ = some (.slice no N.length nc) ∧ NodesR w (.slice no N.length nc) N
theorem quiet_add {P : Program} {f : FuncId} {args : Array Value} {w : World} {q n : Nat} {v : Value} (h : Calls P f args (w.drewN (q + n)) fun e w' => e = .returned v ∧ ∃ m, w' = (w.drewN (q + n)).drewN m) : Calls P f args (w.drewN (q + n)) fun e w'' => e = .returned v ∧ ∃ m, w'' = w.drewN (q + m) :=
  h.mono fun _ _ ⟨he, m, hm⟩ => ⟨he, n + m, by rw [hm, World.drewN_drewN, Nat.add_assoc]⟩
theorem ints_same {w : World} {v u : Value} {ks : List Int} (hv : IntsR w v ks) (hu : IntsR w u ks) (hl : ks.length < 8796093022208) : Calls Try.prog 44 #[v, u] w fun e w' => e = .returned (.bool true) ∧ ∃ q, w' = w.drewN q := by
  obtain ⟨ao, ac, rfl, ha⟩ := hv
  obtain ⟨bo, bc, rfl, hb⟩ := hu
  replace ha := Lib.hid ha
  replace hb := Lib.hid hb
  replace hl := Lib.hid hl
  go_enter Try.func44, Try.ntmps44
  go_wp2
  go_loopg [5] (ks.length + 1) (fun gg iv wr => ∃ i q : Nat, gg = ks.length - i + 1 ∧ iv = .int .i64 i ∧ wr = w.drewN q ∧ i ≤ ks.length)
  case atStart => exact ⟨0, 0, rfl, rfl, rfl, Nat.zero_le _⟩
  case round =>
    obtain ⟨i, q, rfl, rfl, rfl, hi⟩ := hrel
    by_cases hlt : i < ks.length
    · have k0 := nn_lt hlt
      have hx := List.getElem?_eq_getElem hlt
      generalize ks[i] = k at *
      obtain ⟨g1, o1, rfl, c1⟩ := ha.out i k hx
      obtain ⟨g2, o2, rfl, c2⟩ := hb.out i k hx
      have c1' : (w.drewN q).cell? ⟨g1, o1 + i, none⟩ = some (.int .i64 k) := c1
      have c2' : (w.drewN q).cell? ⟨g2, o2 + i, none⟩ = some (.int .i64 k) := c2
      have hwk := nn_succ hlt hl.out
      replace hx := Lib.hid hx
      replace hi := Lib.hid hi
      go_upto_region 6 with fail
      go_quiet (fail)
      go_wp2
      go_roundg (ks.length - (i + 1) + 1)
      case rel => exact ⟨i + 1, q + nq, rfl, by rw [hwk], rfl, hlt⟩
      case measure => exact Nat.succ_lt_succ (nn_sub hlt)
    · have k0 := nn_ge hlt
      have k1 : decide (i < ks.length) = false := decide_eq_false hlt
      replace hi := Lib.hid hi
      replace hlt := Lib.hid hlt
      go_wp2
      go_ret
      exact ⟨rfl, q, rfl⟩
def Slim (N : List Nd) : Prop := N.length < 8796093022208 ∧ ∀ (i : Nat) (n : Nd), N[i]? = some n → n.kids.length < 8796093022208
theorem nodes_same {w : World} {v u : Value} {N : List Nd} (hv : NodesR w v N) (hu : NodesR w u N) (hl : Slim N) : Calls Try.prog 30 #[v, u] w fun e w' => e = .returned (.bool true) ∧ ∃ q, w' = w.drewN q := by
  obtain ⟨ao, ac, rfl, ha⟩ := hv
  obtain ⟨bo, bc, rfl, hb⟩ := hu
  replace ha := Lib.hid ha
  replace hb := Lib.hid hb
  replace hl := Lib.hid hl
  go_enter Try.func30, Try.ntmps30
  go_wp2
  go_loopg [5] (N.length + 1) (fun gg iv wr => ∃ i q : Nat, gg = N.length - i + 1 ∧ iv = .int .i64 i ∧ wr = w.drewN q ∧ i ≤ N.length)
  case atStart => exact ⟨0, 0, rfl, rfl, rfl, Nat.zero_le _⟩
  case round =>
    obtain ⟨i, q, rfl, rfl, rfl, hi⟩ := hrel
    by_cases hlt : i < N.length
    · have k0 := nn_lt hlt
      have hx := List.getElem?_eq_getElem hlt
      generalize N[i] = n at *
      obtain ⟨g1, o1, ko1, kc1, rfl, a0, a1, a2, a3, a4, a5, r1⟩ := ha.out i n hx
      obtain ⟨g2, o2, ko2, kc2, rfl, b0, b1, b2, b3, b4, b5, r2⟩ := hb.out i n hx
      have hks := Lib.hid (hl.out.2 i n hx)
      have hwk := nn_succ hlt hl.out.1
      replace hx := Lib.hid hx
      replace hi := Lib.hid hi
      replace r1 := Lib.hid r1
      replace r2 := Lib.hid r2
      go_upto_region 6 with fail
      go_quiet ((go_at_call 44; exact quiet_add (ints_same r1.out r2.out hks.out)))
      go_wp2
      go_roundg (N.length - (i + 1) + 1)
      case rel => exact ⟨i + 1, _, rfl, by rw [hwk], rfl, hlt⟩
      case measure => exact Nat.succ_lt_succ (nn_sub hlt)
    · have k0 := nn_ge hlt
      have k1 : decide (i < N.length) = false := decide_eq_false hlt
      replace hi := Lib.hid hi
      replace hlt := Lib.hid hlt
      go_wp2
      go_ret
      exact ⟨rfl, q, rfl⟩
theorem trees_same {w : World} {v u : Value} {Ts : List (List Nd)} (hv : TreesR w v Ts) (hu : TreesR w u Ts) (hl : Ts.length < 8796093022208) (hs : ∀ N ∈ Ts, Slim N) : Calls Try.prog 12 #[v, u] w fun e w' => e = .returned (.bool true) ∧ ∃ q, w' = w.drewN q := by
  obtain ⟨ao, ac, rfl, ha⟩ := hv
  obtain ⟨bo, bc, rfl, hb⟩ := hu
  replace ha := Lib.hid ha
  replace hb := Lib.hid hb
  replace hl := Lib.hid hl
  replace hs := Lib.hid hs
  go_enter Try.func12, Try.ntmps12
  go_wp2
  go_loopg [5] (Ts.length + 1) (fun gg iv wr => ∃ i q : Nat, gg = Ts.length - i + 1 ∧ iv = .int .i64 i ∧ wr = w.drewN q ∧ i ≤ Ts.length)
  case atStart => exact ⟨0, 0, rfl, rfl, rfl, Nat.zero_le _⟩
  case round =>
    obtain ⟨i, q, rfl, rfl, rfl, hi⟩ := hrel
    by_cases hlt : i < Ts.length
    · have k0 := nn_lt hlt
      have hx := List.getElem?_eq_getElem hlt
      have hm := Lib.hid (hs.out _ (List.getElem_mem hlt))
      generalize Ts[i] = N at *
      obtain ⟨g1, o1, no1, nc1, rfl, a0, r1⟩ := ha.out i N hx
      obtain ⟨g2, o2, no2, nc2, rfl, b0, r2⟩ := hb.out i N hx
      have hwk := nn_succ hlt hl.out
      have e1 : (w.drewN q).cell? ⟨g1, o1 + i, none⟩ = some (.slice no1 N.length nc1) := a0
      have e2 : (w.drewN q).cell? ⟨g2, o2 + i, none⟩ = some (.slice no2 N.length nc2) := b0
      replace hx := Lib.hid hx
      replace hi := Lib.hid hi
      replace r1 := Lib.hid r1
      replace r2 := Lib.hid r2
      go_upto_region 6 with fail
      go_quiet ((go_at_call 30; exact quiet_add (nodes_same r1.out r2.out hm.out)))
      go_wp2
      go_roundg (Ts.length - (i + 1) + 1)
      case rel => exact ⟨i + 1, _, rfl, by rw [hwk], rfl, hlt⟩
      case measure => exact Nat.succ_lt_succ (nn_sub hlt)
    · have k0 := nn_ge hlt
      have k1 : decide (i < Ts.length) = false := decide_eq_false hlt
      replace hi := Lib.hid hi
      replace hlt := Lib.hid hlt
      go_wp2
      go_ret
      exact ⟨rfl, q, rfl⟩
end Go.Proofs.Ytcnjmkjfgghgoaa
end
