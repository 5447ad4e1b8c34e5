/- The document's pool in memory: its relation; kept, without, unkeep, New, Counts. -/
import Derived.Test.YtpebcamnmeppaaaRef
namespace Go.Proofs.Ytpebcamnmeppaaa
open Go.RowKit Go.Mp Go.Po
set_option linter.unusedVariables false
structure RM (w : World) (B : Nat) (F : Nat → Prop) (q : Nat) (s : St) (vb vf vk : Value) : Prop where
  hq : w.heap[q]? = some (.cells #[.int .i64 s.most, .int .i64 s.wait, vb, vf, vk] 66)
  rb : w.ownsRow B 77 3 vb s.busy.length (ccs s.busy)
  rf : w.ownsRow B 77 3 vf s.free.length (ccs s.free)
  rk : w.ownsRow B 9 1 vk s.kept.length (scs s.kept)
  bf : ∀ g, vb.ownBlock = some g → vf.ownBlock ≠ some g
  own : F q ∧ (∀ g, vb.ownBlock = some g → F g) ∧ (∀ g, vf.ownBlock = some g → F g) ∧ (∀ g, vk.ownBlock = some g → F g)
  lt : ∀ k, F k → B ≤ k ∧ k < w.heap.size
def RefM (w : World) (B : Nat) (F : Nat → Prop) (q : Nat) (s : St) : Prop := ∃ vb vf vk, RM w B F q s vb vf vk
def RPost (w : World) (B : Nat) (F : Nat → Prop) (q : Nat) (s' : St) (w' : World) : Prop := ∃ F', RefM w' B F' q s' ∧ Tch F w w' ∧ ∀ k, F' k → F k ∨ w.heap.size ≤ k
theorem row_block {w : World} {base e size n : Nat} {v : Value} {xs : List Value} (h : w.ownsRow base e size v n xs) {g : Nat} (hg : v.ownBlock = some g) : ∃ cur, w.heap[g]? = some (.cells cur e (0, 0)) := by
  rcases h.2 with ⟨rfl, _⟩ | ⟨g', cap, cur, rfl, _, hc, _⟩
  · cases hg
  · cases hg; exact ⟨cur, hc⟩
section
variable {w w' : World} {B : Nat} {F S : Nat → Prop} {q : Nat} {s : St} {vb vf vk : Value}
theorem RM.tch (h : RM w B F q s vb vf vk) (t : Tch S w w') (hn : ∀ k, F k → ¬ S k) : RM w' B F q s vb vf vk :=
  ⟨(t.block q (h.lt q h.own.1).2 (hn q h.own.1)).trans h.hq, ownsRow_tch h.rb t (fun g hg => hn g (h.own.2.1 g hg)), ownsRow_tch h.rf t (fun g hg => hn g (h.own.2.2.1 g hg)), ownsRow_tch h.rk t (fun g hg => hn g (h.own.2.2.2 g hg)), h.bf, h.own, fun k hk => ⟨(h.lt k hk).1, Nat.lt_of_lt_of_le (h.lt k hk).2 t.size⟩⟩
theorem RefM.tch (h : RefM w B F q s) (t : Tch S w w') (hn : ∀ k, F k → ¬ S k) : RefM w' B F q s := by
  obtain ⟨vb, vf, vk, h⟩ := h
  exact ⟨vb, vf, vk, h.tch t hn⟩
/-- None of the rows is the pool's own block, nor the list of texts one of connections. -/
theorem RM.nq (h : RM w B F q s vb vf vk) : vb.ownBlock ≠ some q ∧ vf.ownBlock ≠ some q ∧ vk.ownBlock ≠ some q := by
  refine ⟨fun hg => ?_, fun hg => ?_, fun hg => ?_⟩
  · obtain ⟨cur, hc⟩ := row_block h.rb hg; rw [h.hq] at hc; cases hc
  · obtain ⟨cur, hc⟩ := row_block h.rf hg; rw [h.hq] at hc; cases hc
  · obtain ⟨cur, hc⟩ := row_block h.rk hg; rw [h.hq] at hc; cases hc
theorem RM.nk (h : RM w B F q s vb vf vk) : ∀ g, vk.ownBlock = some g → vb.ownBlock ≠ some g ∧ vf.ownBlock ≠ some g := fun g hg => by
  obtain ⟨cur, hc⟩ := row_block h.rk hg
  refine ⟨fun hg' => ?_, fun hg' => ?_⟩
  · obtain ⟨cur', hc'⟩ := row_block h.rb hg'; rw [hc] at hc'; cases hc'
  · obtain ⟨cur', hc'⟩ := row_block h.rf hg'; rw [hc] at hc'; cases hc'
end
theorem rpost_same {w w' : World} {B : Nat} {F : Nat → Prop} {q : Nat} {s : St} (h : RefM w B F q s) (t : Tch No w w') : RPost w B F q s w' := ⟨F, h.tch t (fun _ _ h => h), t.mono (fun _ h => h.elim), fun _ h => .inl h⟩
/-! ### kept -/
theorem srow_at {w : World} {base n cap : Nat} {ao : Option Addr} {l : List ByteArray} (h : w.ownsRow base 9 1 (.slice ao n cap) l.length (scs l)) {k : Nat} {x : ByteArray} (hx : l[k]? = some x) : ∃ g, ao = some ⟨g, 0, none⟩ ∧ w.cell? ⟨g, k, none⟩ = some (.string x) := by
  have hk := (List.getElem?_eq_some_iff.1 hx).1
  rcases h.2 with ⟨h0, h1⟩ | ⟨g', cp, cur, h0, r⟩
  · omega
  · simp only [Value.slice.injEq] at h0
    obtain ⟨rfl, hm, rfl⟩ := h0
    subst hm
    refine ⟨g', rfl, ?_⟩
    rw [h.cellAt k (by omega)]
    simp [scs, hx]
theorem kof_take_succ {l : List ByteArray} {k : Nat} {x : ByteArray} (hx : l[k]? = some x) (e : ByteArray) : kof (l.take (k + 1)) e = kof (l.take k) e + if x = e then 1 else 0 := by
  rw [List.take_add_one, hx, kof_append]
  show _ + kof [x] e = _
  rw [kof_one]
theorem kept_ref {w : World} {B : Nat} {F : Nat → Prop} {q : Nat} {s : St} (h : RefM w B F q s) (hl : s.kept.length < 8796093022208) (e : ByteArray) : Calls Try.prog 34 #[.pointer (some ⟨q, 0, none⟩), .string e] w fun e' w' => e' = .returned (.int .i64 (kof s.kept e)) ∧ w = w' := by
  obtain ⟨vb, vf, vk, h⟩ := h
  obtain ⟨ao, cap, rfl⟩ := ownsRow_shape h.rk
  have c4 : w.cell? ⟨q, 4, none⟩ = some (.slice ao s.kept.length cap) := (cell_of_row _ _ 4 _ _ _ h.hq).trans rfl
  have hrk := h.rk
  clear h
  generalize s.kept = l at *
  replace hrk := Lib.hid hrk
  go_enter Try.func34, Try.ntmps34
  go_wp2
  go_loopg [5, 6] l.length (fun gg nc kc wr => ∃ k : Nat, k ≤ l.length ∧ gg = l.length - k ∧ kc = .int .i64 k ∧ nc = .int .i64 (kof (l.take k) e) ∧ w = wr)
  case atStart => exact ⟨0, by omega, by omega, rfl, by simp [kof], rfl⟩
  case round =>
    obtain ⟨k, hk, rfl, rfl, rfl, rfl⟩ := hrel
    by_cases hkl : k < l.length
    · have hx := List.getElem?_eq_getElem hkl
      obtain ⟨g, rfl, d0⟩ := srow_at hrk.out hx
      have k0 := nn_lt hkl
      have hst := kof_take_succ hx e
      have hle : kof (l.take k) e ≤ k := Nat.le_trans List.countP_le_length (by rw [List.length_take]; omega)
      generalize l[k] = c at *
      by_cases hep : c = e
      · have hs0 : (c.toList == e.toList) = true := by rw [hep]; simp
        rw [if_pos hep] at hst
        have hwo : wrap64 ((kof (l.take k) e : Int) + 1) = ((kof (l.take k) e + 1 : Nat) : Int) := by unfold wrap64; omega
        replace hx := Lib.hid hx
        replace hst := Lib.hid hst
        replace hep := Lib.hid hep
        replace hwo := Lib.hid hwo
        go_wp2
        go_roundg (l.length - (k + 1))
        case rel => exact ⟨k + 1, hkl, rfl, by first | rfl | rw [nn_succ hkl hl] | (push_cast; rfl), by rw [hst.out]; first | rfl | rw [hwo.out] | (push_cast; rfl), rfl⟩
        case measure => exact nn_sub hkl
      · have hs0 : (c.toList == e.toList) = false := by
          rw [beq_eq_false_iff_ne]
          exact fun h => hep (bytes_of_toList h)
        rw [if_neg hep, Nat.add_zero] at hst
        replace hx := Lib.hid hx
        replace hst := Lib.hid hst
        replace hep := Lib.hid hep
        go_wp2
        go_roundg (l.length - (k + 1))
        case rel => exact ⟨k + 1, hkl, rfl, by first | rfl | rw [nn_succ hkl hl] | (push_cast; rfl), by rw [hst.out]; rfl, rfl⟩
        case measure => exact nn_sub hkl
    · have hke := nn_eq hk hkl
      have k0 := nn_ge hkl
      replace hke := Lib.hid hke
      go_wp2
      go_ret
      rw [hke.out, List.take_length]
      exact ⟨rfl, rfl⟩
/-! ### New -/
theorem rnew_bad {w : World} (most wait : Int) (h : most < 1 ∨ 64 < most ∨ wait < 0) : Calls Try.prog 17 #[.int .i64 most, .int .i64 wait] w fun e' w' => e' = .returned (.tuple #[.pointer none, .int .i64 2]) ∧ w' = w := by
  by_cases h1 : most < 1
  · have k1 : decide (most < 1) = true := decide_eq_true h1
    clear h
    go_enter Try.func17, Try.ntmps17
    go_wp2
    go_ret2
    exact ⟨rfl, rfl⟩
  · have k1 : decide (most < 1) = false := decide_eq_false h1
    by_cases h2 : 64 < most
    · have k2 : decide (64 < most) = true := decide_eq_true h2
      clear h
      go_enter Try.func17, Try.ntmps17
      go_wp2
      go_ret2
      exact ⟨rfl, rfl⟩
    · have k2 : decide (64 < most) = false := decide_eq_false h2
      have h3 : wait < 0 := by omega
      have k3 : decide (wait < 0) = true := decide_eq_true h3
      clear h
      go_enter Try.func17, Try.ntmps17
      go_wp2
      go_ret2
      exact ⟨rfl, rfl⟩
theorem rnew_any {w : World} (most wait : Int) (h : 1 ≤ most ∧ most ≤ 64 ∧ 0 ≤ wait) : Calls Try.prog 17 #[.int .i64 most, .int .i64 wait] w fun e' w' => ∃ q F, e' = .returned (.tuple #[.pointer (some ⟨q, 0, none⟩), .int .i64 0]) ∧ RefM w' w.heap.size F q (St0 most wait) ∧ Below w.heap.size w w' := by
  have k1 : decide (most < 1) = false := decide_eq_false (by omega)
  have k2 : decide (64 < most) = false := decide_eq_false (by omega)
  have k3 : decide (wait < 0) = false := decide_eq_false (by omega)
  clear h
  go_enter Try.func17, Try.ntmps17
  go_wp2
  go_ret2
  refine ⟨w.heap.size, fun k => k = w.heap.size, rfl, ⟨.slice none 0 0, .slice none 0 0, .slice none 0 0, ⟨heap_alloc_new w _, World.ownsRow_nil _ _ _ _, World.ownsRow_nil _ _ _ _, World.ownsRow_nil _ _ _ _, (fun _ h => by cases h), ⟨rfl, (fun _ h => by cases h), (fun _ h => by cases h), (fun _ h => by cases h)⟩, fun k hk => ⟨by omega, by simp; omega⟩⟩⟩, (Below.refl _ _).alloc (Nat.le_refl _) _⟩
end Go.Proofs.Ytpebcamnmeppaaa
