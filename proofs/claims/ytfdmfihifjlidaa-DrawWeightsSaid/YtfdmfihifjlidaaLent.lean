/- The walks of the law's own lent, kept and rises: any reals. -/
import Derived.Test.YtfdmfihifjlidaaReals
namespace Go.Proofs.Ytfdmfihifjlidaa
open Go.ChangeShapes Go.WideShapes Go.ChangeAt Go.RowKit

abbrev mark : Nat := 13858490847093325824
/-- What lent hands back: the reals in memory of its own, a mark behind them. -/
def LentIs (ws : List Nat) (base : Nat) (w : World) (v : Value) : Prop :=
  ∃ g cap, v = .slice (some ⟨g, 0, none⟩) ws.length cap ∧ w.ownsRow base 29 1 (.slice (some ⟨g, 0, none⟩) (ws.length + 1) cap) (ws.length + 1) ((ws ++ [mark]).map (Value.float .f64))
def LentPost (ws : List Nat) (W : World) (e : Ending) (w' : World) : Prop := ∃ v, e = .returned v ∧ LentIs ws W.heap.size w' v ∧ Below W.heap.size W w'

theorem LentIs.rdf {ws : List Nat} {base : Nat} {w : World} {v : Value} (h : LentIs ws base w v) : Tp.RdF w v ws := by
  obtain ⟨g, cap, rfl, hown⟩ := h
  refine ⟨_, cap, rfl, .inr ⟨g, 0, rfl, (hown.lt g rfl).2, fun i hi => ?_⟩⟩
  rw [Nat.zero_add, hown.cellAt i (by omega)]
  simp [List.getD, hi, List.getElem?_append_left]
theorem LentIs.below {ws : List Nat} {base : Nat} {w w' : World} {v : Value} (h : LentIs ws base w v) (hb : Below w.heap.size w w') : LentIs ws base w' v := by
  obtain ⟨g, cap, rfl, hown⟩ := h
  refine ⟨g, cap, rfl, hown.kept (row := none) ⟨hb.os, hb.tape, hb.output, hb.size, fun k hk _ => hb.block k hk⟩ (.inr (by simp [Value.ownBlock]))⟩

set_option maxHeartbeats 1000000 in
theorem lent_any (ws : List Nat) (v : Value) (w : World) (hv : Tp.RdF w v ws) (hlen : ws.length * 8 ≤ 140737488351232) :
    Calls Try.prog 22 #[v] w (LentPost ws w) := by
  obtain ⟨i0, hi, hz0, hz1, hz2⟩ := info_parts Try.info29
  have hv' := hv
  obtain ⟨ao, cap, rfl, _⟩ := hv'
  have hsrc := hv.src
  replace hsrc := Lib.hid hsrc
  clear hv
  go_enter Try.func22, Try.ntmps22
  have hl1 : 0 + ws.length ≤ maxLen := by unfold maxLen; omega
  have hl2 : (0 + ws.length) * 8 ≤ 140737488355328 := by omega
  have hl3 : ws.length + 1 ≤ maxLen := by unfold maxLen; omega
  have hl4 : (ws.length + 1) * 8 ≤ 140737488355328 := by omega
  have hl5 : ((ws.length : Int)) ≤ 9223372036854775807 := by omega
  go_wp2_with (first
    | (at_builtin; refine Tp.wpList_append_any rfl (.tmp 4) (.tmp 5) 47 rfl w.heap.size 29 i0 (.float .f64 0) 1 8 Try.underlying47 hi hz0 hz1 hz2 rfl (by decide) (.slice none 0 0) 0 [] rfl (World.ownsRow_nil _ _ _ _) ao ws.length cap (ws.map (Value.float .f64)) rfl (by simp) hsrc.out (by simp [Value.oneCell']) hl1 hl2 (Nat.le_refl _) ?_; intro v1 w1 hown1 hg1 _ hb1; replace hg1 := hg1.size; replace hb1 := Lib.hid (hb1 _ _ (Below.refl w.heap.size w) (Nat.le_refl _)); simp only [Nat.zero_add, List.nil_append] at hown1)
    | (at_builtin; refine Tp.wpList_append_one rfl (.tmp 6) (.tmp 7) 47 rfl w.heap.size 29 i0 (.float .f64 0) 8 Try.underlying47 hi hz0 hz1 hz2 rfl v1 ws.length (ws.map (Value.float .f64)) rfl hown1 1 rfl rfl hl3 hl4 hg1 ?_; intro v2 w2 hown2 hg2 hb2 hne2; replace hb2 := Lib.hid (hb2 _ _ hb1.out (Nat.le_refl _)); clear hg2; obtain ⟨g, capg, rfl, hcc, _⟩ := Tp.own_shape hown2 hne2; clear hne2))
  go_ret
  refine ⟨_, rfl, ⟨g, capg, rfl, ?_⟩, hb2.out⟩
  rw [List.map_append]
  exact hown2

def RisesPost (w : World) (e : Ending) (w' : World) : Prop := (∃ b, e = .returned (.bool b)) ∧ w = w'
theorem rises_some (l : List Nat) (b off cap : Nat) (w : World) (hc : ∀ i, i < l.length → w.cell? ⟨b, off + i, none⟩ = some (.float .f64 (l.getD i 0)))
    (hlen : l.length * 8 ≤ 140737488351232) :
    Calls Try.prog 32 #[.slice (some ⟨b, off, none⟩) l.length cap] w (RisesPost w) := by
  go_enter Try.func32, Try.ntmps32
  go_wp2
  go_loop [3] (fun i => ∃ k : Nat, k ≤ l.length ∧ i = .int .i64 k) (fun i => l.length - (intOf i).toNat)
  case atStart => exact ⟨0, by omega, rfl⟩
  case round =>
    obtain ⟨k, hk, rfl⟩ := hrel
    by_cases hlt : k < l.length
    · have hcx := hc k hlt
      obtain ⟨y, hy⟩ : ∃ y, y = l.getD k 0 := ⟨_, rfl⟩
      rw [← hy] at hcx
      clear hc hy
      go_wp2
      · go_ret
        exact ⟨⟨_, rfl⟩, rfl⟩
      · go_round
        case rel => exact ⟨k + 1, by omega, by go_num⟩
        case measure => simp [intOf]; omega
    · obtain rfl : k = l.length := by omega
      clear hc
      go_wp2
      go_ret
      exact ⟨⟨_, rfl⟩, rfl⟩
theorem rises_zero (ao : Option Addr) (cap : Nat) (w : World) :
    Calls Try.prog 32 #[.slice ao 0 cap] w (RisesPost w) := by
  go_enter Try.func32, Try.ntmps32
  go_wp2
  refine wp_loop_rounds 1 ?_
  rw [rounds_succ]
  go_wp2
  go_ret
  exact ⟨⟨_, rfl⟩, rfl⟩
theorem rises_any (l : List Nat) (v : Value) (w : World) (hv : Tp.RdF w v l) (hlen : l.length * 8 ≤ 140737488351232) :
    Calls Try.prog 32 #[v] w (RisesPost w) := by
  obtain ⟨ao, cap, rfl, h⟩ := hv
  rcases h with rfl | ⟨b, off, rfl, hb, hc⟩
  · exact rises_zero ao cap w
  · exact rises_some l b off cap w hc hlen
theorem kept_any (ws is : List Nat) (base : Nat) (v u : Value) (w : World) (hv : LentIs ws base w v) (hu : Tp.RdF w u is) (hlen : ws.length * 8 ≤ 140737488351232) :
    Calls Try.prog 30 #[v, u] w fun e w' => e = .returned (.bool (realsB ws is)) ∧ ∃ n, w.drewN n = w' := by
  have hr := hv.rdf
  obtain ⟨g, cap, rfl, hown⟩ := hv
  obtain ⟨ao, capu, rfl, hu'⟩ := id hu
  have hc : ∀ n, (w.drewN n).cell? ⟨g, ws.length, none⟩ = some (.float .f64 mark) := fun n => by
    show w.cell? _ = _
    rw [hown.cellAt _ (by omega)]
    simp
  have hcap : ws.length + 1 ≤ cap := by
    rcases hown.2 with ⟨h, _⟩ | ⟨g', cap', cur, h, _, _, h2, _⟩
    · cases h
    · cases h; exact h2
  have hl5 : ((ws.length : Int)) ≤ 9223372036854775806 := by omega
  clear hown hu'
  have hm : (FloatKind.f64.format.order 13858490847093325824 13858490847093325824 == some Ordering.eq) = true := by decide +kernel
  have hcall := reals_any ws is _ _ w hr hu (by omega)
  by_cases hb : realsB ws is = true
  · have hlen2 : is.length = ws.length := by
      unfold realsB at hb
      rw [Bool.and_eq_true, beq_iff_eq] at hb
      omega
    rw [hb] at hcall ⊢
    rw [hlen2] at hcall ⊢
    replace hcall := Lib.hid hcall
    clear hb hlen2 hu
    go_enter Try.func30, Try.ntmps30
    go_wp2_with (go_at_call 29; refine hcall.out.mono ?_; rintro e w' ⟨rfl, n, rfl⟩; have hcn := hc n)
    go_ret
    exact ⟨rfl, n, rfl⟩
  · have hb : realsB ws is = false := by simpa using hb
    rw [hb] at hcall ⊢
    replace hcall := Lib.hid hcall
    clear hb
    go_enter Try.func30, Try.ntmps30
    go_wp2_with (go_at_call 29; refine hcall.out.mono ?_; rintro e w' ⟨rfl, n, rfl⟩)
    go_ret
    exact ⟨rfl, n, rfl⟩
end Go.Proofs.Ytfdmfihifjlidaa
