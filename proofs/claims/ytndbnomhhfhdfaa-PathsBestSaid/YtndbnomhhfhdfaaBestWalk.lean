/- The walk of the law on the best pattern: any patterns and any host. -/
import Derived.Test.YtndbnomhhfhdfaaRefBest
namespace Go.Proofs.Ytndbnomhhfhdfaa.pathsBest
open Go.ChangeShapes Go.WideShapes Go.ChangeAt Go.RowKit
open Go.WideMaps Go.WideElems
open Go.ChangeMaps (open_string)
open Go.Pa
set_option linter.unusedVariables false

def mk : ByteArray := ⟨#[109, 97, 114, 107]⟩
set_option maxHeartbeats 4000000 in
theorem best_law (ss : List ByteArray) (hss : ∀ s ∈ ss, s.size ≤ maxLen) (name : ByteArray) (hn : name.size ≤ maxLen) (v : Value) (w : World) (hrd : RdS w v ss) (hlen : ss.length * 16 ≤ 140737488351232) :
    Calls Try.prog 5 #[v, .string name] w fun e w' => e = .returned (.bool true) ∧ Below w.heap.size w w' := by
  obtain ⟨i0, hi, hz0, hz1, hz2⟩ := info_parts Try.info9
  obtain ⟨ao, cap, rfl, _⟩ := id hrd
  by_cases h200 : (200 : Int) < (ss.length : Int)
  · clear hi hz0 hz1 hz2 hrd
    go_enter Try.func5, Try.ntmps5
    go_wp2
    go_ret
    exact ⟨rfl, Below.refl _ _⟩
  · have hsrc := hrd.src
    replace hsrc := Lib.hid hsrc
    have h200' : (ss.length : Int) ≤ 200 := by omega
    have hl1 : 0 + ss.length ≤ maxLen := by unfold maxLen; omega
    have hl2 : (0 + ss.length) * 16 ≤ 140737488355328 := by omega
    have hl3 : ss.length + 1 ≤ maxLen := by unfold maxLen; omega
    have hl4 : (ss.length + 1) * 16 ≤ 140737488355328 := by omega
    replace hrd := Lib.hid hrd
    clear h200
    go_enter Try.func5, Try.ntmps5
    go_upto_region 5 with (first
      | (at_builtin; refine Tp.wpList_append_any rfl (.tmp 14) (.tmp 15) 26 rfl w.heap.size 9 i0 (.string ByteArray.empty) 1 16 Try.underlying26 hi hz0 hz1 hz2 rfl (by decide) (.slice none 0 0) 0 [] rfl (World.ownsRow_nil _ _ _ _) ao ss.length cap (ss.map Value.string) rfl (by simp) hsrc.out (by simp [Value.oneCell']) hl1 hl2 (Nat.le_refl _) ?_; intro v1 w1 hown1 hg1 _ hb1; replace hg1 := hg1.size; replace hb1 := Lib.hid (hb1 _ _ (Below.refl w.heap.size w) (Nat.le_refl _)); simp only [Nat.zero_add, List.nil_append] at hown1)
      | (at_builtin; refine Tp.wpList_append_one rfl (.tmp 16) (.tmp 17) 26 rfl w.heap.size 9 i0 (.string ByteArray.empty) 16 Try.underlying26 hi hz0 hz1 hz2 rfl v1 ss.length (ss.map Value.string) rfl hown1 1 rfl rfl hl3 hl4 hg1 ?_; intro v2 w2 hown2 hg2 hb2 hne2; replace hb2 := hb2 _ _ hb1.out (Nat.le_refl _); clear hg2))
    obtain ⟨g, capg, rfl, hcc, hgb⟩ := Tp.own_shape hown2 hne2
    have hcell : ∀ j, j < ss.length → w2.cell? ⟨g, j, none⟩ = some (.string (ss.getD j ByteArray.empty)) := fun j hj => by
      rw [hown2.cellAt j (by omega), List.getElem?_append_left (by simpa using hj)]
      simp [List.getD, hj]
    have hmark : w2.cell? ⟨g, ss.length, none⟩ = some (.string mk) := by
      rw [hown2.cellAt ss.length (by omega), List.getElem?_append_right (by simp)]
      simp [mk]
    have hgl : g < w2.heap.size := (hown2.lt g rfl).2
    have hrd2 : RdS w2 (.slice (some ⟨g, 0, none⟩) ss.length capg) ss := ⟨_, _, rfl, .inr ⟨g, 0, rfl, hgl, fun j hj => by rw [Nat.zero_add]; exact hcell j hj⟩⟩
    replace hb2 := hb2
    have hb25 := Lib.hid (best25 ss hss name hn _ w2 hrd2 (by omega))
    have hrdo := Lib.hid (RdS.below hrd.out hb2)
    replace hcell := Lib.hid hcell
    replace hmark := Lib.hid hmark
    replace hb2 := Lib.hid hb2
    have hcc' : (ss.length : Int) + 1 ≤ (capg : Int) := by omega
    clear hown1 hown2 hg1 hne2 hi hz0 hz1 hz2 hsrc hb1 hrd2 hl1 hl2 hl3 hl4
    go_wp2_with fail
    refine hb25.out.mono ?_
    rintro e w3 ⟨i, f, rfl, hB1, hb3⟩
    have hb26 := Lib.hid (best26 ss hss name hn _ w3 (RdS.below hrdo.out hb3) (by omega))
    replace hB1 := Lib.hid hB1
    replace hb3 := Lib.hid hb3
    clear hb25
    go_wp2_with fail
    refine hb26.out.mono ?_
    rintro e w4 ⟨i', f', rfl, hB2, hb4⟩
    obtain ⟨rfl, rfl⟩ := best_unique hB1.out hB2
    have hb24 := Tp.Below_seq hb3.out hb4
    have hbel : Below w.heap.size w w4 := Tp.Below_seq hb2.out hb24
    have hcell4 : ∀ j, j < ss.length → w4.cell? ⟨g, j, none⟩ = some (.string (ss.getD j ByteArray.empty)) := fun j hj => (hb24.cell (by exact hgl)).trans (hcell.out j hj)
    have hmark4 : w4.cell? ⟨g, ss.length, none⟩ = some (.string mk) := (hb24.cell (by exact hgl)).trans hmark.out
    have hrd4 := RdS.below (RdS.below hrdo.out hb3.out) hb4
    have hg4 : g < w4.heap.size := Nat.lt_of_lt_of_le hgl hb24.size
    replace hcell4 := Lib.hid hcell4
    replace hmark4 := Lib.hid hmark4
    replace hrd4 := Lib.hid hrd4
    clear hB1 hB2 hb26 hb3 hb4 hb24 hcell hmark hrdo hb2
    have hbs := hbel.size
    replace hbel := Lib.hid hbel
    go_wp2_with fail
    go_loopg [10] ss.length (fun g ic wr => ∃ k : Nat, k ≤ ss.length ∧ g = ss.length - k ∧ ic = .int .i64 k ∧ Below w4.heap.size w4 wr)
    case atStart => exact ⟨0, by omega, rfl, rfl, Below.refl _ _⟩
    case round =>
      obtain ⟨k, hk, rfl, rfl, hbx⟩ := hrel
      by_cases hlt : k < ss.length
      · obtain ⟨b, off, hao, hbw, hc⟩ := RdS.at hrd4.out hlt
        subst hao
        have hck := (hbx.cell (p := ⟨b, off + k, none⟩) (by exact hbw)).trans (hc k hlt)
        have hcg := (hbx.cell (p := ⟨g, k, none⟩) (by exact hg4)).trans (hcell4.out k hlt)
        generalize ss.getD k ByteArray.empty = q at *
        have hqq : (q.toList == q.toList) = true := by simp
        have hqn : (q.toList != q.toList) = false := by simp
        have hk0 : (0 : Int) ≤ (k : Int) := by omega
        have hk1 : (k : Int) < (ss.length : Int) := by omega
        have hk2 : (k : Int) < (ss.length : Int) + 1 := by omega
        replace hbx := Lib.hid hbx
        clear hc
        go_wp2_with fail
        go_quiet (fail)
        go_wp2
        go_roundg (ss.length - (k + 1))
        case measure => omega
        case rel => exact ⟨k + 1, by omega, rfl, by go_num, below_drewN hbx.out _⟩
      · have hmk := (hbx.cell (p := ⟨g, ss.length, none⟩) (by exact hg4)).trans hmark4.out
        have hml : (mk.toList == [109, 97, 114, 107]) = true := by decide +kernel
        have hk1 : (ss.length : Int) ≤ (k : Int) := by omega
        have hfin := Lib.hid (hbel.out.trans (hbx.mono hbs))
        clear hbx
        go_wp2
        go_ret
        exact ⟨rfl, hfin.out⟩

theorem walk {H : Type} (enc : TypeId × Value → H) (W : World) (base : Nat) (args : Array Value) (ds : List (DataW H)) (p : List MemPlace)
    (hval0 : ∀ (j : Nat) t v, Try.f5.params[j]? = some t → args[j]? = some v → Value.okWide Try.prog W .any base t v)
    (hA : DataW.TrodAll enc Try.prog W 0 (fun _ => true) true Try.f5.params.toList args.toList ds p)
    (hsz : (DataW.weightsEach Try.prog Try.f5.params.toList ds).all (· ≤ reachBytes) = true) :
    Calls Try.prog 5 args W fun e w' => e = .returned (.bool true) ∧ Below W.heap.size W w' := by
  have hval : ∀ (j : Nat) t v, Try.f5.params[j]? = some t → args[j]? = some v → Value.okWide Try.prog W .any base t v := hval0
  rw [Try.params5] at hA hval hsz
  obtain ⟨v0, v1, d0, d1, p0, p1, rfl, rfl, rfl, h0, h1⟩ := trodAll_two hA
  obtain ⟨ss, hr, hs, hl⟩ := open_texts Try.underlying26 Try.underlying9 Try.cells9 Try.bytes9 (okWide_slice Try.underlying26 (hval 0 26 v0 rfl rfl)) h0 hsz (j := 0) rfl rfl
  obtain ⟨s1, rfl, rfl, rfl, hs1⟩ := open_string Try.underlying9 (hval 1 9 v1 rfl rfl) h1
  exact best_law ss hs s1 hs1 v0 W hr hl
end Go.Proofs.Ytndbnomhhfhdfaa.pathsBest
