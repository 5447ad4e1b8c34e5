/- The walk of the law on the narrowest pattern: any patterns and any host. -/
import Derived.Test.YtndbnomhhfhdfaaOpen
import Derived.Test.YtndbnomhhfhdfaaAwake
import Derived.StillTailTactics
namespace Go.Proofs.Ytndbnomhhfhdfaa.pathsNarrow
open Go.ChangeShapes Go.WideShapes Go.ChangeAt Go.RowKit
open Go.WideMaps Go.WideElems
open Go.ChangeMaps (open_string)
open Go.Pa
set_option linter.unusedVariables false

theorem owns_empty (w : World) (e : TypeId) : (w.alloc (.cells #[] e)).ownsRow w.heap.size e 1 (.slice (some ⟨w.heap.size, 0, none⟩) 0 0) 0 [] := by
  refine ⟨rfl, .inr ⟨w.heap.size, 0, #[], rfl, Nat.le_refl _, heap_alloc_new w _, ?_⟩⟩
  simp
set_option maxHeartbeats 8000000 in
set_option maxRecDepth 100000 in
theorem narrow (ss : List ByteArray) (hss : ∀ s ∈ ss, s.size ≤ maxLen) (name : ByteArray) (hn : name.size ≤ maxLen) (v : Value) (w : World) (hrd : RdS w v ss) (hlen : ss.length * 16 ≤ 140737488351232) :
    Calls Try.prog 8 #[v, .string name] w fun e w' => e = .returned (.bool true) ∧ Below w.heap.size w w' := by
  obtain ⟨i0, hi, hz0, hz1, hz2⟩ := info_parts Try.info9
  obtain ⟨ao, cap, rfl, _⟩ := id hrd
  have haw := Lib.hid (awake_any w)
  by_cases h200 : (200 : Int) < (ss.length : Int)
  · clear hi hz0 hz1 hz2 hrd
    go_enter Try.func8, Try.ntmps8
    go_wp2_with fail
    refine haw.out.mono ?_
    rintro e w' ⟨rfl, hb⟩
    replace hb := Lib.hid hb
    go_wp2
    go_ret
    exact ⟨rfl, hb.out⟩
  · have h200' : (ss.length : Int) ≤ 200 := by omega
    have hl1 : 0 + ss.length ≤ maxLen := by unfold maxLen; omega
    have hl2 : (0 + ss.length) * 16 ≤ 140737488355328 := by omega
    have dk : decide ((200 : Int) < (ss.length : Int)) = false := by simp; omega
    replace hrd := Lib.hid hrd
    clear h200
    go_enter Try.func8, Try.ntmps8
    go_wp2_with fail
    refine haw.out.mono ?_
    rintro e w0 ⟨rfl, hb0⟩
    have hrd0 := RdS.below hrd.out hb0
    have hsrc := (RdS.below hrd0 (Tp.Below_alloc w0 (.cells #[] 9))).src
    have hown0 := owns_empty w0 9
    replace hsrc := Lib.hid hsrc
    replace hrd0 := Lib.hid hrd0
    replace hb0 := Lib.hid hb0
    have hba := Lib.hid (Tp.Below_alloc w0 (.cells #[] 9))
    go_wp2_with (at_builtin; refine Tp.wpList_append_any rfl (.tmp 16) (.tmp 17) 26 rfl w0.heap.size 9 i0 (.string ByteArray.empty) 1 16 Try.underlying26 hi hz0 hz1 hz2 rfl (by decide) _ 0 [] rfl hown0 ao ss.length cap (ss.map Value.string) rfl (by simp) hsrc.out (by simp [Value.oneCell']) hl1 hl2 (by simp) ?_; intro v1 w1 hown1 hg1 _ hb1; clear hg1; replace hb1 := Lib.hid (hb1 _ _ hba.out (Nat.le_refl _)); simp only [Nat.zero_add, List.nil_append] at hown1)
    have hrd1 : RdS w1 v1 ss := RdS.own hown1
    have hb25 := Lib.hid (best25 ss hss name hn v1 w1 hrd1 (by omega))
    have hrdo := Lib.hid (RdS.below hrd0.out hb1.out)
    have hbel1 := Lib.hid (Tp.Below_seq hb0.out hb1.out)
    clear hown1 hrd1 hown0 hi hz0 hz1 hz2 hsrc hba hb1 hrd0 hb0
    refine hb25.out.mono ?_
    rintro e w2 ⟨i, f, rfl, hB, hb2⟩
    have hbel := Tp.Below_seq hbel1.out hb2
    have hrd2 := Lib.hid (RdS.below hrdo.out hb2)
    have hbs := hbel.size
    replace hbel := Lib.hid hbel
    clear hb25 hbel1 hrdo hb2
    cases f with
    | false =>
      obtain ⟨hi0, hno⟩ : i = 0 ∧ ∀ k, k < ss.length → hostTakes ((bl ss).getD k []) name.data.toList = false := by
        rcases hB with ⟨_, h1, h2⟩ | ⟨h, _⟩
        · exact ⟨h1, h2⟩
        · cases h
      subst hi0
      replace hno := Lib.hid hno
      clear hB
      go_wp2_with fail
      go_loopg [7] ss.length (fun g ic wr => ∃ k : Nat, k ≤ ss.length ∧ g = ss.length - k ∧ ic = .int .i64 k ∧ Below w2.heap.size w2 wr)
      case atStart => exact ⟨0, by omega, rfl, rfl, Below.refl _ _⟩
      case round =>
        obtain ⟨k, hk, rfl, rfl, hbx⟩ := hrel
        by_cases hlt : k < ss.length
        · obtain ⟨b, off, hao, hbw, hc⟩ := RdS.at hrd2.out hlt
          subst hao
          have hck := (hbx.cell (p := ⟨b, off + k, none⟩) (by exact hbw)).trans (hc k hlt)
          have hnk := hno.out k hlt
          rw [bl_at] at hnk
          have hps := size_at hss k
          generalize ss.getD k ByteArray.empty = q at *
          have hcall := host19 q name wr hps hn
          rw [hnk] at hcall
          have hk1 : (k : Int) < (ss.length : Int) := by omega
          replace hbx := Lib.hid hbx
          replace hcall := Lib.hid hcall
          clear hc hnk
          go_wp2_with fail
          refine hcall.out.mono ?_
          rintro e w3 ⟨rfl, hb3⟩
          have hbx3 := Lib.hid (Tp.Below_seq hbx.out hb3)
          clear hb3 hbx hcall
          go_wp2
          go_roundg (ss.length - (k + 1))
          case measure => omega
          case rel => exact ⟨k + 1, by omega, rfl, by go_num, hbx3.out⟩
        · have hk1 : (ss.length : Int) ≤ (k : Int) := by omega
          have hfin := Lib.hid (hbel.out.trans (hbx.mono hbs))
          clear hbx
          go_wp2
          go_ret
          exact ⟨rfl, hfin.out⟩
    | true =>
      have hB' : IsBest (bl ss) name.data.toList ss.length i := by
        rcases hB with ⟨h, _⟩ | ⟨_, h⟩
        · cases h
        · exact h
      obtain ⟨hil, hit, hleast⟩ := hB'
      clear hB
      rw [bl_at] at hit
      have hpi := size_at hss i
      obtain ⟨b, off, hao, hbw, hc⟩ := RdS.at hrd2.out hil
      subst hao
      have hci := hc i hil
      obtain ⟨p, hp⟩ : ∃ p, p = ss.getD i ByteArray.empty := ⟨_, rfl⟩
      have hpl : (bl ss).getD i [] = p.data.toList := by rw [bl_at, ← hp]
      rw [← hp] at hit hpi hci
      have hcall := host19 p name w2 hpi hn
      rw [hit] at hcall
      have hi1 : (i : Int) < (ss.length : Int) := by omega
      have dl : decide (ss.length ≤ i) = false := decide_eq_false (by omega)
      have di : decide ((i : Int) < 0) = false := decide_eq_false (by omega)
      replace hcall := Lib.hid hcall
      replace hleast := Lib.hid hleast
      replace hc := Lib.hid hc
      replace hp := Lib.hid hp
      replace hpl := Lib.hid hpl
      have hci0 := Lib.hid hci
      clear hit
      go_wp2_with fail
      refine hcall.out.mono ?_
      rintro e w3 ⟨rfl, hb3⟩
      have hbel3 := hbel.out.trans (hb3.mono hbs)
      have hbw3 : b < w3.heap.size := Nat.lt_of_lt_of_le hbw hb3.size
      have hc3 : ∀ j, j < ss.length → w3.cell? ⟨b, off + j, none⟩ = some (.string (ss.getD j ByteArray.empty)) := fun j hj => (hb3.cell (by exact hbw)).trans (hc.out j hj)
      have hbs3 := hbel3.size
      replace hbel3 := Lib.hid hbel3
      replace hc3 := Lib.hid hc3
      clear hb3 hcall hci
      go_wp2_with fail
      go_loopg [8] ss.length (fun g ic wr => ∃ k : Nat, k ≤ ss.length ∧ g = ss.length - k ∧ ic = .int .i64 k ∧ Below w3.heap.size w3 wr)
      case atStart => exact ⟨0, by omega, rfl, rfl, Below.refl _ _⟩
      case round =>
        obtain ⟨k, hk, rfl, rfl, hbx⟩ := hrel
        by_cases hlt : k < ss.length
        · have hck := (hbx.cell (p := ⟨b, off + k, none⟩) (by exact hbw3)).trans (hc3.out k hlt)
          have hlk := hleast.out k hlt
          have hps := size_at hss k
          rw [bl_at, hpl.out] at hlk
          obtain ⟨q, hq⟩ : ∃ q, q = ss.getD k ByteArray.empty := ⟨_, rfl⟩
          rw [← hq] at hck hlk hps
          have hcall := host19 q name wr hps hn
          have hord := fun w => order33 q p w hps hpi
          have hcov := fun w => covhost27 p q w hpi hps
          have hcz : hostCovers p.data.toList q.data.toList = true → orderH q.data.toList p.data.toList ≤ 0 := order_covers
          have hk1 : (k : Int) < (ss.length : Int) := by omega
          have hc3k := hc3.out k hlt
          have hc3i := hc3.out i hil
          rw [← hq] at hc3k
          rw [← hp.out] at hc3i
          replace hbx := Lib.hid hbx
          generalize hostTakes q.data.toList name.data.toList = t at *
          generalize orderH q.data.toList p.data.toList = o at *
          generalize hostCovers p.data.toList q.data.toList = cv at *
          replace hcall := Lib.hid hcall
          replace hord := Lib.hid hord
          replace hcov := Lib.hid hcov
          replace hq := Lib.hid hq
          replace hc3k := Lib.hid hc3k
          replace hc3i := Lib.hid hc3i
          cases t with
          | false =>
            clear hlk hcz
            go_wp2_with fail
            refine hcall.out.mono ?_
            rintro e w4 ⟨rfl, hb4⟩
            have hbx4 := Lib.hid (Tp.Below_seq hbx.out hb4)
            clear hb4 hbx hcall
            go_wp2
            go_roundg (ss.length - (k + 1))
            case measure => omega
            case rel => exact ⟨k + 1, by omega, rfl, by go_num, hbx4.out⟩
          | true =>
            obtain ⟨ho1, ho2⟩ := hlk rfl
            replace ho2 := Lib.hid ho2
            replace hcz := Lib.hid hcz
            go_wp2_with fail
            refine hcall.out.mono ?_
            rintro e w4 ⟨rfl, hb4⟩
            have hbx4 := Tp.Below_seq hbx.out hb4
            have hck4 := (hbx4.cell (p := ⟨b, off + k, none⟩) (by exact hbw3)).trans hc3k.out
            have hci4 := (hbx4.cell (p := ⟨b, off + i, none⟩) (by exact hbw3)).trans hc3i.out
            replace hbx4 := Lib.hid hbx4
            have hord4 := Lib.hid (hord.out w4.drew)
            clear hb4 hbx hcall hck
            go_wp2_with fail
            go_still_tail 8, (by kernel_rfl)
            change wpList _ _ _ _ _ w4.drew
            go_wp2_with fail
            refine hord4.out.mono ?_
            rintro e w5 ⟨rfl, hb5⟩
            have hbx5 := Tp.Below_seq (below_drewN hbx4.out 1) hb5
            have hck5 := (hbx5.cell (p := ⟨b, off + k, none⟩) (by exact hbw3)).trans hc3k.out
            have hci5 := (hbx5.cell (p := ⟨b, off + i, none⟩) (by exact hbw3)).trans hc3i.out
            replace hbx5 := Lib.hid hbx5
            have hcov5 := Lib.hid (hcov.out w5.drew)
            have d1 : decide (o < 0) = false := by simp; omega
            clear hb5 hbx4 hord4 hck4 hci4
            by_cases hoz : o = 0
            · subst hoz
              have hki : i ≤ k := ho2.out rfl
              have d2 : decide ((k : Int) < (i : Int)) = false := by simp; omega
              go_wp2_with fail
              go_still_tail 20, (by kernel_rfl)
              change wpList _ _ _ _ _ w5.drew
              go_wp2_with fail
              refine hcov5.out.mono ?_
              rintro e w6 ⟨rfl, hb6⟩
              have hbx6 := Lib.hid (Tp.Below_seq (below_drewN hbx5.out 1) hb6)
              clear hb6 hbx5 hcov5
              cases cv
              all_goals
                go_wp2
                go_roundg (ss.length - (k + 1))
                case measure => omega
                case rel => exact ⟨k + 1, by omega, rfl, by go_num, hbx6.out⟩
            · have e0 : (o == 0) = false := by simpa using hoz
              have hcv : cv = false := by
                cases cv with
                | false => rfl
                | true => have := hcz.out rfl; omega
              subst hcv
              go_wp2_with fail
              go_still_tail 20, (by kernel_rfl)
              change wpList _ _ _ _ _ w5.drew
              go_wp2_with fail
              refine hcov5.out.mono ?_
              rintro e w6 ⟨rfl, hb6⟩
              have hbx6 := Lib.hid (Tp.Below_seq (below_drewN hbx5.out 1) hb6)
              clear hb6 hbx5 hcov5
              go_wp2
              go_roundg (ss.length - (k + 1))
              case measure => omega
              case rel => exact ⟨k + 1, by omega, rfl, by go_num, hbx6.out⟩
        · have hk1 : (ss.length : Int) ≤ (k : Int) := by omega
          have hfin := Lib.hid (hbel3.out.trans (hbx.mono hbs3))
          clear hbx
          go_wp2
          go_ret
          exact ⟨rfl, hfin.out⟩

theorem walk {H : Type} (enc : TypeId × Value → H) (W : World) (base : Nat) (args : Array Value) (ds : List (DataW H)) (p : List MemPlace)
    (hval0 : ∀ (j : Nat) t v, Try.f8.params[j]? = some t → args[j]? = some v → Value.okWide Try.prog W .any base t v)
    (hA : DataW.TrodAll enc Try.prog W 0 (fun _ => true) true Try.f8.params.toList args.toList ds p)
    (hsz : (DataW.weightsEach Try.prog Try.f8.params.toList ds).all (· ≤ reachBytes) = true) :
    Calls Try.prog 8 args W fun e w' => e = .returned (.bool true) ∧ Below W.heap.size W w' := by
  have hval : ∀ (j : Nat) t v, Try.f8.params[j]? = some t → args[j]? = some v → Value.okWide Try.prog W .any base t v := hval0
  rw [Try.params8] at hA hval hsz
  obtain ⟨v0, v1, d0, d1, p0, p1, rfl, rfl, rfl, h0, h1⟩ := trodAll_two hA
  obtain ⟨ss, hr, hs, hl⟩ := open_texts Try.underlying26 Try.underlying9 Try.cells9 Try.bytes9 (okWide_slice Try.underlying26 (hval 0 26 v0 rfl rfl)) h0 hsz (j := 0) rfl rfl
  obtain ⟨s1, rfl, rfl, rfl, hs1⟩ := open_string Try.underlying9 (hval 1 9 v1 rfl rfl) h1
  exact narrow ss hs s1 hs1 v0 W hr hl
end Go.Proofs.Ytndbnomhhfhdfaa.pathsNarrow
