/- The walk of the law's own spoil: resources that are written over. -/
import Derived.Test.YtjepgpocmnijiaaZb15
section

namespace Go.Proofs.Ytjepgpocmnijiaa
open Go.RowKit Go.Mp Go.Ck
set_option linter.unusedVariables false
set_option maxRecDepth 100000
set_option maxHeartbeats 8000000
theorem rvc_at {L : List RV} {i : Nat} {x : RV} (hx : L[i]? = some x) {q : Nat} {u : Value} (hu : (rvc x)[q]? = some u) : (L.flatMap rvc)[i * 8 + q]? = some u := by
  have hq : q < 8 := by have := (List.getElem?_eq_some_iff.1 hu).1; rw [rvc_len] at this; exact this
  rw [Rd.flat_at rvc_len hx q hq]; exact hu
theorem _root_.Go.Ck.SpI.cell {w wx : World} {B N g : Nat} {L : List RV} {P : Nat → Prop} (h : SpI w B N g L P wx) {i : Nat} {x : RV} (hx : L[i]? = some x) (q : Nat) (u : Value) (hu : (rvc x)[q]? = some u) (hp : P (i * 8 + q)) : wx.cell? ⟨g, i * 8 + q, none⟩ = some u := h.at_ _ _ hp (rvc_at hx hu)
theorem spoil33 (w : World) (B N : Nat) (v : Value) (L : List RV) (hO : OwnM w B v L) (hN : N ≤ w.heap.size) (hv : ∀ k, v.ownBlock = some k → k < N) (he : ∀ x ∈ L, ∀ k, x.ev.ownBlock = some k ∨ x.tv.ownBlock = some k ∨ x.rv.ownBlock = some k → k < N)
    (hL : L.length ≤ 4194304) (hz : ∀ x ∈ L, x.r.eps.length ≤ 4194304 ∧ x.r.tgts.length ≤ 4194304 ∧ x.r.rules.length ≤ 4194304) :
    Calls Try.prog 33 #[v] w fun e w' => e = .returned (.tuple #[]) ∧ Shp w w' ∧ Tch (fun k => B ≤ k ∧ k < N) w w' := by
  obtain ⟨oo, oc, rfl⟩ := ownsRow_shape hO.row
  rcases Nat.eq_zero_or_pos L.length with h0 | h0
  · have hk0 : decide ((0 : Int) < (L.length : Int)) = false := decide_eq_false (by omega)
    have hk1 : ¬ (0 : Int) < (L.length : Int) := by omega
    replace hO := Lib.hid hO
    replace hv := Lib.hid hv
    replace he := Lib.hid he
    replace hz := Lib.hid hz
    go_enter Try.func33, Try.ntmps33
    go_wp2
    go_loopg [2] 1 (fun gg ic wx => gg = 1 ∧ ic = .int .i64 ((0 : Nat) : Int) ∧ Hid (wx = w))
    case atStart => exact ⟨rfl, rfl, Lib.hid rfl⟩
    case round =>
      obtain ⟨rfl, rfl, hw⟩ := hrel
      go_wp2
      refine bodyPost_end (results_none rfl _ _ _) rfl ?_
      rw [hw.out]
      exact ⟨rfl, Shp.refl _, Tch.refl _ _⟩
  · obtain ⟨i9, h9, h90, h91, h92⟩ := info_parts info9
    obtain ⟨i57, h57, h570, h571, h572⟩ := info_parts info57
    obtain ⟨i101, h101, h1010, h1011, h1012⟩ := info_parts info101
    replace h9 := Lib.hid h9
    replace h90 := Lib.hid h90
    replace h91 := Lib.hid h91
    replace h92 := Lib.hid h92
    replace h57 := Lib.hid h57
    replace h570 := Lib.hid h570
    replace h571 := Lib.hid h571
    replace h572 := Lib.hid h572
    replace h101 := Lib.hid h101
    replace h1010 := Lib.hid h1010
    replace h1011 := Lib.hid h1011
    replace h1012 := Lib.hid h1012
    have hany : Any w B 52 8 (.slice oo L.length oc) L.length := ⟨_, hO.row⟩
    obtain ⟨g, cap, hg, hBg, hgl, _, _⟩ := hany.cell h0
    simp only [Value.slice.injEq, true_and] at hg
    obtain ⟨rfl, rfl⟩ := hg
    have hgN : g < N := hv g rfl
    have hst : SpI w B N g L (fun c => 0 * 8 ≤ c) w := ⟨Shp.refl _, Tch.refl _ _, fun c u _ hu => by
      obtain ⟨g', e1, _, _, e2, _⟩ := ownsRow_cell hO.row hu
      simp only [Option.some.injEq, Addr.mk.injEq, and_true] at e1
      subst e1
      exact e2⟩
    replace hO := Lib.hid hO
    replace hv := Lib.hid hv
    replace he := Lib.hid he
    replace hz := Lib.hid hz
    replace hany := Lib.hid hany
    replace hst := Lib.hid hst
    go_enter Try.func33, Try.ntmps33
    go_wp2
    go_loopg [2] (L.length + 1) (fun gg ic wx => ∃ i : Nat, gg = L.length - i + 1 ∧ i ≤ L.length ∧ ic = .int .i64 i ∧ Hid (SpI w B N g L (fun c => i * 8 ≤ c) wx))
    case atStart => exact ⟨0, rfl, Nat.zero_le _, rfl, hst⟩
    case round =>
      obtain ⟨i, rfl, hi, rfl, hS⟩ := hrel
      by_cases hlt : i < L.length
      · obtain ⟨x, hx⟩ : ∃ x, L[i]? = some x := ⟨_, List.getElem?_eq_getElem hlt⟩
        have hxm := List.mem_of_getElem? hx
        have hel := hO.out.el x hxm
        have hzx := hz.out x hxm
        have a1 : Any w B 9 1 x.ev x.r.eps.length := ⟨_, hel.e⟩
        have a2 : Any w B 57 3 x.tv x.r.tgts.length := ⟨_, hel.t⟩
        have a3 : Any w B 101 4 x.rv x.r.rules.length := ⟨_, hel.ru⟩
        have hbx := he.out x hxm
        obtain ⟨eo, ec, hev⟩ := ownsRow_shape hel.e
        obtain ⟨tg, tc, htv⟩ := ownsRow_shape hel.t
        obtain ⟨ro, rc, hrv⟩ := ownsRow_shape hel.ru
        obtain ⟨kd, nm, nh, nr, bd, hcs⟩ : ∃ kd nm nh nr bd, rvc x = [.int .i64 kd, .string nm, .slice eo x.r.eps.length ec, .slice tg x.r.tgts.length tc, .string nh, .slice ro x.r.rules.length rc, .string nr, .bool bd] := ⟨_, _, _, _, _, by unfold rvc; rw [hev, htv, hrv]⟩
        rw [hev] at a1 hbx
        rw [htv] at a2 hbx
        rw [hrv] at a3 hbx
        obtain ⟨ne, hne⟩ : ∃ n, n = x.r.eps.length := ⟨_, rfl⟩
        obtain ⟨nt, hnt⟩ : ∃ n, n = x.r.tgts.length := ⟨_, rfl⟩
        obtain ⟨nu, hnu⟩ : ∃ n, n = x.r.rules.length := ⟨_, rfl⟩
        have n1 : ∀ b, (Value.slice eo x.r.eps.length ec).ownBlock = some b → b ≠ g := fun b hb => a1.ne hany.out (by decide) hb rfl
        have n2 : ∀ b, (Value.slice tg x.r.tgts.length tc).ownBlock = some b → b ≠ g := fun b hb => a2.ne hany.out (by decide) hb rfl
        have n3 : ∀ b, (Value.slice ro x.r.rules.length rc).ownBlock = some b → b ≠ g := fun b hb => a3.ne hany.out (by decide) hb rfl
        rw [← hne] at n1 a1 hbx hcs hzx
        rw [← hnt] at n2 a2 hbx hcs hzx
        rw [← hnu] at n3 a3 hbx hcs hzx
        obtain ⟨hz1, hz2, hz3⟩ := hzx
        have hk0 : (i : Int) < (L.length : Int) := nn_lt hlt
        have hwk := Lib.hid (nn_succ2 hlt (by omega))
        replace hx := Lib.hid hx
        replace hxm := Lib.hid hxm
        replace hel := Lib.hid hel
        replace hbx := Lib.hid hbx
        replace hev := Lib.hid hev
        replace htv := Lib.hid htv
        replace hrv := Lib.hid hrv
        replace hne := Lib.hid hne
        replace hnt := Lib.hid hnt
        replace hnu := Lib.hid hnu
        replace a1 := Lib.hid a1
        replace a2 := Lib.hid a2
        replace a3 := Lib.hid a3
        replace hcs := Lib.hid hcs
        replace hz1 := Lib.hid hz1
        replace hz2 := Lib.hid hz2
        replace hz3 := Lib.hid hz3
        replace n1 := Lib.hid n1
        replace n2 := Lib.hid n2
        replace n3 := Lib.hid n3
        go_upto_region 4 with fail
        go_loopg [3] (ne + 1) (fun gg kc wx => ∃ k : Nat, gg = ne - k + 1 ∧ k ≤ ne ∧ kc = .int .i64 k ∧ Hid (SpI w B N g L (fun c => i * 8 ≤ c) wx))
        case atStart => exact ⟨0, rfl, Nat.zero_le _, rfl, hS⟩
        case round =>
          clear hS
          obtain ⟨k, rfl, hk, rfl, hS⟩ := hrel
          have cz := hS.out.cell hx.out 2 _ (by rw [hcs.out]; rfl) (by omega)
          by_cases hkt : k < ne
          · have hk1 : (k : Int) < (ne : Int) := nn_lt hkt
            have hwk1 := Lib.hid (nn_succ2 hkt (by have := hz1.out; omega))
            obtain ⟨ge, gc, hge, hBe, hgel, hcell, _⟩ := (a1.out.shp hS.out.shp).cell (by omega)
            simp only [Value.slice.injEq, true_and] at hge
            obtain ⟨rfl, rfl⟩ := hge
            obtain ⟨u, hu, hfz⟩ := hcell k (by omega)
            replace hcell := Lib.hid hcell
            go_wp2
            go_roundg (ne - (k + 1) + 1)
            case rel => exact ⟨k + 1, rfl, hkt, by first | rw [hwk1.out] | go_num, Lib.hid (hS.out.other _ _ hBe (hbx.out _ (.inl rfl)) (n1.out _ rfl))⟩
            case measure => exact nn_downS hkt
          · have hk1 : decide ((k : Int) < (ne : Int)) = false := decide_eq_false (by omega)
            have hk2 : ¬ (k : Int) < (ne : Int) := by omega
            go_upto_region 8 with fail
            clear hk1 hk2 cz hk hkt
            go_loopg [4] (nt + 1) (fun gg kc wx => ∃ k : Nat, gg = nt - k + 1 ∧ k ≤ nt ∧ kc = .int .i64 k ∧ Hid (SpI w B N g L (fun c => i * 8 ≤ c) wx))
            case atStart => exact ⟨0, rfl, Nat.zero_le _, rfl, hS⟩
            case round =>
              clear hS
              obtain ⟨k, rfl, hk, rfl, hS⟩ := hrel
              have cz := hS.out.cell hx.out 3 _ (by rw [hcs.out]; rfl) (by omega)
              by_cases hkt : k < nt
              · have hk1 : (k : Int) < (nt : Int) := nn_lt hkt
                have hwk1 := Lib.hid (nn_succ2 hkt (by have := hz2.out; omega))
                obtain ⟨ge, gc, hge, hBe, hgel, hcell, _⟩ := (a2.out.shp hS.out.shp).cell (by omega)
                simp only [Value.slice.injEq, true_and] at hge
                obtain ⟨rfl, rfl⟩ := hge
                obtain ⟨u0, hu0, hfz0⟩ := hcell (k * 3) (by omega); obtain ⟨u1, hu1, hfz1⟩ := hcell (k * 3 + 1) (by omega); obtain ⟨u2, hu2, hfz2⟩ := hcell (k * 3 + 2) (by omega)
                replace hcell := Lib.hid hcell
                go_wp2
                go_roundg (nt - (k + 1) + 1)
                case rel => exact ⟨k + 1, rfl, hkt, by first | rw [hwk1.out] | go_num, Lib.hid (((hS.out.other _ _ hBe (hbx.out _ (.inr (.inl rfl))) (n2.out _ rfl)).other _ _ hBe (hbx.out _ (.inr (.inl rfl))) (n2.out _ rfl)).other _ _ hBe (hbx.out _ (.inr (.inl rfl))) (n2.out _ rfl))⟩
                case measure => exact nn_downS hkt
              · have hk1 : decide ((k : Int) < (nt : Int)) = false := decide_eq_false (by omega)
                have hk2 : ¬ (k : Int) < (nt : Int) := by omega
                go_upto_region 12 with fail
                clear hk1 hk2 cz hk hkt
                go_loopg [5] (nu + 1) (fun gg kc wx => ∃ k : Nat, gg = nu - k + 1 ∧ k ≤ nu ∧ kc = .int .i64 k ∧ Hid (SpI w B N g L (fun c => i * 8 ≤ c) wx))
                case atStart => exact ⟨0, rfl, Nat.zero_le _, rfl, hS⟩
                case round =>
                  clear hS
                  obtain ⟨k, rfl, hk, rfl, hS⟩ := hrel
                  have cz := hS.out.cell hx.out 5 _ (by rw [hcs.out]; rfl) (by omega)
                  by_cases hkt : k < nu
                  · have hk1 : (k : Int) < (nu : Int) := nn_lt hkt
                    have hwk1 := Lib.hid (nn_succ2 hkt (by have := hz3.out; omega))
                    obtain ⟨ge, gc, hge, hBe, hgel, hcell, _⟩ := (a3.out.shp hS.out.shp).cell (by omega)
                    simp only [Value.slice.injEq, true_and] at hge
                    obtain ⟨rfl, rfl⟩ := hge
                    obtain ⟨u0, hu0, hfz0⟩ := hcell (k * 4) (by omega); obtain ⟨u1, hu1, hfz1⟩ := hcell (k * 4 + 1) (by omega); obtain ⟨u2, hu2, hfz2⟩ := hcell (k * 4 + 2) (by omega); obtain ⟨u3, hu3, hfz3⟩ := hcell (k * 4 + 3) (by omega)
                    replace hcell := Lib.hid hcell
                    go_wp2
                    go_roundg (nu - (k + 1) + 1)
                    case rel => exact ⟨k + 1, rfl, hkt, by first | rw [hwk1.out] | go_num, Lib.hid ((((hS.out.other _ _ hBe (hbx.out _ (.inr (.inr rfl))) (n3.out _ rfl)).other _ _ hBe (hbx.out _ (.inr (.inr rfl))) (n3.out _ rfl)).other _ _ hBe (hbx.out _ (.inr (.inr rfl))) (n3.out _ rfl)).other _ _ hBe (hbx.out _ (.inr (.inr rfl))) (n3.out _ rfl))⟩
                    case measure => exact nn_downS hkt
                  · have hk1 : decide ((k : Int) < (nu : Int)) = false := decide_eq_false (by omega)
                    have hk2 : ¬ (k : Int) < (nu : Int) := by omega
                    go_upto_region 15 with fail
                    clear hk1 hk2 cz hk hkt
                    have hglr : g < wr.heap.size := Nat.lt_of_lt_of_le hgl hS.out.tch.size
                    have hBr : B ≤ wr.heap.size := by omega
                    have cz : wr.cell? ⟨g, i * 8 + 2, none⟩ = some (.slice eo ne ec) := hS.out.cell hx.out 2 _ (by rw [hcs.out]; rfl) (by first | omega | (refine ⟨?_, ?_⟩ <;> omega) | (refine ⟨⟨?_, ?_⟩, ?_⟩ <;> omega))
                    have hSa := Lib.hid (hS.out.below (alloc_below wr (.cells #[.string ⟨#[109, 111, 114, 101]⟩, .string ⟨#[109, 111, 114, 101]⟩] 9)) hglr)
                    have cza := hSa.out.cell hx.out 2 _ (by rw [hcs.out]; rfl) (by first | omega | (refine ⟨?_, ?_⟩ <;> omega) | (refine ⟨⟨?_, ?_⟩, ?_⟩ <;> omega))
                    have haa := Lib.hid (a1.out.shp hSa.out.shp)
                    have hna := Lib.hid (new_cells wr [.string ⟨#[109, 111, 114, 101]⟩, .string ⟨#[109, 111, 114, 101]⟩] 9)
                    have hsr := Lib.hid (fun k (q : (Value.slice eo ne ec).ownBlock = some k) => (⟨haa.out.ge q, hbx.out k (.inl q), n1.out k q⟩ : B ≤ k ∧ k < N ∧ k ≠ g))
                    have hBa : B ≤ (wr.alloc (.cells #[.string ⟨#[109, 111, 114, 101]⟩, .string ⟨#[109, 111, 114, 101]⟩] 9)).heap.size := Nat.le_trans hBr (by simp)
                    have hga : g < (wr.alloc (.cells #[.string ⟨#[109, 111, 114, 101]⟩, .string ⟨#[109, 111, 114, 101]⟩] 9)).heap.size := Nat.lt_of_lt_of_le hglr (by simp)
                    replace hBa := Lib.hid hBa
                    replace hga := Lib.hid hga
                    skip
                    go_cut [] (fun wx => Hid (SpI w B N g L (fun c => i * 8 ≤ c ∧ c ≠ i * 8 + 2) wx))
                    case first =>
                      go_wp2_with (first
                        | (at_builtin; go_loud (refine wp_append_shp (by rfl) _ _ 48 (by rfl) B 9 i9 _ 1 16 Try.underlying48 h9.out h90.out h91.out h92.out rfl (by decide) _ ne (by rfl) haa.out ⟨wr.heap.size, 0, none⟩ 2 _ [.string ⟨#[109, 111, 114, 101]⟩, .string ⟨#[109, 111, 114, 101]⟩] (by rfl) rfl hna.out (by simp [Value.oneCell']) (by have := hz1.out; unfold maxLen; omega) (by have := hz1.out; omega) hBa.out ?_); intro v3 w3 hv3 hg3 hs3; obtain ⟨eo3, ec3, rfl⟩ := hv3.shape; have hS3 := Lib.hid (hSa.out.grown hg3 hs3 hsr.out hga.out); obtain ⟨u3, hu3, hfz3⟩ := hS3.out.store hany.out (c := i * 8 + 2) (by omega); have hgl3 : g < w3.heap.size := Nat.lt_of_lt_of_le hga.out hg3.size; have hB3 : B ≤ w3.heap.size := Nat.le_trans hBa.out hg3.size; clear hg3 hs3 hv3)
                        | fail)
                      go_meet
                      exact Lib.hid (hS3.out.own _ _ hBg hgN)
                    case rest =>
                      have hS4 := hcut
                      have hgl4 : g < wc.heap.size := Nat.lt_of_lt_of_le hgl hS4.out.tch.size
                      have hB4 : B ≤ wc.heap.size := by have := hS4.out.tch.size; omega
                      clear cz cza hSa haa hna hsr hBa hga hcut
                      have cz : wc.cell? ⟨g, i * 8 + 3, none⟩ = some (.slice tg nt tc) := hS4.out.cell hx.out 3 _ (by rw [hcs.out]; rfl) (by first | omega | (refine ⟨?_, ?_⟩ <;> omega) | (refine ⟨⟨?_, ?_⟩, ?_⟩ <;> omega))
                      have hSa := Lib.hid (hS4.out.below (alloc_below wc (.cells #[.string ⟨#[]⟩, .string ⟨#[]⟩, .float .f64 0, .string ⟨#[]⟩, .string ⟨#[]⟩, .float .f64 0] 57)) hgl4)
                      have cza := hSa.out.cell hx.out 3 _ (by rw [hcs.out]; rfl) (by first | omega | (refine ⟨?_, ?_⟩ <;> omega) | (refine ⟨⟨?_, ?_⟩, ?_⟩ <;> omega))
                      have haa := Lib.hid (a2.out.shp hSa.out.shp)
                      have hna := Lib.hid (new_cells wc [.string ⟨#[]⟩, .string ⟨#[]⟩, .float .f64 0, .string ⟨#[]⟩, .string ⟨#[]⟩, .float .f64 0] 57)
                      have hsr := Lib.hid (fun k (q : (Value.slice tg nt tc).ownBlock = some k) => (⟨haa.out.ge q, hbx.out k (.inr (.inl q)), n2.out k q⟩ : B ≤ k ∧ k < N ∧ k ≠ g))
                      have hBa : B ≤ (wc.alloc (.cells #[.string ⟨#[]⟩, .string ⟨#[]⟩, .float .f64 0, .string ⟨#[]⟩, .string ⟨#[]⟩, .float .f64 0] 57)).heap.size := Nat.le_trans hB4 (by simp)
                      have hga : g < (wc.alloc (.cells #[.string ⟨#[]⟩, .string ⟨#[]⟩, .float .f64 0, .string ⟨#[]⟩, .string ⟨#[]⟩, .float .f64 0] 57)).heap.size := Nat.lt_of_lt_of_le hgl4 (by simp)
                      replace hBa := Lib.hid hBa
                      replace hga := Lib.hid hga
                      go_upto_region 16 with fail
                      go_cut [] (fun wx => Hid (SpI w B N g L (fun c => (i * 8 ≤ c ∧ c ≠ i * 8 + 2) ∧ c ≠ i * 8 + 3) wx))
                      case first =>
                        go_wp2_with (first
                          | (at_builtin; go_loud (refine wp_append_shp (by rfl) _ _ 49 (by rfl) B 57 i57 _ 3 40 Try.underlying49 h57.out h570.out h571.out h572.out rfl (by decide) _ nt (by rfl) haa.out ⟨wc.heap.size, 0, none⟩ 2 _ [.string ⟨#[]⟩, .string ⟨#[]⟩, .float .f64 0, .string ⟨#[]⟩, .string ⟨#[]⟩, .float .f64 0] (by rfl) rfl hna.out (by simp [Value.oneCell']) (by have := hz2.out; unfold maxLen; omega) (by have := hz2.out; omega) hBa.out ?_); intro v3 wt hv3 hg3 hs3; obtain ⟨to3, tc3, rfl⟩ := hv3.shape; have hT3 := Lib.hid (hSa.out.grown hg3 hs3 hsr.out hga.out); obtain ⟨u3, hu3, hfz3⟩ := hT3.out.store hany.out (c := i * 8 + 3) (by omega); have hglt : g < wt.heap.size := Nat.lt_of_lt_of_le hga.out hg3.size; have hBt : B ≤ wt.heap.size := Nat.le_trans hBa.out hg3.size; clear hg3 hs3 hv3)
                          | fail)
                        go_meet
                        exact Lib.hid (hT3.out.own _ _ hBg hgN)
                      case rest =>
                        have hS5 := hcut
                        have hgl5 : g < wc.heap.size := Nat.lt_of_lt_of_le hgl hS5.out.tch.size
                        have hB5 : B ≤ wc.heap.size := by have := hS5.out.tch.size; omega
                        clear cz cza hSa haa hna hsr hBa hga hcut
                        have cz : wc.cell? ⟨g, i * 8 + 5, none⟩ = some (.slice ro nu rc) := hS5.out.cell hx.out 5 _ (by rw [hcs.out]; rfl) (by first | omega | (refine ⟨?_, ?_⟩ <;> omega) | (refine ⟨⟨?_, ?_⟩, ?_⟩ <;> omega))
                        have hSa := Lib.hid (hS5.out.below (alloc_below wc (.cells #[.string ⟨#[]⟩, .string ⟨#[]⟩, .string ⟨#[]⟩, .bool false, .string ⟨#[]⟩, .string ⟨#[]⟩, .string ⟨#[]⟩, .bool false] 101)) hgl5)
                        have cza := hSa.out.cell hx.out 5 _ (by rw [hcs.out]; rfl) (by first | omega | (refine ⟨?_, ?_⟩ <;> omega) | (refine ⟨⟨?_, ?_⟩, ?_⟩ <;> omega))
                        have haa := Lib.hid (a3.out.shp hSa.out.shp)
                        have hna := Lib.hid (new_cells wc [.string ⟨#[]⟩, .string ⟨#[]⟩, .string ⟨#[]⟩, .bool false, .string ⟨#[]⟩, .string ⟨#[]⟩, .string ⟨#[]⟩, .bool false] 101)
                        have hsr := Lib.hid (fun k (q : (Value.slice ro nu rc).ownBlock = some k) => (⟨haa.out.ge q, hbx.out k (.inr (.inr q)), n3.out k q⟩ : B ≤ k ∧ k < N ∧ k ≠ g))
                        have hBa : B ≤ (wc.alloc (.cells #[.string ⟨#[]⟩, .string ⟨#[]⟩, .string ⟨#[]⟩, .bool false, .string ⟨#[]⟩, .string ⟨#[]⟩, .string ⟨#[]⟩, .bool false] 101)).heap.size := Nat.le_trans hB5 (by simp)
                        have hga : g < (wc.alloc (.cells #[.string ⟨#[]⟩, .string ⟨#[]⟩, .string ⟨#[]⟩, .bool false, .string ⟨#[]⟩, .string ⟨#[]⟩, .string ⟨#[]⟩, .bool false] 101)).heap.size := Nat.lt_of_lt_of_le hgl5 (by simp)
                        replace hBa := Lib.hid hBa
                        replace hga := Lib.hid hga
                        go_upto_region 17 with fail
                        go_cut [] (fun wx => Hid (SpI w B N g L (fun c => ((i * 8 ≤ c ∧ c ≠ i * 8 + 2) ∧ c ≠ i * 8 + 3) ∧ c ≠ i * 8 + 5) wx))
                        case first =>
                          go_wp2_with (first
                            | (at_builtin; go_loud (refine wp_append_shp (by rfl) _ _ 50 (by rfl) B 101 i101 _ 4 56 Try.underlying50 h101.out h1010.out h1011.out h1012.out rfl (by decide) _ nu (by rfl) haa.out ⟨wc.heap.size, 0, none⟩ 2 _ [.string ⟨#[]⟩, .string ⟨#[]⟩, .string ⟨#[]⟩, .bool false, .string ⟨#[]⟩, .string ⟨#[]⟩, .string ⟨#[]⟩, .bool false] (by rfl) rfl hna.out (by simp [Value.oneCell']) (by have := hz3.out; unfold maxLen; omega) (by have := hz3.out; omega) hBa.out ?_); intro v3 wu hv3 hg3 hs3; obtain ⟨ro3, rc3, rfl⟩ := hv3.shape; have hU3 := Lib.hid (hSa.out.grown hg3 hs3 hsr.out hga.out); obtain ⟨u3, hu3, hfz3⟩ := hU3.out.store hany.out (c := i * 8 + 5) (by omega); have hglu : g < wu.heap.size := Nat.lt_of_lt_of_le hga.out hg3.size; have hBu : B ≤ wu.heap.size := Nat.le_trans hBa.out hg3.size; clear hg3 hs3 hv3)
                            | fail)
                          go_meet
                          exact Lib.hid (hU3.out.own _ _ hBg hgN)
                        case rest =>
                          have hS6 := hcut
                          have hgl6 : g < wc.heap.size := Nat.lt_of_lt_of_le hgl hS6.out.tch.size
                          have hB6 : B ≤ wc.heap.size := by have := hS6.out.tch.size; omega
                          clear cz cza hSa haa hna hsr hBa hga hcut
                          obtain ⟨q0, d0, f0⟩ := hS6.out.store hany.out (c := i * 8) (by omega)
                          obtain ⟨q1, d1, f1⟩ := hS6.out.store hany.out (c := i * 8 + 1) (by omega)
                          obtain ⟨q2, d2, f2⟩ := hS6.out.store hany.out (c := i * 8 + 2) (by omega)
                          obtain ⟨q3, d3, f3⟩ := hS6.out.store hany.out (c := i * 8 + 3) (by omega)
                          obtain ⟨q4, d4, f4⟩ := hS6.out.store hany.out (c := i * 8 + 4) (by omega)
                          obtain ⟨q5, d5, f5⟩ := hS6.out.store hany.out (c := i * 8 + 5) (by omega)
                          obtain ⟨q6, d6, f6⟩ := hS6.out.store hany.out (c := i * 8 + 6) (by omega)
                          obtain ⟨q7, d7, f7⟩ := hS6.out.store hany.out (c := i * 8 + 7) (by omega)
                          go_wp2
                          go_roundg (L.length - (i + 1) + 1)
                          case rel => exact ⟨i + 1, rfl, hlt, by first | rw [hwk.out] | go_num, Lib.hid (((((((((hS6.out.own _ _ hBg hgN).own _ _ hBg hgN).own _ _ hBg hgN).own _ _ hBg hgN).own _ _ hBg hgN).own _ _ hBg hgN).own _ _ hBg hgN).own _ _ hBg hgN).mono (fun c hc => by have q : (i + 1) * 8 ≤ c := hc; omega))⟩
                          case measure => exact nn_downS hlt
      · have hk0 : decide ((i : Int) < (L.length : Int)) = false := decide_eq_false (by omega)
        have hk2 : ¬ (i : Int) < (L.length : Int) := by omega
        go_wp2
        refine bodyPost_end (results_none rfl _ _ _) rfl ?_
        exact ⟨rfl, hS.out.shp, hS.out.tch⟩
end Go.Proofs.Ytjepgpocmnijiaa
end
