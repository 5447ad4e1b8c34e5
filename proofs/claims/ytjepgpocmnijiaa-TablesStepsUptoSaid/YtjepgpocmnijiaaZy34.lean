/- What Shares asks: is a split named, and a copy of shares. -/
import Derived.Test.YtjepgpocmnijiaaZy25
import Derived.Test.YtjepgpocmnijiaaZy31
import Derived.Test.YtjepgpocmnijiaaZy28
section
/- What the walks of both Checks start from. -/
namespace Go.Proofs.Ytjepgpocmnijiaa
open Go.RowKit Go.Mp Go.Ck
set_option linter.unusedVariables false
set_option maxRecDepth 100000
set_option maxHeartbeats 8000000
theorem tch_three {w : World} {g : Nat} (a b c : Value) : Tch (fun q => q = g) w (((w.setCell ⟨g, 0, none⟩ a).setCell ⟨g, 1, none⟩ b).setCell ⟨g, 2, none⟩ c) :=
  ((Tch.setCell (S := fun q => q = g) w (p := ⟨g, 0, none⟩) rfl a).trans (Tch.setCell (S := fun q => q = g) _ (p := ⟨g, 1, none⟩) rfl b) (fun k q => .inl q)).trans (Tch.setCell (S := fun q => q = g) _ (p := ⟨g, 2, none⟩) rfl c) (fun k q => .inl q)
def CheckOut (w : World) (e40 : TypeId) (l : List Res) (e : Ending) (w' : World) : Prop := ∃ wv f ws, Chk l f ws ∧ e = .returned (.tuple #[wv, .agg #[.int .i64 f.1, .int .i64 f.2.1, .int .i64 f.2.2]]) ∧ w'.ownsRow w.heap.size e40 3 wv ws.length (wcs ws) ∧ Below w.heap.size w w'
theorem three_cells {w : World} {g T : Nat} {a b c : Value} (h : w.heap[g]? = some (.cells #[a, b, c] T (0, 0))) : (w.cell? ⟨g, 0, none⟩ = some a ∧ w.cell? ⟨g, 1, none⟩ = some b ∧ w.cell? ⟨g, 2, none⟩ = some c) ∧ (w.frozen? ⟨g, 0, none⟩ = false ∧ w.frozen? ⟨g, 1, none⟩ = false ∧ w.frozen? ⟨g, 2, none⟩ = false) :=
  ⟨⟨box_at h rfl, box_at h rfl, box_at h rfl⟩, frozen_of_row _ _ _ _ _ h, frozen_of_row _ _ _ _ _ h, frozen_of_row _ _ _ _ _ h⟩
theorem set_three {w w' : World} {B g : Nat} (h : Below B w w') (hB : B ≤ g) (a b c : Value) : Below B w (((w'.setCell ⟨g, 0, none⟩ a).setCell ⟨g, 1, none⟩ b).setCell ⟨g, 2, none⟩ c) :=
  ((h.setCell (p := ⟨g, 0, none⟩) hB _).setCell (p := ⟨g, 1, none⟩) hB _).setCell (p := ⟨g, 2, none⟩) hB _
end Go.Proofs.Ytjepgpocmnijiaa
end

section

namespace Go.Ck
open Go.RowKit
set_option linter.unusedVariables false
/-- The fault of a configuration, as a number. -/
def faultC (l : List Res) : Int := (faultP l).2.2
theorem res_weights {w : World} {v : Value} {l : List Res} (h : ResS w v l) : ∀ r ∈ l, ∀ t ∈ r.tgts, t.weight < 18446744073709551616 := fun r hr t ht => by
  obtain ⟨ao, cap, rfl⟩ := slice_shape h
  obtain ⟨i, hi⟩ := List.mem_iff_getElem?.1 hr
  obtain ⟨_, _, _, _, _, _, _, _, _, _, _, hp⟩ := Go.Proofs.Ytjepgpocmnijiaa.res_at2 h hi
  exact rp_weights hp _ (List.mem_map.2 ⟨t, ht, rfl⟩)
theorem cfg_of {w : World} {v : Value} {l : List Res} {f : Flt} {ws : List Warn} (h : ResS w v l) (hM : listM l ≤ 1048576) (hc : Chk l f ws) (h0 : f.2.2 = 0) : Cfg l := by
  cases hc with
  | out _ => cases h0
  | count _ _ => cases h0
  | dang _ _ _ _ _ => cases h0
  | twice _ _ _ _ _ _ => cases h0
  | heavy _ _ _ _ _ _ _ => cases h0
  | ring _ _ _ _ _ _ _ _ => cases h0
  | fine h1 h2 h3 _ h5 h6 => exact ⟨h2, h1, h3, h5, h6, res_weights h, fun r hr => Nat.le_trans (tgts_le r) (Nat.le_trans (mem_le hr) hM)⟩
end Go.Ck
namespace Go.Proofs.Ytjepgpocmnijiaa
open Go.RowKit Go.Mp Go.Ck Fl
set_option linter.unusedVariables false
set_option maxRecDepth 100000
set_option maxHeartbeats 4000000
end Go.Proofs.Ytjepgpocmnijiaa
end
