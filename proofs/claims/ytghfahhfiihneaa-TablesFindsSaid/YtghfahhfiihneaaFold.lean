/- The walk of paths.Fold: a host, folded byte by byte in a copy. -/
import Derived.Test.YtghfahhfiihneaaPat
import Derived.Test.YtghfahhfiihneaaMem
import Derived.Lib.ConvBytes
import Derived.Laws.BytesString
namespace Go.Tp
open Go.RowKit
/-- 'string(b)' of a slice whose cells are these bytes. -/
theorem run_string_of_cells {P : Program} (w : World) (src dst e : TypeId) (a : Addr) (l : List UInt8) (n cap : Nat) (hn : l.length = n)
    (hs : P.underlying src = some (.slice e)) (he : P.underlying e = some (.int .u8)) (hd : P.underlying dst = some .string)
    (h : ∀ j, j < l.length → w.cell? (a.add j) = some (.int .u8 ((l.getD j 0).toNat : Int))) :
    (convert src dst (.slice (some a) n cap)).run P w = .ok (.string ⟨l.toArray⟩) w := by
  subst hn
  rw [run_convert_bytes_string w src dst e (some a) _ cap hs he hd]
  have h2 := run_loadCells_list (P := P) (w := w) a (l.map fun c => Value.int .u8 (c.toNat : Int)) (fun j v hv => by
    rw [List.getElem?_map] at hv
    obtain ⟨c, hc, rfl⟩ := Option.map_eq_some_iff.1 hv
    have hj := (List.getElem?_eq_some_iff.1 hc).1
    rw [h j hj]
    simp [List.getD, hc])
  rw [List.length_map] at h2
  have h3 := run_bytesToString (P := P) w a l.length cap (l.map fun c => (c.toNat : Int)) (by rw [h2]; simp)
  rw [h3]
  congr 2
  have hf : ∀ (l : List UInt8) (acc : ByteArray), (l.map fun c => (c.toNat : Int)).foldl (fun (r : ByteArray) n => r.push (UInt8.ofNat n.toNat)) acc = ⟨acc.data ++ l.toArray⟩ := by
    intro l
    induction l with
    | nil => intro acc; obtain ⟨d⟩ := acc; simp
    | cons c r ih =>
      intro acc
      rw [List.map_cons, List.foldl_cons, ih]
      obtain ⟨d⟩ := acc
      simp [ByteArray.push]
  rw [hf]
  show (⟨#[] ++ l.toArray⟩ : ByteArray) = _
  simp
theorem frozen_marked (w : World) (g j : Nat) (cs : Array Value) (t : TypeId) (a b : Nat) (hg : w.heap[g]? = some (.cells cs t (a, b))) (h : j < a) : w.frozen? ⟨g, j, none⟩ = false := by
  simp [World.frozen?, hg]; omega
theorem heap_set_m {w : World} {b i : Nat} {c : Array Value} {T : TypeId} {m : Nat × Nat} (v : Value) (h : w.heap[b]? = some (.cells c T m)) : (w.setCell ⟨b, i, none⟩ v).heap[b]? = some (.cells (c.setIfInBounds i v) T m) := by
  simp [World.setCell, Array.getElem?_modify, h]
end Go.Tp
namespace Go.Proofs.Ytghfahhfiihneaa
open Go.ChangeShapes Go.WideShapes Go.ChangeAt Go.RowKit
open Go.Pa
set_option linter.unusedVariables false

def vb (c : UInt8) : Value := .int .u8 (c.toNat : Int)
/-- The copy's block behind k bytes. -/
structure FInv (w : World) (l : Bs) (k : Nat) (wr : World) : Prop where
  blk : ∃ (row : Array Value) (N : Nat), wr.heap[w.heap.size]? = some (.cells row 5 (N, N + 1)) ∧ l.length ≤ N ∧ row.size = N ∧ ∀ j, j < l.length → row[j]? = some (vb (if j < k then lowc (l.getD j 0) else l.getD j 0))
  below : Below w.heap.size w wr
theorem FInv.at {w wr : World} {l : Bs} {k : Nat} (h : FInv w l k wr) (hk : k < l.length) : wr.cell? ⟨w.heap.size, k, none⟩ = some (vb (l.getD k 0)) ∧ wr.frozen? ⟨w.heap.size, k, none⟩ = false := by
  obtain ⟨⟨row, N, h1, h2, h3, h4⟩, _⟩ := h
  refine ⟨?_, Tp.frozen_marked wr _ _ _ _ _ _ h1 (by omega)⟩
  rw [cell_of_row wr _ _ _ _ _ h1, h4 k hk, if_neg (by omega)]
theorem FInv.keep {w wr : World} {l : Bs} {k : Nat} (h : FInv w l k wr) (hk : k < l.length) (hc : lowc (l.getD k 0) = l.getD k 0) : FInv w l (k + 1) wr := by
  obtain ⟨⟨row, N, h1, h2, h3, h4⟩, h5⟩ := h
  refine ⟨⟨row, N, h1, h2, h3, fun j hj => ?_⟩, h5⟩
  rw [h4 j hj]
  rcases Nat.lt_trichotomy j k with h | h | h
  · rw [if_pos h, if_pos (by omega)]
  · subst h; rw [if_neg (by omega), if_pos (by omega), hc]
  · rw [if_neg (by omega), if_neg (by omega)]
theorem FInv.set {w wr : World} {l : Bs} {k : Nat} (h : FInv w l k wr) (hk : k < l.length) {v : Value} (hv : v = vb (lowc (l.getD k 0))) : FInv w l (k + 1) (wr.setCell ⟨w.heap.size, k, none⟩ v) := by
  obtain ⟨⟨row, N, h1, h2, h3, h4⟩, h5⟩ := h
  refine ⟨⟨_, N, Tp.heap_set_m v h1, h2, by rw [Array.size_setIfInBounds, h3], fun j hj => ?_⟩, h5.setCell (Nat.le_refl _) _⟩
  rw [Array.getElem?_setIfInBounds]
  rcases Nat.lt_trichotomy j k with h | h | h
  · rw [if_neg (by omega), h4 j hj, if_pos h, if_pos (by omega)]
  · subst h; rw [if_pos rfl, if_pos (by omega), if_pos (by omega), hv]
  · rw [if_neg (by omega), h4 j hj, if_neg (by omega), if_neg (by omega)]
theorem FInv.text {w wr : World} {l : Bs} (h : FInv w l l.length wr) (cap : Nat) : (convert 167 9 (.slice (some ⟨w.heap.size, 0, none⟩) l.length cap)).run Try.prog wr = .ok (.string (B (l.map lowc))) wr := by
  obtain ⟨⟨row, N, h1, h2, h3, h4⟩, h5⟩ := h
  refine Tp.run_string_of_cells wr 167 9 5 _ (l.map lowc) l.length cap (by simp) Try.underlying167 Try.underlying5 Try.underlying9 fun j hj => ?_
  rw [List.length_map] at hj
  have e : (⟨w.heap.size, 0, none⟩ : Addr).add j = ⟨w.heap.size, j, none⟩ := by unfold Addr.add; split <;> simp_all
  rw [e, cell_of_row wr _ _ _ _ _ h1, h4 j hj, if_pos hj]
  simp [vb, List.getD, hj]
theorem FInv.start (w : World) (s : ByteArray) : FInv w s.data.toList 0 (Lib.bytesWorld w 5 s) := by
  refine ⟨⟨_, _, Lib.bytesWorld_at_new w 5 s, ?_, rfl, fun j hj => ?_⟩, ?_⟩
  · rw [len_data]; unfold Lib.bytesCells; simp
  · rw [if_neg (by omega)]
    rw [len_data] at hj
    have h := Lib.bytesWorld_cell w 5 s j hj
    rw [cell_of_row _ _ _ _ _ _ (Lib.bytesWorld_at_new w 5 s)] at h
    exact h
  · refine ⟨rfl, rfl, rfl, by rw [Lib.bytesWorld_size]; omega, fun k hk => Lib.bytesWorld_at_old w 5 s k hk⟩
def FoldV (l : Bs) : Value := match foldH l with
  | none => .tuple #[.string ByteArray.empty, .bool false]
  | some h => .tuple #[.string (B h), .bool true]
theorem foldV_no {l : Bs} (h : foldOk l = false) : FoldV l = .tuple #[.string ⟨#[]⟩, .bool false] := by unfold FoldV foldH; rw [if_neg (by simp [h])]; rfl
theorem foldV_yes {l : Bs} (h : foldOk l = true) : FoldV l = .tuple #[.string (B (l.map lowc)), .bool true] := by unfold FoldV foldH; rw [if_pos h]
theorem low_big {c : UInt8} (h1 : (65 : Int) ≤ (c.toNat : Int)) (h2 : (c.toNat : Int) ≤ 90) : ((lowc c).toNat : Int) = (c.toNat : Int) + 32 := by
  unfold lowc
  rw [if_pos (by rw [Bool.and_eq_true, decide_eq_true_eq, decide_eq_true_eq]; exact ⟨(u8_lo (n := 65) (by decide)).2 h1, (u8_hi (n := 90) (by decide)).2 h2⟩)]
  rw [UInt8.toNat_add]
  have : (32 : UInt8).toNat = 32 := rfl
  rw [this]; omega
theorem low_self {c : UInt8} (h : ¬ ((65 : Int) ≤ (c.toNat : Int) ∧ (c.toNat : Int) ≤ 90)) : lowc c = c := by
  unfold lowc
  rw [if_neg]
  rw [Bool.and_eq_true, decide_eq_true_eq, decide_eq_true_eq]
  exact fun h' => h ⟨(u8_lo (n := 65) (by decide)).1 h'.1, (u8_hi (n := 90) (by decide)).1 h'.2⟩
theorem hostc_iff (c : UInt8) : hostc c = true ↔ ((97 : Int) ≤ (c.toNat : Int) ∧ (c.toNat : Int) ≤ 122) ∨ ((48 : Int) ≤ (c.toNat : Int) ∧ (c.toNat : Int) ≤ 57) ∨ (c.toNat : Int) = 45 ∨ (c.toNat : Int) = 46 := by
  unfold hostc
  simp only [Bool.or_eq_true, Bool.and_eq_true, decide_eq_true_eq]
  have e1 : (c == 45) = true ↔ (c.toNat : Int) = 45 := by rw [show (c == 45) = ((c.toNat : Int) == 45) from u8_eq (n := 45) (by decide), beq_iff_eq]
  have e2 : (c == 46) = true ↔ (c.toNat : Int) = 46 := by rw [show (c == 46) = ((c.toNat : Int) == 46) from u8_eq (n := 46) (by decide), beq_iff_eq]
  rw [e1, e2]
  exact or_congr (and_congr (u8_lo (n := 97) (by decide)) (u8_hi (n := 122) (by decide))) (or_congr (and_congr (u8_lo (n := 48) (by decide)) (u8_hi (n := 57) (by decide))) Iff.rfl)
theorem okc_iff (c : UInt8) : hostc (lowc c) = true ↔ ((65 : Int) ≤ (c.toNat : Int) ∧ (c.toNat : Int) ≤ 90) ∨ ((97 : Int) ≤ (c.toNat : Int) ∧ (c.toNat : Int) ≤ 122) ∨ ((48 : Int) ≤ (c.toNat : Int) ∧ (c.toNat : Int) ≤ 57) ∨ (c.toNat : Int) = 45 ∨ (c.toNat : Int) = 46 := by
  by_cases h : (65 : Int) ≤ (c.toNat : Int) ∧ (c.toNat : Int) ≤ 90
  · have := low_big h.1 h.2
    rw [hostc_iff, this]; omega
  · rw [low_self h, hostc_iff]; omega
theorem foldOk_short {s : ByteArray} (h : ¬ (1 ≤ s.size ∧ s.size ≤ 64)) : foldOk s.data.toList = false := by
  unfold foldOk; rw [len_data]
  by_cases h1 : 1 ≤ s.size
  · have : ¬ s.size ≤ 64 := by omega
    simp [this]
  · simp [h1]
theorem foldOk_bad {s : ByteArray} {k : Nat} (hk : k < s.size) (h : hostc (lowc s[k]) = false) : foldOk s.data.toList = false := by
  unfold foldOk; rw [all_no (f := fun c => hostc (lowc c)) s k hk h]; simp
theorem foldOk_good {s : ByteArray} (h1 : 1 ≤ s.size) (h2 : s.size ≤ 64) (h : s.data.toList.all (fun c => hostc (lowc c)) = true) : foldOk s.data.toList = true := by
  unfold foldOk; rw [h, len_data]; simp [h1, h2]
theorem getD_data (s : ByteArray) (k : Nat) (h : k < s.size) : s.data.toList.getD k 0 = s[k] := by
  have : k < s.data.toList.length := by rw [len_data]; exact h
  simp only [List.getD, List.getElem?_eq_getElem this]; rfl

set_option maxHeartbeats 2000000 in
theorem fold_any (s : ByteArray) (w : World) (hs : s.size ≤ maxLen) :
    Calls Try.prog 81 #[.string s] w fun e w' => e = .returned (FoldV s.data.toList) ∧ Below w.heap.size w w' := by
  unfold maxLen at hs
  rcases (show (s.size : Int) < 1 ∨ (1 ≤ s.size ∧ (64 : Int) < s.size) ∨ (1 ≤ s.size ∧ s.size ≤ 64) from by omega) with h | ⟨h, h2⟩ | ⟨h, h2⟩
  · have hr := Lib.hid (foldV_no (foldOk_short (s := s) (by omega)))
    go_enter Try.func81, Try.ntmps81
    go_wp2
    go_ret2
    exact ⟨by rw [hr.out]; rfl, Below.refl _ _⟩
  · have hr := Lib.hid (foldV_no (foldOk_short (s := s) (by omega)))
    go_enter Try.func81, Try.ntmps81
    go_wp2
    go_ret2
    exact ⟨by rw [hr.out]; rfl, Below.refl _ _⟩
  · have hcv := Lib.run_convert_string_bytes (P := Try.prog) w 9 167 5 s Try.underlying9 Try.underlying167 Try.underlying5
    have hF0 := FInv.start w s
    generalize grownCap w s.size 0 5 = cap at *
    generalize Lib.bytesWorld w 5 s = w1 at *
    replace hF0 := Lib.hid hF0
    have d1 : decide ((s.size : Int) < 1) = false := by simp; omega
    have d2 : decide ((64 : Int) < (s.size : Int)) = false := by simp; omega
    go_enter Try.func81, Try.ntmps81
    go_wp2
    clear hcv
    go_loopg [19] s.size (fun g i wr => ∃ k : Nat, k ≤ s.size ∧ g = s.size - k ∧ i = .int .i64 k ∧ (s.data.toList.take k).all (fun c => hostc (lowc c)) = true ∧ FInv w s.data.toList k wr)
    case atStart => exact ⟨0, by omega, rfl, rfl, rfl, hF0.out⟩
    case round =>
      obtain ⟨k, hk, rfl, rfl, ha, I⟩ := hrel
      clear hF0
      by_cases hlt : k < s.size
      · have hl : k < s.data.toList.length := by rw [len_data]; exact hlt
        have hcell := I.at hl
        rw [getD_data s k hlt] at hcell
        obtain ⟨hc0, hf0⟩ := hcell
        unfold vb at hc0
        by_cases hc : hostc (lowc s[k]) = true
        · have ha2 := Lib.hid (all_step (f := fun c => hostc (lowc c)) s k hlt ha hc)
          by_cases hbig : (65 : Int) ≤ (s[k].toNat : Int) ∧ (s[k].toNat : Int) ≤ 90
          · have hI2 := fun v hv => FInv.set (v := v) I hl hv
            rw [getD_data s k hlt] at hI2
            unfold vb at hI2
            rw [low_big hbig.1 hbig.2] at hI2
            have hI3 := Lib.hid (hI2 _ rfl)
            obtain ⟨b1, b2⟩ := hbig
            clear ha I hc hI2
            go_wp2
            go_roundg (s.size - (k + 1))
            case measure => omega
            case rel => exact ⟨k + 1, by omega, rfl, by go_num, ha2.out, hI3.out⟩
          · have hI2 := Lib.hid (FInv.keep I hl (by rw [getD_data s k hlt]; exact low_self hbig))
            have hcases := (okc_iff _).1 hc
            clear ha I hc
            rcases (show ((97 : Int) ≤ (s[k].toNat : Int) ∧ (s[k].toNat : Int) ≤ 122) ∨ ((48 : Int) ≤ (s[k].toNat : Int) ∧ (s[k].toNat : Int) ≤ 57) ∨ (s[k].toNat : Int) = 45 ∨ (s[k].toNat : Int) = 46 from by omega) with ⟨q1, q2⟩ | ⟨q1, q2⟩ | q1 | q1
            · clear hcases hbig
              go_wp2
              go_roundg (s.size - (k + 1))
              case measure => omega
              case rel => exact ⟨k + 1, by omega, rfl, by go_num, ha2.out, hI2.out⟩
            · clear hcases hbig
              go_wp2
              go_roundg (s.size - (k + 1))
              case measure => omega
              case rel => exact ⟨k + 1, by omega, rfl, by go_num, ha2.out, hI2.out⟩
            · clear hcases hbig
              rw [q1] at hc0
              go_wp2
              go_roundg (s.size - (k + 1))
              case measure => omega
              case rel => exact ⟨k + 1, by omega, rfl, by go_num, ha2.out, hI2.out⟩
            · clear hcases hbig
              rw [q1] at hc0
              go_wp2
              go_roundg (s.size - (k + 1))
              case measure => omega
              case rel => exact ⟨k + 1, by omega, rfl, by go_num, ha2.out, hI2.out⟩
        · have hr := Lib.hid (foldV_no (foldOk_bad (s := s) (k := k) hlt (by simpa using hc)))
          have hcases := mt (okc_iff (s[k]'hlt)).2 hc
          have hbel := Lib.hid I.below
          have e45 : ((s[k].toNat : Int) == 45) = false := by simp; omega
          have e46 : ((s[k].toNat : Int) == 46) = false := by simp; omega
          have h0 : (0 : Int) ≤ (s[k].toNat : Int) := by omega
          rcases (show (s[k].toNat : Int) < 48 ∨ ((57 : Int) < (s[k].toNat : Int) ∧ (s[k].toNat : Int) < 65) ∨ ((90 : Int) < (s[k].toNat : Int) ∧ (s[k].toNat : Int) < 97) ∨ (122 : Int) < (s[k].toNat : Int) from by omega) with q1 | ⟨q1, q2⟩ | ⟨q1, q2⟩ | q1
          all_goals
            clear ha I hc hcases
            go_wp2
            go_ret2
            exact ⟨by rw [hr.out]; rfl, hbel.out⟩
      · have hk2 : s.size = k := by omega
        have hl2 : s.data.toList.length = k := by rw [len_data]; exact hk2
        have hI2 := I
        rw [← hl2] at hI2
        have htx := hI2.text cap
        rw [len_data] at htx
        rw [take_all s (by omega)] at ha
        have hr := Lib.hid (foldV_yes (foldOk_good (by omega) (by omega) ha))
        have hbel := Lib.hid I.below
        clear ha I hk2 hl2 hI2
        go_wp2
        go_ret2
        exact ⟨by rw [hr.out]; rfl, hbel.out⟩
end Go.Proofs.Ytghfahhfiihneaa
