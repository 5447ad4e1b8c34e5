/- Texts joined: plain words, and the walks of emit's Join and of the document's. -/
import Derived.Test.YtmlcljbpobgdiaaNodes
namespace Go.Em
def ne (l : List ByteArray) : List ByteArray := l.filter fun d => !d.data.toList.isEmpty
def sep : List UInt8 := [45, 45, 45, 10]
def joined (l : List ByteArray) : List UInt8 := Lib.join ((ne l).map (·.data.toList)) sep
theorem ne_snoc (l : List ByteArray) (d : ByteArray) : ne (l ++ [d]) = if d.data.toList.isEmpty then ne l else ne l ++ [d] := by
  unfold ne
  rw [List.filter_append]
  rw [List.filter_cons, List.filter_nil]
  cases h : d.data.toList.isEmpty
  · rw [if_pos (by simp), if_neg (by simp)]
  · rw [if_neg (by simp), if_pos rfl, List.append_nil]
theorem join_snoc (xs : List (List UInt8)) (y s : List UInt8) (h : xs ≠ []) : Lib.join (xs ++ [y]) s = Lib.join xs s ++ s ++ y := by
  cases xs with
  | nil => exact absurd rfl h
  | cons x r =>
    rw [List.cons_append, Lib.join_cons, Lib.join_cons]
    simp [Lib.joinTail, List.append_assoc]
theorem joined_empty (l : List ByteArray) (d : ByteArray) (h : d.data.toList.isEmpty = true) : joined (l ++ [d]) = joined l := by
  unfold joined
  rw [ne_snoc, if_pos h]
theorem joined_first (l : List ByteArray) (d : ByteArray) (h : d.data.toList.isEmpty = false) (hl : ne l = []) : joined (l ++ [d]) = d.data.toList := by
  unfold joined
  rw [ne_snoc, if_neg (by rw [h]; simp), hl]
  exact Lib.join_one _ _
theorem joined_more (l : List ByteArray) (d : ByteArray) (h : d.data.toList.isEmpty = false) (hl : ne l ≠ []) : joined (l ++ [d]) = joined l ++ sep ++ d.data.toList := by
  unfold joined
  rw [ne_snoc, if_neg (by rw [h]; simp), List.map_append]
  exact join_snoc _ _ _ (by simpa using hl)
theorem joined_nil (l : List ByteArray) : joined l = [] ↔ ne l = [] := by
  constructor
  · intro h
    cases hn : ne l with
    | nil => rfl
    | cons x r =>
      unfold joined at h
      rw [hn, List.map_cons, Lib.join_cons] at h
      have hx : x ∈ ne l := by rw [hn]; exact List.mem_cons_self
      unfold ne at hx
      have := (List.mem_filter.1 hx).2
      have h0 := (List.append_eq_nil_iff.1 h).1
      rw [h0] at this
      simp at this
  · intro h
    unfold joined
    rw [h]; rfl
theorem lens_ne (l : List ByteArray) : Lib.lens ((ne l).map (·.data.toList)) ≤ (l.map ByteArray.size).sum := by
  induction l with
  | nil => simp [ne, Lib.lens]
  | cons d l ih =>
    unfold ne at ih ⊢
    rw [List.filter_cons]
    have e : d.data.toList.length = d.size := by rw [Array.length_toList]; rfl
    split
    · simp only [List.map_cons, Lib.lens, List.sum_cons] at ih ⊢
      omega
    · simp only [List.map_cons, List.sum_cons] at ih ⊢
      omega
theorem ne_length (l : List ByteArray) : (ne l).length ≤ l.length := List.length_filter_le _ _
theorem joined_length (l : List ByteArray) (h : (l.map ByteArray.size).sum + l.length ≤ 1048576) : (joined l).length ≤ 6000000 := by
  have h1 := lens_ne l
  have h2 := ne_length l
  unfold joined
  cases hn : (ne l).map (·.data.toList) with
  | nil => simp [Lib.join, List.intercalate]
  | cons x r =>
    rw [Lib.join_length, ← hn]
    have h3 : r.length + 1 = (ne l).length := by rw [← List.length_map (f := fun d : ByteArray => d.data.toList), hn]; rfl
    have h4 : sep.length = 4 := rfl
    rw [h4]
    omega
theorem sum_take (l : List ByteArray) (i : Nat) : ((l.take i).map ByteArray.size).sum + (l.take i).length ≤ (l.map ByteArray.size).sum + l.length := by
  have h1 : (l.map ByteArray.size).sum = ((l.take i).map ByteArray.size).sum + ((l.drop i).map ByteArray.size).sum := by
    rw [← List.sum_append, ← List.map_append, List.take_append_drop]
  have h2 := List.length_take_le i l
  have h3 : (l.take i).length ≤ l.length := by rw [List.length_take]; omega
  omega
end Go.Em
namespace Go.Proofs.Ytmlcljbpobgdiaa
open Go.ChangeShapes Go.WideShapes Go.ChangeAt Go.RowKit
open Go.Em
set_option linter.unusedVariables false
def B (l : List UInt8) : ByteArray := ⟨l.toArray⟩
theorem B_app (x y : List UInt8) : B x ++ B y = B (x ++ y) := by
  apply ByteArray.ext
  simp [B]
theorem B_data (d : ByteArray) : B d.data.toList = d := by
  apply ByteArray.ext
  simp [B]
theorem B_size (l : List UInt8) : (B l).size = l.length := by
  show (l.toArray).size = _
  simp
theorem size_mem {docs : List ByteArray} {i : Nat} {d : ByteArray} (h : docs[i]? = some d) : d.size ≤ (docs.map ByteArray.size).sum := by
  induction docs generalizing i with
  | nil => simp at h
  | cons x r ih =>
    rw [List.map_cons, List.sum_cons]
    cases i with
    | zero => simp at h; subst h; omega
    | succ i => have := ih (i := i) (by simpa using h); omega
theorem info9 : (Try.prog.info? 9).map (fun i => (i.zero, i.size, i.bytes)) = some (some (.string ⟨#[]⟩), 1, 16) := by kernel_rfl
theorem str_at {w : World} {ao : Option Addr} {cap : Nat} {docs : List ByteArray} (h : Rd.SliceOf Rd.str w (.slice ao docs.length cap) docs) {i : Nat} {d : ByteArray} (hd : docs[i]? = some d) : ∃ b off, ao = some ⟨b, off, none⟩ ∧ b < w.heap.size ∧ w.cell? ⟨b, off + i, none⟩ = some (.string d) := by
  obtain ⟨b, off, cap', hv, hb, hx⟩ := h.at (by rintro rfl; simp at hd)
  cases hv
  exact ⟨b, off, rfl, hb, by simpa [Rd.cellsAt, Rd.str] using (hx i d hd).1⟩
set_option maxHeartbeats 2000000 in
theorem refjoin7 (docs : List ByteArray) (v : Value) (w : World) (hrd : Rd.SliceOf Rd.str w v docs) (hs : (docs.map ByteArray.size).sum + docs.length ≤ 1048576) :
    Calls Try.prog 7 #[v] w fun e w' => e = .returned (.string (B (joined docs))) ∧ w = w' := by
  obtain ⟨ao, cap, hv⟩ : ∃ ao cap, v = .slice ao docs.length cap := by obtain ⟨_, ao, cap, rfl, _⟩ := hrd; exact ⟨_, _, rfl⟩
  subst hv
  have hlen := hrd.1
  replace hrd := Lib.hid hrd
  replace hs := Lib.hid hs
  go_enter Try.func7, Try.ntmps7
  go_wp2_with fail
  go_loopg [3, 4] docs.length (fun g sv ic wr => ∃ i : Nat, i ≤ docs.length ∧ g = docs.length - i ∧ ic = .int .i64 i ∧ sv = .string (B (joined (docs.take i))) ∧ w = wr)
  case atStart => exact ⟨0, by omega, rfl, rfl, rfl, rfl⟩
  case round =>
    obtain ⟨i, hi, rfl, rfl, rfl, rfl⟩ := hrel
    by_cases hlt : i < docs.length
    · have hi1 : (i : Int) < (docs.length : Int) := by omega
      have hd := List.getElem?_eq_getElem hlt
      obtain ⟨b, off, rfl, _, hc⟩ := str_at hrd.out hd
      have htk : docs.take (i + 1) = docs.take i ++ [docs[i]] := List.take_succ_eq_append_getElem hlt
      generalize docs[i] = d at *
      have hjl := joined_length (docs.take i) (Nat.le_trans (sum_take docs i) hs.out)
      obtain ⟨J, hJ⟩ : ∃ J, J = B (joined (docs.take i)) := ⟨_, rfl⟩
      rw [← hJ]
      replace hJ := Lib.hid hJ
      replace htk := Lib.hid htk
      replace hd := Lib.hid hd
      have hJs : J.size ≤ 6000000 := by rw [hJ.out, B_size]; exact hjl
      have hds : d.size ≤ 1048576 := by have := size_mem hd.out; have := hs.out; omega
      have n1 : ¬ 9223372036854775807 < J.size + 4 := by omega
      have n2 : ¬ 9223372036854775807 < J.size + 4 + d.size := by omega
      have n3 : ¬ 9223372036854775807 < J.size + d.size := by omega
      have hJe : J.toList.isEmpty = (joined (docs.take i)).isEmpty := by rw [Lib.toList_data, hJ.out]; simp [B]
      replace hJe := Lib.hid hJe
      clear hjl hJs hds
      rcases Bool.eq_false_or_eq_true d.data.toList.isEmpty with he | he
      · have hd1 : d.toList.isEmpty = true := by rw [Lib.toList_data]; exact he
        have hn := Lib.hid (show J = B (joined (docs.take (i + 1))) by rw [htk.out, joined_empty _ _ he]; exact hJ.out)
        clear he
        go_wp2_with fail
        go_roundg (docs.length - (i + 1))
        case measure => omega
        case rel => exact ⟨i + 1, by omega, rfl, by go_num, by rw [← hn.out], rfl⟩
      · have hd1 : d.toList.isEmpty = false := by rw [Lib.toList_data]; exact he
        by_cases hl : ne (docs.take i) = []
        · have hJ1 : J.toList.isEmpty = true := by rw [hJe.out, (joined_nil _).2 hl]; rfl
          have hn := Lib.hid (show J ++ d = B (joined (docs.take (i + 1))) by
            rw [htk.out, joined_first _ _ he hl, hJ.out, (joined_nil _).2 hl, B_data]
            apply ByteArray.ext
            simp [B])
          clear he hl
          go_wp2_with fail
          go_roundg (docs.length - (i + 1))
          case measure => omega
          case rel => exact ⟨i + 1, by omega, rfl, by go_num, by rw [← hn.out], rfl⟩
        · have hJ1 : J.toList.isEmpty = false := by
            rw [hJe.out]
            cases h : joined (docs.take i) with
            | nil => exact absurd ((joined_nil _).1 h) hl
            | cons a r => rfl
          have hn := Lib.hid (show J ++ ⟨#[45, 45, 45, 10]⟩ ++ d = B (joined (docs.take (i + 1))) by
            rw [htk.out, joined_more _ _ he hl, hJ.out, ← B_app, ← B_app, B_data]
            rfl)
          clear he hl
          go_wp2_with fail
          go_roundg (docs.length - (i + 1))
          case measure => omega
          case rel => exact ⟨i + 1, by omega, rfl, by go_num, by rw [← hn.out], rfl⟩
    · obtain rfl : i = docs.length := by omega
      go_wp2_with fail
      go_ret
      rw [List.take_length]
      exact ⟨rfl, rfl⟩
set_option maxHeartbeats 2000000 in
theorem join6 (docs : List ByteArray) (v : Value) (w : World) (hrd : Rd.SliceOf Rd.str w v docs) (hs : (docs.map ByteArray.size).sum + docs.length ≤ 1048576) :
    Calls Try.prog 6 #[v] w fun e w' => e = .returned (.string (B (joined docs))) ∧ Below w.heap.size w w' := by
  obtain ⟨ao, cap, hv⟩ : ∃ ao cap, v = .slice ao docs.length cap := by obtain ⟨_, ao, cap, rfl, _⟩ := hrd; exact ⟨_, _, rfl⟩
  subst hv
  obtain ⟨i0, hi0, hz0, hz1, hz2⟩ := info_parts info9
  have hlen := hrd.1
  replace hrd := Lib.hid hrd
  replace hs := Lib.hid hs
  go_enter Try.func6, Try.ntmps6
  go_wp2_with fail
  go_loopg [3, 8] docs.length (fun g lv ic wr => ∃ i : Nat, i ≤ docs.length ∧ g = docs.length - i ∧ ic = .int .i64 i ∧ wr.ownsRow w.heap.size 9 1 lv (ne (docs.take i)).length ((ne (docs.take i)).map Value.string) ∧ Below w.heap.size w wr)
  case atStart => exact ⟨0, by omega, rfl, rfl, World.ownsRow_nil _ _ _ _, Below.refl _ _⟩
  case round =>
    obtain ⟨i, hi, rfl, rfl, hown, hbr⟩ := hrel
    by_cases hlt : i < docs.length
    · have hi1 : (i : Int) < (docs.length : Int) := by omega
      have hd := List.getElem?_eq_getElem hlt
      obtain ⟨b, off, rfl, hb, hc0⟩ := str_at hrd.out hd
      have htk : docs.take (i + 1) = docs.take i ++ [docs[i]] := List.take_succ_eq_append_getElem hlt
      generalize docs[i] = d at *
      have hc : wr.cell? ⟨b, off + i, none⟩ = some (.string d) := (hbr.cell (by exact hb)).trans hc0
      have hnl : (ne (docs.take i)).length ≤ 1048576 := by
        have h1 := ne_length (docs.take i)
        have h2 : (docs.take i).length ≤ docs.length := by rw [List.length_take]; omega
        have := hs.out
        omega
      have hbase := hbr.size
      replace htk := Lib.hid htk
      replace hd := Lib.hid hd
      clear hc0
      rcases Bool.eq_false_or_eq_true d.data.toList.isEmpty with he | he
      · have hd1 : d.toList.isEmpty = true := by rw [Lib.toList_data]; exact he
        have hn := Lib.hid (show ne (docs.take (i + 1)) = ne (docs.take i) by rw [htk.out, ne_snoc, if_pos he])
        replace hown := Lib.hid hown
        replace hbr := Lib.hid hbr
        clear he hnl
        go_wp2_with fail
        go_roundg (docs.length - (i + 1))
        case measure => omega
        case rel => exact ⟨i + 1, by omega, rfl, by go_num, by rw [hn.out]; exact hown.out, hbr.out⟩
      · have hd1 : d.toList.isEmpty = false := by rw [Lib.toList_data]; exact he
        have hn := Lib.hid (show ne (docs.take (i + 1)) = ne (docs.take i) ++ [d] by rw [htk.out, ne_snoc, if_neg (by rw [he]; simp)])
        replace hbr := Lib.hid hbr
        clear he
        go_wp2_with (at_builtin; (refine Tp.wpList_append_one rfl _ _ 22 rfl w.heap.size 9 i0 (.string ⟨#[]⟩) 16 Try.underlying22 hi0 hz0 hz1 hz2 rfl _ (ne (docs.take i)).length _ (by rfl) hown 1 (by rfl) rfl (by unfold maxLen; omega) (by omega) hbase ?_))
        intro v' w1 hown' hg hbb _
        have hb2 := Lib.hid (hbb w.heap.size w hbr.out (Nat.le_refl _))
        have hown2 := Lib.hid (show w1.ownsRow w.heap.size 9 1 v' (ne (docs.take (i + 1))).length ((ne (docs.take (i + 1))).map Value.string) by
          rw [hn.out, List.length_append, List.map_append]; exact hown')
        clear hown hown' hg hbb
        go_wp2
        go_roundg (docs.length - (i + 1))
        case measure => omega
        case rel => exact ⟨i + 1, by omega, rfl, by go_num, hown2.out, hb2.out⟩
    · obtain rfl : i = docs.length := by omega
      rw [List.take_length] at hown
      have hjl := joined_length docs hs.out
      have hnl := ne_length docs
      have hbr' := Lib.hid hbr
      have hi1 : ¬ ((docs.length : Int) < (docs.length : Int)) := by omega
      rcases hown.2 with ⟨rfl, h0⟩ | ⟨g, capg, cur, rfl, hbg, hg, hnc, _⟩
      · have hne : ne docs = [] := List.eq_nil_of_length_eq_zero h0
        have hj : joined docs = [] := (joined_nil docs).2 hne
        have hk := Lib.hid (Try.strings_Join_none none 0 ⟨#[45, 45, 45, 10]⟩ wr)
        clear hown hbr hjl hnl h0 hne
        go_wp2_with fail
        refine hk.out.mono ?_
        rintro e w1 ⟨rfl, rfl⟩
        go_wp2_with fail
        go_ret
        rw [hj]
        exact ⟨rfl, hbr'.out⟩
      · have hcs := hown.cells (g := g) rfl
        have hlg := (Array.getElem?_eq_some_iff.1 hg).1
        have hk := Try.strings_Join g 0 capg (ne docs) ⟨#[45, 45, 45, 10]⟩ wr (fun j x hj => by
          have := hcs j (.string x) (by rw [List.getElem?_map, hj]; rfl)
          rw [show ((⟨g, 0, none⟩ : Addr).add j) = ⟨g, 0 + j, none⟩ from by unfold Addr.add; split <;> simp_all] at this
          exact this) hlg (by have := hs.out; omega) hnc (by
          show (joined docs).length ≤ _
          omega)
        replace hk := Lib.hid hk
        clear hown hbr hjl hnl hcs hg hnc
        go_wp2_with fail
        refine hk.out.mono ?_
        rintro e w1 ⟨rfl, hb1⟩
        go_wp2_with fail
        go_ret
        exact ⟨rfl, Tp.Below_seq hbr'.out hb1⟩
end Go.Proofs.Ytmlcljbpobgdiaa
