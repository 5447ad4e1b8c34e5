/- The program's Compile. -/
import Derived.Test.YtjepgpocmnijiaaZy22
import Derived.Test.YtjepgpocmnijiaaZy37
section
/- The walk of paths.Host: does a pattern take a host? (Turned from the seat p.) -/
namespace Go.Proofs.Ytjepgpocmnijiaa
open Go.ChangeShapes Go.WideShapes Go.ChangeAt Go.RowKit
open Go.Pa
set_option linter.unusedVariables false
set_option maxRecDepth 100000
theorem dot_data (q : Bs) : (⟨#[46]⟩ ++ B q : ByteArray).data.toList = 46 :: q := by simp [B]
theorem dot_size (q : Bs) (h : q.length ≤ 64) : (⟨#[46]⟩ ++ B q : ByteArray).size ≤ maxLen := by rw [← len_data, dot_data]; unfold maxLen; simp; omega
theorem takes_none {p n : Bs} (h : foldH n = none) : hostTakes p n = false := by unfold hostTakes; rw [h]
theorem takes0 {p n h q : Bs} (h1 : foldH n = some h) (h2 : Go.Pa.sortH p = (0, q)) : hostTakes p n = (q == h) := by unfold hostTakes; rw [h1, h2]; rfl
theorem takes1 {p n h q : Bs} (h1 : foldH n = some h) (h2 : Go.Pa.sortH p = (1, q)) : hostTakes p n = Lib.hasSuffix h (46 :: q) := by unfold hostTakes; rw [h1, h2]; rfl
theorem takes2 {p n h q : Bs} (h1 : foldH n = some h) (h2 : Go.Pa.sortH p = (2, q)) : hostTakes p n = true := by unfold hostTakes; rw [h1, h2]; rfl
theorem takes3 {p n h q : Bs} (h1 : foldH n = some h) (h2 : Go.Pa.sortH p = (3, q)) : hostTakes p n = false := by unfold hostTakes; rw [h1, h2]; rfl


theorem host82 (p n : ByteArray) (w : World) (hp : p.size ≤ maxLen) (hn : n.size ≤ maxLen) :
    Calls Try.prog 82 #[.string p, .string n] w fun e w' => e = .returned (.bool (hostTakes p.data.toList n.data.toList)) ∧ Below w.heap.size w w' := by
  have hf := fold_any n w hn
  have hh := fun w => host36 p w hp
  cases hfo : foldH n.data.toList with
  | none =>
    rw [foldV_none hfo] at hf
    have hr := Lib.hid (takes_none (p := p.data.toList) hfo)
    replace hf := Lib.hid hf
    clear hh hfo
    go_enter Try.func82, Try.ntmps82
    go_wp2_with (go_at_call 125; refine hf.out.mono ?_; rintro e w' ⟨rfl, hb⟩)
    go_ret
    exact ⟨ret_bool hr.out.symm, hb⟩
  | some h =>
    rw [foldV_some hfo] at hf
    have hsl := (foldH_len hfo).2
    replace hf := Lib.hid hf
    rcases sort_cases p.data.toList with ⟨q, hq, hl1, hl2⟩ | ⟨q, hq, hl1, hl2⟩ | hq | hq
    · simp only [hostV_eq hq] at hh
      have hr := takes0 hfo hq
      have e1 : ((B q).toList == (B h).toList) = (q == h) := by rw [eq_lists, B_data, B_data]
      replace hr := Lib.hid (e1.trans hr.symm)
      replace hh := Lib.hid hh
      clear hfo hq e1
      go_enter Try.func82, Try.ntmps82
      go_wp2_with fail
      refine hf.out.mono ?_
      rintro e w1 ⟨rfl, hb⟩
      have hh1 := Lib.hid (hh.out w1)
      replace hb := Lib.hid hb
      go_wp2_with fail
      refine hh1.out.mono ?_
      rintro e w2 ⟨rfl, hb2⟩
      replace hb2 := Lib.hid hb2
      go_wp2
      go_ret
      exact ⟨ret_bool hr.out, Tp.Below_seq hb.out hb2.out⟩
    · simp only [hostV_eq hq] at hh
      have hr := takes1 hfo hq
      have hsf := fun w => hassuf_any (B h) (⟨#[46]⟩ ++ B q) w (by rw [B_size]; unfold maxLen; omega) (dot_size q hl2)
      simp only [B_data, dot_data] at hsf
      rw [hr]
      generalize Lib.hasSuffix h (46 :: q) = R at *
      have hsz : (B q).size ≤ 64 := by rw [B_size]; exact hl2
      replace hsf := Lib.hid hsf
      replace hh := Lib.hid hh
      clear hfo hq hr
      go_enter Try.func82, Try.ntmps82
      go_wp2_with fail
      refine hf.out.mono ?_
      rintro e w1 ⟨rfl, hb⟩
      have hh1 := Lib.hid (hh.out w1)
      replace hb := Lib.hid hb
      go_wp2_with fail
      refine hh1.out.mono ?_
      rintro e w2 ⟨rfl, hb2⟩
      replace hb2 := Lib.hid hb2
      go_wp2_with (go_at_call 126; refine (hsf.out _).mono ?_; rintro e w' ⟨rfl, rfl⟩)
      go_ret
      exact ⟨rfl, Tp.Below_seq hb.out hb2.out⟩
    · simp only [hostV_eq hq] at hh
      have hr := Lib.hid (takes2 hfo hq)
      replace hh := Lib.hid hh
      clear hfo hq
      go_enter Try.func82, Try.ntmps82
      go_wp2_with fail
      refine hf.out.mono ?_
      rintro e w1 ⟨rfl, hb⟩
      have hh1 := Lib.hid (hh.out w1)
      replace hb := Lib.hid hb
      go_wp2_with fail
      refine hh1.out.mono ?_
      rintro e w2 ⟨rfl, hb2⟩
      replace hb2 := Lib.hid hb2
      go_wp2
      go_ret
      exact ⟨ret_bool hr.out.symm, Tp.Below_seq hb.out hb2.out⟩
    · simp only [hostV_eq hq] at hh
      have hr := Lib.hid (takes3 hfo hq)
      replace hh := Lib.hid hh
      clear hfo hq
      go_enter Try.func82, Try.ntmps82
      go_wp2_with fail
      refine hf.out.mono ?_
      rintro e w1 ⟨rfl, hb⟩
      have hh1 := Lib.hid (hh.out w1)
      replace hb := Lib.hid hb
      go_wp2_with fail
      refine hh1.out.mono ?_
      rintro e w2 ⟨rfl, hb2⟩
      replace hb2 := Lib.hid hb2
      go_wp2
      go_ret
      exact ⟨ret_bool hr.out.symm, Tp.Below_seq hb.out hb2.out⟩

end Go.Proofs.Ytjepgpocmnijiaa
end

section
/- The walk of paths.Best: the first of the patterns that take a host. -/
namespace Go.Proofs.Ytjepgpocmnijiaa
open Go.ChangeShapes Go.WideShapes Go.ChangeAt Go.RowKit
open Go.Pa
set_option linter.unusedVariables false
set_option maxRecDepth 100000

/-- The value is a slice of texts that reads as the list (a nil one as the empty list). -/
def RdS (w : World) (v : Value) (ss : List ByteArray) : Prop :=
  ∃ ao cap, v = .slice ao ss.length cap ∧ (ss = [] ∨ ∃ b off, ao = some ⟨b, off, none⟩ ∧ b < w.heap.size ∧ ∀ i, i < ss.length → w.cell? ⟨b, off + i, none⟩ = some (.string (ss.getD i ByteArray.empty)))
theorem RdS.below {w w' : World} {v : Value} {ss : List ByteArray} (h : RdS w v ss) (hb : Below w.heap.size w w') : RdS w' v ss := by
  obtain ⟨ao, cap, rfl, h⟩ := h
  refine ⟨ao, cap, rfl, ?_⟩
  rcases h with h | ⟨b, off, rfl, hb', hc⟩
  · exact .inl h
  · exact .inr ⟨b, off, rfl, Nat.lt_of_lt_of_le hb' hb.size, fun i hi => (hb.cell (by exact hb')).trans (hc i hi)⟩
def bl (ss : List ByteArray) : List Bs := ss.map fun s => s.data.toList
theorem bl_at (ss : List ByteArray) (k : Nat) : (bl ss).getD k [] = (ss.getD k ByteArray.empty).data.toList := by
  unfold bl
  rw [List.getD, List.getD, List.getElem?_map]
  cases ss[k]? <;> rfl
theorem size_at {ss : List ByteArray} (h : ∀ s ∈ ss, s.size ≤ maxLen) (k : Nat) : (ss.getD k ByteArray.empty).size ≤ maxLen := by
  rw [List.getD]
  cases hk : ss[k]? with
  | none => exact Nat.zero_le _
  | some s => exact h s (List.mem_of_getElem? hk)
def BestPost (ss : List ByteArray) (name : ByteArray) (w : World) (e : Ending) (w' : World) : Prop := ∃ (i : Nat) (f : Bool), e = .returned (.tuple #[.int .i64 i, .bool f]) ∧ BestIs (bl ss) name.data.toList ss.length i f ∧ Below w.heap.size w w'

set_option maxHeartbeats 4000000 in
theorem best54 (ss : List ByteArray) (hss : ∀ s ∈ ss, s.size ≤ maxLen) (name : ByteArray) (hn : name.size ≤ maxLen) (v : Value) (w : World) (hrd : RdS w v ss) (hlen : ss.length ≤ 100000000000000) :
    Calls Try.prog 54 #[v, .string name] w (BestPost ss name w) := by
  obtain ⟨ao, cap, rfl, hr⟩ := hrd
  replace hr := Lib.hid hr
  go_enter Try.func54, Try.ntmps54
  go_wp2
  go_loopg [6, 7, 12] ss.length (fun g bv fv ic wr => ∃ (k i : Nat) (f : Bool), k ≤ ss.length ∧ g = ss.length - k ∧ ic = .int .i64 k ∧ bv = .int .i64 i ∧ fv = .bool f ∧ BestIs (bl ss) name.data.toList k i f ∧ Below w.heap.size w wr)
  case atStart => exact ⟨0, 0, false, by omega, rfl, rfl, rfl, rfl, .inl ⟨rfl, rfl, fun k hk => by omega⟩, Below.refl _ _⟩
  case round =>
    obtain ⟨k, i, f, hk, rfl, rfl, rfl, rfl, hB, hbel⟩ := hrel
    by_cases hlt : k < ss.length
    · obtain ⟨b, off, hao, hbw, hc⟩ := hr.out.resolve_left (by rintro rfl; simp at hlt)
      subst hao
      have hk0 : (k : Int) < (ss.length : Int) := by omega
      have hck : wr.cell? ⟨b, off + k, none⟩ = some (.string (ss.getD k ByteArray.empty)) := (hbel.cell (by exact hbw)).trans (hc k hlt)
      obtain ⟨p, hp⟩ : ∃ p, p = ss.getD k ByteArray.empty := ⟨_, rfl⟩
      rw [← hp] at hck
      have hpl : (bl ss).getD k [] = p.data.toList := by rw [bl_at, ← hp]
      have hps : p.size ≤ maxLen := by rw [hp]; exact size_at hss k
      have hcall := host82 p name wr hps hn
      generalize htk : hostTakes p.data.toList name.data.toList = t at *
      have hsk := fun h2 => best_skip (n := k) hB h2
      have htake := fun h1 h2 => best_take (n := k) hB h1 h2
      rw [hpl, htk] at hsk htake
      replace hcall := Lib.hid hcall
      cases t with
      | false =>
        have hB2 := Lib.hid (hsk (.inl rfl))
        clear hc hB hp hpl hsk htake htk hps
        go_wp2_with fail
        refine hcall.out.mono ?_
        rintro e w1 ⟨rfl, hb1⟩
        have hbel2 := Lib.hid (Tp.Below_seq hbel hb1)
        clear hbel hb1 hcall
        go_wp2
        go_roundg (ss.length - (k + 1))
        case measure => omega
        case rel => exact ⟨k + 1, i, f, by omega, rfl, by go_num, rfl, rfl, hB2.out, hbel2.out⟩
      | true =>
        cases f with
        | false =>
          have hB2 := Lib.hid (htake rfl (.inl rfl))
          clear hc hB hp hpl hsk htake htk hps
          go_wp2_with fail
          refine hcall.out.mono ?_
          rintro e w1 ⟨rfl, hb1⟩
          have hbel2 := Lib.hid (Tp.Below_seq hbel hb1)
          clear hbel hb1 hcall
          go_wp2
          go_roundg (ss.length - (k + 1))
          case measure => omega
          case rel => exact ⟨k + 1, k, true, by omega, rfl, by go_num, rfl, rfl, hB2.out, hbel2.out⟩
        | true =>
          have hi : i < ss.length := by
            rcases hB with ⟨h, _⟩ | ⟨_, h⟩
            · cases h
            · have := h.lt; omega
          have hi0 : (i : Int) < (ss.length : Int) := by omega
          have hci := hc i hi
          obtain ⟨q, hq⟩ : ∃ q, q = ss.getD i ByteArray.empty := ⟨_, rfl⟩
          rw [← hq] at hci
          have hql : (bl ss).getD i [] = q.data.toList := by rw [bl_at, ← hq]
          have hqs : q.size ≤ maxLen := by rw [hq]; exact size_at hss i
          have hord := fun w => order33 p q w hps hqs
          rw [hql] at hsk htake
          generalize orderH p.data.toList q.data.toList = o at *
          replace hord := Lib.hid hord
          have hci0 := Lib.hid hci
          by_cases ho : o < 0
          · have hB2 := Lib.hid (htake rfl (.inr ho))
            clear hc hB hp hpl hsk htake htk hps hq hql hqs hci
            go_wp2_with fail
            refine hcall.out.mono ?_
            rintro e w1 ⟨rfl, hb1⟩
            have hbel2 := Tp.Below_seq hbel hb1
            have hci1 : w1.cell? ⟨b, off + i, none⟩ = some (.string q) := (hbel2.cell (by exact hbw)).trans hci0.out
            replace hbel2 := Lib.hid hbel2
            have ho1 := Lib.hid (hord.out w1)
            clear hbel hb1 hcall
            go_wp2_with fail
            refine ho1.out.mono ?_
            rintro e w2 ⟨rfl, hb2⟩
            have hbel3 := Lib.hid (Tp.Below_seq hbel2.out hb2)
            clear hb2 hbel2
            go_wp2
            go_roundg (ss.length - (k + 1))
            case measure => omega
            case rel => exact ⟨k + 1, k, true, by omega, rfl, by go_num, rfl, rfl, hB2.out, hbel3.out⟩
          · have hB2 := Lib.hid (hsk (.inr ⟨rfl, by omega⟩))
            have ho' : 0 ≤ o := by omega
            clear hc hB hp hpl hsk htake htk hps hq hql hqs hci
            go_wp2_with fail
            refine hcall.out.mono ?_
            rintro e w1 ⟨rfl, hb1⟩
            have hbel2 := Tp.Below_seq hbel hb1
            have hci1 : w1.cell? ⟨b, off + i, none⟩ = some (.string q) := (hbel2.cell (by exact hbw)).trans hci0.out
            replace hbel2 := Lib.hid hbel2
            have ho1 := Lib.hid (hord.out w1)
            clear hbel hb1 hcall
            go_wp2_with fail
            refine ho1.out.mono ?_
            rintro e w2 ⟨rfl, hb2⟩
            have hbel3 := Lib.hid (Tp.Below_seq hbel2.out hb2)
            clear hb2 hbel2
            go_wp2
            go_roundg (ss.length - (k + 1))
            case measure => omega
            case rel => exact ⟨k + 1, i, true, by omega, rfl, by go_num, rfl, rfl, hB2.out, hbel3.out⟩
    · obtain rfl : k = ss.length := by omega
      have hfin : BestPost ss name w (.returned (.tuple #[.int .i64 i, .bool f])) wr := ⟨i, f, rfl, hB, hbel⟩
      replace hfin := Lib.hid hfin
      clear hB hbel
      go_wp2
      go_ret2
      exact hfin.out
end Go.Proofs.Ytjepgpocmnijiaa
end

section
/- The laws' awake: its configuration, and what it is compiled to. -/
namespace Go.Ck
open Go.RowKit Go.Mp Go.Stab
open Go.Proofs.Ytjepgpocmnijiaa
set_option linter.unusedVariables false
def aT1 : List Tgt := [⟨⟨#[97]⟩, ⟨#[]⟩, 4632233691727265792⟩, ⟨⟨#[]⟩, ⟨#[116]⟩, 4632233691727265792⟩]
def aT2 : List Tgt := [⟨⟨#[97]⟩, ⟨#[]⟩, 4627730092099895296⟩, ⟨⟨#[98]⟩, ⟨#[]⟩, 4634978072750194688⟩]
def aR1 : List Rul := [⟨⟨#[47, 112, 42]⟩, ⟨#[71, 69, 84]⟩, ⟨#[115]⟩, false⟩]
def aR2 : List Rul := [⟨⟨#[47, 112, 47, 120]⟩, ⟨#[42]⟩, ⟨#[]⟩, false⟩]
def awL : List Res := [⟨1, ⟨#[97]⟩, [], [], ⟨#[]⟩, [], ⟨#[]⟩, false⟩, ⟨1, ⟨#[98]⟩, [], [], ⟨#[]⟩, [], ⟨#[]⟩, false⟩, ⟨2, ⟨#[115]⟩, [], aT1, ⟨#[]⟩, [], ⟨#[]⟩, false⟩, ⟨2, ⟨#[116]⟩, [], aT2, ⟨#[]⟩, [], ⟨#[]⟩, false⟩, ⟨3, ⟨#[114]⟩, [], [], ⟨#[42, 46, 120]⟩, aR1, ⟨#[]⟩, false⟩, ⟨4, ⟨#[112]⟩, [], [], ⟨#[]⟩, aR2, ⟨#[114]⟩, false⟩]
theorem aw_list : listM awL ≤ 1048576 := by decide +kernel
theorem aw_fault : faultC awL = 0 := by decide +kernel
theorem aw_code3 : codeV 3 awL = 0 := by unfold codeV; rw [if_neg (by decide), aw_fault]
theorem aw_code0 : codeV 0 awL = 2 := by unfold codeV; rw [if_pos (by decide)]
theorem aw_shares : (stepsS (shOf awL ⟨#[115]⟩)).map (fun s => (s.service, s.upto)) = [(⟨#[97]⟩, 4603804719079489536), (⟨#[98]⟩, 4607182418800017408)] := by decide +kernel
theorem shr_inj : ∀ {l l' : List Shr}, l.map (fun s => (s.service, s.upto)) = l'.map (fun s => (s.service, s.upto)) → l = l'
  | [], [], _ => rfl
  | [], _ :: _, h => by cases h
  | _ :: _, [], h => by cases h
  | ⟨a, b⟩ :: l, ⟨c, d⟩ :: l', h => by
    simp only [List.map_cons, List.cons.injEq, Prod.mk.injEq] at h
    obtain ⟨⟨h1, h2⟩, h3⟩ := h
    rw [shr_inj h3, h1, h2]
theorem aw_shares2 : stepsS (shOf awL ⟨#[115]⟩) = [⟨⟨#[97]⟩, 4603804719079489536⟩, ⟨⟨#[98]⟩, 4607182418800017408⟩] := shr_inj aw_shares
def awH : Hst := ⟨⟨#[42, 46, 120]⟩, ⟨#[114]⟩, [⟨⟨#[47, 112, 42]⟩, ⟨#[71, 69, 84]⟩, [⟨⟨#[97]⟩, 4603804719079489536⟩, ⟨⟨#[98]⟩, 4607182418800017408⟩]⟩], [⟨⟨#[47, 112, 47, 120]⟩, ⟨#[42]⟩, false⟩]⟩
theorem aw_hosts : hostsOf awL = [awH] := by
  have h1 : awL.filter (kindP 3) = [⟨3, ⟨#[114]⟩, [], [], ⟨#[42, 46, 120]⟩, aR1, ⟨#[]⟩, false⟩] := by rfl
  have h2 : permitsOf awL ⟨#[114]⟩ = [⟨⟨#[47, 112, 47, 120]⟩, ⟨#[42]⟩, false⟩] := by kernel_rfl
  unfold hostsOf
  rw [h1, List.map_cons, List.map_nil, List.mergeSort_singleton]
  unfold hostOf awH
  simp only [h2]
  show [Hst.mk _ _ [entOf awL _] _] = _
  unfold entOf
  rw [aw_shares2]
theorem aw_svcs : svcsOf awL = [⟨#[97]⟩, ⟨#[98]⟩] := by rfl
theorem aw_hostsV : hostsV 3 awL = [awH] := by unfold hostsV; rw [if_pos aw_code3, aw_hosts]
theorem aw_svcsV : svcsV 3 awL = [⟨#[97]⟩, ⟨#[98]⟩] := by unfold svcsV; rw [if_pos aw_code3, aw_svcs]
theorem aw_verV : verV 3 awL = 3 := by unfold verV; rw [if_pos aw_code3]
theorem aw_takes : Go.Pa.hostTakes [42, 46, 120] [89, 46, 88] = true := by decide +kernel
end Go.Ck
namespace Go.Proofs.Ytjepgpocmnijiaa
open Go.RowKit Go.Mp Go.Ck Go.Stab
set_option linter.unusedVariables false
set_option maxRecDepth 100000
set_option maxHeartbeats 8000000
theorem row_of {α : Type} {E : Rd.Elem α} {w : World} {g : Nat} {xs : List α} (hn : xs.length ≤ 140737488351232) (hg : g < w.heap.size) (h : ∀ i x, xs[i]? = some x → E.R w (Rd.cellsAt w g (0 + i * E.k)) x) : Rd.SliceOf E w (.slice (some ⟨g, 0, none⟩) xs.length xs.length) xs :=
  ⟨hn, _, _, rfl, Nat.le_refl _, .inr ⟨g, 0, rfl, hg, h⟩⟩
def awC1 : Array Value := #[.string ⟨#[97]⟩, .string ⟨#[]⟩, .float .f64 4632233691727265792, .string ⟨#[]⟩, .string ⟨#[116]⟩, .float .f64 4632233691727265792]
def awC2 : Array Value := #[.string ⟨#[97]⟩, .string ⟨#[]⟩, .float .f64 4627730092099895296, .string ⟨#[98]⟩, .string ⟨#[]⟩, .float .f64 4634978072750194688]
def awC3 : Array Value := #[.string ⟨#[47, 112, 42]⟩, .string ⟨#[71, 69, 84]⟩, .string ⟨#[115]⟩, .bool false]
def awC4 : Array Value := #[.string ⟨#[47, 112, 47, 120]⟩, .string ⟨#[42]⟩, .string ⟨#[]⟩, .bool false]
def awC5 (g0 g1 g2 g3 : Nat) : Array Value := #[.int .i64 1, .string ⟨#[97]⟩, .slice none 0 0, .slice none 0 0, .string ⟨#[]⟩, .slice none 0 0, .string ⟨#[]⟩, .bool false, .int .i64 1, .string ⟨#[98]⟩, .slice none 0 0, .slice none 0 0, .string ⟨#[]⟩, .slice none 0 0, .string ⟨#[]⟩, .bool false, .int .i64 2, .string ⟨#[115]⟩, .slice none 0 0, .slice (some ⟨g0, 0, none⟩) 2 2, .string ⟨#[]⟩, .slice none 0 0, .string ⟨#[]⟩, .bool false, .int .i64 2, .string ⟨#[116]⟩, .slice none 0 0, .slice (some ⟨g1, 0, none⟩) 2 2, .string ⟨#[]⟩, .slice none 0 0, .string ⟨#[]⟩, .bool false, .int .i64 3, .string ⟨#[114]⟩, .slice none 0 0, .slice none 0 0, .string ⟨#[42, 46, 120]⟩, .slice (some ⟨g2, 0, none⟩) 1 1, .string ⟨#[]⟩, .bool false, .int .i64 4, .string ⟨#[112]⟩, .slice none 0 0, .slice none 0 0, .string ⟨#[]⟩, .slice (some ⟨g3, 0, none⟩) 1 1, .string ⟨#[114]⟩, .bool false]
theorem aw_mem {w : World} {g0 g1 g2 g3 g4 : Nat} (x0 : w.heap[g0]? = some (.cells awC1 57 (0, 0))) (x1 : w.heap[g1]? = some (.cells awC2 57 (0, 0))) (x2 : w.heap[g2]? = some (.cells awC3 101 (0, 0))) (x3 : w.heap[g3]? = some (.cells awC4 101 (0, 0))) (x4 : w.heap[g4]? = some (.cells (awC5 g0 g1 g2 g3) 52 (0, 0))) : ResS w (.slice (some ⟨g4, 0, none⟩) 6 6) awL := by
  have t1 : Rd.SliceOf tgtE w (.slice (some ⟨g0, 0, none⟩) 2 2) aT1 := row_of (xs := aT1) (by decide) (Array.getElem?_eq_some_iff.1 x0).1 (fun i x hx => match i, hx with
    | 0, hx => by cases hx; exact ⟨⟨box_at x0 (j := 0) rfl, by decide⟩, ⟨box_at x0 (j := 1) rfl, by decide⟩, ⟨box_at x0 (j := 2) rfl, by decide⟩, trivial⟩
    | 1, hx => by cases hx; exact ⟨⟨box_at x0 (j := 3) rfl, by decide⟩, ⟨box_at x0 (j := 4) rfl, by decide⟩, ⟨box_at x0 (j := 5) rfl, by decide⟩, trivial⟩
    | i + 2, hx => by cases hx)
  have t2 : Rd.SliceOf tgtE w (.slice (some ⟨g1, 0, none⟩) 2 2) aT2 := row_of (xs := aT2) (by decide) (Array.getElem?_eq_some_iff.1 x1).1 (fun i x hx => match i, hx with
    | 0, hx => by cases hx; exact ⟨⟨box_at x1 (j := 0) rfl, by decide⟩, ⟨box_at x1 (j := 1) rfl, by decide⟩, ⟨box_at x1 (j := 2) rfl, by decide⟩, trivial⟩
    | 1, hx => by cases hx; exact ⟨⟨box_at x1 (j := 3) rfl, by decide⟩, ⟨box_at x1 (j := 4) rfl, by decide⟩, ⟨box_at x1 (j := 5) rfl, by decide⟩, trivial⟩
    | i + 2, hx => by cases hx)
  have t3 : Rd.SliceOf rulE w (.slice (some ⟨g2, 0, none⟩) 1 1) aR1 := row_of (xs := aR1) (by decide) (Array.getElem?_eq_some_iff.1 x2).1 (fun i x hx => match i, hx with
    | 0, hx => by cases hx; exact ⟨⟨box_at x2 (j := 0) rfl, by decide⟩, ⟨box_at x2 (j := 1) rfl, by decide⟩, ⟨box_at x2 (j := 2) rfl, by decide⟩, box_at x2 (j := 3) rfl, trivial⟩
    | i + 1, hx => by cases hx)
  have t4 : Rd.SliceOf rulE w (.slice (some ⟨g3, 0, none⟩) 1 1) aR2 := row_of (xs := aR2) (by decide) (Array.getElem?_eq_some_iff.1 x3).1 (fun i x hx => match i, hx with
    | 0, hx => by cases hx; exact ⟨⟨box_at x3 (j := 0) rfl, by decide⟩, ⟨box_at x3 (j := 1) rfl, by decide⟩, ⟨box_at x3 (j := 2) rfl, by decide⟩, box_at x3 (j := 3) rfl, trivial⟩
    | i + 1, hx => by cases hx)
  have c : ∀ j u, (awC5 g0 g1 g2 g3)[j]? = some u → w.cell? ⟨g4, j, none⟩ = some u := fun j u hu => box_at x4 hu
  exact row_of (xs := awL) (by decide) (Array.getElem?_eq_some_iff.1 x4).1 (fun i x hx => match i, hx with
    | 0, hx => by cases hx; exact resE_of (b := g4) (o := 0) ⟨c 0 _ rfl, c 1 _ rfl, c 2 _ rfl, c 3 _ rfl, c 4 _ rfl, c 5 _ rfl, c 6 _ rfl, c 7 _ rfl⟩ ⟨by decide, by decide, nil_ofw _ _, nil_ofw _ _, by decide, nil_ofw _ _, by decide⟩
    | 1, hx => by cases hx; exact resE_of (b := g4) (o := 8) ⟨c 8 _ rfl, c 9 _ rfl, c 10 _ rfl, c 11 _ rfl, c 12 _ rfl, c 13 _ rfl, c 14 _ rfl, c 15 _ rfl⟩ ⟨by decide, by decide, nil_ofw _ _, nil_ofw _ _, by decide, nil_ofw _ _, by decide⟩
    | 2, hx => by cases hx; exact resE_of (b := g4) (o := 16) ⟨c 16 _ rfl, c 17 _ rfl, c 18 _ rfl, c 19 _ rfl, c 20 _ rfl, c 21 _ rfl, c 22 _ rfl, c 23 _ rfl⟩ ⟨by decide, by decide, nil_ofw _ _, t1, by decide, nil_ofw _ _, by decide⟩
    | 3, hx => by cases hx; exact resE_of (b := g4) (o := 24) ⟨c 24 _ rfl, c 25 _ rfl, c 26 _ rfl, c 27 _ rfl, c 28 _ rfl, c 29 _ rfl, c 30 _ rfl, c 31 _ rfl⟩ ⟨by decide, by decide, nil_ofw _ _, t2, by decide, nil_ofw _ _, by decide⟩
    | 4, hx => by cases hx; exact resE_of (b := g4) (o := 32) ⟨c 32 _ rfl, c 33 _ rfl, c 34 _ rfl, c 35 _ rfl, c 36 _ rfl, c 37 _ rfl, c 38 _ rfl, c 39 _ rfl⟩ ⟨by decide, by decide, nil_ofw _ _, nil_ofw _ _, by decide, t3, by decide⟩
    | 5, hx => by cases hx; exact resE_of (b := g4) (o := 40) ⟨c 40 _ rfl, c 41 _ rfl, c 42 _ rfl, c 43 _ rfl, c 44 _ rfl, c 45 _ rfl, c 46 _ rfl, c 47 _ rfl⟩ ⟨by decide, by decide, nil_ofw _ _, nil_ofw _ _, by decide, t4, by decide⟩
    | i + 6, hx => by cases hx)
end Go.Proofs.Ytjepgpocmnijiaa
end

section

namespace Go.Proofs.Ytjepgpocmnijiaa
open Go.RowKit Go.Mp Go.Ck Go.Stab
set_option linter.unusedVariables false
set_option maxRecDepth 100000
set_option maxHeartbeats 8000000
theorem comp47 (l : List Res) (ver : Int) (v : Value) (w : World) (hl : ResS w v l) (hM : listM l ≤ 1048576) : Calls Try.prog 47 #[.int .i64 ver, v] w (CompO w ver l) := by
  by_cases h0 : 1 ≤ ver ∧ ver ≤ 1048576 ∧ faultC l = 0
  · exact comp47d l ver v w hl hM h0.1 h0.2.1 h0.2.2
  · obtain ⟨ao, cap, rfl⟩ := slice_shape hl
    obtain ⟨wa, hwa⟩ : ∃ wa, wa = w.alloc (.cells #[.int .i64 0, .slice none 0 0, .slice none 0 0] 62) := ⟨_, rfl⟩
    obtain ⟨zb, hzb⟩ : ∃ zb, zb = w.heap.size := ⟨_, rfl⟩
    have hba : Below w.heap.size w wa := by rw [hwa]; exact alloc_below _ _
    have hza : wa.heap[zb]? = some (.cells #[.int .i64 0, .slice none 0 0, .slice none 0 0] 62) := by rw [hwa, hzb]; exact heap_alloc_new w _
    have hfin : ∀ (wx : World) (c : Int), codeV ver l = c → c ≠ 0 → Below w.heap.size w wx → wx.heap[zb]? = some (.cells #[.int .i64 0, .slice none 0 0, .slice none 0 0] 62) → CompO w ver l (.returned (.tuple #[.agg #[.int .i64 0, .slice none 0 0, .slice none 0 0], .int .i64 c])) (((wx.setCell ⟨zb, 0, none⟩ (.int .i64 0)).setCell ⟨zb, 1, none⟩ (.slice none 0 0)).setCell ⟨zb, 2, none⟩ (.slice none 0 0)) ∧
        ((((wx.setCell ⟨zb, 0, none⟩ (.int .i64 0)).setCell ⟨zb, 1, none⟩ (.slice none 0 0)).setCell ⟨zb, 2, none⟩ (.slice none 0 0)).cell? ⟨zb, 0, none⟩ = some (.int .i64 0) ∧ (((wx.setCell ⟨zb, 0, none⟩ (.int .i64 0)).setCell ⟨zb, 1, none⟩ (.slice none 0 0)).setCell ⟨zb, 2, none⟩ (.slice none 0 0)).cell? ⟨zb, 1, none⟩ = some (.slice none 0 0) ∧ (((wx.setCell ⟨zb, 0, none⟩ (.int .i64 0)).setCell ⟨zb, 1, none⟩ (.slice none 0 0)).setCell ⟨zb, 2, none⟩ (.slice none 0 0)).cell? ⟨zb, 2, none⟩ = some (.slice none 0 0)) := fun wx c h1 h2 hb hx => by
      have hx3 : (((wx.setCell ⟨zb, 0, none⟩ (.int .i64 0)).setCell ⟨zb, 1, none⟩ (.slice none 0 0)).setCell ⟨zb, 2, none⟩ (.slice none 0 0)).heap[zb]? = some (.cells #[.int .i64 0, .slice none 0 0, .slice none 0 0] 62) := box_set (box_set (box_set hx))
      exact ⟨comp_zero h1 h2 (Tch.below hb (tch_put3 wx zb _ _ _ _ _ _) hb.size (fun k q => by rw [q, hzb]; exact Nat.le_refl _)), box_at hx3 (j := 0) rfl, box_at hx3 (j := 1) rfl, box_at hx3 (j := 2) rfl⟩
    have a0 : wa.cell? ⟨zb, 0, none⟩ = some (.int .i64 0) := box_at hza (j := 0) rfl
    have a1 : wa.cell? ⟨zb, 1, none⟩ = some (.slice none 0 0) := box_at hza (j := 1) rfl
    have a2 : wa.cell? ⟨zb, 2, none⟩ = some (.slice none 0 0) := box_at hza (j := 2) rfl
    have fa : ∀ j, wa.frozen? ⟨zb, j, none⟩ = false := fun j => frozen_of_row _ zb j _ _ hza
    by_cases hv : ver < 1
    · have hc2 : codeV ver l = 2 := by unfold codeV; rw [if_pos (.inl hv)]
      obtain ⟨hF, y0, y1, y2⟩ := hfin wa 2 hc2 (by decide) hba hza
      replace hF := Lib.hid hF
      replace hl := Lib.hid hl
      replace hM := Lib.hid hM
      replace hc2 := Lib.hid hc2
      replace hba := Lib.hid hba
      replace hza := Lib.hid hza
      replace h0 := Lib.hid h0
      go_enter Try.func47, Try.ntmps47
      go_upto_region 2 with fail
      rw [← hwa, ← hzb]
      replace hwa := Lib.hid hwa
      replace hzb := Lib.hid hzb
      clear hfin
      go_wp2
      refine bodyPost_ret (v := .tuple #[.agg #[.int .i64 0, .slice none 0 0, .slice none 0 0], .int .i64 2]) (by simp [results, Try.results47, go_sem, y0, y1, y2]) rfl hF.out
    · by_cases hv2 : 1048576 < ver
      · have hc2 : codeV ver l = 2 := by unfold codeV; rw [if_pos (.inr hv2)]
        obtain ⟨hF, y0, y1, y2⟩ := hfin wa 2 hc2 (by decide) hba hza
        have g3 : decide (ver < 1) = false := decide_eq_false hv
        replace hF := Lib.hid hF
        replace hl := Lib.hid hl
        replace hM := Lib.hid hM
        replace hc2 := Lib.hid hc2
        replace hba := Lib.hid hba
        replace hza := Lib.hid hza
        replace h0 := Lib.hid h0
        go_enter Try.func47, Try.ntmps47
        go_upto_region 2 with fail
        rw [← hwa, ← hzb]
        replace hwa := Lib.hid hwa
        replace hzb := Lib.hid hzb
        clear hfin
        go_wp2
        refine bodyPost_ret (v := .tuple #[.agg #[.int .i64 0, .slice none 0 0, .slice none 0 0], .int .i64 2]) (by simp [results, Try.results47, go_sem, y0, y1, y2]) rfl hF.out
      · have hC19 := Lib.hid (check19w l _ wa (hl.below hba) hM)
        have hcf : codeV ver l = faultC l := by unfold codeV; rw [if_neg (by omega)]
        have hne : faultC l ≠ 0 := fun q => h0 ⟨by omega, by omega, q⟩
        obtain ⟨c, hc⟩ : ∃ c, c = faultC l := ⟨_, rfl⟩
        rw [← hc] at hcf hne hC19
        have k0 : (c == 0) = false := beq_eq_false_iff_ne.2 hne
        have k1 : (c != 0) = true := bne_iff_ne.2 hne
        have g3 : decide (ver < 1) = false := decide_eq_false hv
        have g4 : decide (1048576 < ver) = false := decide_eq_false hv2
        replace hl := Lib.hid hl
        replace hM := Lib.hid hM
        replace hba := Lib.hid hba
        replace hcf := Lib.hid hcf
        replace hc := Lib.hid hc
        replace h0 := Lib.hid h0
        clear a0 a1 a2 fa
        go_enter Try.func47, Try.ntmps47
        go_upto_region 3 with fail
        rw [← hwa, ← hzb]
        replace hwa := Lib.hid hwa
        replace hzb := Lib.hid hzb
        go_upto_region 4 with (first
          | (go_at_call 19; (with_reducible refine hC19.out.mono ?_); rintro e w2 ⟨wv, d, n, rfl, _, hb2⟩; have hz2 := (hb2.block zb (Array.getElem?_eq_some_iff.1 hza).1).trans hza; have hb3 := Lib.hid (seq_below hba.out hb2); clear hb2)
          | fail)
        obtain ⟨wf, hwf⟩ : ∃ wf, wf = w2.alloc (.cells #[.int .i64 d, .int .i64 n, .int .i64 c] 27) := ⟨_, rfl⟩
        obtain ⟨bf, hbf⟩ : ∃ bf, bf = w2.heap.size := ⟨_, rfl⟩
        have hbx : wf.heap[bf]? = some (.cells #[.int .i64 d, .int .i64 n, .int .i64 c] 27) := by rw [hwf, hbf]; exact heap_alloc_new w2 _
        have hzf : wf.heap[zb]? = some (.cells #[.int .i64 0, .slice none 0 0, .slice none 0 0] 62) := by rw [hwf]; exact ((alloc_below w2 _).block zb (Array.getElem?_eq_some_iff.1 hz2).1).trans hz2
        have f2 : wf.cell? ⟨bf, 2, none⟩ = some (.int .i64 c) := box_at hbx (j := 2) rfl
        have f2d : wf.drew.cell? ⟨bf, 2, none⟩ = some (.int .i64 c) := f2
        have hbF : Below w.heap.size w wf := by rw [hwf]; exact seq_below hb3.out (alloc_below _ _)
        have hx3 : (((wf.setCell ⟨zb, 0, none⟩ (.int .i64 0)).setCell ⟨zb, 1, none⟩ (.slice none 0 0)).setCell ⟨zb, 2, none⟩ (.slice none 0 0)).drew.heap[zb]? = some (.cells #[.int .i64 0, .slice none 0 0, .slice none 0 0] 62) := box_set (box_set (box_set hzf))
        have hbX : Below w.heap.size w (((wf.setCell ⟨zb, 0, none⟩ (.int .i64 0)).setCell ⟨zb, 1, none⟩ (.slice none 0 0)).setCell ⟨zb, 2, none⟩ (.slice none 0 0)) := Tch.below hbF (tch_put3 wf zb _ _ _ _ _ _) hbF.size (fun k q => by rw [q, hzb.out]; exact Nat.le_refl _)
        have hF := comp_zero hcf.out hne (below_drewN hbX 1)
        have y0 : (((wf.setCell ⟨zb, 0, none⟩ (.int .i64 0)).setCell ⟨zb, 1, none⟩ (.slice none 0 0)).setCell ⟨zb, 2, none⟩ (.slice none 0 0)).drew.cell? ⟨zb, 0, none⟩ = some (.int .i64 0) := box_at hx3 (j := 0) rfl
        have y1 : (((wf.setCell ⟨zb, 0, none⟩ (.int .i64 0)).setCell ⟨zb, 1, none⟩ (.slice none 0 0)).setCell ⟨zb, 2, none⟩ (.slice none 0 0)).drew.cell? ⟨zb, 1, none⟩ = some (.slice none 0 0) := box_at hx3 (j := 1) rfl
        have y2 : (((wf.setCell ⟨zb, 0, none⟩ (.int .i64 0)).setCell ⟨zb, 1, none⟩ (.slice none 0 0)).setCell ⟨zb, 2, none⟩ (.slice none 0 0)).drew.cell? ⟨zb, 2, none⟩ = some (.slice none 0 0) := box_at hx3 (j := 2) rfl
        have a0 : wf.drew.cell? ⟨zb, 0, none⟩ = some (.int .i64 0) := box_at (w := wf.drew) hzf (j := 0) rfl
        have a1 : wf.drew.cell? ⟨zb, 1, none⟩ = some (.slice none 0 0) := box_at (w := wf.drew) hzf (j := 1) rfl
        have a2 : wf.drew.cell? ⟨zb, 2, none⟩ = some (.slice none 0 0) := box_at (w := wf.drew) hzf (j := 2) rfl
        have fa0 : wf.drew.frozen? ⟨zb, 0, none⟩ = false := frozen_of_row wf.drew zb 0 _ _ hzf
        have fa1 : wf.drew.frozen? ⟨zb, 1, none⟩ = false := frozen_of_row wf.drew zb 1 _ _ hzf
        have fa2 : wf.drew.frozen? ⟨zb, 2, none⟩ = false := frozen_of_row wf.drew zb 2 _ _ hzf
        have a0' : wf.cell? ⟨zb, 0, none⟩ = some (.int .i64 0) := box_at (w := wf) hzf (j := 0) rfl
        have a1' : wf.cell? ⟨zb, 1, none⟩ = some (.slice none 0 0) := box_at (w := wf) hzf (j := 1) rfl
        have a2' : wf.cell? ⟨zb, 2, none⟩ = some (.slice none 0 0) := box_at (w := wf) hzf (j := 2) rfl
        have fa0' : wf.frozen? ⟨zb, 0, none⟩ = false := frozen_of_row wf zb 0 _ _ hzf
        have fa1' : wf.frozen? ⟨zb, 1, none⟩ = false := frozen_of_row wf zb 1 _ _ hzf
        have fa2' : wf.frozen? ⟨zb, 2, none⟩ = false := frozen_of_row wf zb 2 _ _ hzf
        have hzbf : bf ≠ zb := fun q => by have h1 := (Array.getElem?_eq_some_iff.1 hz2).1; omega
        rw [← hwf, ← hbf]
        replace hwf := Lib.hid hwf
        replace hbf := Lib.hid hbf
        replace hbx := Lib.hid hbx
        replace hF := Lib.hid hF
        replace hz2 := Lib.hid hz2
        replace hza := Lib.hid hza
        replace hzf := Lib.hid hzf
        replace hbF := Lib.hid hbF
        replace hx3 := Lib.hid hx3
        replace hbX := Lib.hid hbX
        replace y0 := Lib.hid y0
        replace y1 := Lib.hid y1
        replace y2 := Lib.hid y2
        clear hfin
        go_upto_region 5 with fail
        go_region
        all_goals
          go_wp2
          refine bodyPost_ret (v := .tuple #[.agg #[.int .i64 0, .slice none 0 0, .slice none 0 0], .int .i64 c]) (by have y0 := y0.out; have y1 := y1.out; have y2 := y2.out; simp [results, Try.results47, go_sem, y0, y1, y2]) rfl hF.out
end Go.Proofs.Ytjepgpocmnijiaa
end
