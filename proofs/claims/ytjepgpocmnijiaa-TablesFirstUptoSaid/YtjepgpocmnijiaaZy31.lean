/- Steps: the program's and the document's. -/
import Derived.Test.YtjepgpocmnijiaaZy30
import Derived.Test.YtjepgpocmnijiaaZy11
import Derived.Test.YtjepgpocmnijiaaZy27
import Derived.Laws.EntriesVeiled
section
/- The program's search of all splits' shares, that keeps what it found. -/
namespace Go.Proofs.Ytjepgpocmnijiaa
open Go.RowKit Go.Mp Go.Ck Fl
set_option linter.unusedVariables false
set_option maxRecDepth 100000
set_option maxHeartbeats 4000000
/-- The memory of the search. -/
structure AS (W0 w : World) (l : List Res) (db tb fb mb kb : Nat) (T M : ByteArray → Option Value) : Prop where
  bel : Below W0.heap.size W0 w
  le : W0.heap.size ≤ kb
  cd : w.cell? ⟨db, 0, none⟩ = some (.map (some kb))
  ct : w.cell? ⟨tb, 0, none⟩ = some (.map (some mb))
  cf : w.cell? ⟨fb, 0, none⟩ = some (.func (.func 132) #[] #[.pointer (some ⟨db, 0, none⟩), .pointer (some ⟨tb, 0, none⟩), .pointer (some ⟨fb, 0, none⟩)])
  tg : MapS nameKey w mb T
  dn : MapS nameKey w kb M
  nm : mb ≠ kb
  nd : db ≠ kb
  nt : tb ≠ kb
  nf : fb ≠ kb
  lt : db < w.heap.size ∧ tb < w.heap.size ∧ fb < w.heap.size ∧ mb < w.heap.size ∧ kb < w.heap.size
  ok : ∀ n v, M n = some v → OwnS w W0.heap.size v (shOf l n)
theorem AS.tch {W0 w w' : World} {l : List Res} {db tb fb mb kb : Nat} {T M : ByteArray → Option Value} {S : Nat → Prop} (h : AS W0 w l db tb fb mb kb T M) (t : Tch S w w') (h0 : ∀ k, S k → W0.heap.size ≤ k ∧ k ≠ db ∧ k ≠ tb ∧ k ≠ fb ∧ k ≠ mb ∧ k ≠ kb) (h1 : ∀ k, S k → ∀ n v, M n = some v → v.ownBlock ≠ some k) : AS W0 w' l db tb fb mb kb T M :=
  ⟨Tch.below h.bel t h.bel.size (fun k q => (h0 k q).1), h.le, t.cell_some h.cd (fun q => (h0 _ q).2.1 rfl), t.cell_some h.ct (fun q => (h0 _ q).2.2.1 rfl), t.cell_some h.cf (fun q => (h0 _ q).2.2.2.1 rfl), h.tg.tch t (fun q => (h0 _ q).2.2.2.2.1 rfl), h.dn.tch t (fun q => (h0 _ q).2.2.2.2.2 rfl), h.nm, h.nd, h.nt, h.nf,
    ⟨Nat.lt_of_lt_of_le h.lt.1 t.size, Nat.lt_of_lt_of_le h.lt.2.1 t.size, Nat.lt_of_lt_of_le h.lt.2.2.1 t.size, Nat.lt_of_lt_of_le h.lt.2.2.2.1 t.size, Nat.lt_of_lt_of_le h.lt.2.2.2.2 t.size⟩,
    fun n v hv => (h.ok n v hv).tch t (fun g hg q => h1 g q n v hv hg)⟩
theorem AS.below {W0 w w' : World} {l : List Res} {db tb fb mb kb : Nat} {T M : ByteArray → Option Value} (h : AS W0 w l db tb fb mb kb T M) (hb : Below w.heap.size w w') : AS W0 w' l db tb fb mb kb T M := h.tch (Tch.of_below (S := fun _ => False) hb) (fun _ q => q.elim) (fun _ q => q.elim)
theorem own_map {w : World} {B kb : Nat} {v : Value} {a : List Shr} {M : ByteArray → Option Value} (h : OwnS w B v a) (hm : MapS nameKey w kb M) : v.ownBlock ≠ some kb := fun q => by
  obtain ⟨es, clock, h1, _⟩ := hm
  rcases h.row.2 with ⟨rfl, _⟩ | ⟨g, cap, cur, rfl, _, hg, _⟩
  · cases q
  · simp only [Value.ownBlock, Option.some.injEq] at q
    subst q
    rw [hg] at h1; cases h1
theorem AS.put {W0 w w' : World} {l : List Res} {db tb fb mb kb : Nat} {T M : ByteArray → Option Value} (h : AS W0 w l db tb fb mb kb T M) {n : ByteArray} {v : Value} (hm : MapS nameKey w' kb (upd M n v)) (t : w.mapTurned w' kb) (hv : OwnS w W0.heap.size v (shOf l n)) : AS W0 w' l db tb fb mb kb T (upd M n v) := by
  have tt : Tch (fun k => k = kb) w w' := Tch.turned t rfl
  refine ⟨Tch.below h.bel tt h.bel.size (fun _ q => by rw [q]; exact h.le), h.le, tt.cell_some h.cd h.nd, tt.cell_some h.ct h.nt, tt.cell_some h.cf h.nf, h.tg.tch tt h.nm, hm, h.nm, h.nd, h.nt, h.nf,
    ⟨Nat.lt_of_lt_of_le h.lt.1 tt.size, Nat.lt_of_lt_of_le h.lt.2.1 tt.size, Nat.lt_of_lt_of_le h.lt.2.2.1 tt.size, Nat.lt_of_lt_of_le h.lt.2.2.2.1 tt.size, Nat.lt_of_lt_of_le h.lt.2.2.2.2 tt.size⟩, fun m u hu => ?_⟩
  unfold upd at hu
  split at hu
  · rename_i e
    cases hu
    rw [e]
    exact hv.tch tt (fun g hg q => own_map hv h.dn (by rw [hg, q]))
  · exact (h.ok m u hu).tch tt (fun g hg q => own_map (h.ok m u hu) h.dn (by rw [hg, q]))
/-- The targets that the map of splits has. -/
def TgtV (W0 : World) (l : List Res) (T : ByteArray → Option Value) : Prop := ∀ n, has l 2 n = true → ∃ ta tc, T n = some (.slice ta (tgtsOf l n).length tc) ∧ Rd.SliceOf tgtE W0 (.slice ta (tgtsOf l n).length tc) (tgtsOf l n)
/-- How a split's shares are answered. -/
def AllO (W0 w : World) (l : List Res) (db tb fb mb kb : Nat) (T M : ByteArray → Option Value) (n : ByteArray) (e : Ending) (w' : World) : Prop :=
  ∃ M' v', e = .returned v' ∧ M' n = some v' ∧ AS W0 w' l db tb fb mb kb T M' ∧ (∀ x v, M x = some v → M' x = some v) ∧ (∀ x v, M' x = some v → M x = some v ∨ ∀ g, v.ownBlock = some g → w.heap.size ≤ g) ∧ Tch (fun k => k = kb) w w'
/-- What holds while a split's shares are put together. -/
structure IS (W0 w wr : World) (l : List Res) (db tb fb mb kb : Nat) (T M M2 : ByteArray → Option Value) (lv : Value) (a : List Shr) : Prop where
  st : AS W0 wr l db tb fb mb kb T M2
  lt : db < w.heap.size ∧ tb < w.heap.size ∧ fb < w.heap.size ∧ mb < w.heap.size ∧ kb < w.heap.size
  own : OwnS wr W0.heap.size lv a
  fresh : ∀ g, lv.ownBlock = some g → w.heap.size ≤ g
  apart : ∀ x v, M2 x = some v → ∀ g, lv.ownBlock = some g → v.ownBlock ≠ some g
  ext : ∀ x v, M x = some v → M2 x = some v
  new : ∀ x v, M2 x = some v → M x = some v ∨ ∀ g, v.ownBlock = some g → w.heap.size ≤ g
  tch : Tch (fun k => k = kb) w wr
theorem IS.below {W0 w wr wx : World} {l : List Res} {db tb fb mb kb : Nat} {T M M2 : ByteArray → Option Value} {lv : Value} {a : List Shr} (h : IS W0 w wr l db tb fb mb kb T M M2 lv a) (hb : Below wr.heap.size wr wx) : IS W0 w wx l db tb fb mb kb T M M2 lv a :=
  ⟨h.st.below hb, h.lt, h.own.tch (Tch.of_below (S := fun _ => False) hb) (fun _ _ q => q), h.fresh, h.apart, h.ext, h.new, h.tch.trans (Tch.of_below (S := fun _ => False) hb) (fun _ q => q.elim)⟩
theorem IS.add {W0 w wr wx : World} {l : List Res} {db tb fb mb kb : Nat} {T M M2 : ByteArray → Option Value} {lv v' : Value} {a a' : List Shr} (h : IS W0 w wr l db tb fb mb kb T M M2 lv a) (hO : OwnS wx W0.heap.size v' a') (ht : Tch (fun k => lv.ownBlock = some k) wr wx) (hg : ∀ g, v'.ownBlock = some g → lv.ownBlock = some g ∨ wr.heap.size ≤ g) : IS W0 w wx l db tb fb mb kb T M M2 v' a' := by
  have hsz := h.tch.size
  refine ⟨h.st.tch ht (fun k q => ⟨(h.own.row.lt k q).1, ?_⟩) (fun k q n v hv => h.apart n v hv k q), h.lt, hO, fun g q => ?_, fun x v hv g q => ?_, h.ext, h.new, h.tch.trans ht (fun k q => .inr (h.fresh k q))⟩
  · have h1 := h.fresh k q
    obtain ⟨l1, l2, l3, l4, l5⟩ := h.lt
    exact ⟨by omega, by omega, by omega, by omega, by omega⟩
  · rcases hg g q with h1 | h1
    · exact h.fresh g h1
    · omega
  · rcases hg g q with h1 | h1
    · exact h.apart x v hv g h1
    · intro q2
      have := ((h.st.ok x v hv).row.lt g q2).2
      omega
theorem IS.call {W0 w wr wx : World} {l : List Res} {db tb fb mb kb : Nat} {T M M2 M3 : ByteArray → Option Value} {lv : Value} {a : List Shr} (h : IS W0 w wr l db tb fb mb kb T M M2 lv a) (hA : AS W0 wx l db tb fb mb kb T M3) (he : ∀ x v, M2 x = some v → M3 x = some v) (hn : ∀ x v, M3 x = some v → M2 x = some v ∨ ∀ g, v.ownBlock = some g → wr.heap.size ≤ g) (ht : Tch (fun k => k = kb) wr wx) : IS W0 w wx l db tb fb mb kb T M M3 lv a := by
  have hsz := h.tch.size
  refine ⟨hA, h.lt, h.own.tch ht (fun g hg q => own_map h.own h.st.dn (by rw [hg, q])), h.fresh, fun x v hv g q => ?_, fun x v hv => he x v (h.ext x v hv), fun x v hv => ?_, h.tch.trans ht (fun k q => .inl q)⟩
  · rcases hn x v hv with h1 | h1
    · exact h.apart x v h1 g q
    · intro q2
      have h2 := h1 g q2
      have h3 := (h.own.row.lt g q).2
      omega
  · rcases hn x v hv with h1 | h1
    · exact h.new x v h1
    · exact .inr (fun g q => Nat.le_trans hsz (h1 g q))
theorem addS_len (l : List Shr) (s : ByteArray) (x : Nat) : (addS l s x).length ≤ l.length + 1 := by
  induction l with
  | nil => exact Nat.le_refl _
  | cons y l ih =>
    unfold addS
    split
    · simp
    · simp only [List.length_cons]; omega
theorem addL_len (w : Nat) : ∀ (sub l : List Shr), (addL w l sub).length ≤ l.length + sub.length
  | [], l => by simp [addL]
  | s :: sub, l => by
    have h1 := addL_len w sub (addS l s.service (fmul w s.upto))
    have h2 := addS_len l s.service (fmul w s.upto)
    have e : addL w l (s :: sub) = addL w (addS l s.service (fmul w s.upto)) sub := rfl
    rw [e]
    simp only [List.length_cons]; omega
theorem all132 {W0 : World} {l : List Res} {db tb fb mb kb : Nat} {T : ByteArray → Option Value} (hC : Cfg l) (hT : TgtV W0 l T) :
    ∀ (r : Nat) (n : ByteArray) (w : World) (M : ByteArray → Option Value), known l r n ≠ 0 → AS W0 w l db tb fb mb kb T M → Calls Try.prog 132 #[.string n, .pointer (some ⟨db, 0, none⟩), .pointer (some ⟨tb, 0, none⟩), .pointer (some ⟨fb, 0, none⟩)] w (AllO W0 w l db tb fb mb kb T M n) := by
  intro r
  induction r with
  | zero => intro n w M h; exact absurd rfl h
  | succ r ih =>
    intro n w M hk hA
    have cd := hA.cd
    have ct := hA.ct
    have cf := hA.cf
    have hlk := hA.dn.look (t := 143) (e := 67) Try.underlying143 (z := .slice none 0 0) (by kernel_rfl) true n
    cases hM : M n with
    | some v =>
      replace hlk : (Instr.lookup 143 (.map (some kb)) (.string n) true).run Try.prog w = .ok (.tuple #[v, .bool true]) w := by rw [hM] at hlk; exact hlk
      have hout : AllO W0 w l db tb fb mb kb T M n (.returned v) w := ⟨M, v, rfl, hM, hA, fun _ _ h => h, fun _ _ h => .inl h, Tch.refl _ _⟩
      replace hA := Lib.hid hA
      replace hM := Lib.hid hM
      replace hk := Lib.hid hk
      replace hout := Lib.hid hout
      go_enter Try.func132, Try.ntmps132
      go_wp2
      go_ret
      exact hout.out
    | none =>
      replace hlk : (Instr.lookup 143 (.map (some kb)) (.string n) true).run Try.prog w = .ok (.tuple #[.slice none 0 0, .bool false]) w := by rw [hM] at hlk; exact hlk
      have hh := known_has hk
      obtain ⟨ta, tc, hTn, hts⟩ := hT n hh
      have hlt := hA.tg.look (t := 173) (e := 49) Try.underlying173 (z := .slice none 0 0) (by kernel_rfl) false n
      replace hlt : (Instr.lookup 173 (.map (some mb)) (.string n) false).run Try.prog w = .ok (.slice ta (tgtsOf l n).length tc) w := by rw [hTn] at hlt; exact hlt
      obtain ⟨ts, hTs⟩ : ∃ ts, ts = tgtsOf l n := ⟨_, rfl⟩
      rw [← hTs] at hTn hts hlt
      have htl := hts.1
      replace hA := Lib.hid hA
      replace hM := Lib.hid hM
      replace hk := Lib.hid hk
      replace hh := Lib.hid hh
      replace hTn := Lib.hid hTn
      replace hts := Lib.hid hts
      replace hTs := Lib.hid hTs
      go_enter Try.func132, Try.ntmps132
      have hIS0 : Hid (IS W0 w w l db tb fb mb kb T M M (.slice none 0 0) (shStep (shOf l) (ts.take 0))) := Lib.hid ⟨hA.out, hA.out.lt, ⟨World.ownsRow_nil _ _ _ _, (fun s hs => by cases hs)⟩, (fun g q => by cases q), (fun _ _ _ g q => by cases q), (fun _ _ h => h), (fun _ _ h => .inl h), Tch.refl _ _⟩
      obtain ⟨hof, hofl⟩ := hC.of hh.out
      rw [← hTs.out] at hof hofl
      replace hof := Lib.hid hof
      replace hofl := Lib.hid hofl
      go_wp2
      go_loopg [8, 26] (ts.length + 1) (fun gg lv ic wr => ∃ (i : Nat) (M2 : ByteArray → Option Value), gg = ts.length - i + 1 ∧ i ≤ ts.length ∧ ic = .int .i64 i ∧ Hid (IS W0 w wr l db tb fb mb kb T M M2 lv (shStep (shOf l) (ts.take i))))
      case atStart => exact ⟨0, M, rfl, Nat.zero_le _, rfl, hIS0⟩
      case round =>
        obtain ⟨i, M2, rfl, hi, rfl, hI⟩ := hrel
        obtain ⟨lo, lc, rfl⟩ := ownsRow_shape hI.out.own.row
        have hst := step_take hC hh.out i (by rw [← hTs.out]; exact hi)
        rw [← hTs.out] at hst
        obtain ⟨hbd, hap, hln⟩ := hst
        by_cases hltt : i < ts.length
        · obtain ⟨t, ht⟩ : ∃ t, ts[i]? = some t := ⟨_, List.getElem?_eq_getElem hltt⟩
          obtain ⟨rb, roff, rfl, _, e0, e1, e2, s0, s1, _⟩ := tgt_at hts.out hI.out.st.bel ht
          have hk0 : (i : Int) < (ts.length : Int) := nn_lt hltt
          have hwk := Lib.hid (nn_succ2 hltt htl)
          have hmem := List.mem_of_getElem? ht
          obtain ⟨ho1, ho2, ho3⟩ := hof.out t hmem
          obtain ⟨hd1, hd2⟩ := fdiv_ok ho2 ho3
          have hdv : ∀ w, (binOp .quo 55 (.float .f64 t.weight) (.float .f64 4636737291354636288)).run Try.prog w = .ok (.float .f64 (fdiv t.weight HUN)) w := run_div hd1
          have hsn := step_snoc (e := shOf l) ht
          unfold tgtS at hsn
          generalize hq : fdiv t.weight HUN = q at *
          obtain ⟨a, ha⟩ : ∃ a, a = shStep (shOf l) (ts.take i) := ⟨_, rfl⟩
          rw [← ha] at hsn hbd hap hln hI ⊢
          have hti : i + 1 ≤ 1048577 := by have := hofl.out; omega
          obtain ⟨wb, hwb⟩ : ∃ wb, wb = wr.alloc (.cells #[.string t.service, .string t.split, .float .f64 t.weight] 57) := ⟨_, rfl⟩
          obtain ⟨bk, hbk⟩ : ∃ bk, bk = wr.heap.size := ⟨_, rfl⟩
          have hbx : wb.heap[bk]? = some (.cells #[.string t.service, .string t.split, .float .f64 t.weight] 57) := by rw [hwb, hbk]; exact heap_alloc_new wr _
          have hba := alloc_below wr (.cells #[.string t.service, .string t.split, .float .f64 t.weight] 57)
          rw [← hwb] at hba
          have hI1 := Lib.hid (hI.out.below hba)
          have b0 := box_at hbx (j := 0) rfl
          have b1 := box_at hbx (j := 1) rfl
          have b2 := box_at hbx (j := 2) rfl
          have cf1 := hI1.out.st.cf
          cases hs : t.service.toList.isEmpty with
          | true =>
            rw [if_pos (show noS t.service = true from hs)] at hsn
            have hkid : known l r t.split ≠ 0 := by
              have h1 := hk.out
              rw [known_succ hh.out r, ← hTs.out] at h1
              exact (stepE_kid _ _ h1 t hmem hs).1
            have hcall := Lib.hid (ih t.split wb M2 hkid hI1.out.st)
            obtain ⟨sub, hsub⟩ : ∃ sub, sub = shOf l t.split := ⟨_, rfl⟩
            have hsb := shOf_bd hC t.split
            have hsa := shOf_apart l t.split
            have hsl := shOf_len hC t.split
            rw [← hsub] at hsb hsa hsl hsn
            have hB0 : Hid (∃ f, SubB 160 i 0 q a sub f) := Lib.hid ⟨_, SubB.zero hbd⟩
            have ha0 : Hid (a = addL q a (sub.take 0)) := Lib.hid (by rw [List.take_zero]; rfl)
            replace hsn := Lib.hid hsn
            replace hbd := Lib.hid hbd
            replace hap := Lib.hid hap
            replace ha := Lib.hid ha
            replace hbx := Lib.hid hbx
            replace hba := Lib.hid hba
            replace ho1 := Lib.hid ho1
            replace ho2 := Lib.hid ho2
            replace ho3 := Lib.hid ho3
            replace hd1 := Lib.hid hd1
            replace hd2 := Lib.hid hd2
            replace ht := Lib.hid ht
            replace hmem := Lib.hid hmem
            replace hq := Lib.hid hq
            replace hkid := Lib.hid hkid
            replace hsub := Lib.hid hsub
            replace hsb := Lib.hid hsb
            replace hsa := Lib.hid hsa
            go_upto_region 8 with fail
            rw [← hwb, ← hbk]
            replace hwb := Lib.hid hwb
            replace hbk := Lib.hid hbk
            clear e0 e1 e2
            go_upto_region 12 with (first
              | (go_at_call 132; (with_reducible refine hcall.out.mono ?_); rintro e w3 ⟨M3, v3, rfl, hv3, hA3, he3, hn3, ht3⟩; have hI3 := Lib.hid (hI1.out.call hA3 he3 hn3 ht3); have hO3 := hA3.ok _ _ hv3; rw [← hsub.out] at hO3; obtain ⟨so, sc, rfl⟩ := ownsRow_shape hO3.row; replace hv3 := Lib.hid hv3; clear hA3 he3 hn3 ht3 hO3)
              | fail)
            go_loopg [8, 46] (sub.length + 1) (fun gg lv jc wx => ∃ (j : Nat) (a' : List Shr), gg = sub.length - j + 1 ∧ j ≤ sub.length ∧ jc = .int .i64 j ∧ Hid (a' = addL q a (sub.take j)) ∧ Hid (∃ f, SubB 160 i j q a sub f) ∧ Hid (IS W0 w wx l db tb fb mb kb T M M3 lv a'))
            case atStart => exact ⟨0, a, rfl, Nat.zero_le _, rfl, ha0, hB0, hI3⟩
            case round =>
              obtain ⟨j, a', rfl, hj, rfl, ha', hB, hJ⟩ := hrel
              obtain ⟨jo, jc, rfl⟩ := ownsRow_shape hJ.out.own.row
              have hal : a'.length ≤ 128 := by
                have h1 := addL_len q (sub.take j) a
                rw [← ha'.out, List.length_take] at h1
                omega
              by_cases hjl : j < sub.length
              · obtain ⟨x, hx⟩ : ∃ x, sub[j]? = some x := ⟨_, List.getElem?_eq_getElem hjl⟩
                have hso := hJ.out.st.ok _ _ hv3.out
                rw [← hsub.out] at hso
                obtain ⟨sg, hsg, _, _, x0, _⟩ := ownsRow_cell hso.row (flat_at hx).1
                subst hsg
                obtain ⟨sg', hsg', _, _, x1, _⟩ := ownsRow_cell hso.row (flat_at hx).2
                simp only [Option.some.injEq, Addr.mk.injEq, and_true] at hsg'
                subst hsg'
                obtain ⟨xs, xu⟩ := hso.ok x (List.mem_of_getElem? hx)
                have j0 : (j : Int) < (sub.length : Int) := nn_lt hjl
                have jwk := Lib.hid (nn_succ2 hjl (by omega))
                obtain ⟨hm1, hm2⟩ := fmul_ok (k := 160) hd2.out (hsb.out x (List.mem_of_getElem? hx)) (by omega)
                have hmul := run_mul hm1
                obtain ⟨f, hf⟩ := hB.out
                have hB1 : Hid (∃ f, SubB 160 i (j + 1) q a sub f) := Lib.hid ⟨_, hf.succ hsa.out hx hm2 (by omega) (by omega)⟩
                have ha1 := addL_snoc (w := q) (l := a) hx
                rw [← ha'.out] at ha1
                have h0 := hf.rest j x (Nat.le_refl _) hx
                have hadd : ∀ y ∈ a', y.service = x.service → dbl.add y.upto (fmul q x.upto) = some (fadd y.upto (fmul q x.upto)) ∧ fadd y.upto (fmul q x.upto) ≤ INF := fun y hy he => by
                  have hb := hf.bd y (by rw [← ha'.out]; exact hy)
                  rw [he] at hb
                  have hh := fadd_ok (j := f x.service) (k := 160) hb hm2 (by omega) (by omega)
                  exact ⟨hh.1, Nat.le_trans hh.2 (D_le _ _)⟩
                have hz0 := fadd_ok (a := 0) (j := 0) (k := 160) (Nat.zero_le _) hm2 (by omega) (by omega)
                generalize hfm : fmul q x.upto = u at *
                obtain ⟨wy, hwy⟩ : ∃ wy, wy = wr.alloc (.cells #[.string x.service, .float .f64 x.upto] 73) := ⟨_, rfl⟩
                obtain ⟨bz, hbz⟩ : ∃ bz, bz = wr.heap.size := ⟨_, rfl⟩
                have hbxy : wy.heap[bz]? = some (.cells #[.string x.service, .float .f64 x.upto] 73) := by rw [hwy, hbz]; exact heap_alloc_new wr _
                have hbay := alloc_below wr (.cells #[.string x.service, .float .f64 x.upto] 73)
                rw [← hwy] at hbay
                have hJ1 := Lib.hid (hJ.out.below hbay)
                have y0 := box_at hbxy (j := 0) rfl
                have y1 := box_at hbxy (j := 1) rfl
                have hcallx := Lib.hid (add133 a' (.slice jo a'.length jc) W0.heap.size wy x.service u hJ1.out.own (by omega) xs hJ1.out.st.bel.size hadd ⟨hz0.1, Nat.le_trans hz0.2 (D_le _ _)⟩)
                replace hx := Lib.hid hx
                replace hso := Lib.hid hso
                replace hm1 := Lib.hid hm1
                replace hm2 := Lib.hid hm2
                replace hf := Lib.hid hf
                replace hB := Lib.hid hB
                replace ha1 := Lib.hid ha1
                replace h0 := Lib.hid h0
                replace hadd := Lib.hid hadd
                replace hz0 := Lib.hid hz0
                replace hbxy := Lib.hid hbxy
                replace hbay := Lib.hid hbay
                replace hfm := Lib.hid hfm
                replace xs := Lib.hid xs
                replace xu := Lib.hid xu
                go_upto_region 14 with fail
                rw [← hwy, ← hbz]
                replace hwy := Lib.hid hwy
                replace hbz := Lib.hid hbz
                clear x0 x1
                go_wp2_with (first
                  | (go_at_call 133; (with_reducible refine hcallx.out.mono ?_); rintro e w4 ⟨v4, rfl, hO4, ht4, hg4⟩; have hJ4 := Lib.hid (hJ1.out.add hO4 ht4 hg4); clear hO4 ht4 hg4)
                  | fail)
                go_roundg (sub.length - (j + 1) + 1)
                case rel => exact ⟨j + 1, addS a' x.service u, rfl, hjl, by first | rw [jwk.out] | go_num, Lib.hid ha1.out.symm, hB1, hJ4⟩
                case measure => exact nn_downS hjl
              · have j0 : decide ((j : Int) < (sub.length : Int)) = false := decide_eq_false (by omega)
                have j1 : ¬ (j : Int) < (sub.length : Int) := by omega
                have haf : a' = shStep (shOf l) (ts.take (i + 1)) := by rw [ha'.out, List.take_of_length_le (by omega), hsn.out]
                replace haf := Lib.hid haf
                go_wp2
                go_roundg (ts.length - (i + 1) + 1)
                case rel => exact ⟨i + 1, M3, rfl, hltt, by first | rw [hwk.out] | go_num, by rw [← haf.out]; exact hJ⟩
                case measure => exact nn_downS hltt
          | false =>
            rw [if_neg (by unfold noS; rw [hs]; simp)] at hsn
            have hcall := Lib.hid (add133 a (.slice lo a.length lc) W0.heap.size wb t.service q hI1.out.own (by omega) s0 hI1.out.st.bel.size (fun y hy _ => ⟨(fadd_ok (j := i) (k := 160) (hbd y hy) (hd2.up (Nat.zero_le _)) (by omega) (by omega)).1, Nat.le_trans (fadd_ok (j := i) (k := 160) (hbd y hy) (hd2.up (Nat.zero_le _)) (by omega) (by omega)).2 (D_le _ _)⟩) ⟨(fadd_ok (j := 0) (k := 160) (Nat.zero_le _) (hd2.up (Nat.zero_le _)) (by omega) (by omega)).1, Nat.le_trans (fadd_ok (j := 0) (k := 160) (Nat.zero_le _) (hd2.up (Nat.zero_le _)) (by omega) (by omega)).2 (D_le _ _)⟩)
            replace hsn := Lib.hid hsn
            replace hbd := Lib.hid hbd
            replace hap := Lib.hid hap
            replace hln := Lib.hid hln
            replace ha := Lib.hid ha
            replace hbx := Lib.hid hbx
            replace hba := Lib.hid hba
            replace ho1 := Lib.hid ho1
            replace ho2 := Lib.hid ho2
            replace ho3 := Lib.hid ho3
            replace hd1 := Lib.hid hd1
            replace hd2 := Lib.hid hd2
            replace ht := Lib.hid ht
            replace hmem := Lib.hid hmem
            replace hq := Lib.hid hq
            go_upto_region 8 with fail
            rw [← hwb, ← hbk]
            replace hwb := Lib.hid hwb
            replace hbk := Lib.hid hbk
            clear e0 e1 e2
            go_wp2_with (first
              | (go_at_call 133; (with_reducible refine hcall.out.mono ?_); rintro e w3 ⟨v3, rfl, hO3, ht3, hg3⟩; have hI3 := Lib.hid (hI1.out.add hO3 ht3 hg3); clear hO3 ht3 hg3)
              | fail)
            go_roundg (ts.length - (i + 1) + 1)
            case rel => exact ⟨i + 1, M2, rfl, hltt, by first | rw [hwk.out] | go_num, by rw [hsn.out]; exact hI3⟩
            case measure => exact nn_downS hltt
        · have hk0 : decide ((i : Int) < (ts.length : Int)) = false := decide_eq_false (by omega)
          have hk1 : ¬ (i : Int) < (ts.length : Int) := by omega
          have hfin : shStep (shOf l) (ts.take i) = shOf l n := by rw [List.take_of_length_le (by omega), hTs.out, shOf_eq (hC.known hh.out)]
          rw [hfin] at hI ⊢
          have cd2 := hI.out.st.cd
          have hdn := Lib.hid hI.out.st.dn
          replace hfin := Lib.hid hfin
          replace hbd := Lib.hid hbd
          replace hap := Lib.hid hap
          replace hln := Lib.hid hln
          have hne : ∀ x v, M x = some v → x ≠ n := fun x v hx e => by rw [e, hM.out] at hx; cases hx
          replace hne := Lib.hid hne
          go_wp2_with (first
            | (at_mapUpdate; go_loud (refine wp_store rfl _ _ _ 143 rfl nameKey 67 Try.underlying143 kb M2 n (.slice lo (shOf l n).length lc) rfl hdn.out rfl rfl ?_); intro w4 hm4 ht4; have hA4 := Lib.hid (hI.out.st.put hm4 ht4 hI.out.own); have t4 := Lib.hid (hI.out.tch.trans (Tch.turned (S := fun k => k = kb) ht4 rfl) (fun k q => .inl q)); clear hm4 ht4)
            | fail)
          go_ret
          refine ⟨upd M2 n (.slice lo (shOf l n).length lc), _, rfl, upd_same _ _ _, hA4.out, fun x v hx => ?_, fun x v hx => ?_, t4.out⟩
          · rw [upd_other _ _ (hne.out x v hx)]; exact hI.out.ext x v hx
          · unfold upd at hx
            split at hx
            · cases hx; exact .inr hI.out.fresh
            · exact hI.out.new x v hx
end Go.Proofs.Ytjepgpocmnijiaa
end

section
/- The resources of a kind: named. -/
namespace Go.Proofs.Ytjepgpocmnijiaa
open Go.RowKit Go.Mp Go.Ck
set_option linter.unusedVariables false
set_option maxRecDepth 100000
set_option maxHeartbeats 4000000
def kindP (k : Int) (r : Res) : Bool := r.kind == k
def NamedO (w0 w : World) (l : List Res) (k : Int) (e : Ending) (w' : World) : Prop := ∃ o c, ∃ L : List Rw, e = .returned (.slice o L.length c) ∧ L.map Rw.r = l.filter (kindP k) ∧ w'.ownsRow w.heap.size 52 8 (.slice o L.length c) L.length (L.flatMap Rw.cells) ∧ (∀ x ∈ L, Rw.P w0 x) ∧ Below w.heap.size w w'
theorem filter_take {l : List Res} {i : Nat} {r : Res} (h : l[i]? = some r) (p : Res → Bool) : (l.take (i + 1)).filter p = (l.take i).filter p ++ (if p r = true then [r] else []) := by
  have hi := (List.getElem?_eq_some_iff.1 h).1
  rw [List.take_succ_eq_append_getElem hi, List.filter_append, (List.getElem?_eq_some_iff.1 h).2, List.filter_cons]
  rfl
theorem named92 (l : List Res) (k : Int) (v : Value) (w0 w : World) (hl : ResS w0 v l) (hM : SzL l) (hb : Below w0.heap.size w0 w) : Calls Try.prog 92 #[v, .int .i64 k] w (NamedO w0 w l k) := by
  obtain ⟨R, hR, hS, hP⟩ := lies hl
  obtain ⟨ao, cap, rfl⟩ := slice_shape hl
  have hlen := hl.1
  have hRl : R.length = l.length := by rw [← hR, List.length_map]
  obtain ⟨i52, h52, h520, h521, h522⟩ := info_parts info52
  have hr0 := Lib.hid (World.ownsRow_nil w w.heap.size 52 8)
  replace hl := Lib.hid hl
  replace hM := Lib.hid hM
  replace hb := Lib.hid hb
  replace hR := Lib.hid hR
  replace hS := Lib.hid hS
  replace hP := Lib.hid hP
  replace h52 := Lib.hid h52
  replace h520 := Lib.hid h520
  replace h521 := Lib.hid h521
  replace h522 := Lib.hid h522
  go_enter Try.func92, Try.ntmps92
  go_wp2
  go_loopg [5, 10] (l.length + 1) (fun gg ov ic wr => ∃ (i : Nat) (L : List Rw), gg = l.length - i + 1 ∧ i ≤ l.length ∧ ic = .int .i64 i ∧ Hid (L.map Rw.r = (l.take i).filter (kindP k)) ∧ Hid (wr.ownsRow w.heap.size 52 8 ov L.length (L.flatMap Rw.cells)) ∧ Hid (∀ x ∈ L, Rw.P w0 x) ∧ Hid (Below w.heap.size w wr))
  case atStart => exact ⟨0, [], rfl, Nat.zero_le _, rfl, Lib.hid (by simp), hr0, Lib.hid (fun x hx => by cases hx), Lib.hid (Below.refl _ _)⟩
  case round =>
    obtain ⟨i, L, rfl, hi, rfl, hL, hrow, hLP, hbw⟩ := hrel
    obtain ⟨oo, oc, rfl⟩ := ownsRow_shape hrow.out
    have hLn : L.length ≤ i := by
      have := congrArg List.length hL.out
      rw [List.length_map] at this
      rw [this]
      exact Nat.le_trans (List.length_filter_le _ _) (by rw [List.length_take]; omega)
    by_cases hlt : i < l.length
    · obtain ⟨x, hx⟩ : ∃ x, R[i]? = some x := ⟨_, List.getElem?_eq_getElem (by omega)⟩
      have hxr : l[i]? = some x.r := by rw [← hR.out, List.getElem?_map, hx]; rfl
      obtain ⟨b0, off, rfl, hbl, hc⟩ := at_i hS.out (seq_below hb.out hbw.out) hx
      have c0 : wr.cell? ⟨b0, off + i * 8, none⟩ = some (.int .i64 x.r.kind) := hc 0 _ rfl
      have c1 : wr.cell? ⟨b0, off + i * 8 + 1, none⟩ = some (.string x.r.name) := hc 1 _ rfl
      have c2 : wr.cell? ⟨b0, off + i * 8 + 2, none⟩ = some (.slice x.eo x.r.eps.length x.ec) := hc 2 _ rfl
      have c3 : wr.cell? ⟨b0, off + i * 8 + 3, none⟩ = some (.slice x.ta x.r.tgts.length x.tc) := hc 3 _ rfl
      have c4 : wr.cell? ⟨b0, off + i * 8 + 4, none⟩ = some (.string x.r.host) := hc 4 _ rfl
      have c5 : wr.cell? ⟨b0, off + i * 8 + 5, none⟩ = some (.slice x.ra x.r.rules.length x.rc) := hc 5 _ rfl
      have c6 : wr.cell? ⟨b0, off + i * 8 + 6, none⟩ = some (.string x.r.route) := hc 6 _ rfl
      have c7 : wr.cell? ⟨b0, off + i * 8 + 7, none⟩ = some (.bool x.r.del) := hc 7 _ rfl
      have hk0 : (i : Int) < (l.length : Int) := nn_lt hlt
      have hwk := Lib.hid (nn_succ2 hlt hlen)
      have htk := filter_take hxr (kindP k)
      obtain ⟨wb, hwb⟩ : ∃ wb, wb = wr.alloc (.cells #[.int .i64 x.r.kind, .string x.r.name, .slice x.eo x.r.eps.length x.ec, .slice x.ta x.r.tgts.length x.tc, .string x.r.host, .slice x.ra x.r.rules.length x.rc, .string x.r.route, .bool x.r.del] 52) := ⟨_, rfl⟩
      obtain ⟨bk, hbk⟩ : ∃ bk, bk = wr.heap.size := ⟨_, rfl⟩
      have hbx : wb.heap[bk]? = some (.cells #[.int .i64 x.r.kind, .string x.r.name, .slice x.eo x.r.eps.length x.ec, .slice x.ta x.r.tgts.length x.tc, .string x.r.host, .slice x.ra x.r.rules.length x.rc, .string x.r.route, .bool x.r.del] 52) := by rw [hwb, hbk]; exact heap_alloc_new wr _
      have hba := Lib.hid (alloc_below wr (.cells #[.int .i64 x.r.kind, .string x.r.name, .slice x.eo x.r.eps.length x.ec, .slice x.ta x.r.tgts.length x.tc, .string x.r.host, .slice x.ra x.r.rules.length x.rc, .string x.r.route, .bool x.r.del] 52))
      rw [← hwb] at hba
      have hrow1 := Lib.hid (ownsRow_tch hrow.out (Tch.of_below (S := No) hba.out) (fun _ _ q => q))
      have hbw1 := Lib.hid (seq_below hbw.out hba.out)
      have hlim := Lib.hid hM.out.n
      have bx0 := box_at hbx (j := 0) rfl
      have b1 := box_at hbx (j := 1) rfl
      have b2 := box_at hbx (j := 2) rfl
      have b3 := box_at hbx (j := 3) rfl
      have b4 := box_at hbx (j := 4) rfl
      have b5 := box_at hbx (j := 5) rfl
      have b6 := box_at hbx (j := 6) rfl
      have b7 := box_at hbx (j := 7) rfl
      obtain ⟨kb, hkb⟩ : ∃ b, kindP k x.r = b := ⟨_, rfl⟩
      rw [hkb] at htk
      have hkb' : (x.r.kind == k) = kb := hkb
      cases kb with
      | true =>
        have hrow2 := Lib.hid (hrow1.out.alloc (.cells #[.int .i64 x.r.kind, .string x.r.name, .slice x.eo x.r.eps.length x.ec, .slice x.ta x.r.tgts.length x.tc, .string x.r.host, .slice x.ra x.r.rules.length x.rc, .string x.r.route, .bool x.r.del] 52))
        have hn2 := Lib.hid (new_cells wb x.cells 52)
        have hB2 := Lib.hid (show w.heap.size ≤ (wb.alloc (.cells x.cells.toArray 52)).heap.size from Nat.le_trans hbw1.out.size (by simp))
        replace hx := Lib.hid hx
        replace hxr := Lib.hid hxr
        replace hc := Lib.hid hc
        replace hkb := Lib.hid hkb
        replace htk := Lib.hid htk
        replace hbx := Lib.hid hbx
        go_upto_region 5 with fail
        rw [← hwb, ← hbk]
        replace hwb := Lib.hid hwb
        replace hbk := Lib.hid hbk
        clear c0 c1 c2 c3 c4 c5 c6 c7
        go_wp2_with (first
          | (at_builtin; go_loud (refine wp_append_lit (by rfl) _ _ 22 (by rfl) w.heap.size 52 i52 _ 8 136 Try.underlying22 h52.out h520.out h521.out h522.out rfl (by decide) _ L.length (L.flatMap Rw.cells) (by rfl) hrow2.out ⟨wb.heap.size, 0, none⟩ 1 _ x.cells (by rfl) rfl hn2.out (fun u hu => rwC.one x u hu) (by unfold maxLen; omega) (by have := hlim.out; omega) hB2.out ?_); intro v3 w3 hr3 hg3 hl3; have hr3' := Lib.hid hr3; obtain ⟨o3, c3', rfl⟩ := ownsRow_shape hr3; replace hg3 := Lib.hid hg3; replace hl3 := Lib.hid hl3; clear hr3)
          | fail)
        go_roundg (l.length - (i + 1) + 1)
        case rel =>
          refine ⟨i + 1, L ++ [x], rfl, hlt, by first | rw [hwk.out] | go_num, Lib.hid (by rw [List.map_append, hL.out, htk.out]; rfl), Lib.hid (by rw [List.length_append, List.flatMap_append]; simpa using hr3'.out), Lib.hid (fun y hy => ?_), Lib.hid ?_⟩
          · rcases List.mem_append.1 hy with q | q
            · exact hLP.out y q
            · rw [List.mem_singleton.1 q]; exact hP.out x (List.mem_of_getElem? hx.out)
          · exact (seq_below hbw1.out (alloc_below wb (.cells x.cells.toArray 52))).grown hg3.out hB2.out (fun q hq => (hrow.out.lt q hq).1)
        case measure => exact nn_downS hlt
      | false =>
        replace hx := Lib.hid hx
        replace hxr := Lib.hid hxr
        replace hc := Lib.hid hc
        replace hkb := Lib.hid hkb
        replace htk := Lib.hid htk
        replace hbx := Lib.hid hbx
        go_upto_region 5 with fail
        rw [← hwb, ← hbk]
        replace hwb := Lib.hid hwb
        replace hbk := Lib.hid hbk
        clear c0 c1 c2 c3 c4 c5 c6 c7
        go_wp2
        go_roundg (l.length - (i + 1) + 1)
        case rel => exact ⟨i + 1, L, rfl, hlt, by first | rw [hwk.out] | go_num, Lib.hid (by rw [hL.out, htk.out]; simp), hrow1, hLP, hbw1⟩
        case measure => exact nn_downS hlt
    · have hk0 : decide ((i : Int) < (l.length : Int)) = false := decide_eq_false (by omega)
      have hk1 : ¬ (i : Int) < (l.length : Int) := by omega
      have hie : i = l.length := by omega
      have hLf : L.map Rw.r = l.filter (kindP k) := by rw [hL.out, hie, List.take_length]
      replace hie := Lib.hid hie
      replace hLf := Lib.hid hLf
      go_wp2
      go_ret
      exact ⟨_, _, L, rfl, hLf.out, hrow.out, hLP.out, hbw.out⟩
end Go.Proofs.Ytjepgpocmnijiaa
end

section
/- The shares of all splits: the program's all. -/
namespace Go.Proofs.Ytjepgpocmnijiaa
open Go.RowKit Go.Mp Go.Ck Fl
set_option linter.unusedVariables false
set_option maxRecDepth 100000
set_option maxHeartbeats 4000000
def tupd (T : ByteArray → Option Value) (x : Rw) : ByteArray → Option Value := upd T x.r.name (.slice x.ta x.r.tgts.length x.tc)
def tmap (L : List Rw) : ByteArray → Option Value := L.foldl tupd (fun _ => none)
theorem tmap_snoc {L : List Rw} {i : Nat} {x : Rw} (h : L[i]? = some x) : tmap (L.take (i + 1)) = tupd (tmap (L.take i)) x := by
  unfold tmap
  have hi := (List.getElem?_eq_some_iff.1 h).1
  rw [List.take_succ_eq_append_getElem hi, List.foldl_append, (List.getElem?_eq_some_iff.1 h).2]; rfl
theorem tfold_some : ∀ (L : List Rw) (T : ByteArray → Option Value) (n : ByteArray) (v : Value), (L.foldl tupd T) n = some v → T n = some v ∨ ∃ x ∈ L, x.r.name = n ∧ v = .slice x.ta x.r.tgts.length x.tc
  | [], T, n, v, h => .inl h
  | x :: L, T, n, v, h => by
    rcases tfold_some L (tupd T x) n v h with h1 | ⟨y, hy, h1, h2⟩
    · unfold tupd upd at h1
      split at h1
      · rename_i e
        cases h1
        exact .inr ⟨x, .head _, e.symm, rfl⟩
      · exact .inl h1
    · exact .inr ⟨y, .tail _ hy, h1, h2⟩
theorem tfold_has : ∀ (L : List Rw) (T : ByteArray → Option Value) (n : ByteArray), (T n ≠ none ∨ ∃ x ∈ L, x.r.name = n) → (L.foldl tupd T) n ≠ none
  | [], T, n, h => by
    rcases h with h | ⟨x, hx, _⟩
    · exact h
    · cases hx
  | x :: L, T, n, h => by
    refine tfold_has L (tupd T x) n ?_
    by_cases e : n = x.r.name
    · left
      unfold tupd upd
      rw [if_pos e]; simp
    · rcases h with h | ⟨y, hy, h1⟩
      · left
        unfold tupd upd
        rw [if_neg e]; exact h
      · rcases List.mem_cons.1 hy with rfl | hy
        · exact absurd h1.symm e
        · exact .inr ⟨y, hy, h1⟩
theorem srt_one {l : List Res} (h : Srt l) {a b : Res} (ha : a ∈ l) (hb : b ∈ l) (e : rk a = rk b) : a = b := by
  have h1 := h.fnd_mem ha
  have h2 := h.fnd_mem hb
  rw [e, h2] at h1
  exact (Option.some.inj h1).symm
theorem tgtV_of {w : World} {l : List Res} {L : List Rw} (hC : Cfg l) (hL : L.map Rw.r = l.filter (kindP 2)) (hP : ∀ x ∈ L, Rw.P w x) : TgtV w l (tmap L) := fun n hn => by
  obtain ⟨r, _, hr, hk, he, ht⟩ := find_split hn
  have hm : r ∈ L.map Rw.r := by
    rw [hL]
    exact List.mem_filter.2 ⟨hr, by unfold kindP; rw [hk]; rfl⟩
  obtain ⟨x, hx, hxr⟩ := List.mem_map.1 hm
  have h1 : tmap L n ≠ none := tfold_has L _ n (.inr ⟨x, hx, by rw [hxr]; exact he⟩)
  cases hv : tmap L n with
  | none => exact absurd hv h1
  | some v =>
    rcases tfold_some L _ n v hv with q | ⟨y, hy, h2, h3⟩
    · cases q
    · have hyl : y.r ∈ l.filter (kindP 2) := by rw [← hL]; exact List.mem_map.2 ⟨y, hy, rfl⟩
      obtain ⟨hyl, hyk⟩ := List.mem_filter.1 hyl
      have hyk2 : y.r.kind = 2 := by unfold kindP at hyk; simpa using hyk
      have hyr : y.r = r := srt_one (srt_of_ord (ord_of hC.out)) hyl hr (Prod.ext (hyk2.trans hk.symm) (h2.trans he.symm))
      rw [h3, ht, ← hyr]
      exact ⟨_, _, rfl, (hP y hy).t⟩
theorem tmap_key {l : List Res} {L : List Rw} (hL : L.map Rw.r = l.filter (kindP 2)) {n : ByteArray} {v : Value} (h : tmap L n = some v) : has l 2 n = true := by
  rcases tfold_some L _ n v h with q | ⟨y, hy, h2, h3⟩
  · cases q
  · have hyl : y.r ∈ l.filter (kindP 2) := by rw [← hL]; exact List.mem_map.2 ⟨y, hy, rfl⟩
    obtain ⟨hyl, hyk⟩ := List.mem_filter.1 hyl
    unfold kindP at hyk
    exact has_iff.2 ⟨y.r, hyl, by simpa using hyk, h2⟩
/-- Behind the call of a key of the range. -/
theorem rl_keep {w w' : World} {mb ik kb : Nat} {T : ByteArray → Option Value} {left : ByteArray → Prop} (h : RangeS nameKey w mb ik T left) (t : Tch (fun k => k = kb) w w') (h1 : mb ≠ kb) (h2 : ik ≠ kb) : RangeS nameKey w' mb ik T left ∧ w'.rangeLeft mb ik = w.rangeLeft mb ik := by
  have k1 := t.block mb h.map.lt h1
  have k2 := t.block ik h.rlt h2
  exact ⟨h.keep k1 k2, by unfold World.rangeLeft; rw [k1, k2]⟩
theorem own_iter {w : World} {B mb ik : Nat} {v : Value} {a : List Shr} {T : ByteArray → Option Value} {left : ByteArray → Prop} (h : OwnS w B v a) (hr : RangeS nameKey w mb ik T left) : v.ownBlock ≠ some ik := fun q => by
  obtain ⟨_, es, clock, since, seen, c0, _, _, h1, _⟩ := hr
  rcases h.row.2 with ⟨rfl, _⟩ | ⟨g, cap, cur, rfl, _, hg, _⟩
  · cases q
  · simp only [Value.ownBlock, Option.some.injEq] at q
    subst q
    rw [hg] at h1; cases h1
theorem boxes_laid (wr : World) : ∃ wZ kb db fb, wZ = ((wr.alloc (.map #[] 0)).alloc (.cells #[.map (some wr.heap.size)] 143)).alloc (.cells #[Value.nilFunc] 174) ∧ kb = wr.heap.size ∧ db = wr.heap.size + 1 ∧ fb = wr.heap.size + 1 + 1 ∧ Below wr.heap.size wr wZ ∧ MapS nameKey wZ kb (fun _ => none) ∧ wZ.cell? ⟨db, 0, none⟩ = some (.map (some kb)) ∧ wZ.heap[fb]? = some (.cells #[Value.nilFunc] 174 (0, 0)) ∧ fb < wZ.heap.size := by
  refine ⟨_, _, _, _, rfl, rfl, rfl, rfl, seq_below (seq_below (alloc_below wr _) (alloc_below _ _)) (alloc_below _ _), ((MapS.made nameKey wr).tch (Tch.alloc No _ _) id).tch (Tch.alloc No _ _) id, ?_, ?_, by simp⟩
  · have e : (wr.alloc (.map #[] 0)).heap.size = wr.heap.size + 1 := by simp
    have h1 := (cell_of_row _ _ 0 _ _ _ (heap_alloc_new (wr.alloc (.map #[] 0)) (.cells #[.map (some wr.heap.size)] 143))).trans rfl
    rw [e] at h1
    exact ((alloc_below _ _).cell (p := ⟨wr.heap.size + 1, 0, none⟩) (by simp)).trans h1
  · have e : ((wr.alloc (.map #[] 0)).alloc (.cells #[.map (some wr.heap.size)] 143)).heap.size = wr.heap.size + 1 + 1 := by simp
    have h1 := heap_alloc_new ((wr.alloc (.map #[] 0)).alloc (.cells #[.map (some wr.heap.size)] 143)) (.cells #[Value.nilFunc] 174)
    rw [e] at h1
    exact h1
/-- What all answers. -/
def All95 (w : World) (l : List Res) (e : Ending) (w' : World) : Prop := ∃ kb M, e = .returned (.map (some kb)) ∧ MapS nameKey w' kb M ∧ (∀ n, has l 2 n = true → ∃ v, M n = some v) ∧ (∀ n v, M n = some v → OwnS w' w.heap.size v (shOf l n)) ∧ Below w.heap.size w w'
theorem all95 (l : List Res) (v : Value) (w : World) (hl : ResS w v l) (hM : SzL l) (hC : Cfg l) : Calls Try.prog 95 #[v] w (All95 w l) := by
  obtain ⟨ao, cap, rfl⟩ := slice_shape hl
  have hlen := hl.1
  have hK92 : ∀ w', Below w.heap.size w w' → Calls Try.prog 92 #[.slice ao l.length cap, .int .i64 2] w' (NamedO w w' l 2) := fun w' hb => named92 l 2 _ w w' hl hM hb
  replace hl := Lib.hid hl
  replace hM := Lib.hid hM
  replace hK92 := Lib.hid hK92
  go_enter Try.func95, Try.ntmps95
  have hmm := @run_makeMap Try.prog
  go_upto_region 2 with fail
  obtain ⟨w2, hw2⟩ : ∃ w2, w2 = (w.alloc (.map #[] 0)).alloc (.cells #[.map (some w.heap.size)] 173) := ⟨_, rfl⟩
  obtain ⟨mb, hmb⟩ : ∃ mb, mb = w.heap.size := ⟨_, rfl⟩
  obtain ⟨tb, htb⟩ : ∃ tb, tb = w.heap.size + 1 := ⟨_, rfl⟩
  have hb02 := seq_below (alloc_below w (.map #[] 0)) (alloc_below (w.alloc (.map #[] 0)) (.cells #[.map (some w.heap.size)] 173))
  have hm2 : MapS nameKey w2 mb (tmap (([] : List Rw).take 0)) := by
    rw [hw2, hmb]
    exact (MapS.made nameKey w).tch (Tch.alloc No _ _) id
  have ct2 : w2.cell? ⟨tb, 0, none⟩ = some (.map (some mb)) := by
    have e : (w.alloc (.map #[] 0)).heap.size = w.heap.size + 1 := by simp
    rw [hw2, htb, hmb, ← e]
    exact (cell_of_row _ _ 0 _ _ _ (heap_alloc_new (w.alloc (.map #[] 0)) (.cells #[.map (some w.heap.size)] 173))).trans rfl
  have htl2 : tb < w2.heap.size := by rw [hw2, htb]; simp
  have hmt : mb < tb := by rw [hmb, htb]; omega
  rw [← hw2] at hb02
  rw [← hw2, ← htb, ← hmb]
  replace hw2 := Lib.hid hw2
  replace hb02 := Lib.hid hb02
  replace hm2 := Lib.hid hm2
  replace hmb := Lib.hid hmb
  replace htb := Lib.hid htb
  go_upto_region 3 with (first
    | (go_at_call 92; (with_reducible refine (hK92.out _ hb02.out).mono ?_); rintro e wN ⟨No, Nc, L, rfl, hLr, hLrow, hLP, hbN⟩; have ctN := (hbN.cell (p := ⟨tb, 0, none⟩) htl2).trans ct2; have hmN := Lib.hid (hm2.out.tch (Tch.of_below (S := fun _ => False) hbN) id); have hb0N := Lib.hid (seq_below hb02.out hbN); replace hLrow := Lib.hid hLrow; replace hLP := Lib.hid hLP; replace hLr := Lib.hid hLr; have htlN := Nat.lt_of_lt_of_le htl2 hbN.size; replace hbN := Lib.hid hbN)
    | fail)
  have hmb2 : mb < w2.heap.size := by omega
  have hLn : L.length ≤ l.length := by
    have := congrArg List.length hLr.out
    rw [List.length_map] at this
    rw [this]
    exact List.length_filter_le _ _
  have hTb : w.heap.size ≤ tb := by rw [htb.out]; omega
  have hMb : w.heap.size ≤ mb := by rw [hmb.out]; exact Nat.le_refl _
  clear ct2
  replace hb0N := hb0N
  go_loopg [13] (L.length + 1) (fun gg ic wr => ∃ i : Nat, gg = L.length - i + 1 ∧ i ≤ L.length ∧ ic = .int .i64 i ∧ Hid (MapS nameKey wr mb (tmap (L.take i))) ∧ Hid (wr.cell? ⟨tb, 0, none⟩ = some (.map (some mb))) ∧ Hid (wr.ownsRow w2.heap.size 52 8 (.slice No L.length Nc) L.length (L.flatMap Rw.cells)) ∧ Hid (Below w.heap.size w wr) ∧ Hid (tb < wr.heap.size))
  case atStart => exact ⟨0, rfl, Nat.zero_le _, rfl, hmN, Lib.hid ctN, hLrow, hb0N, Lib.hid htlN⟩
  case round =>
    obtain ⟨i, rfl, hi, rfl, hmI, hct, hrw, hbw, htl⟩ := hrel
    by_cases hlt : i < L.length
    · obtain ⟨x, hx⟩ : ∃ x, L[i]? = some x := ⟨_, List.getElem?_eq_getElem hlt⟩
      have hq : ∀ (q : Nat) u, q < 8 → x.cells[q]? = some u → ∃ g, No = some ⟨g, 0, none⟩ ∧ wr.cell? ⟨g, i * 8 + q, none⟩ = some u := fun q u hq hu => by
        obtain ⟨g, e1, _, _, e2, _⟩ := ownsRow_cell hrw.out (j := i * 8 + q) (u := u) ((Rd.flat_at rwC.len hx q hq).trans hu)
        exact ⟨g, e1, e2⟩
      obtain ⟨ng, hng, _⟩ := hq 0 _ (by decide) rfl
      subst hng
      have hr : ∀ (q : Nat) u, q < 8 → x.cells[q]? = some u → wr.cell? ⟨ng, i * 8 + q, none⟩ = some u := fun q u h1 h2 => by
        obtain ⟨g, e1, e2⟩ := hq q u h1 h2
        simp only [Option.some.injEq, Addr.mk.injEq, and_true] at e1
        rw [e1]; exact e2
      have c0 : wr.cell? ⟨ng, i * 8, none⟩ = some (.int .i64 x.r.kind) := hr 0 _ (by decide) rfl
      have c1 : wr.cell? ⟨ng, i * 8 + 1, none⟩ = some (.string x.r.name) := hr 1 _ (by decide) rfl
      have c2 : wr.cell? ⟨ng, i * 8 + 2, none⟩ = some (.slice x.eo x.r.eps.length x.ec) := hr 2 _ (by decide) rfl
      have c3 : wr.cell? ⟨ng, i * 8 + 3, none⟩ = some (.slice x.ta x.r.tgts.length x.tc) := hr 3 _ (by decide) rfl
      have c4 : wr.cell? ⟨ng, i * 8 + 4, none⟩ = some (.string x.r.host) := hr 4 _ (by decide) rfl
      have c5 : wr.cell? ⟨ng, i * 8 + 5, none⟩ = some (.slice x.ra x.r.rules.length x.rc) := hr 5 _ (by decide) rfl
      have c6 : wr.cell? ⟨ng, i * 8 + 6, none⟩ = some (.string x.r.route) := hr 6 _ (by decide) rfl
      have c7 : wr.cell? ⟨ng, i * 8 + 7, none⟩ = some (.bool x.r.del) := hr 7 _ (by decide) rfl
      have hk0 : (i : Int) < (L.length : Int) := nn_lt hlt
      have hwk := Lib.hid (nn_succ2 hlt (by omega))
      have hsn := tmap_snoc hx
      obtain ⟨wb, hwb⟩ : ∃ wb, wb = wr.alloc (.cells #[.int .i64 x.r.kind, .string x.r.name, .slice x.eo x.r.eps.length x.ec, .slice x.ta x.r.tgts.length x.tc, .string x.r.host, .slice x.ra x.r.rules.length x.rc, .string x.r.route, .bool x.r.del] 52) := ⟨_, rfl⟩
      obtain ⟨bk, hbk⟩ : ∃ bk, bk = wr.heap.size := ⟨_, rfl⟩
      have hbx : wb.heap[bk]? = some (.cells #[.int .i64 x.r.kind, .string x.r.name, .slice x.eo x.r.eps.length x.ec, .slice x.ta x.r.tgts.length x.tc, .string x.r.host, .slice x.ra x.r.rules.length x.rc, .string x.r.route, .bool x.r.del] 52) := by rw [hwb, hbk]; exact heap_alloc_new wr _
      have hba := alloc_below wr (.cells #[.int .i64 x.r.kind, .string x.r.name, .slice x.eo x.r.eps.length x.ec, .slice x.ta x.r.tgts.length x.tc, .string x.r.host, .slice x.ra x.r.rules.length x.rc, .string x.r.route, .bool x.r.del] 52)
      rw [← hwb] at hba
      have hm1 := Lib.hid (hmI.out.tch (Tch.of_below (S := fun _ => False) hba) id)
      have ctb := (hba.cell (p := ⟨tb, 0, none⟩) htl.out).trans hct.out
      have hrwb := Lib.hid (ownsRow_tch hrw.out (Tch.of_below (S := fun _ => False) hba) (fun _ _ q => q))
      have hbwb := Lib.hid (seq_below hbw.out hba)
      have htlb := Lib.hid (Nat.lt_of_lt_of_le htl.out hba.size)
      have b0 := box_at hbx (j := 0) rfl
      have b1 := box_at hbx (j := 1) rfl
      have b2 := box_at hbx (j := 2) rfl
      have b3 := box_at hbx (j := 3) rfl
      have b4 := box_at hbx (j := 4) rfl
      have b5 := box_at hbx (j := 5) rfl
      have b6 := box_at hbx (j := 6) rfl
      have b7 := box_at hbx (j := 7) rfl
      replace hx := Lib.hid hx
      replace hsn := Lib.hid hsn
      replace hbx := Lib.hid hbx
      replace hba := Lib.hid hba
      replace hq := Lib.hid hq
      replace hr := Lib.hid hr
      go_upto_region 5 with fail
      rw [← hwb, ← hbk]
      replace hwb := Lib.hid hwb
      replace hbk := Lib.hid hbk
      clear c0 c1 c2 c3 c4 c5 c6 c7
      go_wp2_with (first
        | (at_mapUpdate; go_loud (refine wp_store rfl _ _ _ 173 rfl nameKey 49 Try.underlying173 mb (tmap (L.take i)) x.r.name (.slice x.ta x.r.tgts.length x.tc) rfl hm1.out rfl rfl ?_); intro w4 hm4 ht4; have t4 := Tch.turned (S := fun k => k = mb) ht4 rfl; have ct4 := Lib.hid (t4.cell_some ctb (fun q => by omega)); have hrw4 := Lib.hid (ownsRow_tch hrwb.out t4 (fun g hg q => by have := (hrwb.out.lt g hg).1; omega)); have hbw4 := Lib.hid (Tch.below hbwb.out t4 hbwb.out.size (fun k q => by rw [q]; exact hMb)); have htl4 := Lib.hid (Nat.lt_of_lt_of_le htlb.out t4.size); replace hm4 := Lib.hid hm4; clear ht4 t4)
        | fail)
      go_roundg (L.length - (i + 1) + 1)
      case rel => exact ⟨i + 1, rfl, hlt, by first | rw [hwk.out] | go_num, Lib.hid (by rw [hsn.out]; exact hm4.out), ct4, hrw4, hbw4, htl4⟩
      case measure => exact nn_downS hlt
    · have hk0 : decide ((i : Int) < (L.length : Int)) = false := decide_eq_false (by omega)
      have hk1 : ¬ (i : Int) < (L.length : Int) := by omega
      have hmT : Hid (MapS nameKey wr mb (tmap L)) := Lib.hid (by have := hmI.out; rwa [List.take_of_length_le (by omega)] at this)
      have hT := Lib.hid (tgtV_of hC hLr.out hLP.out)
      have hTk := Lib.hid (fun n v (h : tmap L n = some v) => tmap_key hLr.out h)
      obtain ⟨T, hTe⟩ : ∃ T, T = tmap L := ⟨_, rfl⟩
      rw [← hTe] at hmT hT hTk
      have hct0 := hct.out
      have hmf := mkf
      replace hTe := Lib.hid hTe
      go_upto_region 9 with fail
      obtain ⟨wZ, kb, db, fb, hwZ, hkb, hdb, hfb, hbZ, hdZ, cdZ, hbfZ, hflZ⟩ := boxes_laid wr
      rw [← hwZ, ← hfb, ← hdb, ← hkb]
      have cfZ : wZ.cell? ⟨fb, 0, none⟩ = some Value.nilFunc := box_at hbfZ (j := 0) rfl
      have ffZ : wZ.frozen? ⟨fb, 0, none⟩ = false := frozen_of_row _ fb 0 _ _ hbfZ
      obtain ⟨FV, hFV⟩ : ∃ FV : Value, FV = .func (.func 132) #[] #[.pointer (some ⟨db, 0, none⟩), .pointer (some ⟨tb, 0, none⟩), .pointer (some ⟨fb, 0, none⟩)] := ⟨_, rfl⟩
      have tY : Tch (fun k => k = fb) wZ (wZ.setCell ⟨fb, 0, none⟩ FV) := Tch.setCell (S := fun k => k = fb) wZ (p := ⟨fb, 0, none⟩) rfl FV
      have hsz := hbw.out.size
      have htr := htl.out
      have hAY : AS w (wZ.setCell ⟨fb, 0, none⟩ FV) l db tb fb mb kb T (fun _ => none) := by
        have h1 := hbZ.size
        have cfY : (wZ.setCell ⟨fb, 0, none⟩ FV).cell? ⟨fb, 0, none⟩ = some FV := box_at (box_set (i := 0) (v := FV) hbfZ) (j := 0) rfl
        rw [hFV] at cfY
        refine ⟨Tch.below (seq_below hbw.out hbZ) tY (seq_below hbw.out hbZ).size (fun k q => by rw [q, hfb]; omega), by rw [hkb]; exact hsz, tY.cell_some cdZ (fun q => by omega), tY.cell_some ((hbZ.cell (p := ⟨tb, 0, none⟩) htr).trans hct0) (fun q => by omega), by rw [hFV]; exact cfY, (hmT.out.tch (Tch.of_below (S := fun _ => False) hbZ) id).tch tY (fun q => by omega), hdZ.tch tY (fun q => by omega), by omega, by omega, by omega, by omega, ?_, fun n v h => by cases h⟩
        have := tY.size
        exact ⟨by omega, by omega, by omega, by omega, by omega⟩
      rw [hFV] at hAY
      replace hAY := Lib.hid hAY
      replace hFV := Lib.hid hFV
      replace tY := Lib.hid tY
      replace hbZ := Lib.hid hbZ
      replace hdZ := Lib.hid hdZ
      replace hbfZ := Lib.hid hbfZ
      replace hwZ := Lib.hid hwZ
      replace hkb := Lib.hid hkb
      replace hdb := Lib.hid hdb
      replace hfb := Lib.hid hfb
      replace hsz := Lib.hid hsz
      replace hmI := Lib.hid hmI
      replace hrw := Lib.hid hrw
      clear hct0 htr
      go_upto_region 10 with fail
      obtain ⟨wY, hwY⟩ : ∃ wY, wY = wZ.setCell ⟨fb, 0, none⟩ (.func (.func 132) #[] #[.pointer (some ⟨db, 0, none⟩), .pointer (some ⟨tb, 0, none⟩), .pointer (some ⟨fb, 0, none⟩)]) := ⟨_, rfl⟩
      rw [← hwY] at hAY ⊢
      clear cdZ cfZ ffZ
      have ctY := hAY.out.ct
      have hmY := hAY.out.tg
      obtain ⟨ik, hik⟩ : ∃ ik, ik = wY.heap.size := ⟨_, rfl⟩
      replace hwY := Lib.hid hwY
      go_wp2_with (first | (at_range; go_loud (refine wp_range rfl _ 173 rfl nameKey 49 Try.underlying173 mb T rfl hmY ?_); intro w7 hrg hb7 hs7) | fail)
      rw [← hik] at hrg hb7 hs7 ⊢
      have hA7 := Lib.hid (hAY.out.below (by rw [← hik]; exact hb7))
      have hik7 : Hid (ik < w7.heap.size) := Lib.hid (by omega)
      have hikw : Hid (w.heap.size ≤ ik ∧ ik ≠ db ∧ ik ≠ tb ∧ ik ≠ fb ∧ ik ≠ mb ∧ ik ≠ kb) := Lib.hid (by
        obtain ⟨l1, l2, l3, l4, l5⟩ := hAY.out.lt
        have := hAY.out.bel.size
        exact ⟨by omega, by omega, by omega, by omega, by omega, by omega⟩)
      have hcov : Hid (∀ n, T n ≠ none → T n ≠ none ∨ ∃ v, (none : Option Value) = some v) := Lib.hid (fun n h => .inl h)
      have hnk : Hid (∀ n, has l 2 n = true → T n ≠ none) := Lib.hid (fun n hn => by
        obtain ⟨ta, tc, h1, _⟩ := hT.out n hn
        rw [h1]; simp)
      replace hik := Lib.hid hik
      replace hb7 := Lib.hid hb7
      replace hs7 := Lib.hid hs7
      clear ctY hmY
      go_loopg [] (w7.rangeLeft mb ik) (fun gg wr => ∃ (left : ByteArray → Prop) (M : ByteArray → Option Value), gg = wr.rangeLeft mb ik ∧ RangeS nameKey wr mb ik T left ∧ Hid (AS w wr l db tb fb mb kb T M) ∧ Hid (∀ n, T n ≠ none → left n ∨ ∃ v, M n = some v) ∧ Hid (ik < wr.heap.size))
      case atStart => exact ⟨_, _, rfl, hrg, hA7, hcov, hik7⟩
      case round =>
        obtain ⟨left, M, rfl, hrg, hA, hcv, hsz⟩ := hrel
        go_wp2_with (first | (at_next; go_loud (refine wp_next rfl _ rfl nameKey mb ik T left rfl hrg ?_ ?_)) | fail)
        · intro hl0
          have hdn := hA.out.dn
          have hfin : ∀ n, has l 2 n = true → ∃ v, M n = some v := fun n hn => (hcv.out n (hnk.out n hn)).resolve_left (hl0 n)
          have hcd := hA.out.cd
          replace hl0 := Lib.hid hl0
          replace hdn := Lib.hid hdn
          replace hfin := Lib.hid hfin
          clear hrg
          go_wp2
          go_ret
          exact ⟨kb, M, rfl, hdn.out, hfin.out, hA.out.ok, hA.out.bel⟩
        · intro k vv w1 hlk hfk hrg1 hlt1 hg1 hs1 hen
          replace hen : (Instr.entry (.pointer (some ⟨ik, 0, none⟩))).run Try.prog w1 = .ok (.tuple #[.string k, vv]) w1 := hen
          have hT1 : Tch (fun q => q = ik) wr w1 := Tch.grown hg1 (fun j hj => by cases hj; exact .inl rfl)
          have hA1 : AS w w1 l db tb fb mb kb T M := hA.out.tch hT1 (fun q e => by rw [e]; exact hikw.out) (fun q e n v hv => by rw [e]; exact own_iter (hA.out.ok n v hv) hrg)
          have hcall := Lib.hid (all132 hC hT.out 8 k w1 M (hC.known (hTk.out k vv hfk)) hA1)
          have cf1 := hA1.cf
          have hsz1 : ik < w1.heap.size := by rw [hs1]; exact hsz.out
          replace hlk := Lib.hid hlk
          replace hfk := Lib.hid hfk
          replace hlt1 := Lib.hid hlt1
          replace hg1 := Lib.hid hg1
          replace hs1 := Lib.hid hs1
          replace hT1 := Lib.hid hT1
          replace hA1 := Lib.hid hA1
          clear hrg
          go_wp2_with (first
            | (go_at_call 132; (with_reducible refine hcall.out.mono ?_); rintro e w3 ⟨M3, v3, rfl, hv3, hA3, he3, hn3, ht3⟩; obtain ⟨hrg3, hrl3⟩ := rl_keep hrg1 ht3 hA3.nm hikw.out.2.2.2.2.2; have hsz3 := Lib.hid (Nat.lt_of_lt_of_le hsz1 ht3.size); replace hv3 := Lib.hid hv3; replace hA3 := Lib.hid hA3; replace he3 := Lib.hid he3; clear hn3 ht3)
            | fail)
          go_roundg (w3.rangeLeft mb ik)
          case rel =>
            refine ⟨_, M3, rfl, hrg3, hA3, Lib.hid (fun n hn => ?_), hsz3⟩
            rcases hcv.out n hn with h | ⟨u, hu⟩
            · by_cases e : n = k
              · right; rw [e]; exact ⟨_, hv3.out⟩
              · exact .inl ⟨h, e⟩
            · exact .inr ⟨u, he3.out n u hu⟩
          case measure => rw [hrl3]; exact hlt1.out
end Go.Proofs.Ytjepgpocmnijiaa
end

section

namespace Go.Ck
open Go.RowKit Go.Mp
open Go.Proofs.Ytjepgpocmnijiaa.Fl
set_option linter.unusedVariables false
theorem oks_put {a : List Shr} (h : OkS a) {s : ByteArray} {u : Nat} (hs : s.size ≤ maxLen) (hu : u ≤ INF) : OkS (a ++ [⟨s, u⟩]) := Go.Proofs.Ytjepgpocmnijiaa.oks_snoc h hs (Nat.lt_of_le_of_lt hu (by decide))
theorem one_le : ONE ≤ INF := by decide
end Go.Ck
namespace Go.Proofs.Ytjepgpocmnijiaa
open Go.RowKit Go.Mp Go.Ck Fl
set_option linter.unusedVariables false
set_option maxRecDepth 100000
set_option maxHeartbeats 4000000
def StepsO (w : World) (l : List Shr) (e : Ending) (w' : World) : Prop := ∃ v', e = .returned v' ∧ OwnS w' w.heap.size v' (stepsS l) ∧ Below w.heap.size w w'
theorem steps41 (l : List Shr) (v : Value) (w : World) (hl : ShS w v l) (hM : l.length * 24 ≤ 140737488355328) : Calls Try.prog 41 #[v] w (StepsO w l) := by
  obtain ⟨ao, cap, rfl⟩ := slice_shape hl
  have hlen := hl.1
  have hok := hl.ok
  have hsum := stL_sum (l := l) (fun s hs => (hok s hs).2)
  have hall : stepsS l = lastOne (stL (l.take l.length)).1 := by rw [List.take_length]; rfl
  have hn := stL_len l
  obtain ⟨i73, h73, h730, h731, h732⟩ := info_parts info73
  have hr0 := Lib.hid (World.ownsRow_nil w w.heap.size 73 2)
  replace hl := Lib.hid hl
  replace hok := Lib.hid hok
  replace hsum := Lib.hid hsum
  replace hall := Lib.hid hall
  replace hn := Lib.hid hn
  replace h73 := Lib.hid h73
  replace h730 := Lib.hid h730
  replace h731 := Lib.hid h731
  replace h732 := Lib.hid h732
  go_enter Try.func41, Try.ntmps41
  go_wp2
  go_loopg [3, 4, 9] (l.length + 1) (fun gg ov sv ic wr => ∃ i : Nat, gg = l.length - i + 1 ∧ i ≤ l.length ∧ ic = .int .i64 i ∧ sv = .float .f64 (stL (l.take i)).2 ∧ Hid (OwnS wr w.heap.size ov (stL (l.take i)).1) ∧ Hid (Below w.heap.size w wr))
  case atStart => exact ⟨0, rfl, Nat.zero_le _, rfl, by rw [List.take_zero]; rfl, Lib.hid (by rw [List.take_zero]; exact ⟨hr0.out, fun s hs => by cases hs⟩), Lib.hid (Below.refl _ _)⟩
  case round =>
    obtain ⟨i, rfl, hi, rfl, rfl, hO, hbw⟩ := hrel
    have hni := hn.out i
    have hsi := hsum.out i
    obtain ⟨out, hst⟩ : ∃ p, p = (stL (l.take i)).1 := ⟨_, rfl⟩
    obtain ⟨sm, hsm⟩ : ∃ p, p = (stL (l.take i)).2 := ⟨_, rfl⟩
    rw [← hst] at hO hni
    rw [← hsm] at hsi ⊢
    obtain ⟨oo, oc, rfl⟩ := ownsRow_shape hO.out.row
    by_cases hlt : i < l.length
    · obtain ⟨x, hx⟩ : ∃ x, l[i]? = some x := ⟨_, List.getElem?_eq_getElem hlt⟩
      obtain ⟨b, off, rfl, hbl, c0, c1, hxs, hxu⟩ := shr_at hl.out hbw.out hx
      have hk0 : (i : Int) < (l.length : Int) := nn_lt hlt
      have hwk := Lib.hid (nn_succ2 hlt hlen)
      have hsn := stL_snoc hx
      unfold stF at hsn
      rw [← hst, ← hsm] at hsn
      obtain ⟨wb, hwb⟩ : ∃ wb, wb = wr.alloc (.cells #[.string x.service, .float .f64 x.upto] 73) := ⟨_, rfl⟩
      obtain ⟨bk, hbk⟩ : ∃ bk, bk = wr.heap.size := ⟨_, rfl⟩
      have hbx : wb.heap[bk]? = some (.cells #[.string x.service, .float .f64 x.upto] 73) := by rw [hwb, hbk]; exact heap_alloc_new wr _
      have hba := Lib.hid (alloc_below wr (.cells #[.string x.service, .float .f64 x.upto] 73))
      rw [← hwb] at hba
      have hO1 := Lib.hid (hO.out.tch (Tch.of_below (S := No) hba.out) (fun _ _ q => q))
      have hbw1 := Lib.hid (seq_below hbw.out hba.out)
      have b0 := box_at hbx (j := 0) rfl
      have b1 := box_at hbx (j := 1) rfl
      obtain ⟨kb, hkb⟩ : ∃ b, pos x.upto = b := ⟨_, rfl⟩
      have hA : (FloatKind.f64.format.order x.upto 0 == some Ordering.gt) = kb := hkb
      cases kb with
      | true =>
        rw [if_pos hkb] at hsn
        have hs1 : (stL (l.take (i + 1))).1 = out ++ [⟨x.service, fadd sm x.upto⟩] := by rw [hsn]
        have hs2 : (stL (l.take (i + 1))).2 = fadd sm x.upto := by rw [hsn]
        obtain ⟨ha1, ha2⟩ := add_ge sm x.upto hsi hxu (pos_ge hkb)
        have hadd := run_add ha1
        have hrow2 := Lib.hid (hO1.out.row.alloc (.cells #[.string x.service, .float .f64 (fadd sm x.upto)] 73))
        have hn2 := Lib.hid (new_cells wb [.string x.service, .float .f64 (fadd sm x.upto)] 73)
        have hB2 := Lib.hid (show w.heap.size ≤ (wb.alloc (.cells #[.string x.service, .float .f64 (fadd sm x.upto)] 73)).heap.size from Nat.le_trans hbw1.out.size (by simp))
        have hok2 := Lib.hid (oks_put hO1.out.ok hxs ha2)
        replace hx := Lib.hid hx
        replace hkb := Lib.hid hkb
        replace hsn := Lib.hid hsn
        replace hbx := Lib.hid hbx
        replace ha1 := Lib.hid ha1
        replace ha2 := Lib.hid ha2
        replace hsi := Lib.hid hsi
        replace hst := Lib.hid hst
        replace hsm := Lib.hid hsm
        replace hs1 := Lib.hid hs1
        replace hs2 := Lib.hid hs2
        go_upto_region 6 with fail
        rw [← hwb, ← hbk]
        replace hwb := Lib.hid hwb
        replace hbk := Lib.hid hbk
        clear c0 c1
        go_wp2_with (first
          | (at_builtin; go_loud (refine wp_append_lit (by rfl) _ _ 67 (by rfl) w.heap.size 73 i73 _ 2 24 Try.underlying67 h73.out h730.out h731.out h732.out rfl (by decide) _ out.length (flat out) (by rfl) hrow2.out ⟨wb.heap.size, 0, none⟩ 1 _ [.string x.service, .float .f64 (fadd sm x.upto)] (by rfl) rfl hn2.out (by simp [Value.oneCell']) (by unfold maxLen; omega) (by omega) hB2.out ?_); intro v3 w3 hr3 hg3 hl3; have hr3' := Lib.hid hr3; obtain ⟨o3, c3', rfl⟩ := ownsRow_shape hr3; replace hg3 := Lib.hid hg3; replace hl3 := Lib.hid hl3; clear hr3)
          | fail)
        go_roundg (l.length - (i + 1) + 1)
        case rel =>
          refine ⟨i + 1, rfl, hlt, by first | rw [hwk.out] | go_num, by rw [hs2.out], Lib.hid ?_, Lib.hid ((seq_below hbw1.out (alloc_below wb (.cells #[.string x.service, .float .f64 (fadd sm x.upto)] 73))).grown hg3.out hB2.out (fun q hq => (hO.out.row.lt q hq).1))⟩
          rw [hs1.out]
          exact ⟨by rw [List.length_append, flat_snoc]; exact hr3'.out, hok2.out⟩
        case measure => exact nn_downS hlt
      | false =>
        rw [if_neg (by rw [hkb]; decide)] at hsn
        have hs1 : (stL (l.take (i + 1))).1 = out := by rw [hsn, hst]
        have hs2 : (stL (l.take (i + 1))).2 = sm := by rw [hsn, hsm]
        replace hx := Lib.hid hx
        replace hkb := Lib.hid hkb
        replace hsn := Lib.hid hsn
        replace hbx := Lib.hid hbx
        replace hst := Lib.hid hst
        replace hsi := Lib.hid hsi
        replace hsm := Lib.hid hsm
        replace hs1 := Lib.hid hs1
        replace hs2 := Lib.hid hs2
        go_upto_region 6 with fail
        rw [← hwb, ← hbk]
        replace hwb := Lib.hid hwb
        replace hbk := Lib.hid hbk
        clear c0 c1
        go_wp2
        go_roundg (l.length - (i + 1) + 1)
        case rel => exact ⟨i + 1, rfl, hlt, by first | rw [hwk.out] | go_num, by rw [hs2.out], by rw [hs1.out]; exact hO1, hbw1⟩
        case measure => exact nn_downS hlt
    · have hk0 : decide ((i : Int) < (l.length : Int)) = false := decide_eq_false (by omega)
      have hk1 : ¬ (i : Int) < (l.length : Int) := by omega
      have hie : i = l.length := by omega
      have hfin := hall.out
      rw [← hie, ← hst] at hfin
      rcases Nat.eq_zero_or_pos out.length with h0 | h0
      · have g0 : decide ((0 : Int) < (out.length : Int)) = false := decide_eq_false (by omega)
        have g1 : ¬ (0 : Int) < (out.length : Int) := by omega
        have hnil : out = [] := List.length_eq_zero_iff.1 h0
        replace hie := Lib.hid hie
        replace hfin := Lib.hid hfin
        replace hst := Lib.hid hst
        replace hsi := Lib.hid hsi
        replace hnil := Lib.hid hnil
        replace hsm := Lib.hid hsm
        go_wp2
        go_ret
        refine ⟨_, rfl, ?_, hbw.out⟩
        rw [hfin.out]
        have := hO.out
        rw [hnil.out] at this ⊢
        exact this
      · obtain ⟨j, hj⟩ : ∃ j, j + 1 = out.length := ⟨out.length - 1, by omega⟩
        obtain ⟨y, hy⟩ : ∃ y, out[j]? = some y := ⟨_, List.getElem?_eq_getElem (by omega)⟩
        have hlast := lastOne_at (l := out) (s := y) (by rw [← hj, Nat.add_sub_cancel]; exact hy)
        rw [← hj, Nat.add_sub_cancel] at hlast
        obtain ⟨g, hg, _, _, cy, fy⟩ := ownsRow_cell hO.out.row (flat_at hy).2
        subst hg
        have g1 : (0 : Int) < (out.length : Int) := by omega
        have hwp := wrap_pred hj (by omega)
        have g6 : (0 : Int) ≤ (j : Int) := by omega
        have g7 : (j : Int) < (out.length : Int) := by omega
        have hst2 := hO.out.row.stored (j * 2 + 1) (.float .f64 ONE)
        rw [← flat_set _ hy] at hst2
        have hok2 := oks_some hO.out.ok hy (u := ONE) (by decide)
        have hbf := Lib.hid (Tch.below hbw.out (Tch.setCell (S := fun k => k = g) wr (p := ⟨g, j * 2 + 1, none⟩) rfl (.float .f64 ONE)) hbw.out.size (fun q e => by rw [e]; exact (hO.out.row.lt g rfl).1))
        replace hie := Lib.hid hie
        replace hfin := Lib.hid hfin
        replace hst := Lib.hid hst
        replace hsi := Lib.hid hsi
        replace hsm := Lib.hid hsm
        replace hj := Lib.hid hj
        replace hy := Lib.hid hy
        replace hlast := Lib.hid hlast
        replace hst2 := Lib.hid hst2
        replace hok2 := Lib.hid hok2
        go_wp2
        go_ret
        refine ⟨_, rfl, ?_, hbf.out⟩
        rw [hfin.out]
        show OwnS _ _ _ (lastOne out)
        rw [hlast.out]
        exact ⟨by rw [List.length_set]; exact hst2.out.1, hok2.out⟩
end Go.Proofs.Ytjepgpocmnijiaa
end
