/- The walk of sorted: a map's resources, in order, in memory of the call's own. -/
import Derived.Test.YtjepgpocmnijiaaZb23
section

namespace Go.Ck
open Go.Proofs.Ytjepgpocmnijiaa (Key)
set_option linter.unusedVariables false
theorem fnd_nodup {A : List Res} (h : (A.map rk).Nodup) {k : Key} {x : Res} : fnd A k = some x ↔ x ∈ A ∧ rk x = k := by
  constructor
  · intro h1
    exact ⟨(fnd_some h1).2, (fnd_some h1).1⟩
  · rintro ⟨h1, h2⟩
    cases h3 : fnd A k with
    | none => exact absurd h2 (fnd_none.1 h3 x h1)
    | some y =>
      have h4 := fnd_some h3
      rw [Go.Mp.nodup_inj h h4.2 h1 (h4.1.trans h2.symm)]
theorem fnd_perm {A B : List Res} (h : (A.map rk).Nodup) (hp : B.Perm A) (k : Key) : fnd B k = fnd A k := by
  have hB : (B.map rk).Nodup := ((hp.map rk).nodup_iff).2 h
  cases h1 : fnd A k with
  | none =>
    exact fnd_none.2 fun r hr => fnd_none.1 h1 r (hp.mem_iff.1 hr)
  | some x =>
    rw [fnd_nodup hB]
    have := (fnd_nodup h).1 h1
    exact ⟨hp.mem_iff.2 this.1, this.2⟩
theorem srt_of {A : List Res} (h : (A.map rk).Nodup) (hs : A.Pairwise fun a b => lessK (rk b) (rk a) = false) : Srt A := by
  have hn : A.Pairwise fun a b => rk a ≠ rk b := List.pairwise_map.1 h
  refine (hs.and hn).imp fun {a b} ⟨h1, h2⟩ => ?_
  rcases lessK_tri (rk a) (rk b) with e | e | e
  · exact absurd e h2
  · exact e
  · rw [e] at h1; cases h1
theorem nodup_len {α : Type} [DecidableEq α] : ∀ {L M : List α}, L.Nodup → (∀ i ∈ L, i ∈ M) → L.length ≤ M.length
  | [], _, _, _ => Nat.zero_le _
  | a :: L, M, hn, hs => by
    have ha := hs a List.mem_cons_self
    have h1 := nodup_len (L := L) (M := M.erase a) (List.nodup_cons.1 hn).2 (fun i hi => (List.mem_erase_of_ne (fun e => (List.nodup_cons.1 hn).1 (by rw [← e]; exact hi))).2 (hs i (List.mem_cons_of_mem _ hi)))
    have h2 := List.length_erase_of_mem ha
    have h3 := List.length_pos_of_mem ha
    rw [List.length_cons]; omega
end Go.Ck
namespace Go.Proofs.Ytjepgpocmnijiaa
open Go.RowKit Go.Mp Go.Ck
set_option linter.unusedVariables false
set_option maxRecDepth 100000
set_option maxHeartbeats 8000000
def valR (g : Key → Option Rw) : Key → Option Value := fun k => (g k).map fun x => .agg x.cells.toArray
structure MapR (w : World) (b : Nat) (g : Key → Option Rw) (ks : List Key) : Prop where
  m : MapS keyKey w b (valR g)
  el : ∀ k x, g k = some x → rk x.r = k ∧ x.P w ∧ SzR x.r
  kin : ∀ k, g k ≠ none → k ∈ ks
  n : ks.length ≤ 4194304
/-- What was collected. -/
structure ColR (g : Key → Option Rw) (left : Key → Prop) (L : List Rw) : Prop where
  nd : ((L.map Rw.r).map rk).Nodup
  no : ∀ k, left k → fnd (L.map Rw.r) k = none
  yes : ∀ k, ¬ left k → fnd (L.map Rw.r) k = (g k).map Rw.r
theorem ColR.zero (g : Key → Option Rw) (F : Key → Option Value) (hF : ∀ k, F k = valR g k) : ColR g (fun k => F k ≠ none) [] :=
  ⟨List.nodup_nil, fun _ _ => rfl, fun k h => by
    have h1 : F k = none := Classical.byContradiction h
    rw [hF] at h1
    unfold valR at h1
    rw [Option.map_eq_none_iff] at h1
    rw [h1]; rfl⟩
theorem ColR.add {g : Key → Option Rw} {left : Key → Prop} {L : List Rw} (h : ColR g left L) {k : Key} {x y : Rw} (hk : left k) (hg : g k = some x) (hx : rk x.r = k) (hy : y.r = x.r) : ColR g (fun j => left j ∧ j ≠ k) (L ++ [y]) := by
  have h0 := h.no k hk
  have e1 : (L ++ [y]).map Rw.r = L.map Rw.r ++ [x.r] := by rw [List.map_append, ← hy]; rfl
  refine ⟨?_, fun j hj => ?_, fun j hj => ?_⟩
  · rw [e1, List.map_append]
    refine List.nodup_append.2 ⟨h.nd, by simp, fun a ha b hb => ?_⟩
    obtain ⟨r, hr, rfl⟩ := List.mem_map.1 ha
    simp only [List.map_cons, List.map_nil, List.mem_singleton] at hb
    rw [hb, hx]
    exact fnd_none.1 h0 r hr
  · rw [e1, fnd_append, h.no j hj.1, fnd_cons, fnd_nil, if_neg (fun e => hj.2 (e.symm.trans hx))]; rfl
  · rw [e1, fnd_append, fnd_cons, fnd_nil]
    by_cases e : j = k
    · subst e
      rw [h0, if_pos hx, hg]; rfl
    · rw [if_neg (fun q => e (q.symm.trans hx)), h.yes j (fun q => hj ⟨q, e⟩)]
      cases (g j).map Rw.r <;> rfl
theorem ColR.len {w : World} {b : Nat} {g : Key → Option Rw} {ks : List Key} {left : Key → Prop} {L : List Rw} (h : ColR g left L) (hm : MapR w b g ks) : L.length ≤ ks.length := by
  have := nodup_len (M := ks) h.nd (fun k hk => by
    obtain ⟨r, hr, rfl⟩ := List.mem_map.1 hk
    have h1 : fnd (L.map Rw.r) (rk r) = some r := (fnd_nodup h.nd).2 ⟨hr, rfl⟩
    have h2 : ¬ left (rk r) := fun q => by rw [h.no _ q] at h1; cases h1
    rw [h.yes _ h2] at h1
    refine hm.kin _ (fun q => ?_)
    rw [q] at h1; cases h1)
  simpa using this
def SortedOut (w : World) (g : Key → Option Rw) (ks : List Key) (e : Ending) (w' : World) : Prop := ∃ (v' : Value) (L : List Rw), e = .returned v' ∧ OwnM w' w.heap.size v' (L.map Rw.rv) ∧ Srt (L.map Rw.r) ∧ (∀ k, fnd (L.map Rw.r) k = (g k).map Rw.r) ∧ L.length ≤ ks.length ∧ Below w.heap.size w w'
theorem sorted69 (b : Nat) (g : Key → Option Rw) (ks : List Key) (w : World) (hm : MapR w b g ks) : Calls Try.prog 69 #[.map (some b)] w (SortedOut w g ks) := by
  have hlt := hm.m.lt
  obtain ⟨i52, h52, h520, h521, h522⟩ := info_parts info52
  have hm0 := hm.m
  obtain ⟨F, hF⟩ : ∃ F, F = valR g := ⟨_, rfl⟩
  rw [← hF] at hm0
  have hZ := ColR.zero g F (fun k => by rw [hF])
  have hu : Try.prog.underlying 121 = some (.map 111 52) := Try.underlying121
  replace hm := Lib.hid hm
  replace hF := Lib.hid hF
  replace hlt := Lib.hid hlt
  replace h52 := Lib.hid h52
  replace h520 := Lib.hid h520
  replace h521 := Lib.hid h521
  replace h522 := Lib.hid h522
  replace hZ := Lib.hid hZ
  go_enter Try.func69, Try.ntmps69
  go_wp2_with (first | (at_range; refine wp_range rfl _ 121 rfl keyKey 52 hu b F rfl hm0 ?_; intro w0 hrg hb0 hs0) | fail)
  go_frame
  have hrow0 := Lib.hid (World.ownsRow_nil w0 (w.heap.size + 1) 52 8)
  replace hm0 := Lib.hid hm0
  go_loopg [2] (w0.rangeLeft b w.heap.size) (fun gg vo wr => ∃ (left : Key → Prop) (L : List Rw), Hid (wr.ownsRow (w.heap.size + 1) 52 8 vo L.length (L.flatMap Rw.cells)) ∧ Hid (∀ x ∈ L, RM wr (w.heap.size + 1) x.rv) ∧ gg = wr.rangeLeft b w.heap.size ∧ RangeS keyKey wr b w.heap.size F left ∧ Hid (Below w.heap.size w wr) ∧ Hid (w.heap.size + 1 ≤ wr.heap.size) ∧ Hid (ColR g left L))
  case atStart => exact ⟨_, [], hrow0, Lib.hid (fun x hx => by cases hx), rfl, hrg, Lib.hid hb0, Lib.hid (by omega), hZ⟩
  case round =>
    obtain ⟨left, L, hrow, hel, rfl, hrg, hbl, hsz, hcol⟩ := hrel
    obtain ⟨oo, oc, rfl⟩ := ownsRow_shape hrow.out
    go_wp2_with (first | (at_next; refine wp_next rfl _ rfl keyKey b w.heap.size F left rfl hrg ?_ ?_) | fail)
    · intro hl0
      have hln := hcol.out.len hm.out
      have hkn := hm.out.n
      have hsrt := Lib.hid (sort122 L (.slice oo L.length oc) (w.heap.size + 1) wr hrow.out (by omega))
      replace hl0 := Lib.hid hl0
      replace hkn := Lib.hid hkn
      replace hln := Lib.hid hln
      clear hrg
      go_wp2_with (first
        | (go_at_call 122; (with_reducible refine hsrt.out.mono ?_); rintro e w3 ⟨rfl, L', hp3, hs3, hr3, ht3⟩; replace hp3 := Lib.hid hp3; replace hs3 := Lib.hid hs3; replace hr3 := Lib.hid hr3; replace ht3 := Lib.hid ht3)
        | fail)
      go_ret
      have hl3 : L'.length = L.length := hp3.out.length_eq
      have hpr : (L'.map Rw.r).Perm (L.map Rw.r) := hp3.out.map _
      have hnd' : ((L'.map Rw.r).map rk).Nodup := ((hpr.map rk).nodup_iff).2 hcol.out.nd
      have hr3' := hr3.out
      refine ⟨_, L', rfl, ⟨?_, fun x hx => ?_⟩, srt_of hnd' (List.pairwise_map.2 hs3.out), fun k => ?_, by rw [hl3]; exact hln.out, Tch.below hbl.out ht3.out hbl.out.size (fun q hq => Nat.le_trans (Nat.le_succ _) (ownsRow_ge hrow.out hq).1)⟩
      · rw [List.length_map, List.flatMap_map]
        rw [← hl3] at hr3' ⊢
        exact ownsRow_base hr3' (Nat.le_succ _)
      · obtain ⟨y, hy, rfl⟩ := List.mem_map.1 hx
        have h1 := hel.out y (hp3.out.mem_iff.1 hy)
        have h2 := h1.tch ht3.out (fun g hg q => ?_) (fun g hg q => ?_) (fun g hg q => ?_)
        · exact ⟨ownsRow_base h2.e (Nat.le_succ _), ownsRow_base h2.t (Nat.le_succ _), ownsRow_base h2.ru (Nat.le_succ _), h2.p⟩
        · obtain ⟨cur, hc⟩ := row_block hrow.out q
          exact row_block_ne h1.e hc (by decide) g hg rfl
        · obtain ⟨cur, hc⟩ := row_block hrow.out q
          exact row_block_ne h1.t hc (by decide) g hg rfl
        · obtain ⟨cur, hc⟩ := row_block hrow.out q
          exact row_block_ne h1.ru hc (by decide) g hg rfl
      · rw [fnd_perm hcol.out.nd hpr, hcol.out.yes k (hl0.out k.1 k.2)]
    · intro k1 k2 v w1 hlk hfk hrg1 hlt1 hg1 hs1 hen
      obtain ⟨k, hk12⟩ : ∃ k : Key, k = (k1, k2) := ⟨_, rfl⟩
      rw [← hk12] at hlk hfk hen
      simp only [← hk12] at hrg1
      rw [hF.out] at hfk
      obtain ⟨x, hgx, hvx⟩ := Option.map_eq_some_iff.1 hfk
      obtain ⟨hkx, hpx, m1⟩ := hm.out.el k x hgx
      subst hvx
      replace hen : (Instr.entry (.pointer (some ⟨w.heap.size, 0, none⟩))).run Try.prog w1 = .ok (.tuple #[.agg #[.int .i64 k.1, .string k.2], .agg #[.int .i64 x.r.kind, .string x.r.name, .slice x.eo x.r.eps.length x.ec, .slice x.ta x.r.tgts.length x.tc, .string x.r.host, .slice x.ra x.r.rules.length x.rc, .string x.r.route, .bool x.r.del]]) w1 := hen
      have hb1 : Below w.heap.size w w1 := hbl.out.grown hg1 hbl.out.size (fun j hj => by cases hj; exact Nat.le_refl _)
      have hT1 : Tch (fun q => q = w.heap.size) wr w1 := Tch.grown hg1 (fun j hj => by cases hj; exact .inl rfl)
      have hnot : ∀ {e size n : Nat} {v : Value} {xs : List Value} {w' : World}, w'.ownsRow (w.heap.size + 1) e size v n xs → ∀ g, v.ownBlock = some g → ¬ g = w.heap.size := fun h g hg q => by have := (ownsRow_ge h hg).1; omega
      have hrow1 := Lib.hid (ownsRow_tch hrow.out hT1 (hnot hrow.out))
      have hel1 : Hid (∀ y ∈ L, RM w1 (w.heap.size + 1) y.rv) := Lib.hid (fun y hy => (hel.out y hy).tch hT1 (hnot (hel.out y hy).e) (hnot (hel.out y hy).t) (hnot (hel.out y hy).ru))
      obtain ⟨wB, hwB⟩ : ∃ wB, wB = w1.alloc (.cells #[.int .i64 x.r.kind, .string x.r.name, .slice x.eo x.r.eps.length x.ec, .slice x.ta x.r.tgts.length x.tc, .string x.r.host, .slice x.ra x.r.rules.length x.rc, .string x.r.route, .bool x.r.del] 52) := ⟨_, rfl⟩
      obtain ⟨bk, hbk⟩ : ∃ bk, bk = w1.heap.size := ⟨_, rfl⟩
      have hbx : wB.heap[bk]? = some (.cells #[.int .i64 x.r.kind, .string x.r.name, .slice x.eo x.r.eps.length x.ec, .slice x.ta x.r.tgts.length x.tc, .string x.r.host, .slice x.ra x.r.rules.length x.rc, .string x.r.route, .bool x.r.del] 52 (0, 0)) := by rw [hwB, hbk]; exact heap_alloc_new w1 _
      have tB : Below w1.heap.size w1 wB := by rw [hwB]; exact alloc_below _ _
      have b0 : wB.cell? ⟨bk, 0, none⟩ = some (.int .i64 x.r.kind) := box_at hbx rfl
      have b1 : wB.cell? ⟨bk, 1, none⟩ = some (.string x.r.name) := box_at hbx rfl
      have b2 : wB.cell? ⟨bk, 2, none⟩ = some (.slice x.eo x.r.eps.length x.ec) := box_at hbx rfl
      have b3 : wB.cell? ⟨bk, 3, none⟩ = some (.slice x.ta x.r.tgts.length x.tc) := box_at hbx rfl
      have b4 : wB.cell? ⟨bk, 4, none⟩ = some (.string x.r.host) := box_at hbx rfl
      have b5 : wB.cell? ⟨bk, 5, none⟩ = some (.slice x.ra x.r.rules.length x.rc) := box_at hbx rfl
      have b6 : wB.cell? ⟨bk, 6, none⟩ = some (.string x.r.route) := box_at hbx rfl
      have b7 : wB.cell? ⟨bk, 7, none⟩ = some (.bool x.r.del) := box_at hbx rfl
      have hb1B := seq_below hb1 (tB.mono (by exact Nat.le_refl _))
      have c121 : Calls Try.prog 121 #[.agg #[.int .i64 x.r.kind, .string x.r.name, .slice x.eo x.r.eps.length x.ec, .slice x.ta x.r.tgts.length x.tc, .string x.r.host, .slice x.ra x.r.rules.length x.rc, .string x.r.route, .bool x.r.del]] wB (CopyOut wB x.r) := copied121 x wB (hpx.below hb1B) m1
      have lim : L.length + 1 ≤ maxLen ∧ (L.length + 1) * 136 ≤ 140737488355328 := by have h1 := hcol.out.len hm.out; have h2 := hm.out.n; unfold maxLen; omega
      have hszB : w.heap.size + 1 ≤ w1.heap.size := by rw [hs1]; exact hsz.out
      replace hfk := Lib.hid hfk
      replace hgx := Lib.hid hgx
      replace hkx := Lib.hid hkx
      replace hpx := Lib.hid hpx
      replace hs1 := Lib.hid hs1
      replace hb1 := Lib.hid hb1
      replace hT1 := Lib.hid hT1
      replace hbx := Lib.hid hbx
      replace tB := Lib.hid tB
      replace hb1B := Lib.hid hb1B
      replace c121 := Lib.hid c121
      replace lim := Lib.hid lim
      replace hszB := Lib.hid hszB
      replace hlk := Lib.hid hlk
      replace hg1 := Lib.hid hg1
      replace hrow := Lib.hid hrow
      replace hel := Lib.hid hel
      clear hnot m1
      go_upto_region 4 with fail
      rw [← hwB, ← hbk]
      replace hwB := Lib.hid hwB
      replace hbk := Lib.hid hbk
      have hBB := Lib.hid (hrow1.out)
      go_wp2_with (first
        | (go_at_call 121; (with_reducible refine c121.out.mono ?_); rintro e w2 ⟨y, hy, rfl, hM2, hb2⟩; have hrow2 := Lib.hid (ownsRow_tch hrow1.out (Tch.of_below (S := No) (seq_below tB.out hb2)) (fun _ _ q => q)); replace hy := Lib.hid hy; replace hM2 := Lib.hid hM2; replace hb2 := Lib.hid hb2; have hszq := Lib.hid (Nat.le_trans hszB.out (seq_below tB.out hb2.out).size); simp only [Rw.cells])
        | (at_builtin; refine wp_append_us (us := y.cells) (by rfl) _ _ 22 (by rfl) (w.heap.size + 1) 52 i52 _ 8 136 Try.underlying22 h52.out h520.out h521.out h522.out rfl (by decide) _ L.length _ (by rfl) hrow2.out 1 (by rfl) rfl (rwC.one _) lim.out.1 lim.out.2 hszq.out ?_; intro v5 w5 hr5 hg5 hl5; obtain ⟨qo, qc, rfl⟩ := ownsRow_shape hr5; replace hr5 := Lib.hid hr5; replace hg5 := Lib.hid hg5; replace hl5 := Lib.hid hl5)
        | fail)
      have hrb : Hid (b ≠ w.heap.size ∧ b < w1.heap.size ∧ w.heap.size < w1.heap.size) := Lib.hid ⟨Nat.ne_of_lt hlt.out, Nat.lt_of_lt_of_le hlt.out hb1.out.size, by have := hszB.out; omega⟩
      have t2 : Tch No w1 w2 := Tch.of_below (seq_below tB.out hb2.out)
      have t5 : Tch (fun q => (Value.slice oo L.length oc).ownBlock = some q) w2 w5 := Tch.grown hg5.out (fun q hq => .inl hq)
      have t15 : Tch (fun q => (Value.slice oo L.length oc).ownBlock = some q) w1 w5 := (t2.mono (S' := fun q => (Value.slice oo L.length oc).ownBlock = some q) (fun _ h => h.elim)).trans t5 (fun _ h => .inl h)
      have hge : ∀ q, (Value.slice oo L.length oc).ownBlock = some q → w.heap.size + 1 ≤ q := fun q hq => (ownsRow_ge hrow2.out hq).1
      have kb := t15.block b hrb.out.2.1 (fun q => by have := hge _ q; have := hlt.out; omega)
      have kr := t15.block w.heap.size hrb.out.2.2 (fun q => by have := hge _ q; omega)
      have e1 : w5.rangeLeft b w.heap.size = w1.rangeLeft b w.heap.size := by
        unfold World.rangeLeft
        rw [kb, kr]
      have hG := Lib.hid (hcol.out.add hlk.out hgx.out hkx.out hy.out)
      have hR : Hid (RangeS keyKey w5 b w.heap.size F (fun j => left j ∧ j ≠ k)) := Lib.hid (hrg1.keep kb kr)
      have hr5' : w5.ownsRow (w.heap.size + 1) 52 8 (.slice qo (L.length + 1) qc) (L ++ [y]).length ((L ++ [y]).flatMap Rw.cells) := by
        rw [List.length_append, List.flatMap_append]
        have := hr5.out
        simpa using this
      have hsz2 : w.heap.size + 1 ≤ w2.heap.size := hszq.out
      have hB5 := Lib.hid (Tch.below hb1.out t15 hb1.out.size (fun q hq => Nat.le_trans (Nat.le_succ _) (hge q hq)))
      have hE5 : Hid (∀ z ∈ L ++ [y], RM w5 (w.heap.size + 1) z.rv) := Lib.hid (fun z hz => by
        have hrm : RM w2 (w.heap.size + 1) z.rv := by
          rcases List.mem_append.1 hz with h | h
          · exact (hel1.out z h).tch t2 (fun _ _ q => q) (fun _ _ q => q) (fun _ _ q => q)
          · rw [List.mem_singleton.1 h]
            have hle : w.heap.size + 1 ≤ wB.heap.size := Nat.le_trans hszB.out tB.out.size
            exact ⟨ownsRow_base hM2.out.e hle, ownsRow_base hM2.out.t hle, ownsRow_base hM2.out.ru hle, hM2.out.p⟩
        refine hrm.tch t5 (fun g hg q => ?_) (fun g hg q => ?_) (fun g hg q => ?_)
        · obtain ⟨cur, hc⟩ := row_block hrow2.out q
          exact row_block_ne hrm.e hc (by decide) g hg rfl
        · obtain ⟨cur, hc⟩ := row_block hrow2.out q
          exact row_block_ne hrm.t hc (by decide) g hg rfl
        · obtain ⟨cur, hc⟩ := row_block hrow2.out q
          exact row_block_ne hrm.ru hc (by decide) g hg rfl)
      have t15s := Lib.hid t15.size
      replace e1 := Lib.hid e1
      replace hr5' := Lib.hid hr5'
      clear t2 t5 t15 hge kb kr
      go_roundg (w5.rangeLeft b w.heap.size)
      case rel => exact ⟨_, L ++ [y], hr5', hE5, rfl, hR.out, hB5, Lib.hid (Nat.le_trans hszB.out (by have := hB5.out.size; have := t15s.out; omega)), hG⟩
      case measure => rw [e1.out]; exact hlt1
end Go.Proofs.Ytjepgpocmnijiaa
end
