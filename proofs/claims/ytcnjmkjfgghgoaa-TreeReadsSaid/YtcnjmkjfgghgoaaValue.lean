/- block and value of the reader, on what dict and list do. -/
import Derived.Test.YtcnjmkjfgghgoaaBegin
namespace Go.Proofs.Ytcnjmkjfgghgoaa
open Go.RowKit Go.Mp Go.Tr
set_option linter.unusedVariables false
set_option maxRecDepth 20000
def Out (w : World) (B : Nat) (F : Nat → Prop) (b kb : Nat) (lv : Value) (l : List Tok) (N : List Nd) (r : Res T) (e : Ending) (w' : World) : Prop :=
  match r with
  | .error (ln, er) => e = faultP ln er ∧ Tch F w w'
  | .ok (t, at2, _) => e = .returned (.int .i64 N.length) ∧ RPost w B F b kb lv l at2 (N ++ lay N.length t) w'
def BlockOK (l : List Tok) (f : Nat) : Prop := ∀ (w : World) (B : Nat) (F : Nat → Prop) (b kb : Nat) (lv : Value) (at' : Nat) (N : List Nd) (d : Nat) (key : ByteArray), RdM w B F b kb lv l at' N → B ≤ w.heap.size → N.length ≤ 4096 → d ≤ 17 → has ((l[at']?).getD zero) = true → l.length - at' ≤ f →
  Calls Try.prog 48 #[.pointer (some ⟨b, 0, none⟩), .int .i64 d, .string key] w (Out w B F b kb lv l N (blockW (loop l f) l at' d N.length key))
def KidsOK (fn : Nat) (kind : Int) (l : List Tok) (f : Nat) : Prop := ∀ (w : World) (B : Nat) (F : Nat → Prop) (b kb : Nat) (lv : Value) (at' : Nat) (N : List Nd) (d : Nat) (key : ByteArray) (t : Tok), RdM w B F b kb lv l at' N → B ≤ w.heap.size → N.length ≤ 4096 → d ≤ 17 → l[at']? = some t → t.kind = kind → l.length - at' ≤ f →
  Calls Try.prog fn #[.pointer (some ⟨b, 0, none⟩), tokA t, .int .i64 d, .string key] w (Out w B F b kb lv l N (blockW (loop l f) l at' d N.length key))
def ValueOK (l : List Tok) (f : Nat) : Prop := ∀ (w : World) (B : Nat) (F : Nat → Prop) (b kb : Nat) (lv : Value) (at' : Nat) (N : List Nd) (d : Nat) (key : ByteArray) (is : Bool) (u : Tok), RdM w B F b kb lv l at' N → B ≤ w.heap.size → N.length ≤ 4096 → d ≤ 17 → l.length - at' ≤ f →
  Calls Try.prog 65 #[.pointer (some ⟨b, 0, none⟩), .bool is, tokA u, .int .i64 d, .string key] w (Out w B F b kb lv l N (valueW (loop l f) l is u at' d N.length key))
theorem out_trans {w w1 w2 : World} {B b kb : Nat} {F F1 : Nat → Prop} {lv : Value} {l : List Tok} {N : List Nd} {r : Res T} {e : Ending} (t1 : Tch F w w1) (h1 : ∀ k, F1 k → F k ∨ w.heap.size ≤ k) (h : Out w1 B F1 b kb lv l N r e w2) : Out w B F b kb lv l N r e w2 := by
  unfold Out at *
  split at h
  · exact ⟨h.1, t1.trans h.2 h1⟩
  · exact ⟨h.1, rpost_trans t1 h1 h.2⟩
theorem RD.inNodes {w w2 : World} {B b kb at' : Nat} {F F2 : Nat → Prop} {lv v : Value} {l : List Tok} {R R2 : List (Nd × Value)} (h : RD w B F b kb lv l at' v R) (t : Tch (fun k => F k ∧ k ≠ b) w w2) (hN : NM w2 B F2 v R2) (hf : ∀ k, F k → F2 k) (hf2 : ∀ k, F2 k → F k ∨ w.heap.size ≤ k) : RD w2 B F2 b kb lv l at' v R2 :=
  ⟨(t.block b (h.nm.lt b h.fb).2 (fun e => e.2 rfl)).trans h.hb, hN, hf b h.fb, h.tk.keep (t.block kb h.kl (fun e => h.kn e.1)), Nat.lt_of_lt_of_le h.kl t.size, fun hk => by
    rcases hf2 kb hk with h1 | h1
    · exact h.kn h1
    · have := h.kl; omega⟩
/-- The reader steps on. -/
theorem RdM.setAt {w : World} {B b kb at' : Nat} {F : Nat → Prop} {lv : Value} {l : List Tok} {N : List Nd} (h : RdM w B F b kb lv l at' N) (at2 : Nat) : w.frozen? ⟨b, 1, none⟩ = false ∧ w.cell? ⟨b, 1, none⟩ = some (.int .i64 at') ∧ RdM (w.setCell ⟨b, 1, none⟩ (.int .i64 at2)) B F b kb lv l at2 N ∧ Tch F w (w.setCell ⟨b, 1, none⟩ (.int .i64 at2)) := by
  obtain ⟨v, R, rfl, h⟩ := h
  obtain ⟨h1, h2, h3, h4⟩ := h.setAt at2
  exact ⟨h1, h2, ⟨v, R, rfl, h3⟩, h4⟩
theorem RdM.next {w : World} {B b kb at' : Nat} {F : Nat → Prop} {lv : Value} {l : List Tok} {N : List Nd} (h : RdM w B F b kb lv l at' N) : Calls Try.prog 47 #[.pointer (some ⟨b, 0, none⟩)] w fun e w' => e = .returned (tokA ((l[at']?).getD zero)) ∧ RdM w' B F b kb lv l at' N ∧ Tch No w w' := by
  have h0 := h
  obtain ⟨v, R, rfl, h⟩ := h
  refine (next_any h.hb h.tk h.kl).mono ?_
  rintro e w' ⟨rfl, t⟩
  exact ⟨rfl, h0.same t, t⟩
theorem has_some {l : List Tok} {at' : Nat} (h : has ((l[at']?).getD zero) = true) : ∃ t, l[at']? = some t ∧ has t = true := by
  cases hx : l[at']? with
  | none => rw [hx] at h; exact absurd h (by decide)
  | some t => rw [hx] at h; exact ⟨t, rfl, h⟩
theorem value_any {l : List Tok} {f : Nat} (hb : BlockOK l f) : ValueOK l f := by
  intro w B F b kb lv at' N d key is u h hB hN hd hl
  obtain ⟨w1, hw1⟩ : ∃ w1, w1 = w.alloc (tokO u 39) := ⟨_, rfl⟩
  have t1 : Tch No w w1 := by rw [hw1]; exact Tch.alloc No w _
  obtain ⟨cb, hcb⟩ : ∃ cb, cb = w.heap.size := ⟨_, rfl⟩
  have hc1 : w1.heap[cb]? = some (tokO u 39) := by rw [hw1, hcb]; exact heap_alloc_new w _
  have hcF : ¬ F cb := fun hk => by have := (h.lt cb hk).2; omega
  have h1 := h.same t1
  have hB1 := Nat.le_trans hB t1.size
  obtain ⟨e0, e1, e2, e3, e4⟩ := tokO_cells hc1
  have tF : Tch F w w1 := t1.mono (fun _ h => h.elim)
  replace h := Lib.hid h
  replace hc1 := Lib.hid hc1
  replace t1 := Lib.hid t1
  replace tF := Lib.hid tF
  replace hcF := Lib.hid hcF
  replace hB1 := Lib.hid hB1
  by_cases hi : is = true ∧ has ((l[at']?).getD zero) = true
  · obtain ⟨rfl, hh⟩ := hi
    have hv : valueW (loop l f) l true u at' d N.length key = blockW (loop l f) l at' d N.length key := by unfold valueW; rw [hh]; rfl
    rw [hv]
    have hn := Lib.hid h1.next
    have hC : ∀ w3, RdM w3 B F b kb lv l at' N → B ≤ w3.heap.size → Calls Try.prog 48 #[.pointer (some ⟨b, 0, none⟩), .int .i64 d, .string key] w3 (Out w3 B F b kb lv l N (blockW (loop l f) l at' d N.length key)) := fun w3 h3 hB3 => hb w3 B F b kb lv at' N d key h3 hB3 hN hd hh hl
    clear hv
    generalize blockW (loop l f) l at' d N.length key = r at *
    replace hC := Lib.hid hC
    replace h1 := Lib.hid h1
    replace hh := Lib.hid hh
    rcases r with ⟨ln, er⟩ | ⟨t, at2, m2⟩
    · go_enter Try.func65, Try.ntmps65
      go_upto_region 1 with fail
      rw [show (w.alloc (tokO u 39)) = w1 from hw1.symm, ← hcb]
      replace hw1 := Lib.hid hw1
      replace hcb := Lib.hid hcb
      go_wp2_with (first
        | (go_at_call 47; have _t := hn; refine hn.out.mono ?_; clear _t hn; rintro _ w2 ⟨rfl, h2, t2⟩; have h2 := Lib.hid h2; have t2 := Lib.hid t2; have hH := Lib.hid (has_any (w := w2) ((l[at']?).getD zero)))
        | (go_at_call 46; have _t := hH; refine hH.out.mono ?_; clear _t hH; rintro _ w3 ⟨rfl, t3⟩; rw [hh.out]; have h3 := Lib.hid (h2.out.same t3); have t3 := Lib.hid (t2.out.trans t3 (fun _ h => .inl h)))
        | (go_at_call 48; refine (hC.out w3 h3.out (Nat.le_trans hB1.out t3.out.size)).mono ?_; rintro e w4 ⟨he, tt⟩; simp only [faultP] at he; subst he)
        | fail)
      exact ⟨rfl, rfl, (tF.out.trans (t3.out.mono (fun _ h => h.elim) : Tch F w1 w3) (fun _ h => .inl h)).trans tt (fun _ h => .inl h)⟩
    · go_enter Try.func65, Try.ntmps65
      go_upto_region 1 with fail
      rw [show (w.alloc (tokO u 39)) = w1 from hw1.symm, ← hcb]
      replace hw1 := Lib.hid hw1
      replace hcb := Lib.hid hcb
      go_wp2_with (first
        | (go_at_call 47; have _t := hn; refine hn.out.mono ?_; clear _t hn; rintro _ w2 ⟨rfl, h2, t2⟩; have h2 := Lib.hid h2; have t2 := Lib.hid t2; have hH := Lib.hid (has_any (w := w2) ((l[at']?).getD zero)))
        | (go_at_call 46; have _t := hH; refine hH.out.mono ?_; clear _t hH; rintro _ w3 ⟨rfl, t3⟩; rw [hh.out]; have h3 := Lib.hid (h2.out.same t3); have t3 := Lib.hid (t2.out.trans t3 (fun _ h => .inl h)))
        | (go_at_call 48; refine (hC.out w3 h3.out (Nat.le_trans hB1.out t3.out.size)).mono ?_; rintro e w4 ⟨he, hP⟩; subst he; have hP := Lib.hid hP)
        | fail)
      go_ret
      exact ⟨rfl, rpost_trans (tF.out.trans (t3.out.mono (fun _ h => h.elim) : Tch F w1 w3) (fun _ h => .inl h)) (fun _ h => .inl h) hP.out⟩
  · have hv : valueW (loop l f) l is u at' d N.length key = if full d N.length = true then .error (u.line, 92) else .ok (.node 1 key ⟨#[]⟩ false u.line [], at', N.length + 1) := by
      unfold valueW
      rw [if_neg (by simpa using hi)]
    rw [hv]
    clear hv
    by_cases hf : full d N.length = true
    · rw [if_pos hf]
      have hC : ∀ w3, RdM w3 B F b kb lv l at' N → Calls Try.prog 56 #[.pointer (some ⟨b, 0, none⟩), .int .i64 1, .int .i64 d, .string key, tokA u] w3 fun e w4 => e = faultP u.line 92 ∧ Tch No w3 w4 := fun w3 h3 => begin_bad h3 1 d key u hf
      replace hf := Lib.hid hf
      replace hC := Lib.hid hC
      have hn := Lib.hid h1.next
      replace h1 := Lib.hid h1
      cases is with
      | false =>
        replace hi := Lib.hid hi
        go_enter Try.func65, Try.ntmps65
        go_upto_region 1 with fail
        rw [show (w.alloc (tokO u 39)) = w1 from hw1.symm, ← hcb]
        replace hw1 := Lib.hid hw1
        replace hcb := Lib.hid hcb
        go_wp2_with (first
          | (go_at_call 56; refine (hC.out w1 h1.out).mono ?_; rintro e w4 ⟨he, tt⟩; simp only [faultP] at he; subst he)
          | fail)
        exact ⟨rfl, rfl, tF.out.trans tt (fun _ h => h.elim)⟩
      | true =>
        have hh : has ((l[at']?).getD zero) = false := by simpa using hi
        replace hi := Lib.hid hi
        replace hh := Lib.hid hh
        go_enter Try.func65, Try.ntmps65
        go_upto_region 1 with fail
        rw [show (w.alloc (tokO u 39)) = w1 from hw1.symm, ← hcb]
        replace hw1 := Lib.hid hw1
        replace hcb := Lib.hid hcb
        go_wp2_with (first
          | (go_at_call 47; have _t := hn; refine hn.out.mono ?_; clear _t hn; rintro _ w2 ⟨rfl, h2, t2⟩; have h2 := Lib.hid h2; have t2 := Lib.hid t2; have hH := Lib.hid (has_any (w := w2) ((l[at']?).getD zero)))
          | (go_at_call 46; have _t := hH; refine hH.out.mono ?_; clear _t hH; rintro _ w3 ⟨rfl, t3⟩; rw [hh.out]; have h3 := Lib.hid (h2.out.same t3); have t3 := Lib.hid (t2.out.trans t3 (fun _ h => .inl h)); clear e0 e1 e2 e3 e4; obtain ⟨e0, e1, e2, e3, e4⟩ := tokO_cells ((t3.out.block cb (Array.getElem?_eq_some_iff.1 hc1.out).1 id).trans hc1.out))
          | (go_at_call 56; refine (hC.out w3 h3.out).mono ?_; rintro e w4 ⟨he, tt⟩; simp only [faultP] at he; subst he)
          | fail)
        exact ⟨rfl, rfl, (tF.out.trans t3.out (fun _ h => h.elim)).trans tt (fun _ h => h.elim)⟩
    · rw [if_neg hf]
      have hC : ∀ w3, RdM w3 B F b kb lv l at' N → B ≤ w3.heap.size → Calls Try.prog 56 #[.pointer (some ⟨b, 0, none⟩), .int .i64 1, .int .i64 d, .string key, tokA u] w3 fun e w4 => e = .returned (.int .i64 N.length) ∧ RPost w3 B F b kb lv l at' (N ++ [⟨1, key, ⟨#[]⟩, false, u.line, []⟩]) w4 := fun w3 h3 hB3 => begin_ok h3 hB3 1 d key u (by simpa using hf) hN
      have hlay : lay N.length (.node 1 key ⟨#[]⟩ false u.line []) = [⟨1, key, ⟨#[]⟩, false, u.line, []⟩] := by simp [lay, lays, kidAts]
      replace hlay := Lib.hid hlay
      replace hf := Lib.hid hf
      replace hC := Lib.hid hC
      have hn := Lib.hid h1.next
      replace h1 := Lib.hid h1
      cases is with
      | false =>
        replace hi := Lib.hid hi
        go_enter Try.func65, Try.ntmps65
        go_upto_region 1 with fail
        rw [show (w.alloc (tokO u 39)) = w1 from hw1.symm, ← hcb]
        replace hw1 := Lib.hid hw1
        replace hcb := Lib.hid hcb
        go_wp2_with (first
          | (go_at_call 56; refine (hC.out w1 h1.out hB1.out).mono ?_; rintro e w4 ⟨he, hP⟩; subst he; have hP := Lib.hid hP)
          | fail)
        go_ret
        exact ⟨rfl, by rw [hlay.out]; exact rpost_trans tF.out (fun _ h => .inl h) hP.out⟩
      | true =>
        have hh : has ((l[at']?).getD zero) = false := by simpa using hi
        replace hi := Lib.hid hi
        replace hh := Lib.hid hh
        go_enter Try.func65, Try.ntmps65
        go_upto_region 1 with fail
        rw [show (w.alloc (tokO u 39)) = w1 from hw1.symm, ← hcb]
        replace hw1 := Lib.hid hw1
        replace hcb := Lib.hid hcb
        go_wp2_with (first
          | (go_at_call 47; have _t := hn; refine hn.out.mono ?_; clear _t hn; rintro _ w2 ⟨rfl, h2, t2⟩; have h2 := Lib.hid h2; have t2 := Lib.hid t2; have hH := Lib.hid (has_any (w := w2) ((l[at']?).getD zero)))
          | (go_at_call 46; have _t := hH; refine hH.out.mono ?_; clear _t hH; rintro _ w3 ⟨rfl, t3⟩; rw [hh.out]; have h3 := Lib.hid (h2.out.same t3); have t3 := Lib.hid (t2.out.trans t3 (fun _ h => .inl h)); clear e0 e1 e2 e3 e4; obtain ⟨e0, e1, e2, e3, e4⟩ := tokO_cells ((t3.out.block cb (Array.getElem?_eq_some_iff.1 hc1.out).1 id).trans hc1.out))
          | (go_at_call 56; refine (hC.out w3 h3.out (Nat.le_trans hB1.out t3.out.size)).mono ?_; rintro e w4 ⟨he, hP⟩; subst he; have hP := Lib.hid hP)
          | fail)
        go_ret
        exact ⟨rfl, by rw [hlay.out]; exact rpost_trans (tF.out.trans t3.out (fun _ h => h.elim)) (fun _ h => .inl h) hP.out⟩
end Go.Proofs.Ytcnjmkjfgghgoaa
