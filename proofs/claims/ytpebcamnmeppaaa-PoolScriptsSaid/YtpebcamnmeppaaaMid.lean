/- The two pools side by side: what stands between a call at the one and a call at the other. -/
import Derived.Test.YtpebcamnmeppaaaNil
namespace Go.Po
/-- How much there is. -/
def Len (s : St) (n : Nat) : Prop := s.busy.length + s.free.length + s.kept.length ≤ n
theorem unk_length (e : ByteArray) : ∀ l : List ByteArray, (unk e l).length ≤ l.length
  | [] => Nat.le_refl _
  | x :: l => by
    unfold unk
    by_cases h : x = e
    · rw [if_pos h]; simp
    · rw [if_neg h]; have := unk_length e l; simp; exact this
theorem len_take {s : St} {n : Nat} (h : Len s n) (e : ByteArray) : Len (take s e).2 (n + 1) := by
  unfold take Len at *
  cases lastOf s.free e with
  | some c =>
    have := but_length (l := s.free) c.id
    simp only [List.length_append, List.length_cons, List.length_nil]; omega
  | none =>
    by_cases hc : s.most ≤ (of s.busy e : Int) + kof s.kept e
    · simp only [if_pos hc]; omega
    · simp only [if_neg hc, List.length_append, List.length_cons, List.length_nil]; omega
theorem len_dial {s : St} {n : Nat} (h : Len s n) (e : ByteArray) (i : Int) : Len (dial s e i).2 (n + 1) := by
  unfold dial Len at *
  by_cases hc : kof s.kept e = 0 ∨ i < 0 ∨ hasId s i
  · simp only [if_pos hc]; omega
  · have := unk_length e s.kept
    simp only [if_neg hc, List.length_append, List.length_cons, List.length_nil]; omega
theorem len_fail {s : St} {n : Nat} (h : Len s n) (e : ByteArray) : Len (fail s e).2 (n + 1) := by
  unfold fail Len at *
  by_cases hc : kof s.kept e = 0
  · simp only [if_pos hc]; omega
  · have := unk_length e s.kept
    simp only [if_neg hc]; omega
theorem len_put {s : St} {n : Nat} (h : Len s n) (i now : Int) : Len (put s i now).2 (n + 1) := by
  unfold put Len at *
  cases fnd s.busy i with
  | some c =>
    have := but_length (l := s.busy) i
    simp only [List.length_append, List.length_cons, List.length_nil]; omega
  | none => simp only; omega
theorem len_poison {s : St} {n : Nat} (h : Len s n) (i : Int) : Len (poison s i).2 (n + 1) := by
  unfold poison Len at *
  cases fnd s.busy i with
  | some c =>
    have := but_length (l := s.busy) i
    simp only; omega
  | none =>
    cases fnd s.free i with
    | some c =>
      have := but_length (l := s.free) i
      simp only; omega
    | none => simp only; omega
theorem len_expire {s : St} {n : Nat} (h : Len s n) (now : Int) : Len (expire s now).2 (n + 1) := by
  unfold expire Len at *
  have := List.length_filter_le (fun c => !old s now c) s.free
  simp only; omega
theorem len_expired {s : St} {n : Nat} (h : Len s n) (now : Int) : (expire s now).1.length ≤ n := by
  unfold expire Len at *
  have := List.length_filter_le (old s now) s.free
  simp only [List.length_mergeSort, List.length_map]; omega
end Go.Po
namespace Go.Proofs.Ytpebcamnmeppaaa
open Go.RowKit Go.Mp Go.Po
set_option linter.unusedVariables false
theorem Post.mono {w : World} {B : Nat} {F : Nat → Prop} {p : Nat} {s : St} {n m : Nat} {w' : World} (h : Post w B F p s n w') (hm : n ≤ m) : Post w B F p s m w' := by
  obtain ⟨F', h1, h2, h3⟩ := h
  exact ⟨F', h1.mono hm, h2, h3⟩
/-- The pool and the document's: both nil, or both the same; a block beside them (the call that is boxed). -/
structure Mid (w0 : World) (B : Nat) (S0 : Nat → Prop) (a b : Option Addr) (cb : Nat) (o : Obj) (np nr : Nat) (w : World) (sp sr : St) : Prop where
  t : Tch S0 w0 w
  bx : w.heap[cb]? = some o
  alt : (a = none ∧ b = none) ∨ ∃ p q FP FR, a = some ⟨p, 0, none⟩ ∧ b = some ⟨q, 0, none⟩ ∧ PoolM w B FP p sp np ∧ RefM w B FR q sr ∧ (∀ k, FP k → ¬ FR k) ∧ (∀ k, FP k ∨ FR k → S0 k ∨ w0.heap.size ≤ k) ∧ (¬ FP cb ∧ ¬ FR cb) ∧ Len sp np ∧ Len sr nr
section
variable {w0 w w' : World} {B : Nat} {S0 FP FR : Nat → Prop} {a b : Option Addr} {cb p q : Nat} {o : Obj} {np nr np' nr' : Nat} {sp sr sp' sr' : St}
theorem Mid.same (h : Mid w0 B S0 a b cb o np nr w sp sr) (t : Tch No w w') : Mid w0 B S0 a b cb o np nr w' sp sr := by
  refine ⟨h.t.trans t (fun _ h => h.elim), (t.block cb (Array.getElem?_eq_some_iff.1 h.bx).1 id).trans h.bx, ?_⟩
  rcases h.alt with h1 | ⟨p, q, FP, FR, h1, h2, h3, h4, h5⟩
  · exact .inl h1
  · exact .inr ⟨p, q, FP, FR, h1, h2, h3.tch t (fun _ _ h => h), h4.tch t (fun _ _ h => h), h5⟩
theorem mid_nil (t : Tch S0 w0 w) (bx : w.heap[cb]? = some o) : Mid w0 B S0 none none cb o np nr w sp sr := ⟨t, bx, .inl ⟨rfl, rfl⟩⟩
theorem RefM.lt (h : RefM w B FR q sr) : ∀ k, FR k → B ≤ k ∧ k < w.heap.size := by
  obtain ⟨_, _, _, h⟩ := h; exact h.lt
theorem mid_postP (t : Tch S0 w0 w) (bx : w.heap[cb]? = some o) (hP : PoolM w B FP p sp np) (hR : RefM w B FR q sr) (hd : ∀ k, FP k → ¬ FR k) (hS : ∀ k, FP k ∨ FR k → S0 k ∨ w0.heap.size ≤ k) (hc : ¬ FP cb ∧ ¬ FR cb) (hl' : Len sp' np') (hlr : Len sr nr)
    (h : Post w B FP p sp' np' w') : Mid w0 B S0 (some ⟨p, 0, none⟩) (some ⟨q, 0, none⟩) cb o np' nr w' sp' sr := by
  obtain ⟨F', h1, h2, h3⟩ := h
  have hcl := (Array.getElem?_eq_some_iff.1 bx).1
  refine ⟨t.trans h2 (fun k hk => hS k (.inl hk)), (h2.block cb hcl hc.1).trans bx, .inr ⟨p, q, F', FR, rfl, rfl, h1, hR.tch h2 (fun k hk h => hd k h hk), fun k hk hr => ?_, fun k hk => ?_, ⟨fun h => ?_, hc.2⟩, hl', hlr⟩⟩
  · rcases h3 k hk with h | h
    · exact hd k h hr
    · have := (hR.lt k hr).2; omega
  · rcases hk with hk | hk
    · rcases h3 k hk with h | h
      · exact hS k (.inl h)
      · exact .inr (Nat.le_trans t.size h)
    · exact hS k (.inr hk)
  · rcases h3 cb h with h | h
    · exact hc.1 h
    · omega
theorem mid_postR (t : Tch S0 w0 w) (bx : w.heap[cb]? = some o) (hP : PoolM w B FP p sp np) (hR : RefM w B FR q sr) (hd : ∀ k, FP k → ¬ FR k) (hS : ∀ k, FP k ∨ FR k → S0 k ∨ w0.heap.size ≤ k) (hc : ¬ FP cb ∧ ¬ FR cb) (hl : Len sp np) (hlr' : Len sr' nr')
    (h : RPost w B FR q sr' w') : Mid w0 B S0 (some ⟨p, 0, none⟩) (some ⟨q, 0, none⟩) cb o np nr' w' sp sr' := by
  obtain ⟨F', h1, h2, h3⟩ := h
  have hcl := (Array.getElem?_eq_some_iff.1 bx).1
  refine ⟨t.trans h2 (fun k hk => hS k (.inr hk)), (h2.block cb hcl hc.2).trans bx, .inr ⟨p, q, FP, F', rfl, rfl, hP.tch h2 (fun k hk h => hd k hk h), h1, fun k hk hr => ?_, fun k hk => ?_, ⟨hc.1, fun h => ?_⟩, hl, hlr'⟩⟩
  · rcases h3 k hr with h | h
    · exact hd k hk h
    · have := (hP.lt k hk).2; omega
  · rcases hk with hk | hk
    · exact hS k (.inl hk)
    · rcases h3 k hk with h | h
      · exact hS k (.inr h)
      · exact .inr (Nat.le_trans t.size h)
  · rcases h3 cb h with h | h
    · exact hc.2 h
    · omega
end
def aTake (a : Option Addr) (s : St) (e : ByteArray) : Int × Bool × Int := if a.isNone then (-1, false, 1) else (take s e).1
noncomputable def aDial (a : Option Addr) (s : St) (e : ByteArray) (i : Int) : Int := if a.isNone then 1 else (dial s e i).1
def aFail (a : Option Addr) (s : St) (e : ByteArray) : Int := if a.isNone then 1 else (fail s e).1
def aPut (a : Option Addr) (s : St) (i now : Int) : Int := if a.isNone then 1 else (put s i now).1
def aPoison (a : Option Addr) (s : St) (i : Int) : Int := if a.isNone then 1 else (poison s i).1
section
variable {w0 w : World} {B : Nat} {S0 : Nat → Prop} {a b : Option Addr} {cb : Nat} {o : Obj} {np nr : Nat} {sp sr : St}
theorem Mid.p_take (h : Mid w0 B S0 a b cb o np nr w sp sr) (hB : B ≤ w0.heap.size) (hn : np < 4398046511000) (e : ByteArray)  : Calls Try.prog 8 #[.pointer a, .string e] w fun e' w' => e' = .returned (.tuple #[.int .i64 (aTake a sp e).1, .bool (aTake a sp e).2.1, .int .i64 (aTake a sp e).2.2]) ∧ Mid w0 B S0 a b cb o (np + 1) nr w' (take sp e).2 sr := by
  rcases h.alt with ⟨rfl, rfl⟩ | ⟨p, q, FP, FR, rfl, rfl, h3, h4, h5, h6, h7, h8, h9⟩
  · refine (ntake e).mono ?_
    rintro _ w' ⟨rfl, rfl⟩
    exact ⟨rfl, mid_nil h.t h.bx⟩
  · refine (take_any h3 e).mono ?_
    rintro _ w' ⟨rfl, hp⟩
    exact ⟨rfl, mid_postP h.t h.bx h3 h4 h5 h6 h7 (len_take h8 e) h9 (hp.mono (Nat.le_succ np))⟩
theorem Mid.r_take (h : Mid w0 B S0 a b cb o np nr w sp sr) (hB : B ≤ w0.heap.size) (hn : nr < 4398046511000) (hs : a ≠ none → Inv sr) (e : ByteArray) : Calls Try.prog 26 #[.pointer b, .string e] w fun e' w' => e' = .returned (.tuple #[.int .i64 (aTake a sr e).1, .bool (aTake a sr e).2.1, .int .i64 (aTake a sr e).2.2]) ∧ Mid w0 B S0 a b cb o np (nr + 1) w' sp (take sr e).2 := by
  rcases h.alt with ⟨rfl, rfl⟩ | ⟨p, q, FP, FR, rfl, rfl, h3, h4, h5, h6, h7, h8, h9⟩
  · refine (rntake e).mono ?_
    rintro _ w' ⟨rfl, rfl⟩
    exact ⟨rfl, mid_nil h.t h.bx⟩
  · refine (rtake_any h4 (hs (by simp)) (by unfold Len at h9; omega) (Nat.le_trans hB h.t.size) e).mono ?_
    rintro _ w' ⟨rfl, hp⟩
    exact ⟨rfl, mid_postR h.t h.bx h3 h4 h5 h6 h7 h8 (len_take h9 e) hp⟩
theorem Mid.p_dial (h : Mid w0 B S0 a b cb o np nr w sp sr) (hB : B ≤ w0.heap.size) (hn : np < 4398046511000) (e : ByteArray) (i : Int) (hi : i ≤ 9223372036854775807)  : Calls Try.prog 9 #[.pointer a, .string e, .int .i64 i] w fun e' w' => e' = .returned (.int .i64 (aDial a sp e i)) ∧ Mid w0 B S0 a b cb o (np + 1) nr w' (dial sp e i).2 sr := by
  rcases h.alt with ⟨rfl, rfl⟩ | ⟨p, q, FP, FR, rfl, rfl, h3, h4, h5, h6, h7, h8, h9⟩
  · refine (ndial e i).mono ?_
    rintro _ w' ⟨rfl, rfl⟩
    exact ⟨rfl, mid_nil h.t h.bx⟩
  · refine (dial_any h3 e i hi (Nat.le_trans hB h.t.size)).mono ?_
    rintro _ w' ⟨rfl, hp⟩
    exact ⟨rfl, mid_postP h.t h.bx h3 h4 h5 h6 h7 (len_dial h8 e i) h9 (hp.mono (Nat.le_succ np))⟩
theorem Mid.r_dial (h : Mid w0 B S0 a b cb o np nr w sp sr) (hB : B ≤ w0.heap.size) (hn : nr < 4398046511000) (hs : a ≠ none → Inv sr) (e : ByteArray) (i : Int) : Calls Try.prog 27 #[.pointer b, .string e, .int .i64 i] w fun e' w' => e' = .returned (.int .i64 (aDial a sr e i)) ∧ Mid w0 B S0 a b cb o np (nr + 1) w' sp (dial sr e i).2 := by
  rcases h.alt with ⟨rfl, rfl⟩ | ⟨p, q, FP, FR, rfl, rfl, h3, h4, h5, h6, h7, h8, h9⟩
  · refine (rndial e i).mono ?_
    rintro _ w' ⟨rfl, rfl⟩
    exact ⟨rfl, mid_nil h.t h.bx⟩
  · refine (rdial_any h4 (by unfold Len at h9; omega) (Nat.le_trans hB h.t.size) e i).mono ?_
    rintro _ w' ⟨rfl, hp⟩
    exact ⟨rfl, mid_postR h.t h.bx h3 h4 h5 h6 h7 h8 (len_dial h9 e i) hp⟩
theorem Mid.p_fail (h : Mid w0 B S0 a b cb o np nr w sp sr) (hB : B ≤ w0.heap.size) (hn : np < 4398046511000) (e : ByteArray)  : Calls Try.prog 15 #[.pointer a, .string e] w fun e' w' => e' = .returned (.int .i64 (aFail a sp e)) ∧ Mid w0 B S0 a b cb o (np + 1) nr w' (fail sp e).2 sr := by
  rcases h.alt with ⟨rfl, rfl⟩ | ⟨p, q, FP, FR, rfl, rfl, h3, h4, h5, h6, h7, h8, h9⟩
  · refine (nfail e).mono ?_
    rintro _ w' ⟨rfl, rfl⟩
    exact ⟨rfl, mid_nil h.t h.bx⟩
  · refine (fail_any h3 e).mono ?_
    rintro _ w' ⟨rfl, hp⟩
    exact ⟨rfl, mid_postP h.t h.bx h3 h4 h5 h6 h7 (len_fail h8 e) h9 (hp.mono (Nat.le_succ np))⟩
theorem Mid.r_fail (h : Mid w0 B S0 a b cb o np nr w sp sr) (hB : B ≤ w0.heap.size) (hn : nr < 4398046511000) (hs : a ≠ none → Inv sr) (e : ByteArray) : Calls Try.prog 28 #[.pointer b, .string e] w fun e' w' => e' = .returned (.int .i64 (aFail a sr e)) ∧ Mid w0 B S0 a b cb o np (nr + 1) w' sp (fail sr e).2 := by
  rcases h.alt with ⟨rfl, rfl⟩ | ⟨p, q, FP, FR, rfl, rfl, h3, h4, h5, h6, h7, h8, h9⟩
  · refine (rnfail e).mono ?_
    rintro _ w' ⟨rfl, rfl⟩
    exact ⟨rfl, mid_nil h.t h.bx⟩
  · refine (rfail_any h4 (by unfold Len at h9; omega) (Nat.le_trans hB h.t.size) e).mono ?_
    rintro _ w' ⟨rfl, hp⟩
    exact ⟨rfl, mid_postR h.t h.bx h3 h4 h5 h6 h7 h8 (len_fail h9 e) hp⟩
theorem Mid.p_put (h : Mid w0 B S0 a b cb o np nr w sp sr) (hB : B ≤ w0.heap.size) (hn : np < 4398046511000) (i j : Int) (hj : -9223372036854775808 ≤ j ∧ j ≤ 9223372036854775807)  : Calls Try.prog 10 #[.pointer a, .int .i64 i, .int .i64 j] w fun e' w' => e' = .returned (.int .i64 (aPut a sp i j)) ∧ Mid w0 B S0 a b cb o (np + 1) nr w' (put sp i j).2 sr := by
  rcases h.alt with ⟨rfl, rfl⟩ | ⟨p, q, FP, FR, rfl, rfl, h3, h4, h5, h6, h7, h8, h9⟩
  · refine (nput i j).mono ?_
    rintro _ w' ⟨rfl, rfl⟩
    exact ⟨rfl, mid_nil h.t h.bx⟩
  · refine (put_any h3 i j hj (by omega)).mono ?_
    rintro _ w' ⟨rfl, hp⟩
    exact ⟨rfl, mid_postP h.t h.bx h3 h4 h5 h6 h7 (len_put h8 i j) h9 hp⟩
theorem Mid.r_put (h : Mid w0 B S0 a b cb o np nr w sp sr) (hB : B ≤ w0.heap.size) (hn : nr < 4398046511000) (hs : a ≠ none → Inv sr) (i j : Int) : Calls Try.prog 29 #[.pointer b, .int .i64 i, .int .i64 j] w fun e' w' => e' = .returned (.int .i64 (aPut a sr i j)) ∧ Mid w0 B S0 a b cb o np (nr + 1) w' sp (put sr i j).2 := by
  rcases h.alt with ⟨rfl, rfl⟩ | ⟨p, q, FP, FR, rfl, rfl, h3, h4, h5, h6, h7, h8, h9⟩
  · refine (rnput i j).mono ?_
    rintro _ w' ⟨rfl, rfl⟩
    exact ⟨rfl, mid_nil h.t h.bx⟩
  · refine (rput_any h4 (hs (by simp)) (by unfold Len at h9; omega) (Nat.le_trans hB h.t.size) i j).mono ?_
    rintro _ w' ⟨rfl, hp⟩
    exact ⟨rfl, mid_postR h.t h.bx h3 h4 h5 h6 h7 h8 (len_put h9 i j) hp⟩
theorem Mid.p_poison (h : Mid w0 B S0 a b cb o np nr w sp sr) (hB : B ≤ w0.heap.size) (hn : np < 4398046511000) (i : Int)  : Calls Try.prog 16 #[.pointer a, .int .i64 i] w fun e' w' => e' = .returned (.int .i64 (aPoison a sp i)) ∧ Mid w0 B S0 a b cb o (np + 1) nr w' (poison sp i).2 sr := by
  rcases h.alt with ⟨rfl, rfl⟩ | ⟨p, q, FP, FR, rfl, rfl, h3, h4, h5, h6, h7, h8, h9⟩
  · refine (npoison i).mono ?_
    rintro _ w' ⟨rfl, rfl⟩
    exact ⟨rfl, mid_nil h.t h.bx⟩
  · refine (poison_any h3 i).mono ?_
    rintro _ w' ⟨rfl, hp⟩
    exact ⟨rfl, mid_postP h.t h.bx h3 h4 h5 h6 h7 (len_poison h8 i) h9 (hp.mono (Nat.le_succ np))⟩
theorem Mid.r_poison (h : Mid w0 B S0 a b cb o np nr w sp sr) (hB : B ≤ w0.heap.size) (hn : nr < 4398046511000) (hs : a ≠ none → Inv sr) (i : Int) : Calls Try.prog 30 #[.pointer b, .int .i64 i] w fun e' w' => e' = .returned (.int .i64 (aPoison a sr i)) ∧ Mid w0 B S0 a b cb o np (nr + 1) w' sp (poison sr i).2 := by
  rcases h.alt with ⟨rfl, rfl⟩ | ⟨p, q, FP, FR, rfl, rfl, h3, h4, h5, h6, h7, h8, h9⟩
  · refine (rnpoison i).mono ?_
    rintro _ w' ⟨rfl, rfl⟩
    exact ⟨rfl, mid_nil h.t h.bx⟩
  · refine (rpoison_any h4 (hs (by simp)) (by unfold Len at h9; omega) (Nat.le_trans hB h.t.size) i).mono ?_
    rintro _ w' ⟨rfl, hp⟩
    exact ⟨rfl, mid_postR h.t h.bx h3 h4 h5 h6 h7 h8 (len_poison h9 i) hp⟩
/-! ### Counts, Where -/
def aCounts (a : Option Addr) (s : St) (e : ByteArray) : Nat × Nat × Nat := if a.isNone then (0, 0, 0) else (of s.busy e, of s.free e, kof s.kept e)
def aWhere (a : Option Addr) (s : St) (i : Int) : ByteArray × Bool := if a.isNone then (⟨#[]⟩, false) else wher s i
end
end Go.Proofs.Ytpebcamnmeppaaa
