/- Bytes that the call makes; hex digits; texts. -/
import Derived.Scope
import Derived.Test.YtcnjmkjfgghgoaaZt5
import Derived.Test.YtcnjmkjfgghgoaaZt0
import Derived.Laws.BytesString
section
/- A scope with several labels: what holds at each jump. Of no program. -/
namespace Go
def Exit.jumps (J : Nat → Act → World → Prop) (Q : Exit → Act → World → Prop) : Exit → Act → World → Prop
  | .goto l, a, w => J l a w
  | e, a, w => Q e a w
section
variable {P : Program} {a : Act} {w : World} {Q : Exit → Act → World → Prop}
theorem wp_scope_labels {c : Code} (rest : Nat → Code) (J : Nat → Act → World → Prop) (μ : Nat → Act → World → Nat)
    (hf : ∀ l a w, J l a w → findLabel c l = some (rest l))
    (first : c.wp P (Exit.jumps J Q) a w)
    (pass : ∀ l a w, J l a w → (rest l).wp P (Exit.jumps (fun l' a' w' => J l' a' w' ∧ μ l' a' w' < μ l a w) Q) a w) : (Code.scope c).wp P Q a w := by
  intro b k cs
  have hg : ∀ l r, findLabel c l = some r → gotoIn l (.inScope c :: k) = some (.code r :: .inScope c :: k) := fun l r h => by simp [gotoIn, h]
  have key : ∀ n l a w, μ l a w = n → J l a w → ∃ e a' w', Q e a' w' ∧ Arrives P (lone (b.at a (.code (rest l) :: .inScope c :: k)) cs w) b k cs e a' w' := by
    intro n
    induction n using Nat.strongRecOn with
    | _ n ih =>
      intro l a w hn hJ
      obtain ⟨e, a1, w1, hq, harr⟩ := pass l a w hJ b (.inScope c :: k) cs
      cases e with
      | goto l2 =>
        obtain ⟨hJ2, hlt⟩ := hq
        obtain ⟨e2, a2, w2, hq2, harr2⟩ := ih _ (by omega) l2 a1 w1 rfl hJ2
        exact ⟨e2, a2, w2, hq2, .of_steps (harr _ (hg _ _ (hf _ _ _ hJ2))) harr2⟩
      | normal => exact ⟨.normal, a1, w1, hq, Steps.trans harr (.one step_inScope)⟩
      | exit id => exact ⟨.exit id, a1, w1, hq, fun k' hk => harr k' (by simp [exitTo, hk])⟩
      | ret => exact ⟨_, a1, w1, hq, harr⟩
      | panic ch => exact ⟨_, a1, w1, hq, harr⟩
      | outgrown => exact ⟨_, a1, w1, hq, harr⟩
  obtain ⟨e, a1, w1, hq, harr⟩ := first b (.inScope c :: k) cs
  cases e with
  | goto l2 =>
    obtain ⟨e2, a2, w2, hq2, harr2⟩ := key _ l2 a1 w1 rfl hq
    exact ⟨e2, a2, w2, hq2, .of_steps (.head step_scope (harr _ (hg _ _ (hf _ _ _ hq)))) harr2⟩
  | normal => exact ⟨.normal, a1, w1, hq, .head step_scope (Steps.trans harr (.one step_inScope))⟩
  | exit id => exact ⟨.exit id, a1, w1, hq, fun k' hk => .head step_scope (harr k' (by simp [exitTo, hk]))⟩
  | ret => exact ⟨_, a1, w1, hq, .of_steps (.one step_scope) harr⟩
  | panic ch => exact ⟨_, a1, w1, hq, .of_steps (.one step_scope) harr⟩
  | outgrown => exact ⟨_, a1, w1, hq, .of_steps (.one step_scope) harr⟩
end
end Go
end

section
/- A quoted text, read step by step. -/
namespace Go.Ln
open Go.RowKit
def qmap (a : List UInt8) (j : Nat) : Option (List UInt8 × Nat) → Option (List UInt8 × Nat)
  | none => none
  | some (t, k) => some (a ++ t, j + k)
theorem qmap_more (a : List UInt8) (j : Nat) (c : UInt8) (m : Nat) (o : Option (List UInt8 × Nat)) : qmap a j (more c m o) = qmap (a ++ [c]) (j + m) o := by
  rcases o with _ | ⟨t, k⟩
  · rfl
  · simp only [more, qmap, List.append_assoc, List.cons_append, List.nil_append]; congr 2; omega
section
variable {e : UInt8} {c d : UInt8} {r : List UInt8}
theorem q_nil (e : UInt8) : qread e [] = none := by unfold qread; rfl
theorem q_twin (h : c = e) (he : e = 39) : qread e (c :: 39 :: r) = more 39 2 (qread e r) := by
  subst h; subst he
  conv => lhs; unfold qread
  simp
theorem q_end1 (h : c = e) : qread e [c] = some ([], 1) := by
  conv => lhs; unfold qread
  simp [h]
theorem q_end2 (h : c = e) (h2 : ¬ (e = 39 ∧ d = 39)) : qread e (c :: d :: r) = some ([], 1) := by
  conv => lhs; unfold qread
  simp only [if_pos h, if_neg h2]
theorem q_char (h : ¬ c = e) (h2 : c ≠ 92 ∨ e = 39) : qread e (c :: r) = more c 1 (qread e r) := by
  cases r with
  | nil => conv => lhs; unfold qread
           simp only [if_neg h]; unfold qread; rfl
  | cons d r =>
    conv => lhs; unfold qread
    simp only [if_neg h, if_pos h2]
theorem q_last (h : ¬ c = e) : qread e [c] = none := by
  conv => lhs; unfold qread
  simp only [if_neg h]
theorem q_self (h : ¬ c = e) (h2 : ¬ (c ≠ 92 ∨ e = 39)) (hd : d = 34 ∨ d = 92) : qread e (c :: d :: r) = more d 2 (qread e r) := by
  conv => lhs; unfold qread
  simp only [if_neg h, if_neg h2, if_pos hd]
theorem q_n (h : ¬ c = e) (h2 : ¬ (c ≠ 92 ∨ e = 39)) : qread e (c :: 110 :: r) = more 10 2 (qread e r) := by
  conv => lhs; unfold qread
  simp only [if_neg h, if_neg h2, show ¬ ((110 : UInt8) = 34 ∨ (110 : UInt8) = 92) by decide, if_false, if_true]
theorem q_t (h : ¬ c = e) (h2 : ¬ (c ≠ 92 ∨ e = 39)) : qread e (c :: 116 :: r) = more 9 2 (qread e r) := by
  conv => lhs; unfold qread
  simp only [if_neg h, if_neg h2, show ¬ ((116 : UInt8) = 34 ∨ (116 : UInt8) = 92) by decide, show ¬ ((116 : UInt8) = 110) by decide, if_false, if_true]
theorem q_x (h : ¬ c = e) (h2 : ¬ (c ≠ 92 ∨ e = 39)) (a b : UInt8) : qread e (c :: 120 :: a :: b :: r) = match hexB a b with
    | none => none
    | some v => more v 4 (qread e r) := by
  conv => lhs; unfold qread
  simp only [if_neg h, if_neg h2, show ¬ ((120 : UInt8) = 34 ∨ (120 : UInt8) = 92) by decide, show ¬ ((120 : UInt8) = 110) by decide, show ¬ ((120 : UInt8) = 116) by decide, if_false, if_true]
  rcases hexB a b with _ | v <;> rfl
theorem q_x0 (h : ¬ c = e) (h2 : ¬ (c ≠ 92 ∨ e = 39)) : qread e [c, 120] = none := by
  conv => lhs; unfold qread
  simp only [if_neg h, if_neg h2, show ¬ ((120 : UInt8) = 34 ∨ (120 : UInt8) = 92) by decide, show ¬ ((120 : UInt8) = 110) by decide, show ¬ ((120 : UInt8) = 116) by decide, if_false, if_true]
theorem q_x1 (h : ¬ c = e) (h2 : ¬ (c ≠ 92 ∨ e = 39)) (a : UInt8) : qread e [c, 120, a] = none := by
  conv => lhs; unfold qread
  simp only [if_neg h, if_neg h2, show ¬ ((120 : UInt8) = 34 ∨ (120 : UInt8) = 92) by decide, show ¬ ((120 : UInt8) = 110) by decide, show ¬ ((120 : UInt8) = 116) by decide, if_false, if_true]
theorem q_bad (h : ¬ c = e) (h2 : ¬ (c ≠ 92 ∨ e = 39)) (h3 : ¬ (d = 34 ∨ d = 92)) (h4 : ¬ d = 110) (h5 : ¬ d = 116) (h6 : ¬ d = 120) : qread e (c :: d :: r) = none := by
  conv => lhs; unfold qread
  simp only [if_neg h, if_neg h2, if_neg h3, if_neg h4, if_neg h5, if_neg h6]
end
end Go.Ln
end

section

namespace Go.Ln
open Go.RowKit
/-- 'string(b)' of a slice whose cells are these bytes. -/
theorem run_string_of_cells {P : Program} (w : World) (src dst e : TypeId) (a : Addr) (l : List UInt8) (n cap : Nat) (hn : l.length = n)
    (hs : P.underlying src = some (.slice e)) (he : P.underlying e = some (.int .u8)) (hd : P.underlying dst = some .string)
    (h : ∀ j, j < l.length → w.cell? (a.add j) = some (.int .u8 ((l.getD j 0).toNat : Int))) :
    (convert src dst (.slice (some a) n cap)).run P w = .ok (.string ⟨l.toArray⟩) w := by
  subst hn
  rw [run_convert_bytes_string w src dst e (some a) _ cap hs he hd]
  have h2 := run_loadCells_list (P := P) (w := w) a (l.map fun c => Value.int .u8 (c.toNat : Int)) (fun j v hv => by
    rw [List.getElem?_map] at hv
    obtain ⟨c, hc, rfl⟩ := Option.map_eq_some_iff.1 hv
    have hj := (List.getElem?_eq_some_iff.1 hc).1
    rw [h j hj]
    simp [List.getD, hc])
  rw [List.length_map] at h2
  have h3 := run_bytesToString (P := P) w a l.length cap (l.map fun c => (c.toNat : Int)) (by rw [h2]; simp)
  rw [h3]
  congr 2
  have hf : ∀ (l : List UInt8) (acc : ByteArray), (l.map fun c => (c.toNat : Int)).foldl (fun (r : ByteArray) n => r.push (UInt8.ofNat n.toNat)) acc = ⟨acc.data ++ l.toArray⟩ := by
    intro l
    induction l with
    | nil => intro acc; obtain ⟨d⟩ := acc; simp
    | cons c r ih =>
      intro acc
      rw [List.map_cons, List.foldl_cons, ih]
      obtain ⟨d⟩ := acc
      simp [ByteArray.push]
  rw [hf]
  show (⟨#[] ++ l.toArray⟩ : ByteArray) = _
  simp
end Go.Ln
namespace Go.Proofs.Ytcnjmkjfgghgoaa
open Go.RowKit Go.Ln Go.Mp
set_option linter.unusedVariables false
set_option maxRecDepth 20000
def vb (c : UInt8) : Value := .int .u8 (c.toNat : Int)
def vbs (a : List UInt8) : List Value := a.map vb
theorem vbs_snoc (a : List UInt8) (c : UInt8) : vbs (a ++ [c]) = vbs a ++ [vb c] := by simp [vbs]
theorem vbs_length (a : List UInt8) : (vbs a).length = a.length := by simp [vbs]
/-- 'string(b)' of bytes of our own. -/
theorem row_string {w : World} {B : Nat} {v : Value} {a : List UInt8} (h : w.ownsRow B 5 1 v a.length (vbs a)) : (convert 41 9 v).run Try.prog w = .ok (.string ⟨a.toArray⟩) w := by
  obtain ⟨ao, cap, rfl⟩ := ownsRow_shape h
  cases a with
  | nil =>
    rw [run_convert_bytes_string w 41 9 5 ao _ cap Try.underlying41 Try.underlying5 Try.underlying9]
    cases ao <;> rfl
  | cons c r =>
    obtain ⟨g, rfl, _, _, _⟩ := ownsRow_cell h (j := 0) (u := vb c) rfl
    refine run_string_of_cells w 41 9 5 _ (c :: r) _ cap rfl Try.underlying41 Try.underlying5 Try.underlying9 fun j hj => ?_
    obtain ⟨g', e, _, _, c', _⟩ := ownsRow_cell h (j := j) (u := vb ((c :: r).getD j 0)) (by unfold vbs; rw [List.getElem?_map, List.getElem?_eq_getElem hj, List.getD_eq_getElem?_getD, List.getElem?_eq_getElem hj]; rfl)
    cases e
    rw [add_zero_at]
    exact c'
theorem info5 : (Try.prog.info? 5).map (fun i => (i.zero, i.size, i.bytes)) = some (some (.int .u8 0), 1, 1) := by kernel_rfl
/-! ### hex digits -/
theorem hex_lt (l : List UInt8) (c : UInt8) : Lib.indexByte l c < (l.length : Int) ∨ l = [] ∧ Lib.indexByte l c = -1 := by
  induction l with
  | nil => exact .inr ⟨rfl, rfl⟩
  | cons b r ih =>
    left
    simp only [Lib.indexByte, List.length_cons]
    split
    · omega
    · split
      · omega
      · rcases ih with h | ⟨_, h⟩ <;> omega
theorem hex_bound (c : UInt8) : -1 ≤ hexI c ∧ hexI c ≤ 15 := by
  have h1 := Lib.indexByte_ge hexes c
  have h2 := hex_lt hexes c
  have h3 : hexes.length = 16 := rfl
  rw [h3] at h2
  unfold hexI
  refine ⟨h1, ?_⟩
  rcases h2 with h | ⟨_, h⟩ <;> omega
end Go.Proofs.Ytcnjmkjfgghgoaa
end
