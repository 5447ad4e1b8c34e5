/- A resource's key, kind and name, as a key of maps. -/
import Derived.Test.YtjepgpocmnijiaaProg
import Derived.Test.YtjepgpocmnijiaaBase
import Derived.Laws.StructEq
namespace Go.Proofs.Ytjepgpocmnijiaa
open Go.RowKit Go.Mp
set_option linter.unusedVariables false
abbrev Key := Int × ByteArray
def kvv (k : Key) : Value := .agg #[.int .i64 k.1, .string k.2]
theorem toList_inj {a b : ByteArray} (h : a.toList = b.toList) : a = b := bytes_of_toList h
theorem key_eq (a b : Key) (w : World) : (Op.equal 111 (kvv a) (kvv b)).run Try.prog w = .ok (decide (a = b)) w := by
  have hu : Try.prog.underlying 111 = some (.struct (Try.prog.fieldsOf 111)) := by kernel_rfl
  have hs : Try.prog.stoodInHeld 111 = false := by kernel_rfl
  have hf := Try.underlying111
  unfold Op.equal kvv
  rw [show Op.maxDepth = 9999 + 1 from rfl, run_equalIn_struct w 9999 111 _ _ hu hs]
  unfold Program.fieldsOf
  rw [hf]
  simp only [Op.eqFields, go_sem]
  obtain ⟨k, s⟩ := a
  obtain ⟨l, t⟩ := b
  by_cases h1 : k = l
  · subst h1
    by_cases h2 : s.toList = t.toList
    · have h3 := toList_inj h2
      subst h3
      simp [go_sem, Try.underlying3, Try.underlying9]
    · have h3 : ¬ s = t := fun e => h2 (by rw [e])
      simp [go_sem, Try.underlying3, Try.underlying9, h2, h3]
  · simp [go_sem, Try.underlying3, Try.underlying9, h1]
theorem key_check (em : Bool) (a : Key) (w : World) : (Instr.checkKey em 10000 111 (kvv a)).run Try.prog w = .ok () w := by
  have h3 : ∀ (v : Int) w, (Instr.checkKey em 9999 3 (.int .i64 v)).run Try.prog w = .ok () w := fun v w => MapKept.run_checkKey Try.underlying3 (by rfl) em 9998
  have h9 : ∀ (v : ByteArray) w, (Instr.checkKey em 9999 9 (.string v)).run Try.prog w = .ok () w := fun v w => MapKept.run_checkKey Try.underlying9 (k := .string v) (show MapKept.IsKey .string (.string v) from trivial) em 9998
  unfold kvv
  rw [show (10000 : Nat) = 9999 + 1 from rfl]
  unfold Instr.checkKey
  simp [go_sem, Try.underlying111, run_underlying, h3, h9]
theorem key_stay (a : Key) (w : World) : (Instr.keyThatStays (kvv a) (kvv a)).run Try.prog w = .ok (kvv a) w := by
  have h : (a.snd == a.snd) = true := by rw [beq_toListBytes]; exact beq_self_eq_true _
  unfold kvv Instr.keyThatStays
  simp [go_sem, Instr.sameBits, h]
theorem key_inj {a b : Key} (h : kvv a = kvv b) : a = b := by
  obtain ⟨k, s⟩ := a
  obtain ⟨l, t⟩ := b
  simp only [kvv, Value.agg.injEq, Array.mk.injEq, List.cons.injEq, Value.int.injEq, true_and, and_true, Value.string.injEq] at h
  rw [h.1, h.2]
theorem key_asking (a : Key) (w : World) : ∀ (l : List MapEntry) (i : Nat), (∀ x ∈ l, ∃ j, x.key = kvv j) →
    ((Instr.findAsking 111 (kvv a) l i).run Try.prog w = .ok none w ∧ ∀ x ∈ l, x.key ≠ kvv a) ∨ ∃ j e, (Instr.findAsking 111 (kvv a) l i).run Try.prog w = .ok (some (i + j, e.val)) w ∧ l[j]? = some e ∧ e.key = kvv a
  | [], i, _ => .inl ⟨by simp [Instr.findAsking], by simp⟩
  | e :: es, i, h => by
    obtain ⟨b, hb⟩ := h e (.head _)
    by_cases hab : a = b
    · subst hab
      exact .inr ⟨0, e, by simp [Instr.findAsking, hb, key_eq], rfl, hb⟩
    · have hne : e.key ≠ kvv a := fun q => hab (key_inj (q.symm.trans hb))
      rcases key_asking a w es (i + 1) (fun x hx => h x (.tail _ hx)) with ⟨h1, h2⟩ | ⟨j, y, h1, h2, h3⟩
      · refine .inl ⟨by simp [Instr.findAsking, hb, key_eq, hab, h1], fun x hx => ?_⟩
        rcases List.mem_cons.1 hx with rfl | hx
        · exact hne
        · exact h2 x hx
      · exact .inr ⟨j + 1, y, by simp [Instr.findAsking, hb, key_eq, hab, h1]; omega, by simpa using h2, h3⟩
theorem key_find (a : Key) (l : List MapEntry) (w : World) (h : ∀ x ∈ l, ∃ j, x.key = kvv j) :
    ((Instr.findKey 111 (kvv a) l).run Try.prog w = .ok none w ∧ ∀ x ∈ l, x.key ≠ kvv a) ∨ ∃ j e, (Instr.findKey 111 (kvv a) l).run Try.prog w = .ok (some (j, e.val)) w ∧ l[j]? = some e ∧ e.key = kvv a := by
  have hk := key_asking a w l 0 h
  simp only [Nat.zero_add] at hk
  have e : (Instr.findKey 111 (kvv a) l).run Try.prog w = (Instr.findAsking 111 (kvv a) l 0).run Try.prog w := by
    cases l with
    | nil => simp [Instr.findKey, Instr.findAsking, run_underlying Try.underlying111, Instr.findNow]
    | cons x l =>
      obtain ⟨b, hb⟩ := h x (.head _)
      simp [Instr.findKey, run_underlying Try.underlying111, Instr.findNow, hb, kvv, Instr.sameNow]
  rw [e]; exact hk
def keyKey : KeyOf Try.prog 111 Key := ⟨kvv, key_inj, key_check, key_find, key_stay⟩
def nameKey : KeyOf Try.prog 9 ByteArray := strKey Try.underlying9
end Go.Proofs.Ytjepgpocmnijiaa
