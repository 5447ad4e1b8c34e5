/- A resource's key, kind and name, as a key of maps. -/
import Derived.Test.YtjepgpocmnijiaaZy0
import Derived.WalkKit
import Derived.Lib.Hide
import Derived.Deep.QuietTactic
import Derived.BigQuiet
import Derived.Maps.RangeWalk
import Derived.Maps.OwnSet
import Derived.Maps.AppendAt
import Derived.OwnWalk
import Derived.Deep.LoopGhost
import Derived.Deep.DeepCutAuto
import Derived.Deep.RegionLaw
import Derived.Deep.RegionHeld3
import Derived.Laws.OwnMore
import Derived.Laws.AppendOwnNone
import Derived.Lib.Strings
import Derived.Deep.CutBlock
import Derived.Test.YtjepgpocmnijiaaProg
import Derived.Laws.StructEq
section
/- Nested arguments opened with their measure: what reads as y has a measure that the bulk bounds. Of no program but for the seat's uptoBulk. -/
namespace Go.Proofs.Ytjepgpocmnijiaa.rdBulk
open Go.ChangeShapes Go.WideShapes Go.ChangeAt Go.RowKit
open Go.Rd
set_option linter.unusedVariables false
section
variable {P : Program}
def OpensM {α : Type} (P : Program) (E : Elem α) (t : TypeId) (m : α → Nat) : Prop := ∀ {H : Type} {enc : TypeId × Value → H} {w : World} {n : Nat} {cs : List Value} {x : DataW H × List MemPlace},
  DataW.trod enc P w 0 (fun _ => true) true n t cs = some x → Fits P t x.1 → ∃ y, (∀ c : Cells, (∀ j, j < E.k → c j = cs[j]?) → E.R w c y) ∧ m y ≤ Rows.uptoBulk x.1
theorem opensM_of {α : Type} {E : Elem α} {t : TypeId} (h : Opens P E t) : OpensM P E t (fun _ => 1) := by
  intro H enc w n cs x hx hf
  obtain ⟨y, hy⟩ := h hx hf
  exact ⟨y, hy, bulks.one_le _⟩
theorem opensM_str {t : TypeId} (ht : P.underlying t = some .string) : OpensM P str t (fun s => s.size + 1) := by
  intro H enc w n cs x h _
  cases n with
  | zero => simp [DataW.trod] at h
  | succ n =>
    unfold DataW.trod at h
    rw [ht] at h
    split at h <;> simp_all
    obtain ⟨h1, h2⟩ := h
    subst h2
    refine ⟨_, fun c hc => ⟨by rw [hc 0 (by decide)]; rfl, h1⟩, ?_⟩
    rw [bulks.string_eq, Array.length_toList]
    exact Nat.le_refl _
theorem list_ofM {α : Type} {Q : Nat → α → Prop} {m : α → Nat} {f : Nat → Nat} : ∀ n, (∀ i, i < n → ∃ y, Q i y ∧ m y ≤ f i) → ∃ l : List α, l.length = n ∧ (∀ i x, l[i]? = some x → Q i x) ∧ (l.map m).sum ≤ ((List.range n).map f).sum
  | 0, _ => ⟨[], rfl, fun i x h => by simp at h, by simp⟩
  | n + 1, h => by
    obtain ⟨l, hl, hq, hs⟩ := list_ofM n (fun i hi => h i (by omega))
    obtain ⟨y, hy, hm⟩ := h n (by omega)
    refine ⟨l ++ [y], by simp [hl], fun i x hx => ?_, ?_⟩
    · rcases Nat.lt_or_ge i n with h1 | h1
      · rw [List.getElem?_append_left (by omega)] at hx; exact hq i x hx
      · rw [List.getElem?_append_right (by omega)] at hx
        have : i - l.length = 0 := by
          rcases Nat.eq_zero_or_pos (i - l.length) with h2 | h2
          · exact h2
          · rw [List.getElem?_eq_none (by simp; omega)] at hx; cases hx
        rw [this] at hx
        simp at hx
        subst hx
        have : i = n := by omega
        rw [this]; exact hy
    · rw [List.range_succ]
      simp only [List.map_append, List.sum_append, List.map_cons, List.map_nil, List.sum_cons, List.sum_nil]
      omega
theorem bulkAll_sum {H : Type} : ∀ l : List (DataW H), Rows.uptoBulkAll l = (l.map Rows.uptoBulk).sum
  | [] => rfl
  | d :: l => by simp only [Rows.uptoBulkAll, bulkAll_sum l, List.map_cons, List.sum_cons]
theorem opensM_slice {α : Type} {E : Elem α} {t e : TypeId} {m : α → Nat} (ht : P.underlying t = some (.slice e)) (hk : P.cellsOf e = E.k) {nb : Nat} (hb0 : P.bytesOf e = nb) (hb1 : 1 ≤ nb) (hE0 : 0 < E.k) (hE : OpensM P E e m) : OpensM P (slice E) t (fun l => (l.map m).sum + 1) := by
  intro H enc w n cs x h hf
  have hb : 1 ≤ P.bytesOf e := by rw [hb0]; exact hb1
  rcases Deep.open_slice ht h with ⟨hcs, hx⟩ | ⟨a, len, cap, q, n', D, Pl, hcs, _, hl, hm, hmm, hx, hel⟩
  · subst hcs
    exact ⟨[], fun c hc => ⟨_, by rw [hc 0 Nat.one_pos]; rfl, Nat.zero_le _, _, _, rfl, Nat.zero_le _, .inl rfl⟩, bulks.one_le _⟩
  · subst hcs
    simp only [if_true] at hmm
    subst hmm
    rw [hk] at hel
    have hbk := bulks.slice_elems ((List.range len).map D) ((List.range (q - len)).map fun j => D (len + j))
    have hxb : x.1 = .slice ((List.range len).map D) ((List.range (q - len)).map fun j => D (len + j)) := by rw [hx]
    rw [← hxb, bulkAll_sum, List.map_map] at hbk
    rw [hx] at hf
    have hfe : ∀ i, i < len → Fits P e (D i) := fun i hi k hk' => by
      refine hf k ?_
      simp only [DataW.weights, ht]
      refine List.mem_cons_of_mem _ (List.mem_append_left _ ?_)
      have : ∀ (l : List (DataW H)) (d : DataW H), d ∈ l → k ∈ d.weights P e → k ∈ DataW.weightsAll P e l := by
        intro l d hd hk2
        induction l with
        | nil => cases hd
        | cons q r ih =>
          simp only [DataW.weightsAll, List.mem_append]
          rcases List.mem_cons.1 hd with rfl | hd
          · exact .inl hk2
          · exact .inr (ih hd)
      exact this _ (D i) (List.mem_map.2 ⟨i, List.mem_range.2 hi, rfl⟩) hk'
    have hlen : len ≤ 140737488351232 := by
      have := hf ((((List.range len).map D).length + ((List.range (q - len)).map fun j => D (len + j)).length) * P.bytesOf e) (by simp [DataW.weights, ht])
      simp only [List.length_map, List.length_range, reachBytes] at this
      have h2 : len * 1 ≤ (len + (q - len)) * P.bytesOf e := Nat.mul_le_mul (by omega) hb
      omega
    have hy : ∀ i, i < len → ∃ y, (∀ b off, a = ⟨b, off, .none⟩ → E.R w (cellsAt w b (off + i * E.k)) y) ∧ m y ≤ (Rows.uptoBulk ∘ D) i := fun i hi => by
      obtain ⟨cs', h1, h2⟩ := hel i (by omega)
      obtain ⟨y, hy, hmy⟩ := hE h2 (hfe i hi)
      refine ⟨y, fun b off ha => hy _ fun j hj => ?_, hmy⟩
      obtain ⟨_, hcl, h3⟩ := World.cells?_some h1
      have := h3 j hj
      subst ha
      have e1 : (⟨b, off, .none⟩ : Addr).add (i * E.k) = ⟨b, off + i * E.k, .none⟩ := by unfold Addr.add; split <;> simp_all
      have e2 : (⟨b, off + i * E.k, .none⟩ : Addr).add j = ⟨b, off + i * E.k + j, .none⟩ := by unfold Addr.add; split <;> simp_all
      rw [e1, e2] at this
      exact this
    obtain ⟨l, hll, hlq, hls⟩ := list_ofM len hy
    rcases Nat.eq_zero_or_pos len with h0 | h0
    · subst h0
      exact ⟨[], fun c hc => ⟨_, by rw [hc 0 Nat.one_pos]; rfl, Nat.zero_le _, _, _, rfl, Nat.zero_le _, .inl rfl⟩, bulks.one_le _⟩
    · obtain ⟨b, off, spot⟩ := a
      have h00 : ∃ v, w.cell? ((⟨b, off, spot⟩ : Addr).add 0) = some v := by
        obtain ⟨cs', h1, _⟩ := hel 0 (by omega)
        obtain ⟨_, hcl, h3⟩ := World.cells?_some h1
        have := h3 0 (by omega)
        rw [Nat.zero_mul] at this
        have hc0 : (0 : Nat) < cs'.length := by omega
        refine ⟨cs'[0], ?_⟩
        rw [← List.getElem?_eq_getElem hc0, ← this]
        cases spot <;> simp [Addr.add]
      obtain ⟨v0, h00⟩ := h00
      have hspot : spot = .none := by
        cases spot with
        | none => rfl
        | some s => simp [Addr.add, World.cell?] at h00; split at h00 <;> simp at h00
      subst hspot
      exact ⟨l, fun c hc => ⟨_, by rw [hc 0 Nat.one_pos]; rfl, by rw [hll]; exact hlen, some ⟨b, off, .none⟩, q, by rw [hll], by omega, .inr ⟨b, off, rfl, World.block_lt_of_cell? w _ h00, fun i x hi => hlq i x hi b off rfl⟩⟩, by show (l.map m).sum + 1 ≤ _; omega⟩

def OpensFM {α : Type} (P : Program) (E : Elem α) (o : Nat) (fs : List Go.Field) (m : α → Nat) : Prop := ∀ {H : Type} {enc : TypeId × Value → H} {w : World} {n : Nat} {cs : List Value} {ys : List (DataW H × List MemPlace)},
  (∀ (i : Nat) (f : Go.Field), fs[i]? = some f → ∃ y, ys[i]? = some y ∧ DataW.trod enc P w 0 (fun _ => true) true n f.type ((cs.drop f.offset).take (P.cellsOf f.type)) = some y) →
  (∀ k ∈ DataW.weightsEach P (fs.map (·.type)) (ys.map (·.1)), k ≤ reachBytes) → ys.length = fs.length → ∃ y, (∀ c : Cells, (∀ j, j < E.k → c j = cs[o + j]?) → E.R w c y) ∧ m y ≤ Rows.uptoBulkAll (ys.map (·.1))
theorem opensFM_nil (o : Nat) : OpensFM P Rd.none o [] (fun _ => 0) := by
  intro H enc w n cs ys _ _ _
  exact ⟨(), fun c hc => trivial, Nat.zero_le _⟩
theorem opensFM_cons {α β : Type} {E : Elem α} {F : Elem β} {o : Nat} {f : Go.Field} {fs : List Go.Field} {m1 : α → Nat} {m2 : β → Nat} (ho : f.offset = o) (hk : P.cellsOf f.type = E.k) (hE : OpensM P E f.type m1) (hF : OpensFM P F (o + E.k) fs m2) : OpensFM P (pair E F) o (f :: fs) (fun x => m1 x.1 + m2 x.2) := by
  intro H enc w n cs ys hys hw hl
  cases ys with
  | nil => simp at hl
  | cons y0 ys =>
    obtain ⟨y, h1, h2⟩ := hys 0 f rfl
    simp at h1
    subst h1
    rw [ho, hk] at h2
    obtain ⟨a, ha, hma⟩ := hE h2 (fun k hk => hw k (by simp [DataW.weightsEach, hk]))
    obtain ⟨b, hb, hmb⟩ := hF (enc := enc) (w := w) (n := n) (cs := cs) (ys := ys) (fun i f' hf' => by
      obtain ⟨y, h1, h2⟩ := hys (i + 1) f' hf'
      exact ⟨y, by simpa using h1, h2⟩) (fun k hk => hw k (by simp only [List.map_cons, DataW.weightsEach, List.mem_append]; exact .inr hk)) (by simpa using hl)
    refine ⟨(a, b), fun c hc => ⟨ha c fun j hj => ?_, hb _ fun j hj => ?_⟩, ?_⟩
    · rw [hc j (show j < E.k + F.k by omega), List.getElem?_take, if_pos hj, List.getElem?_drop]
    · show c (E.k + j) = _
      rw [hc (E.k + j) (show E.k + j < E.k + F.k by omega), Nat.add_assoc]
    · show m1 a + m2 b ≤ _
      simp only [List.map_cons, Rows.uptoBulkAll]
      omega
theorem agg_le {H : Type} (l : List (DataW H)) : Rows.uptoBulkAll l ≤ Rows.uptoBulk (.agg l) := by
  simp only [Rows.uptoBulk]
  omega
theorem opensM_struct {α : Type} {E : Elem α} {t : TypeId} {fs : Array Go.Field} {m : α → Nat} (ht : P.underlying t = some (.struct fs)) (hF : OpensFM P E 0 fs.toList m) : OpensM P E t m := by
  intro H enc w n cs x h hf
  obtain ⟨ys, n', hn, hx, hl, hlen, hg⟩ := DataW.trod_struct ht h
  subst hx
  obtain ⟨y, hy, hmy⟩ := hF (enc := enc) (w := w) (n := n') (cs := cs) (ys := ys) (fun i f hi => by
    have h1 := hg i f (by simpa using hi)
    have hil : i < ys.length := by
      have := (List.getElem?_eq_some_iff.1 hi).1
      rw [hlen]; simpa using this
    exact ⟨ys[i], List.getElem?_eq_getElem hil, h1.trans (List.getElem?_eq_getElem hil)⟩) (fun k hk => hf k (by simpa [DataW.weights, ht] using hk)) (by simpa using hlen)
  exact ⟨y, fun c hc => hy c fun j hj => by rw [hc j hj, Nat.zero_add], Nat.le_trans hmy (agg_le _)⟩
/-- An argument of a law, opened, with its measure. -/
theorem openM_arg {α : Type} {E : Elem α} {t : TypeId} {m : α → Nat} (hO : OpensM P E t m) {H : Type} {enc : TypeId × Value → H} {w : World} {v : Value} {d : DataW H} {pl : List MemPlace} {ts : List TypeId} {ds : List (DataW H)} {j : Nat}
    (hd : DataW.Trod enc P w 0 (fun _ => true) true t v d pl) (hsz : (DataW.weightsEach P ts ds).all (· ≤ reachBytes) = true) (hts : ts[j]? = some t) (hds : ds[j]? = some d) : ∃ y, E.R w (fun j => v.cells[j]?) y ∧ m y ≤ Rows.uptoBulk d := by
  obtain ⟨n, h⟩ := hd
  obtain ⟨y, hy, hm⟩ := hO h (fun k hk => by
    have := List.all_eq_true.1 hsz k (DataW.weights_mem_each hts hds k hk)
    simpa using this)
  exact ⟨y, hy _ fun j _ => by simp, hm⟩
end
end Go.Proofs.Ytjepgpocmnijiaa.rdBulk
end

section
/- Maps in memory, by what they hold key by key: look-up, store, delete, and a range whose round only reads. Of no program. -/
namespace Go.Mp
open Go.RowKit Go.MapKept Go.ChangeMaps
set_option linter.unusedVariables false
/-- Of what was there, blocks of S alone have turned. -/
structure Tch (S : Nat → Prop) (w w' : World) : Prop where
  os : w'.os = w.os
  tape : w'.tape = w.tape
  output : w'.output = w.output
  size : w.heap.size ≤ w'.heap.size
  block : ∀ k, k < w.heap.size → ¬ S k → w'.heap[k]? = w.heap[k]?
theorem Tch.refl (S : Nat → Prop) (w : World) : Tch S w w := ⟨rfl, rfl, rfl, Nat.le_refl _, fun _ _ _ => rfl⟩
theorem Tch.trans {S S' : Nat → Prop} {a b c : World} (h : Tch S a b) (h' : Tch S' b c) (hs : ∀ k, S' k → S k ∨ a.heap.size ≤ k) : Tch S a c :=
  ⟨h'.os.trans h.os, h'.tape.trans h.tape, h'.output.trans h.output, Nat.le_trans h.size h'.size, fun k hk hn => (h'.block k (Nat.lt_of_lt_of_le hk h.size) (fun h1 => (hs k h1).elim hn (fun h2 => by omega))).trans (h.block k hk hn)⟩
theorem Tch.mono {S S' : Nat → Prop} {a b : World} (h : Tch S a b) (hs : ∀ k, S k → S' k) : Tch S' a b :=
  ⟨h.os, h.tape, h.output, h.size, fun k hk hn => h.block k hk (fun h1 => hn (hs k h1))⟩
theorem Tch.alloc (S : Nat → Prop) (w : World) (o : Obj) : Tch S w (w.alloc o) := ⟨rfl, rfl, rfl, by simp, fun k hk _ => Below.heap_alloc w o k hk⟩
theorem Tch.drew (S : Nat → Prop) (w : World) : Tch S w w.drew := ⟨rfl, rfl, rfl, Nat.le_refl _, fun _ _ _ => rfl⟩
theorem Tch.drewN (S : Nat → Prop) (w : World) (n : Nat) : Tch S w (w.drewN n) := ⟨rfl, rfl, rfl, Nat.le_refl _, fun _ _ _ => rfl⟩
theorem Tch.setCell {S : Nat → Prop} (w : World) {p : Addr} (hp : S p.block) (u : Value) : Tch S w (w.setCell p u) := ⟨rfl, rfl, rfl, by simp [World.setCell], fun k hk hn => Below.heap_setCell _ _ _ _ (fun e => hn (e ▸ hp))⟩
theorem Tch.below {S : Nat → Prop} {B : Nat} {a w w' : World} (h : Below B a w) (t : Tch S w w') (hB : B ≤ w.heap.size) (hs : ∀ k, S k → B ≤ k) : Below B a w' :=
  h.trans ⟨t.os, t.tape, t.output, t.size, fun k hk => t.block k (Nat.lt_of_lt_of_le hk hB) (fun h1 => by have := hs k h1; omega)⟩
theorem Tch.grown {S : Nat → Prop} {w w' : World} {row : Option Nat} (hg : w.grownBy w' row) (hr : ∀ k, row = some k → S k ∨ w.heap.size ≤ k) : Tch S w w' :=
  ⟨hg.os, hg.tape, hg.output, hg.size, fun k hk hn => hg.block k hk (fun e => (hr k e.symm).elim hn (fun h => by omega))⟩
theorem Tch.of_below {S : Nat → Prop} {w w' : World} (h : Below w.heap.size w w') : Tch S w w' := ⟨h.os, h.tape, h.output, h.size, fun k hk _ => h.block k hk⟩
theorem Tch.turned {S : Nat → Prop} {w w' : World} {b : Nat} (h : w.mapTurned w' b) (hb : S b) : Tch S w w' :=
  Tch.grown h.grown (fun k e => by cases e; exact .inl hb)
theorem Tch.cell {S : Nat → Prop} {w w' : World} (t : Tch S w w') {a : Addr} (hl : a.block < w.heap.size) (hn : ¬ S a.block) : w'.cell? a = w.cell? a := World.cell?_of_block (t.block _ hl hn)
theorem Tch.cell_some {S : Nat → Prop} {w w' : World} (t : Tch S w w') {b off : Nat} {v : Value} (h : w.cell? ⟨b, off, none⟩ = some v) (hn : ¬ S b) : w'.cell? ⟨b, off, none⟩ = some v :=
  (t.cell (World.block_lt_of_cell? w _ h) hn).trans h

/-- A type of keys: what its values are, and how one is looked for. -/
structure KeyOf (P : Program) (kt : TypeId) (K : Type) where
  kv : K → Value
  inj : ∀ {a b : K}, kv a = kv b → a = b
  check : ∀ (em : Bool) (k : K) (w : World), (Instr.checkKey em 10000 kt (kv k)).run P w = .ok () w
  find : ∀ (k : K) (l : List MapEntry) (w : World), (∀ x ∈ l, ∃ j, x.key = kv j) →
    ((Instr.findKey kt (kv k) l).run P w = .ok none w ∧ ∀ x ∈ l, x.key ≠ kv k) ∨ ∃ j e, (Instr.findKey kt (kv k) l).run P w = .ok (some (j, e.val)) w ∧ l[j]? = some e ∧ e.key = kv k
  stays : ∀ (k : K) (w : World), (Instr.keyThatStays (kv k) (kv k)).run P w = .ok (kv k) w
def plainKey {P : Program} {kt : TypeId} {K : Type} (d : TypeDesc) (kv : K → Value) (und : P.underlying kt = some d) (inj : ∀ {a b : K}, kv a = kv b → a = b) (isKey : ∀ k, IsKey d (kv k)) : KeyOf P kt K :=
  ⟨kv, inj, fun em k w => run_checkKey und (isKey k) _ 9999, fun k l w h => by
    rcases findNow_spec (isKey k) l 0 (fun x hx => by obtain ⟨j, hj⟩ := h x hx; rw [hj]; exact isKey j) with ⟨h1, h2⟩ | ⟨j, e, h1, h2, h3⟩
    · exact .inl ⟨run_findKey und h1, h2⟩
    · exact .inr ⟨j, e, run_findKey und (by rw [h1, Nat.zero_add]), h2, h3⟩, fun k w => run_keyThatStays (isKey k)⟩
def strKey {P : Program} {kt : TypeId} (h : P.underlying kt = some .string) : KeyOf P kt ByteArray := plainKey .string (fun k => .string k) h (fun h => by cases h; rfl) (fun _ => trivial)

variable {P : Program} {kt : TypeId} {K : Type}
/-- The entries hold just what f says. -/
structure Ent (κ : KeyOf P kt K) (es : Array MapEntry) (clock : Nat) (f : K → Option Value) : Prop where
  st : Stamped es clock
  keys : ∀ x ∈ es.toList, ∃ k, x.key = κ.kv k ∧ f k = some x.val
  all : ∀ k v, f k = some v → ∃ x ∈ es.toList, x.key = κ.kv k ∧ x.val = v
/-- Block b is a map that holds just what f says. -/
def MapS (κ : KeyOf P kt K) (w : World) (b : Nat) (f : K → Option Value) : Prop := ∃ es clock, w.heap[b]? = some (.map es clock) ∧ Ent κ es clock f
theorem MapS.lt {κ : KeyOf P kt K} {w : World} {b : Nat} {f : K → Option Value} (h : MapS κ w b f) : b < w.heap.size := by
  obtain ⟨es, clock, hb, _⟩ := h
  exact (Array.getElem?_eq_some_iff.1 hb).1
theorem MapS.keep {κ : KeyOf P kt K} {w w' : World} {b : Nat} {f : K → Option Value} (h : MapS κ w b f) (hb : w'.heap[b]? = w.heap[b]?) : MapS κ w' b f := by
  obtain ⟨es, clock, h1, h2⟩ := h
  exact ⟨es, clock, hb.trans h1, h2⟩
theorem MapS.tch {κ : KeyOf P kt K} {S : Nat → Prop} {w w' : World} {b : Nat} {f : K → Option Value} (h : MapS κ w b f) (t : Tch S w w') (hn : ¬ S b) : MapS κ w' b f := h.keep (t.block b h.lt hn)
theorem MapS.made (κ : KeyOf P kt K) (w : World) : MapS κ (w.alloc (.map #[] 0)) w.heap.size (fun _ => none) :=
  ⟨#[], 0, (heap_alloc w _).1, stamped_empty 0, by simp, by simp⟩
theorem MapS.congr {κ : KeyOf P kt K} {w : World} {b : Nat} {f g : K → Option Value} (h : MapS κ w b f) (e : ∀ k, f k = g k) : MapS κ w b g := by
  have : f = g := funext e
  rw [← this]; exact h
theorem Ent.find {κ : KeyOf P kt K} {es : Array MapEntry} {clock : Nat} {f : K → Option Value} (h : Ent κ es clock f) (k : K) (w : World) :
    (f k = none ∧ (Instr.findKey kt (κ.kv k) es.toList).run P w = .ok none w ∧ ∀ x ∈ es.toList, x.key ≠ κ.kv k) ∨ ∃ j e, f k = some e.val ∧ (Instr.findKey kt (κ.kv k) es.toList).run P w = .ok (some (j, e.val)) w ∧ es[j]? = some e ∧ e.key = κ.kv k := by
  rcases κ.find k es.toList w (fun x hx => by obtain ⟨j, hj, _⟩ := h.keys x hx; exact ⟨j, hj⟩) with ⟨h1, h2⟩ | ⟨j, e, h1, h2, h3⟩
  · refine .inl ⟨?_, h1, h2⟩
    cases hf : f k with
    | none => rfl
    | some v =>
      obtain ⟨x, hx, hk, _⟩ := h.all k v hf
      exact (h2 x hx hk).elim
  · refine .inr ⟨j, e, ?_, h1, by simpa using h2, h3⟩
    obtain ⟨k', hk, hf⟩ := h.keys e (List.mem_of_getElem? h2)
    rw [h3] at hk
    rw [κ.inj hk]; exact hf
theorem MapS.look {κ : KeyOf P kt K} {w : World} {b : Nat} {f : K → Option Value} (h : MapS κ w b f) {t e : TypeId} (ht : P.underlying t = some (.map kt e)) {z : Value} (hz : (zeroValue e).run P w = .ok z w) (c : Bool) (k : K) :
    (Instr.lookup t (.map (some b)) (κ.kv k) c).run P w = .ok (if c then .tuple #[(f k).getD z, .bool (f k).isSome] else (f k).getD z) w := by
  obtain ⟨es, clock, hb, hE⟩ := h
  have hck : (Instr.checkKey es.isEmpty 10000 kt (κ.kv k)).run P w = .ok () w := κ.check _ k w
  rcases hE.find k w with ⟨h0, h1, _⟩ | ⟨j, x, h0, h1, _, _⟩
  · cases c <;> simp [Instr.lookup, run_underlying ht, MapKept.run_getObj_map hb, hck, h1, hz, h0, Result.andThen]
  · cases c <;> simp [Instr.lookup, run_underlying ht, MapKept.run_getObj_map hb, hck, h1, h0, Result.andThen]
section
variable [DecidableEq K]
def upd (f : K → Option Value) (k : K) (v : Value) : K → Option Value := fun j => if j = k then some v else f j
def del (f : K → Option Value) (k : K) : K → Option Value := fun j => if j = k then none else f j
theorem upd_same (f : K → Option Value) (k : K) (v : Value) : upd f k v k = some v := if_pos rfl
theorem upd_other (f : K → Option Value) {k j : K} (v : Value) (h : j ≠ k) : upd f k v j = f j := if_neg h
theorem Ent.push {κ : KeyOf P kt K} {es : Array MapEntry} {clock : Nat} {f : K → Option Value} (h : Ent κ es clock f) {k : K} (v : Value) (h2 : ∀ x ∈ es.toList, x.key ≠ κ.kv k) : Ent κ (es.push { key := κ.kv k, val := v, born := clock }) (clock + 1) (upd f k v) := by
  refine ⟨stamped_push h.st h2, fun x hx => ?_, fun j u hj => ?_⟩
  · simp only [Array.toList_push, List.mem_append, List.mem_singleton] at hx
    rcases hx with hx | rfl
    · obtain ⟨j, e1, e2⟩ := h.keys x hx
      refine ⟨j, e1, ?_⟩
      rw [upd_other _ _ (fun e => h2 x hx (by rw [e1, e]))]; exact e2
    · exact ⟨k, rfl, upd_same _ _ _⟩
  · by_cases hjk : j = k
    · subst hjk
      rw [upd_same] at hj
      cases hj
      exact ⟨{ key := κ.kv j, val := v, born := clock }, by simp, rfl, rfl⟩
    · rw [upd_other _ _ hjk] at hj
      obtain ⟨x, hx, e1, e2⟩ := h.all j u hj
      exact ⟨x, by simp [hx], e1, e2⟩
theorem Ent.modify {κ : KeyOf P kt K} {es : Array MapEntry} {clock : Nat} {f : K → Option Value} (h : Ent κ es clock f) {k : K} (v : Value) {j : Nat} {e : MapEntry} (hj : es[j]? = some e) (he : e.key = κ.kv k) :
    Ent κ (es.modify j fun e => { e with key := κ.kv k, val := v }) clock (upd f k v) := by
  have hst : Stamped (es.modify j fun e => { e with key := κ.kv k, val := v }) clock := stamped_modify h.st j _ (fun _ _ => rfl) (fun x _ hx => by rw [hj] at hx; cases hx; exact he.symm)
  have hmem : ∀ x, x ∈ (es.modify j fun e => { e with key := κ.kv k, val := v }).toList ↔ ∃ i y, es[i]? = some y ∧ x = if j = i then { y with key := κ.kv k, val := v } else y := by
    intro x
    constructor
    · intro hx
      obtain ⟨i, hi⟩ := List.mem_iff_getElem?.1 hx
      simp only [Array.getElem?_toList, Array.getElem?_modify] at hi
      split at hi
      · rename_i hji
        cases hy : es[i]? with
        | none => simp [hy] at hi
        | some y => simp [hy] at hi; exact ⟨i, y, hy, by rw [if_pos hji]; exact hi.symm⟩
      · rename_i hji
        exact ⟨i, x, hi, by rw [if_neg hji]⟩
    · rintro ⟨i, y, hy, rfl⟩
      refine List.mem_iff_getElem?.2 ⟨i, ?_⟩
      simp only [Array.getElem?_toList, Array.getElem?_modify]
      by_cases hji : j = i
      · simp [hji, hy]
      · simp [hji, hy]
  have hone : ∀ i y, es[i]? = some y → y.key = κ.kv k → i = j := by
    intro i y hy hyk
    have hnd := h.st.2.2
    have hi := (Array.getElem?_eq_some_iff.1 hy).1
    have hj' := (Array.getElem?_eq_some_iff.1 hj).1
    refine (List.getElem_inj (h₀ := by simpa using hi) (h₁ := by simpa using hj') hnd).1 ?_
    rw [List.getElem_map, List.getElem_map]
    have e1 : es.toList[i]'(by simpa using hi) = y := by have := (Array.getElem?_eq_some_iff.1 hy).2; simpa using this
    have e2 : es.toList[j]'(by simpa using hj') = e := by have := (Array.getElem?_eq_some_iff.1 hj).2; simpa using this
    rw [e1, e2, hyk, he]
  refine ⟨hst, fun x hx => ?_, fun l u hl => ?_⟩
  · obtain ⟨i, y, hy, rfl⟩ := (hmem x).1 hx
    by_cases hji : j = i
    · rw [if_pos hji]
      exact ⟨k, rfl, upd_same _ _ _⟩
    · rw [if_neg hji]
      obtain ⟨l, e1, e2⟩ := h.keys y (List.mem_of_getElem? (by simpa using hy))
      refine ⟨l, e1, ?_⟩
      rw [upd_other _ _ (fun e => hji (hone i y hy (by rw [e1, e])).symm)]; exact e2
  · by_cases hlk : l = k
    · subst hlk
      rw [upd_same] at hl
      cases hl
      exact ⟨_, (hmem _).2 ⟨j, e, hj, rfl⟩, by rw [if_pos rfl], by rw [if_pos rfl]⟩
    · rw [upd_other _ _ hlk] at hl
      obtain ⟨x, hx, e1, e2⟩ := h.all l u hl
      obtain ⟨i, hi⟩ := List.mem_iff_getElem?.1 hx
      have hji : j ≠ i := by
        rintro rfl
        rw [Array.getElem?_toList, hj] at hi
        cases hi
        exact hlk (κ.inj (e1.symm.trans he))
      exact ⟨x, (hmem _).2 ⟨i, x, by simpa using hi, by rw [if_neg hji]⟩, e1, e2⟩
theorem MapS.store {κ : KeyOf P kt K} {w : World} {b : Nat} {f : K → Option Value} (h : MapS κ w b f) {t e : TypeId} (ht : P.underlying t = some (.map kt e)) (k : K) (v : Value) :
    ∃ w', (Instr.mapUpdate t (.map (some b)) (κ.kv k) v).run P w = .ok () w' ∧ MapS κ w' b (upd f k v) ∧ w.mapTurned w' b := by
  obtain ⟨es, clock, hb, hE⟩ := h
  have hck : (Instr.checkKey false 10000 kt (κ.kv k)).run P w = .ok () w := κ.check _ k w
  rcases hE.find k w with ⟨h0, h1, h2⟩ | ⟨j, x, h0, h1, h2, h3⟩
  · refine ⟨setBlock w b (.map (es.push { key := κ.kv k, val := v, born := clock }) (clock + 1)), ?_, ⟨_, _, heap_setBlock_same hb _, hE.push v h2⟩, ⟨es, clock, _, _, hb, rfl⟩⟩
    simp [Instr.mapUpdate, run_underlying ht, MapKept.run_getObj_map hb, hck, h1, run_setObj_map _ hb, Result.andThen, setBlock]
  · have hst : (Instr.keyThatStays (κ.kv k) (κ.kv k)).run P w = .ok (κ.kv k) w := κ.stays k w
    refine ⟨setBlock w b (.map (es.modify j fun e => { e with key := κ.kv k, val := v }) clock), ?_, ⟨_, _, heap_setBlock_same hb _, hE.modify v h2 h3⟩, ⟨es, clock, _, _, hb, rfl⟩⟩
    simp [Instr.mapUpdate, run_underlying ht, MapKept.run_getObj_map hb, hck, h1, run_setObj_map _ hb, Result.andThen, setBlock, h2, h3, hst]
theorem Ent.erase {κ : KeyOf P kt K} {es : Array MapEntry} {clock : Nat} {f : K → Option Value} (h : Ent κ es clock f) {k : K} {j : Nat} {e : MapEntry} (hj : es[j]? = some e) (he : e.key = κ.kv k) : Ent κ (es.eraseIdxIfInBounds j) clock (del f k) := by
  have hj' := (Array.getElem?_eq_some_iff.1 hj).1
  have e2 : es.toList[j]'(by simpa using hj') = e := by have := (Array.getElem?_eq_some_iff.1 hj).2; simpa using this
  have hlist : (es.eraseIdxIfInBounds j).toList = es.toList.eraseIdx j := by
    unfold Array.eraseIdxIfInBounds
    rw [dif_pos hj']; simp
  have hmem : ∀ x, x ∈ es.toList.eraseIdx j ↔ ∃ i, i ≠ j ∧ es.toList[i]? = some x := by
    intro x; rw [List.mem_eraseIdx_iff_getElem?]
  have hone : ∀ i y, es.toList[i]? = some y → y.key = κ.kv k → i = j := by
    intro i y hy hyk
    have hnd := h.st.2.2
    have hi := (List.getElem?_eq_some_iff.1 hy).1
    refine (List.getElem_inj (h₀ := by simpa using hi) (h₁ := by simpa using hj') hnd).1 ?_
    rw [List.getElem_map, List.getElem_map]
    have e1 := (List.getElem?_eq_some_iff.1 hy).2
    rw [e1, e2, hyk, he]
  refine ⟨stamped_erase h.st j, fun x hx => ?_, fun l u hl => ?_⟩
  · rw [hlist] at hx
    obtain ⟨i, hij, hi⟩ := (hmem x).1 hx
    obtain ⟨l, e1, e3⟩ := h.keys x (List.mem_of_getElem? hi)
    refine ⟨l, e1, ?_⟩
    have : l ≠ k := by rintro rfl; exact hij (hone i x hi e1)
    simp [del, this, e3]
  · have hlk : l ≠ k := by rintro rfl; simp [del] at hl
    have hl' : f l = some u := by simpa [del, hlk] using hl
    obtain ⟨x, hx, e1, e3⟩ := h.all l u hl'
    obtain ⟨i, hi⟩ := List.mem_iff_getElem?.1 hx
    refine ⟨x, ?_, e1, e3⟩
    rw [hlist]
    refine (hmem x).2 ⟨i, ?_, hi⟩
    rintro rfl
    rw [Array.getElem?_toList, hj] at hi
    cases hi
    exact hlk (κ.inj (e1.symm.trans he))
theorem MapS.drop {κ : KeyOf P kt K} {w : World} {b : Nat} {f : K → Option Value} (h : MapS κ w b f) {t e : TypeId} (ht : P.underlying t = some (.map kt e)) (k : K) (ty : TypeId) :
    ∃ w', (Builtin.delete_ #[t, kt] ty #[.map (some b), κ.kv k]).run P w = .ok (.tuple #[]) w' ∧ MapS κ w' b (del f k) ∧ w.mapTurned w' b := by
  obtain ⟨es, clock, hb, hE⟩ := h
  have hck : (Instr.checkKey es.isEmpty 10000 kt (κ.kv k)).run P w = .ok () w := κ.check _ k w
  rcases hE.find k w with ⟨h0, h1, h2⟩ | ⟨j, x, h0, h1, h2, h3⟩
  · refine ⟨setBlock w b (.map es clock), ?_, ⟨_, _, heap_setBlock_same hb _, ?_⟩, ⟨es, clock, _, _, hb, rfl⟩⟩
    · simp [Builtin.delete_, run_underlying ht, MapKept.run_getObj_map hb, hck, h1, run_setObj_map _ hb, Result.andThen, setBlock]
    · have : del f k = f := funext fun l => by
        by_cases hlk : l = k
        · subst hlk; simp [del, h0]
        · simp [del, hlk]
      rw [this]; exact hE
  · refine ⟨setBlock w b (.map (es.eraseIdxIfInBounds j) clock), ?_, ⟨_, _, heap_setBlock_same hb _, hE.erase h2 h3⟩, ⟨es, clock, _, _, hb, rfl⟩⟩
    simp [Builtin.delete_, run_underlying ht, MapKept.run_getObj_map hb, hck, h1, run_setObj_map _ hb, Result.andThen, setBlock]
end
/-! ### a range whose round may write other blocks -/
/-- Block b is a map that holds what f says, block r an iterator over it; left: which keys are still to come. -/
def RangeS (κ : KeyOf P kt K) (w : World) (b r : Nat) (f : K → Option Value) (left : K → Prop) : Prop :=
  b ≠ r ∧ ∃ es clock since seen c0, w.heap[b]? = some (.map es clock) ∧ Ent κ es clock f ∧ w.heap[r]? = some (.mapIter (some b) since seen c0) ∧ (∀ x ∈ es.toList, x.born < since) ∧ since ≤ c0 ∧ since ≤ clock ∧
    (∀ k, left k ↔ ∃ x ∈ es.toList, x.key = κ.kv k ∧ seen.contains x.born = false)
theorem RangeS.map {κ : KeyOf P kt K} {w : World} {b r : Nat} {f : K → Option Value} {left : K → Prop} (h : RangeS κ w b r f left) : MapS κ w b f := by
  obtain ⟨_, es, clock, _, _, _, hb, hE, _⟩ := h
  exact ⟨es, clock, hb, hE⟩
theorem RangeS.keep {κ : KeyOf P kt K} {w w' : World} {b r : Nat} {f : K → Option Value} {left : K → Prop} (h : RangeS κ w b r f left) (hb : w'.heap[b]? = w.heap[b]?) (hr : w'.heap[r]? = w.heap[r]?) : RangeS κ w' b r f left := by
  obtain ⟨hne, es, clock, since, seen, c0, h1, h2, h3, h4⟩ := h
  exact ⟨hne, es, clock, since, seen, c0, hb.trans h1, h2, hr.trans h3, h4⟩
theorem RangeS.rlt {κ : KeyOf P kt K} {w : World} {b r : Nat} {f : K → Option Value} {left : K → Prop} (h : RangeS κ w b r f left) : r < w.heap.size := by
  obtain ⟨_, _, _, _, _, _, _, _, h3, _⟩ := h
  exact (Array.getElem?_eq_some_iff.1 h3).1
theorem RangeS.tch {κ : KeyOf P kt K} {S : Nat → Prop} {w w' : World} {b r : Nat} {f : K → Option Value} {left : K → Prop} (h : RangeS κ w b r f left) (t : Tch S w w') (hb : ¬ S b) (hr : ¬ S r) : RangeS κ w' b r f left :=
  h.keep (t.block b h.map.lt hb) (t.block r h.rlt hr)
theorem MapS.range {κ : KeyOf P kt K} {w : World} {b : Nat} {f : K → Option Value} (h : MapS κ w b f) {t e : TypeId} (ht : P.underlying t = some (.map kt e)) :
    ∃ w', (Instr.range t (.map (some b))).run P w = .ok (.pointer (some ⟨w.heap.size, 0, none⟩)) w' ∧ RangeS κ w' b w.heap.size f (fun k => f k ≠ none) ∧ Below w.heap.size w w' ∧ w'.heap.size = w.heap.size + 1 := by
  have hlt := h.lt
  obtain ⟨es, clock, hb, hE⟩ := h
  refine ⟨_, run_range_map w t kt e b es clock ht hb, ⟨by omega, es, clock, clock, #[], clock, ?_, hE, (heap_alloc w _).1, fun x hx => hE.st.1 x hx, Nat.le_refl _, Nat.le_refl _, fun k => ?_⟩, (Below.refl _ _).alloc (Nat.le_refl _) _, by simp⟩
  · rw [(heap_alloc w _).2 b hlt]; exact hb
  · constructor
    · intro hk
      cases hf : f k with
      | none => exact (hk hf).elim
      | some v =>
        obtain ⟨x, hx, e1, _⟩ := hE.all k v hf
        exact ⟨x, hx, e1, by simp⟩
    · rintro ⟨x, hx, e1, _⟩
      obtain ⟨k', e2, e3⟩ := hE.keys x hx
      rw [e1] at e2
      rw [κ.inj e2, e3]; simp
theorem nodup_inj {α β : Type} {l : List α} {g : α → β} (h : (l.map g).Nodup) {x y : α} (hx : x ∈ l) (hy : y ∈ l) (e : g x = g y) : x = y := by
  obtain ⟨i, hi⟩ := List.mem_iff_getElem?.1 hx
  obtain ⟨j, hj⟩ := List.mem_iff_getElem?.1 hy
  have hi' := (List.getElem?_eq_some_iff.1 hi)
  have hj' := (List.getElem?_eq_some_iff.1 hj)
  obtain ⟨hi1, hi2⟩ := hi'
  obtain ⟨hj1, hj2⟩ := hj'
  have : i = j := (List.getElem_inj (h₀ := by simpa using hi1) (h₁ := by simpa using hj1) h).1 (by rw [List.getElem_map, List.getElem_map, hi2, hj2, e])
  subst this
  rw [← hi2, ← hj2]
theorem RangeS.next {κ : KeyOf P kt K} {w : World} {b r : Nat} {f : K → Option Value} {left : K → Prop} (h : RangeS κ w b r f left) (ty : TypeId) :
    ((∀ k, ¬ left k) ∧ (Instr.next (.pointer (some ⟨r, 0, none⟩)) false ty).run P w = .ok (.tuple #[.bool false]) w) ∨
    ∃ k v w', left k ∧ f k = some v ∧ (Instr.next (.pointer (some ⟨r, 0, none⟩)) false ty).run P w = .ok (.tuple #[.bool true, κ.kv k, v]) w' ∧ RangeS κ w' b r f (fun j => left j ∧ j ≠ k) ∧ w'.rangeLeft b r < w.rangeLeft b r ∧ w.grownBy w' (some r) ∧ w'.heap.size = w.heap.size ∧
      (Instr.entry (.pointer (some ⟨r, 0, none⟩))).run P w' = .ok (.tuple #[κ.kv k, v]) w' := by
  obtain ⟨hne, es, clock, since, seen, c0, hb, hE, hr, hold, hsc, hsk, hl⟩ := h
  rcases run_next_at w ty r b since c0 seen es clock hr hb hold hsc with ⟨h0, hrun⟩ | ⟨e, he, w1, hw1, hrun⟩
  · refine .inl ⟨fun k hk => ?_, hrun⟩
    obtain ⟨x, hx, _, hs⟩ := (hl k).1 hk
    have hmem : x ∈ (leftOf es seen).toList := by
      unfold leftOf
      simp only [Array.toList_filter, List.mem_filter]
      exact ⟨hx, by rw [hs]; rfl⟩
    rw [Array.eq_empty_of_size_eq_zero h0] at hmem
    cases hmem
  · obtain ⟨hem, hes⟩ := mem_left he
    obtain ⟨k, ek, ef⟩ := hE.keys e hem
    have hw1h : w1.heap = w.heap := by rcases hw1 with rfl | rfl <;> rfl
    have hr1 : w1.heap[r]? = some (.mapIter (some b) since seen c0) := by rw [hw1h]; exact hr
    have hb1 : w1.heap[b]? = some (.map es clock) := by rw [hw1h]; exact hb
    have hrl : r < w1.heap.size := (Array.getElem?_eq_some_iff.1 hr1).1
    have hb2 : (setBlock w1 r (.mapIter (some b) since (seen.push e.born) clock)).heap[b]? = some (.map es clock) := by
      show (w1.heap.setIfInBounds r _)[b]? = _
      rw [Array.getElem?_setIfInBounds, if_neg (fun h => hne h.symm)]; exact hb1
    have hr2 : (setBlock w1 r (.mapIter (some b) since (seen.push e.born) clock)).heap[r]? = some (.mapIter (some b) since (seen.push e.born) clock) := by
      show (w1.heap.setIfInBounds r _)[r]? = _
      rw [Array.getElem?_setIfInBounds, if_pos rfl, if_pos hrl]
    refine .inr ⟨k, e.val, _, (hl k).2 ⟨e, hem, ek, hes⟩, ef, by rw [hrun, ek], ⟨hne, es, clock, since, seen.push e.born, clock, hb2, hE, hr2, hold, hsk, hsk, fun j => ?_⟩, ?_, ⟨?_, ?_, ?_, ?_, fun i hi hir => ?_⟩, ?_, ?_⟩
    · have hpc : ∀ n, (seen.push e.born).contains n = (seen.contains n || n == e.born) := fun n => by
        first | rw [Array.contains_push] | simp [Array.contains_push, Bool.or_comm]
      constructor
      · rintro ⟨hj, hjk⟩
        obtain ⟨x, hx, e1, e2⟩ := (hl j).1 hj
        refine ⟨x, hx, e1, ?_⟩
        rw [hpc, e2, Bool.false_or]
        have : x.born ≠ e.born := fun hbn => by
          have := nodup_inj hE.st.2.1 hx hem hbn
          subst this
          exact hjk (κ.inj (e1.symm.trans ek))
        simpa using this
      · rintro ⟨x, hx, e1, e2⟩
        rw [hpc, Bool.or_eq_false_iff] at e2
        refine ⟨(hl j).2 ⟨x, hx, e1, e2.1⟩, ?_⟩
        rintro rfl
        have := nodup_inj hE.st.2.2 hx hem (e1.trans ek.symm)
        subst this
        simpa using e2.2
    · simp only [World.rangeLeft, hb2, hr2, hb, hr]
      exact left_shrinks es seen e he
    · rcases hw1 with rfl | rfl <;> rfl
    · rcases hw1 with rfl | rfl <;> rfl
    · rcases hw1 with rfl | rfl <;> rfl
    · show w.heap.size ≤ (w1.heap.setIfInBounds r _).size
      rw [Array.size_setIfInBounds, hw1h]; exact Nat.le_refl _
    · show (w1.heap.setIfInBounds r _)[i]? = _
      rw [Array.getElem?_setIfInBounds, if_neg (fun h => hir (by rw [h])), hw1h]
    · show (w1.heap.setIfInBounds r _).size = _
      rw [Array.size_setIfInBounds, hw1h]
    · rw [← ek]; exact run_entry_at _ r b since seen es clock e hr2 hb2 hem hE.st.2.1
/-! ### at the operation, for the walk -/
section
variable {w : World} {ops : Array Oper} {rest : List Oper} {o : Oper} {a : Act} {Q : Exit → Act → World → Prop}
theorem wp_store [DecidableEq K] (hg : o.guard = none) (m x v : Operand) (t : TypeId) (hop : o.op = Op.mapUpdate t m x v) (κ : KeyOf P kt K) (e : TypeId) (ht : P.underlying t = some (.map kt e)) (b : Nat) (f : K → Option Value) (k : K) (val : Value)
    (hm : a.eval m = .map (some b)) (h : MapS κ w b f) (hx : a.eval x = κ.kv k) (hv : a.eval v = val) (hK : ∀ w', MapS κ w' b (upd f k val) → w.mapTurned w' b → wpList P ops Q rest (a.put o.dst undef) w') : wpList P ops Q (o :: rest) a w := by
  refine wpList_plain hg fun K' hK' => ?_
  obtain ⟨w', hrun, r1, r2⟩ := h.store ht k val
  unfold Oper.wp
  simp [execOp, hop, hm, hx, hv, hrun, Result.andThen]
  exact hK' _ _ (hK w' r1 r2)
theorem wp_range (hg : o.guard = none) (m : Operand) (t : TypeId) (hop : o.op = Op.range t m) (κ : KeyOf P kt K) (e : TypeId) (ht : P.underlying t = some (.map kt e)) (b : Nat) (f : K → Option Value) (hm : a.eval m = .map (some b)) (h : MapS κ w b f)
    (hK : ∀ w', RangeS κ w' b w.heap.size f (fun k => f k ≠ none) → Below w.heap.size w w' → w'.heap.size = w.heap.size + 1 → wpList P ops Q rest (a.put o.dst (.pointer (some ⟨w.heap.size, 0, none⟩))) w') : wpList P ops Q (o :: rest) a w := by
  refine wpList_plain hg fun K' hK' => ?_
  obtain ⟨w', hrun, r1, r2, r3⟩ := h.range ht
  unfold Oper.wp
  simp [execOp, hop, hm, hrun, Result.andThen]
  exact hK' _ _ (hK w' r1 r2 r3)
theorem wp_next (hg : o.guard = none) (it : Operand) (hop : o.op = Op.next it false) (κ : KeyOf P kt K) (b r : Nat) (f : K → Option Value) (left : K → Prop) (hit : a.eval it = .pointer (some ⟨r, 0, none⟩)) (h : RangeS κ w b r f left)
    (hDone : (∀ k, ¬ left k) → wpList P ops Q rest (a.put o.dst (.tuple #[.bool false])) w)
    (hMore : ∀ k v w', left k → f k = some v → RangeS κ w' b r f (fun j => left j ∧ j ≠ k) → w'.rangeLeft b r < w.rangeLeft b r → w.grownBy w' (some r) → w'.heap.size = w.heap.size →
      (Instr.entry (.pointer (some ⟨r, 0, none⟩))).run P w' = .ok (.tuple #[κ.kv k, v]) w' → wpList P ops Q rest (a.put o.dst (.tuple #[.bool true, κ.kv k, v])) w') : wpList P ops Q (o :: rest) a w := by
  refine wpList_plain hg fun K' hK' => ?_
  unfold Oper.wp
  rcases h.next o.type with ⟨hl, hrun⟩ | ⟨k, v, w', h1, h2, hrun, h3, h4, h5, h6, h7⟩
  · simp [execOp, hop, hit, hrun, Result.andThen]
    exact hK' _ _ (hDone hl)
  · simp [execOp, hop, hit, hrun, Result.andThen]
    exact hK' _ _ (hMore k v w' h1 h2 h3 h4 h5 h6 h7)
end
end Go.Mp
end

section
/- Small laws of rows, appends, numbers: of no program. -/
namespace Go.Mp
open Go.RowKit
set_option linter.unusedVariables false
def No : Nat → Prop := fun _ => False
theorem grownBy_alloc_left {w w' : World} {o : Obj} {row : Option Nat} (h : (w.alloc o).grownBy w' row) : w.grownBy w' row :=
  ⟨h.os, h.tape, h.output, Nat.le_trans (by simp) h.size, fun k hk hne => (h.block k (by simp; omega) hne).trans (Below.heap_alloc w o k hk)⟩
theorem ownsRow_tch {S : Nat → Prop} {w w' : World} {base e size n : Nat} {v : Value} {xs : List Value} (h : w.ownsRow base e size v n xs) (t : Tch S w w') (hn : ∀ g, v.ownBlock = some g → ¬ S g) : w'.ownsRow base e size v n xs := by
  refine ⟨h.1, ?_⟩
  rcases h.2 with h0 | ⟨g, cap, cur, rfl, hb, hg, r⟩
  · exact .inl h0
  · exact .inr ⟨g, cap, cur, rfl, hb, (t.block g (Array.getElem?_eq_some_iff.1 hg).1 (hn g rfl)).trans hg, r⟩
theorem ownsRow_ge {w : World} {base e size n : Nat} {v : Value} {xs : List Value} (h : w.ownsRow base e size v n xs) {g : Nat} (hg : v.ownBlock = some g) : base ≤ g ∧ g < w.heap.size := by
  rcases h.2 with ⟨rfl, _⟩ | ⟨g', cap, cur, rfl, hb, hg', r⟩
  · cases hg
  · cases hg; exact ⟨hb, (Array.getElem?_eq_some_iff.1 hg').1⟩
theorem ownsRow_shape {w : World} {base e size n : Nat} {v : Value} {xs : List Value} (h : w.ownsRow base e size v n xs) : ∃ ao cap, v = .slice ao n cap := by
  rcases h.2 with ⟨rfl, rfl⟩ | ⟨g, cap, cur, rfl, _⟩
  · exact ⟨none, 0, rfl⟩
  · exact ⟨_, _, rfl⟩
theorem ownsRow_base {w : World} {base base' e size n : Nat} {v : Value} {xs : List Value} (h : w.ownsRow base e size v n xs) (hb : base' ≤ base) : w.ownsRow base' e size v n xs := by
  refine ⟨h.1, ?_⟩
  rcases h.2 with h0 | ⟨g, cap, cur, hv, h1, r⟩
  · exact .inl h0
  · exact .inr ⟨g, cap, cur, hv, by omega, r⟩
theorem row_block {w : World} {base e size n : Nat} {v : Value} {xs : List Value} (h : w.ownsRow base e size v n xs) {g : Nat} (hg : v.ownBlock = some g) : ∃ cur, w.heap[g]? = some (.cells cur e (0, 0)) := by
  rcases h.2 with ⟨rfl, _⟩ | ⟨g', cap, cur, rfl, _, hc, _⟩
  · cases hg
  · cases hg; exact ⟨cur, hc⟩
theorem rows_apart {w : World} {b1 b2 e1 e2 s1 s2 n1 n2 : Nat} {v1 v2 : Value} {x1 x2 : List Value} (h1 : w.ownsRow b1 e1 s1 v1 n1 x1) (h2 : w.ownsRow b2 e2 s2 v2 n2 x2) (he : e1 ≠ e2) : ∀ g, v1.ownBlock = some g → v2.ownBlock ≠ some g := fun g hg hg' => by
  obtain ⟨cur, hc⟩ := row_block h1 hg
  obtain ⟨cur', hc'⟩ := row_block h2 hg'
  rw [hc] at hc'; cases hc'; exact he rfl
theorem row_not {w : World} {b1 e1 s1 n1 : Nat} {v1 : Value} {x1 : List Value} (h1 : w.ownsRow b1 e1 s1 v1 n1 x1) {k : Nat} {cur : Array Value} {t : TypeId} (hk : w.heap[k]? = some (.cells cur t)) (he : e1 ≠ t) : v1.ownBlock ≠ some k := fun hg => by
  obtain ⟨cur', hc⟩ := row_block h1 hg
  rw [hc] at hk; cases hk; exact he rfl
/-- A row of whatever size: what its cells hold. -/
theorem ownsRow_cell {w : World} {base e size n cap : Nat} {ao : Option Addr} {m : Nat} {xs : List Value} (h : w.ownsRow base e size (.slice ao n cap) m xs) {j : Nat} {u : Value} (hu : xs[j]? = some u) : ∃ g, ao = some ⟨g, 0, none⟩ ∧ n = m ∧ m ≤ cap ∧ w.cell? ⟨g, j, none⟩ = some u ∧ w.frozen? ⟨g, j, none⟩ = false := by
  have hj := (List.getElem?_eq_some_iff.1 hu).1
  rcases h.2 with ⟨h0, h1⟩ | ⟨g', cp, cur, h0, hb, hg, hm, r⟩
  · rw [h.1, h1, Nat.zero_mul] at hj; omega
  · simp only [Value.slice.injEq] at h0
    obtain ⟨rfl, rfl, rfl⟩ := h0
    refine ⟨g', rfl, rfl, hm, ?_, h.frozenAt j⟩
    rw [h.cellAt j (by rw [← h.1]; exact hj), hu]
theorem add_zero_at (g j : Nat) : (⟨g, 0, none⟩ : Addr).add j = ⟨g, j, none⟩ := by unfold Addr.add; split <;> simp_all
theorem new_cells (w : World) (us : List Value) (e' : TypeId) : ∀ j y, us[j]? = some y → (w.alloc (.cells us.toArray e')).cell? ((⟨w.heap.size, 0, none⟩ : Addr).add j) = some y := fun j y hy => by
  rw [add_zero_at]
  refine (cell_of_row _ _ j _ _ _ (heap_alloc_new w _)).trans ?_
  simpa using hy
/-- 'append(v, x)', x one element of some cells, new. -/
theorem wp_append_us {P : Program} {w : World} {ops : Array Oper} {rest : List Oper} {o : Oper} {a : Act} {Q : Exit → Act → World → Prop} {us : List Value} {e' : TypeId} (hgd : o.guard = none) (s x : Operand) (t : TypeId)
    (ho : o.op = .call { callee := .builtin .append, args := #[s, x], argTypes := #[t, t] })
    (base : Nat) (e : TypeId) (i : TypeInfo) (z : Value) (size bytes : Nat) (ht : P.underlying t = some (.slice e)) (hi : P.info? e = some i) (hz : i.zero = some z)
    (hsize : i.size = size) (hby : i.bytes = bytes) (hzs : z.cells.size = size) (hpos : 0 < size)
    (v : Value) (n : Nat) (xs : List Value) (hs : a.eval s = v) (hown : w.ownsRow base e size v n xs)
    (c : Nat) (hx : a.eval x = .slice (some ⟨w.heap.size, 0, none⟩) 1 c) (hlen : us.length = size) (h1 : ∀ u ∈ us, u.oneCell' = true)
    (h63 : n + 1 ≤ maxLen) (hbytes : (n + 1) * bytes ≤ 140737488355328) (hbase : base ≤ w.heap.size)
    (h : ∀ v' w', w'.ownsRow base e size v' (n + 1) (xs ++ us) → w.grownBy w' v.ownBlock → (∀ g, v'.ownBlock = some g → v.ownBlock = some g ∨ w.heap.size ≤ g) → wpList P ops Q rest (a.put o.dst v') w') :
    wpList P ops Q (o :: rest) a (w.alloc (.cells us.toArray e')) := by
  refine wpList_append_own_at _ hgd s x t ho base e i z size bytes ht hi hz hsize hby hzs hpos v n xs hs (hown.alloc _) ⟨w.heap.size, 0, none⟩ 1 c us hx (by omega) (new_cells w us e') h1 h63 hbytes (by simp; omega) ?_
  intro v' w' hown' hg hnil hloc
  refine h v' w' hown' (grownBy_alloc_left hg) ?_
  intro g hg'
  rcases hloc with hl | hl
  · exact .inl (by rw [← hl]; exact hg')
  · rw [hl] at hg'; cases hg'; exact .inr (by simp)
/-- The same, as one step of a region that draws. -/
theorem step_append_us {P : Program} {w : World} {ops : Array Oper} {o : Oper} {a : Act} {K : Act → World → Prop} {Q : Exit → Act → World → Prop} {E : Prop} {us : List Value} {e' : TypeId} (hgd : o.guard = none) (s x : Operand) (t : TypeId)
    (ho : o.op = .call { callee := .builtin .append, args := #[s, x], argTypes := #[t, t] })
    (base : Nat) (e : TypeId) (i : TypeInfo) (z : Value) (size bytes : Nat) (ht : P.underlying t = some (.slice e)) (hi : P.info? e = some i) (hz : i.zero = some z)
    (hsize : i.size = size) (hby : i.bytes = bytes) (hzs : z.cells.size = size) (hpos : 0 < size)
    (v : Value) (n : Nat) (xs : List Value) (hs : a.eval s = v) (hown : w.ownsRow base e size v n xs)
    (c : Nat) (hx : a.eval x = .slice (some ⟨w.heap.size, 0, none⟩) 1 c) (hlen : us.length = size) (h1 : ∀ u ∈ us, u.oneCell' = true)
    (h63 : n + 1 ≤ maxLen) (hbytes : (n + 1) * bytes ≤ 140737488355328) (hbase : base ≤ w.heap.size)
    (h : ∀ v' w', w'.ownsRow base e size v' (n + 1) (xs ++ us) → w.grownBy w' v.ownBlock → (∀ g, v'.ownBlock = some g → v.ownBlock = some g ∨ w.heap.size ≤ g) → K (a.put o.dst v') w') :
    if Region.wanted o (yielded ops a.tmps) = true then Oper.wp P o a (w.alloc (.cells us.toArray e')) K Q else E := by
  have hw : Region.wanted o (yielded ops a.tmps) = true := by simp [Region.wanted, hgd]
  rw [if_pos hw]
  obtain ⟨v', w', hr, h2, h3, h4, h5⟩ := run_append_own_at (P := P) (w.alloc (.cells us.toArray e')) base t o.type e i z size bytes ht hi hz hsize hby hzs hpos v n xs (hown.alloc _) ⟨w.heap.size, 0, none⟩ 1 c us (by omega) (new_cells w us e') h1 h63 hbytes (by simp; omega)
  unfold Oper.wp execOp
  simp only [ho, resolve, invoke, builtin, Sem.run_bind, Sem.run_pure, Result.andThen_ok, List.map_toArray, List.map_cons, List.map_nil, hs, hx, hr]
  refine h v' w' h2 (grownBy_alloc_left h3) ?_
  intro g hg'
  rcases h5 with hl | hl
  · exact .inl (by rw [← hl]; exact hg')
  · rw [hl] at hg'; cases hg'; exact .inr (by simp)
/-! ### numbers -/
theorem nn_lt {a b : Nat} (h : a < b) : (a : Int) < (b : Int) := by omega
theorem bytes_of_toList {a b : ByteArray} (h : a.toList = b.toList) : a = b := by
  rw [Lib.toList_data, Lib.toList_data] at h
  cases a; cases b
  have := Array.toList_inj.1 h
  simp_all
end Go.Mp
end

section

namespace Go.Proofs.Ytjepgpocmnijiaa
open Go.RowKit Go.Mp
set_option linter.unusedVariables false
abbrev Key := Int × ByteArray
def kvv (k : Key) : Value := .agg #[.int .i64 k.1, .string k.2]
theorem toList_inj {a b : ByteArray} (h : a.toList = b.toList) : a = b := bytes_of_toList h
theorem key_eq (a b : Key) (w : World) : (Op.equal 111 (kvv a) (kvv b)).run Try.prog w = .ok (decide (a = b)) w := by
  have hu : Try.prog.underlying 111 = some (.struct (Try.prog.fieldsOf 111)) := by kernel_rfl
  have hs : Try.prog.stoodInHeld 111 = false := by kernel_rfl
  have hf := Try.underlying111
  unfold Op.equal kvv
  rw [show Op.maxDepth = 9999 + 1 from rfl, run_equalIn_struct w 9999 111 _ _ hu hs]
  unfold Program.fieldsOf
  rw [hf]
  simp only [Op.eqFields, go_sem]
  obtain ⟨k, s⟩ := a
  obtain ⟨l, t⟩ := b
  by_cases h1 : k = l
  · subst h1
    by_cases h2 : s.toList = t.toList
    · have h3 := toList_inj h2
      subst h3
      simp [go_sem, Try.underlying3, Try.underlying9]
    · have h3 : ¬ s = t := fun e => h2 (by rw [e])
      simp [go_sem, Try.underlying3, Try.underlying9, h2, h3]
  · simp [go_sem, Try.underlying3, Try.underlying9, h1]
theorem key_check (em : Bool) (a : Key) (w : World) : (Instr.checkKey em 10000 111 (kvv a)).run Try.prog w = .ok () w := by
  have h3 : ∀ (v : Int) w, (Instr.checkKey em 9999 3 (.int .i64 v)).run Try.prog w = .ok () w := fun v w => MapKept.run_checkKey Try.underlying3 (by rfl) em 9998
  have h9 : ∀ (v : ByteArray) w, (Instr.checkKey em 9999 9 (.string v)).run Try.prog w = .ok () w := fun v w => MapKept.run_checkKey Try.underlying9 (k := .string v) (show MapKept.IsKey .string (.string v) from trivial) em 9998
  unfold kvv
  rw [show (10000 : Nat) = 9999 + 1 from rfl]
  unfold Instr.checkKey
  simp [go_sem, Try.underlying111, run_underlying, h3, h9]
theorem key_stay (a : Key) (w : World) : (Instr.keyThatStays (kvv a) (kvv a)).run Try.prog w = .ok (kvv a) w := by
  have h : (a.snd == a.snd) = true := by rw [beq_toListBytes]; exact beq_self_eq_true _
  unfold kvv Instr.keyThatStays
  simp [go_sem, Instr.sameBits, h]
theorem key_inj {a b : Key} (h : kvv a = kvv b) : a = b := by
  obtain ⟨k, s⟩ := a
  obtain ⟨l, t⟩ := b
  simp only [kvv, Value.agg.injEq, Array.mk.injEq, List.cons.injEq, Value.int.injEq, true_and, and_true, Value.string.injEq] at h
  rw [h.1, h.2]
theorem key_asking (a : Key) (w : World) : ∀ (l : List MapEntry) (i : Nat), (∀ x ∈ l, ∃ j, x.key = kvv j) →
    ((Instr.findAsking 111 (kvv a) l i).run Try.prog w = .ok none w ∧ ∀ x ∈ l, x.key ≠ kvv a) ∨ ∃ j e, (Instr.findAsking 111 (kvv a) l i).run Try.prog w = .ok (some (i + j, e.val)) w ∧ l[j]? = some e ∧ e.key = kvv a
  | [], i, _ => .inl ⟨by simp [Instr.findAsking], by simp⟩
  | e :: es, i, h => by
    obtain ⟨b, hb⟩ := h e (.head _)
    by_cases hab : a = b
    · subst hab
      exact .inr ⟨0, e, by simp [Instr.findAsking, hb, key_eq], rfl, hb⟩
    · have hne : e.key ≠ kvv a := fun q => hab (key_inj (q.symm.trans hb))
      rcases key_asking a w es (i + 1) (fun x hx => h x (.tail _ hx)) with ⟨h1, h2⟩ | ⟨j, y, h1, h2, h3⟩
      · refine .inl ⟨by simp [Instr.findAsking, hb, key_eq, hab, h1], fun x hx => ?_⟩
        rcases List.mem_cons.1 hx with rfl | hx
        · exact hne
        · exact h2 x hx
      · exact .inr ⟨j + 1, y, by simp [Instr.findAsking, hb, key_eq, hab, h1]; omega, by simpa using h2, h3⟩
theorem key_find (a : Key) (l : List MapEntry) (w : World) (h : ∀ x ∈ l, ∃ j, x.key = kvv j) :
    ((Instr.findKey 111 (kvv a) l).run Try.prog w = .ok none w ∧ ∀ x ∈ l, x.key ≠ kvv a) ∨ ∃ j e, (Instr.findKey 111 (kvv a) l).run Try.prog w = .ok (some (j, e.val)) w ∧ l[j]? = some e ∧ e.key = kvv a := by
  have hk := key_asking a w l 0 h
  simp only [Nat.zero_add] at hk
  have e : (Instr.findKey 111 (kvv a) l).run Try.prog w = (Instr.findAsking 111 (kvv a) l 0).run Try.prog w := by
    cases l with
    | nil => simp [Instr.findKey, Instr.findAsking, run_underlying Try.underlying111, Instr.findNow]
    | cons x l =>
      obtain ⟨b, hb⟩ := h x (.head _)
      simp [Instr.findKey, run_underlying Try.underlying111, Instr.findNow, hb, kvv, Instr.sameNow]
  rw [e]; exact hk
def keyKey : KeyOf Try.prog 111 Key := ⟨kvv, key_inj, key_check, key_find, key_stay⟩
def nameKey : KeyOf Try.prog 9 ByteArray := strKey Try.underlying9
end Go.Proofs.Ytjepgpocmnijiaa
end
