/- Tables, read; the law's own compare of equal ones. -/
import Derived.Test.YtjepgpocmnijiaaZy38
import Derived.Test.YtjepgpocmnijiaaZy27
section
/- What the document's Compile keeps; hosts put in behind their equals. -/
namespace Go.Stab
set_option linter.unusedVariables false
variable {α : Type} {le : α → α → Bool}
end Go.Stab
namespace Go.Ck
open Go.Stab Go.Mp Go.RowKit
set_option linter.unusedVariables false
set_option maxRecDepth 100000
theorem tot_leH : Tot leH where
  trans := fun a b c h1 h2 => by
    unfold leH at h1 h2 ⊢
    exact decide_eq_true (Pa.order_trans (of_decide_eq_true h1) (of_decide_eq_true h2))
  total := fun a b => by
    unfold leH
    have := Pa.order_anti a.host.data.toList b.host.data.toList
    simp only [Bool.or_eq_true, decide_eq_true_eq]
    omega
/-! ### boxes of one's own -/
structure Bx (B : Nat) (w : World) (b : Nat) (cs : Array Value) (ty : TypeId) : Prop where
  ge : B ≤ b
  h : w.heap[b]? = some (.cells cs ty (0, 0))
theorem Bx.tch {B b : Nat} {w w' : World} {cs : Array Value} {ty : TypeId} {S : Nat → Prop} (h : Bx B w b cs ty) (t : Tch S w w') (hn : ¬ S b) : Bx B w' b cs ty := ⟨h.ge, (t.block b (Array.getElem?_eq_some_iff.1 h.h).1 hn).trans h.h⟩
theorem Bx.below {B b : Nat} {w w' : World} {cs : Array Value} {ty : TypeId} (h : Bx B w b cs ty) (hb : Below w.heap.size w w') : Bx B w' b cs ty := h.tch (Tch.of_below (S := fun _ => False) hb) id
theorem Bx.row {B b B' e s n : Nat} {w w' : World} {cs : Array Value} {ty : TypeId} {v : Value} {xs : List Value} (h : Bx B w b cs ty) (hr : w.ownsRow B' e s v n xs) (he : e ≠ ty) (t : Tch (fun k => v.ownBlock = some k) w w') : Bx B w' b cs ty := h.tch t (fun q => Go.Proofs.Ytjepgpocmnijiaa.row_block_ne hr h.h he b q rfl)
theorem Bx.ne {B B' b g : Nat} {w : World} {cs cs' : Array Value} {ty ty' : TypeId} (h : Bx B w b cs ty) (h' : Bx B' w g cs' ty') (hne : ty ≠ ty') : b ≠ g := fun q => by
  have h1 := h.h
  rw [q, h'.h] at h1
  have h9 := congrArg (fun o => match o with | some (Obj.cells _ t _) => t | _ => 0) h1
  exact hne h9.symm
theorem Bx.set {B b j : Nat} {w : World} {cs : Array Value} {ty : TypeId} {u : Value} (h : Bx B w b cs ty) : Bx B (w.setCell ⟨b, j, none⟩ u) b (cs.setIfInBounds j u) ty := ⟨h.ge, heap_setCell_same w b j cs ty u h.h⟩
theorem Bx.tset {B b j : Nat} {w : World} {cs : Array Value} {ty : TypeId} {u : Value} (h : Bx B w b cs ty) : Tch (fun k => k = b) w (w.setCell ⟨b, j, none⟩ u) := Tch.setCell (S := fun k => k = b) w (p := ⟨b, j, none⟩) rfl u
theorem Bx.cell {B b j : Nat} {w : World} {cs : Array Value} {ty : TypeId} {u : Value} (h : Bx B w b cs ty) (hu : cs[j]? = some u) : w.cell? ⟨b, j, none⟩ = some u := Go.Proofs.Ytjepgpocmnijiaa.box_at h.h hu
end Go.Ck
end

section
/- The document's host while it is filled; rows of hosts that are copied. -/
namespace Go.Proofs.Ytjepgpocmnijiaa
open Go.RowKit Go.Mp Go.Ck Go.Stab
set_option linter.unusedVariables false
set_option maxRecDepth 100000
set_option maxHeartbeats 8000000
def hvE : Rd.Elem HV := ⟨4, fun w c x => ∀ (j : Nat) (u : Value), (hvc x)[j]? = some u → c j = some u, fun {w w' c c' x} h hb hc j u hu => by
  have hj : j < 4 := by have := (List.getElem?_eq_some_iff.1 hu).1; simpa [hvc] using this
  rw [hc j hj]; exact h j u hu⟩
def hvC : Rd.Enc hvE where
  enc := hvc
  ok := fun _ => True
  len := fun _ => rfl
  pos := by decide
  one := fun x u hu => by
    simp only [hvc, List.mem_cons, List.not_mem_nil, or_false] at hu
    rcases hu with rfl | rfl | rfl | rfl <;> rfl
  R := fun h => ⟨h, trivial⟩
  of := fun _ h => h
theorem _root_.Go.Ck.HsT.base' {w : World} {B B' : Nat} {v : Value} {T : List (HV × Hst)} (h : HsT w B v T) (hb : B' ≤ B) : HsT w B' v T := ⟨ownsRow_base h.row hb, fun p hp => (h.el p hp).base hb⟩
/-- The document's host, half filled. -/
structure GB (w wx : World) (hb : Nat) (hn nm : ByteArray) (ev pv : Value) (E : List (EV × Ent)) (P : List Prm) : Prop where
  bel : Below w.heap.size w wx
  bx : Bx w.heap.size wx hb #[.string hn, .string nm, ev, pv] 83
  es : EsT wx w.heap.size ev E
  ps : PsM wx w.heap.size pv P
theorem GB.below {w wx wy : World} {hb : Nat} {hn nm : ByteArray} {ev pv : Value} {E : List (EV × Ent)} {P : List Prm} (h : GB w wx hb hn nm ev pv E P) (hy : Below wx.heap.size wx wy) : GB w wy hb hn nm ev pv E P := ⟨seq_below h.bel hy, h.bx.below hy, h.es.below hy, h.ps.below hy⟩
/-- What the document's Compile has so far. -/
structure DC (w wx : World) (tb : Nat) (ver : Int) (hv sv : Value) (T : List (HV × Hst)) (ss : List ByteArray) : Prop where
  bel : Below w.heap.size w wx
  t : Bx w.heap.size wx tb #[.int .i64 ver, hv, sv] 62
  hs : HsT wx w.heap.size hv T
  sv : SvM wx w.heap.size sv ss
theorem DC.below {w wx wy : World} {tb : Nat} {ver : Int} {hv sv : Value} {T : List (HV × Hst)} {ss : List ByteArray} (h : DC w wx tb ver hv sv T ss) (hy : Below wx.heap.size wx wy) : DC w wy tb ver hv sv T ss := ⟨seq_below h.bel hy, h.t.below hy, h.hs.below hy, h.sv.all (Tch.of_below (S := fun _ => False) hy) (fun _ _ q => q)⟩
/-- The new row of hosts, laid behind all else, is taken. -/
theorem DC.put {w w5 : World} {tb : Nat} {ver : Int} {hv sv v7 : Value} {T T' : List (HV × Hst)} {ss : List ByteArray} (h : DC w w5 tb ver hv sv T ss) (hr : w5.ownsRow w.heap.size 83 4 v7 T'.length (hflat (T'.map (·.1)))) (he : ∀ p ∈ T', HM w5 w.heap.size p.1 p.2) :
    DC w (w5.setCell ⟨tb, 1, none⟩ v7) tb ver v7 sv T' ss :=
  ⟨Tch.below h.bel (h.t.tset (u := v7)) h.bel.size (fun k q => by rw [q]; exact h.t.ge), h.t.set, ⟨ownsRow_tch hr (h.t.tset (u := v7)) (fun k q q2 => row_block_ne hr h.t.h (by decide) k q q2), fun p hp => (he p hp).box h.t.h (by decide) (by decide) (by decide) (h.t.tset (u := v7))⟩, ⟨ownsRow_tch h.sv.1 (h.t.tset (u := v7)) (fun k q q2 => row_block_ne h.sv.1 h.t.h (by decide) k q q2), h.sv.2⟩⟩
end Go.Proofs.Ytjepgpocmnijiaa
end

section

namespace Go.Proofs.Ytjepgpocmnijiaa
open Go.RowKit Go.Mp Go.Ck Go.Stab
set_option linter.unusedVariables false
set_option maxRecDepth 100000
set_option maxHeartbeats 8000000
def evE : Rd.Elem EV := ⟨3, fun w c x => ∀ (j : Nat) (u : Value), (evc x)[j]? = some u → c j = some u, fun {w w' c c' x} h hb hc j u hu => by
  have hj : j < 3 := by have := (List.getElem?_eq_some_iff.1 hu).1; simpa [evc] using this
  rw [hc j hj]; exact h j u hu⟩
def evC : Rd.Enc evE where
  enc := evc
  ok := fun _ => True
  len := fun _ => rfl
  pos := by decide
  one := fun x u hu => by
    simp only [evc, List.mem_cons, List.not_mem_nil, or_false] at hu
    rcases hu with rfl | rfl | rfl <;> rfl
  R := fun h => ⟨h, trivial⟩
  of := fun _ h => h
def pvE : Rd.Elem Prm := ⟨3, fun w c x => ∀ (j : Nat) (u : Value), (pvc x)[j]? = some u → c j = some u, fun {w w' c c' x} h hb hc j u hu => by
  have hj : j < 3 := by have := (List.getElem?_eq_some_iff.1 hu).1; simpa [pvc] using this
  rw [hc j hj]; exact h j u hu⟩
def pvC : Rd.Enc pvE where
  enc := pvc
  ok := fun _ => True
  len := fun _ => rfl
  pos := by decide
  one := fun x u hu => by
    simp only [pvc, List.mem_cons, List.not_mem_nil, or_false] at hu
    rcases hu with rfl | rfl | rfl <;> rfl
  R := fun h => ⟨h, trivial⟩
  of := fun _ h => h
structure EQ (w : World) (x : EV) (e : Ent) : Prop where
  p : x.path = e.path
  m : x.method = e.method
  sh : ShS w (.slice x.so x.sn x.sc) e.shares
def EsR (w : World) (v : Value) (es : List Ent) : Prop := ∃ T : List (EV × Ent), T.map (·.2) = es ∧ Rd.SliceOf evE w v (T.map (·.1)) ∧ ∀ p ∈ T, EQ w p.1 p.2
structure HQ (w : World) (x : HV) (h : Hst) : Prop where
  nm : x.host = h.host
  rt : x.route = h.route
  es : EsR w (.slice x.eo x.en x.ec) h.entries
  ps : Rd.SliceOf pvE w (.slice x.po x.pn x.pc) h.permits
def HsR (w : World) (v : Value) (hs : List Hst) : Prop := ∃ T : List (HV × Hst), T.map (·.2) = hs ∧ Rd.SliceOf hvE w v (T.map (·.1)) ∧ ∀ p ∈ T, HQ w p.1 p.2
theorem EsR.below {w w' : World} {v : Value} {es : List Ent} (h : EsR w v es) (hb : Below w.heap.size w w') : EsR w' v es := by
  obtain ⟨T, h1, h2, h3⟩ := h
  exact ⟨T, h1, h2.below hb, fun p hp => ⟨(h3 p hp).p, (h3 p hp).m, (h3 p hp).sh.below hb⟩⟩
theorem HQ.below {w w' : World} {x : HV} {h : Hst} (q : HQ w x h) (hb : Below w.heap.size w w') : HQ w' x h := ⟨q.nm, q.rt, q.es.below hb, q.ps.below hb⟩
theorem HsR.below {w w' : World} {v : Value} {hs : List Hst} (h : HsR w v hs) (hb : Below w.heap.size w w') : HsR w' v hs := by
  obtain ⟨T, h1, h2, h3⟩ := h
  exact ⟨T, h1, h2.below hb, fun p hp => (h3 p hp).below hb⟩
/-- Hosts that are small enough to be read. -/
structure Sml (h : Hst) : Prop where
  e : h.entries.length ≤ 4194304
  p : h.permits.length ≤ 268435456
  s : ∀ e ∈ h.entries, e.shares.length ≤ 64
theorem EM.reads {w : World} {B : Nat} {x : EV} {e : Ent} (h : EM w B x e) (hs : e.shares.length ≤ 64) : EQ w x e := ⟨h.p, h.m, h.sh.reads (by omega)⟩
theorem HM.reads {w : World} {B : Nat} {x : HV} {h : Hst} (q : HM w B x h) (hs : Sml h) : HQ w x h := by
  obtain ⟨T, h1, h2⟩ := q.es
  have hl : T.length = h.entries.length := by rw [← h1, List.length_map]
  refine ⟨q.nm, q.rt, ⟨T, h1, Rd.own_slice evC (B := B) (e := 85) (by rw [List.length_map]; exact h2.row) (fun _ _ => trivial) (by rw [List.length_map]; have := hs.e; omega), fun p hp => EM.reads (h2.el p hp) (hs.s p.2 (by rw [← h1]; exact List.mem_map_of_mem hp))⟩, Rd.own_slice pvC (B := B) (e := 99) q.ps.1 (fun _ _ => trivial) (by have := hs.p; omega)⟩
theorem HsM.reads {w : World} {B : Nat} {v : Value} {hs : List Hst} (h : HsM w B v hs) (hn : hs.length ≤ 64) (hs' : ∀ x ∈ hs, Sml x) : HsR w v hs := by
  obtain ⟨T, h1, h2⟩ := h
  have hl : T.length = hs.length := by rw [← h1, List.length_map]
  exact ⟨T, h1, Rd.own_slice hvC (B := B) (e := 83) (by rw [List.length_map]; exact h2.row) (fun _ _ => trivial) (by rw [List.length_map]; omega), fun p hp => HM.reads (h2.el p hp) (hs' p.2 (by rw [← h1]; exact List.mem_map_of_mem hp))⟩
theorem SvM.reads {w : World} {B : Nat} {v : Value} {ss : List ByteArray} (h : SvM w B v ss) (hn : ss.length ≤ 64) : Rd.SliceOf Rd.str w v ss := Rd.own_slice Rd.strC (B := B) (e := 9) (by
    have e : ss.flatMap Rd.strC.enc = ss.map .string := by
      have : ∀ l : List ByteArray, l.flatMap Rd.strC.enc = l.map .string := by
        intro l
        induction l with
        | nil => rfl
        | cons x l ih => rw [List.flatMap_cons, List.map_cons, ih]; rfl
      exact this ss
    rw [e]; exact h.1) h.2 (by omega)
theorem ev_at {w wr : World} {ao : Option Addr} {n cap : Nat} {xs : List EV} (h : Rd.SliceOf evE w (.slice ao n cap) xs) (hb : Below w.heap.size w wr) {i : Nat} {x : EV} (hx : xs[i]? = some x) :
    ∃ b off, ao = some ⟨b, off, none⟩ ∧ wr.cell? ⟨b, off + i * 3, none⟩ = some (.string x.path) ∧ wr.cell? ⟨b, off + i * 3 + 1, none⟩ = some (.string x.method) ∧ wr.cell? ⟨b, off + i * 3 + 2, none⟩ = some (.slice x.so x.sn x.sc) := by
  obtain ⟨b, off, e, _, hc⟩ := at_i h hb hx
  exact ⟨b, off, e, hc 0 _ rfl, hc 1 _ rfl, hc 2 _ rfl⟩
theorem hv_at {w wr : World} {ao : Option Addr} {n cap : Nat} {xs : List HV} (h : Rd.SliceOf hvE w (.slice ao n cap) xs) (hb : Below w.heap.size w wr) {i : Nat} {x : HV} (hx : xs[i]? = some x) :
    ∃ b off, ao = some ⟨b, off, none⟩ ∧ wr.cell? ⟨b, off + i * 4, none⟩ = some (.string x.host) ∧ wr.cell? ⟨b, off + i * 4 + 1, none⟩ = some (.string x.route) ∧ wr.cell? ⟨b, off + i * 4 + 2, none⟩ = some (.slice x.eo x.en x.ec) ∧ wr.cell? ⟨b, off + i * 4 + 3, none⟩ = some (.slice x.po x.pn x.pc) := by
  obtain ⟨b, off, e, _, hc⟩ := at_i h hb hx
  exact ⟨b, off, e, hc 0 _ rfl, hc 1 _ rfl, hc 2 _ rfl, hc 3 _ rfl⟩
end Go.Proofs.Ytjepgpocmnijiaa
end
