/- Compiled tables, plain, and how they lie in memory. -/
import Derived.Test.YtjepgpocmnijiaaZy31
import Derived.Test.YtjepgpocmnijiaaZy23
section
/- The document's Steps. -/
namespace Go.Proofs.Ytjepgpocmnijiaa
open Go.RowKit Go.Mp Go.Ck Fl
set_option linter.unusedVariables false
set_option maxRecDepth 100000
set_option maxHeartbeats 4000000
end Go.Proofs.Ytjepgpocmnijiaa
end

section

namespace Go.Ck
open Go.RowKit Go.Mp Go.Stab
open Go.Proofs.Ytjepgpocmnijiaa
set_option linter.unusedVariables false
structure Ent where
  path : ByteArray
  method : ByteArray
  shares : List Shr
structure Prm where
  path : ByteArray
  method : ByteArray
  allow : Bool
structure Hst where
  host : ByteArray
  route : ByteArray
  entries : List Ent
  permits : List Prm
def entOf (l : List Res) (x : Rul) : Ent := ⟨x.path, x.method, stepsS (shOf l x.split)⟩
def prmOf (x : Rul) : Prm := ⟨x.path, x.method, x.allow⟩
def polP (n : ByteArray) (r : Res) : Bool := kindP 4 r && seq r.route n
def permitsOf (l : List Res) (n : ByteArray) : List Prm := (l.filter (polP n)).flatMap fun r => r.rules.map prmOf
def hostOf (l : List Res) (r : Res) : Hst := ⟨r.host, r.name, r.rules.map (entOf l), permitsOf l r.name⟩
def leH (x y : Hst) : Bool := decide (Pa.orderH x.host.data.toList y.host.data.toList ≤ 0)
def hostsOf (l : List Res) : List Hst := ((l.filter (kindP 3)).map (hostOf l)).mergeSort leH
def svcsOf (l : List Res) : List ByteArray := (l.filter (kindP 1)).map (·.name)
/-- An entry as it lies. -/
structure EV where
  path : ByteArray
  method : ByteArray
  so : Option Addr
  sn : Nat
  sc : Nat
def evc (x : EV) : List Value := [.string x.path, .string x.method, .slice x.so x.sn x.sc]
def pvc (x : Prm) : List Value := [.string x.path, .string x.method, .bool x.allow]
structure EM (w : World) (B : Nat) (x : EV) (e : Ent) : Prop where
  p : x.path = e.path
  m : x.method = e.method
  ps : e.path.size ≤ maxLen
  ms : e.method.size ≤ maxLen
  sh : OwnS w B (.slice x.so x.sn x.sc) e.shares
structure EsT (w : World) (B : Nat) (v : Value) (T : List (EV × Ent)) : Prop where
  row : w.ownsRow B 85 3 v T.length ((T.map (·.1)).flatMap evc)
  el : ∀ p ∈ T, EM w B p.1 p.2
def EsM (w : World) (B : Nat) (v : Value) (es : List Ent) : Prop := ∃ T : List (EV × Ent), T.map (·.2) = es ∧ EsT w B v T
def PsM (w : World) (B : Nat) (v : Value) (ps : List Prm) : Prop := w.ownsRow B 99 3 v ps.length (ps.flatMap pvc) ∧ ∀ p ∈ ps, p.path.size ≤ maxLen ∧ p.method.size ≤ maxLen
structure HM (w : World) (B : Nat) (x : HV) (h : Hst) : Prop where
  nm : x.host = h.host
  rt : x.route = h.route
  hs : h.host.size ≤ maxLen
  rs : h.route.size ≤ maxLen
  es : EsM w B (.slice x.eo x.en x.ec) h.entries
  ps : PsM w B (.slice x.po x.pn x.pc) h.permits
structure HsT (w : World) (B : Nat) (v : Value) (T : List (HV × Hst)) : Prop where
  row : w.ownsRow B 83 4 v T.length (hflat (T.map (·.1)))
  el : ∀ p ∈ T, HM w B p.1 p.2
def HsM (w : World) (B : Nat) (v : Value) (hs : List Hst) : Prop := ∃ T : List (HV × Hst), T.map (·.2) = hs ∧ HsT w B v T
def SvM (w : World) (B : Nat) (v : Value) (ss : List ByteArray) : Prop := w.ownsRow B 9 1 v ss.length (ss.map .string) ∧ ∀ s ∈ ss, s.size ≤ maxLen
/-! ### what keeps them -/
theorem EM.tch {w w' : World} {B : Nat} {x : EV} {e : Ent} {S : Nat → Prop} (h : EM w B x e) (t : Tch S w w') (hs : ∀ k, (Value.slice x.so x.sn x.sc).ownBlock = some k → ¬ S k) : EM w' B x e :=
  ⟨h.p, h.m, h.ps, h.ms, ⟨ownsRow_tch h.sh.row t hs, h.sh.ok⟩⟩
theorem EM.all {w w' : World} {B : Nat} {x : EV} {e : Ent} {S : Nat → Prop} (h : EM w B x e) (t : Tch S w w') (hs : ∀ k, B ≤ k → ¬ S k) : EM w' B x e := h.tch t (fun k q => hs k (h.sh.row.lt k q).1)
theorem EsM.all {w w' : World} {B : Nat} {v : Value} {es : List Ent} {S : Nat → Prop} (h : EsM w B v es) (t : Tch S w w') (hs : ∀ k, B ≤ k → ¬ S k) : EsM w' B v es := by
  obtain ⟨T, h1, h2, h3⟩ := h
  exact ⟨T, h1, ownsRow_tch h2 t (fun k q => hs k (h2.lt k q).1), fun p hp => (h3 p hp).all t hs⟩
theorem PsM.all {w w' : World} {B : Nat} {v : Value} {ps : List Prm} {S : Nat → Prop} (h : PsM w B v ps) (t : Tch S w w') (hs : ∀ k, B ≤ k → ¬ S k) : PsM w' B v ps := ⟨ownsRow_tch h.1 t (fun k q => hs k (h.1.lt k q).1), h.2⟩
theorem HM.all {w w' : World} {B : Nat} {x : HV} {h : Hst} {S : Nat → Prop} (q : HM w B x h) (t : Tch S w w') (hs : ∀ k, B ≤ k → ¬ S k) : HM w' B x h := ⟨q.nm, q.rt, q.hs, q.rs, q.es.all t hs, q.ps.all t hs⟩
theorem HsM.all {w w' : World} {B : Nat} {v : Value} {hs : List Hst} {S : Nat → Prop} (h : HsM w B v hs) (t : Tch S w w') (hn : ∀ k, B ≤ k → ¬ S k) : HsM w' B v hs := by
  obtain ⟨T, h1, h2, h3⟩ := h
  exact ⟨T, h1, ownsRow_tch h2 t (fun k q => hn k (h2.lt k q).1), fun p hp => (h3 p hp).all t hn⟩
theorem SvM.all {w w' : World} {B : Nat} {v : Value} {ss : List ByteArray} {S : Nat → Prop} (h : SvM w B v ss) (t : Tch S w w') (hn : ∀ k, B ≤ k → ¬ S k) : SvM w' B v ss := ⟨ownsRow_tch h.1 t (fun k q => hn k (h.1.lt k q).1), h.2⟩
theorem EM.base {w : World} {B B' : Nat} {x : EV} {e : Ent} (h : EM w B x e) (hb : B' ≤ B) : EM w B' x e := ⟨h.p, h.m, h.ps, h.ms, ⟨ownsRow_base h.sh.row hb, h.sh.ok⟩⟩
theorem EsM.base {w : World} {B B' : Nat} {v : Value} {es : List Ent} (h : EsM w B v es) (hb : B' ≤ B) : EsM w B' v es := by
  obtain ⟨T, h1, h2, h3⟩ := h
  exact ⟨T, h1, ownsRow_base h2 hb, fun p hp => (h3 p hp).base hb⟩
theorem PsM.base {w : World} {B B' : Nat} {v : Value} {ps : List Prm} (h : PsM w B v ps) (hb : B' ≤ B) : PsM w B' v ps := ⟨ownsRow_base h.1 hb, h.2⟩
theorem HM.base {w : World} {B B' : Nat} {x : HV} {h : Hst} (q : HM w B x h) (hb : B' ≤ B) : HM w B' x h := ⟨q.nm, q.rt, q.hs, q.rs, q.es.base hb, q.ps.base hb⟩
theorem HsM.base {w : World} {B B' : Nat} {v : Value} {hs : List Hst} (h : HsM w B v hs) (hb : B' ≤ B) : HsM w B' v hs := by
  obtain ⟨T, h1, h2, h3⟩ := h
  exact ⟨T, h1, ownsRow_base h2 hb, fun p hp => (h3 p hp).base hb⟩
theorem SvM.base {w : World} {B B' : Nat} {v : Value} {ss : List ByteArray} (h : SvM w B v ss) (hb : B' ≤ B) : SvM w B' v ss := ⟨ownsRow_base h.1 hb, h.2⟩
/-- Two rows of different kinds lie apart. -/
theorem rows_apart {w : World} {B B' : Nat} {e e' : TypeId} {s s' n n' : Nat} {v v' : Value} {xs ys : List Value} (h : w.ownsRow B e s v n xs) (h' : w.ownsRow B' e' s' v' n' ys) (he : e ≠ e') {k : Nat} (h1 : v.ownBlock = some k) (h2 : v'.ownBlock = some k) : False :=
  Any.ne ⟨xs, h⟩ ⟨ys, h'⟩ he h1 h2 rfl
theorem EsT.push {w w3 : World} {B : Nat} {v v3 : Value} {T : List (EV × Ent)} {x : EV} {e : Ent} (h : EsT w B v T) (hx : EM w B x e) (hr : w3.ownsRow B 85 3 v3 (T.length + 1) ((T.map (·.1)).flatMap evc ++ evc x)) (t : Tch (fun k => v.ownBlock = some k) w w3) : EsT w3 B v3 (T ++ [(x, e)]) :=
  ⟨by rw [List.length_append, List.map_append, List.flatMap_append]; simpa using hr, fun p hp => by
    rcases List.mem_append.1 hp with q | q
    · exact (h.el p q).tch t (fun k q1 q2 => rows_apart h.row (h.el p q).sh.row (by decide) q2 q1)
    · rw [List.mem_singleton.1 q]; exact hx.tch t (fun k q1 q2 => rows_apart h.row hx.sh.row (by decide) q2 q1)⟩
theorem EsT.all {w w' : World} {B : Nat} {v : Value} {T : List (EV × Ent)} {S : Nat → Prop} (h : EsT w B v T) (t : Tch S w w') (hs : ∀ k, B ≤ k → ¬ S k) : EsT w' B v T := ⟨ownsRow_tch h.row t (fun k q => hs k (h.row.lt k q).1), fun p hp => (h.el p hp).all t hs⟩
theorem EsT.below {w w' : World} {B : Nat} {v : Value} {T : List (EV × Ent)} (h : EsT w B v T) (hb : Below w.heap.size w w') : EsT w' B v T := h.all (Tch.of_below (S := No) hb) (fun _ _ q => q)
/-- A store into a block of another kind. -/
theorem EsT.tch {w w' : World} {B g : Nat} {v : Value} {T : List (EV × Ent)} {cs : Array Value} {ty : TypeId} (h : EsT w B v T) (hg : w.heap[g]? = some (.cells cs ty (0, 0))) (h1 : ty ≠ 85) (h2 : ty ≠ 73) (t : Tch (fun k => k = g) w w') : EsT w' B v T :=
  ⟨ownsRow_tch h.row t (fun k q q2 => row_block_ne h.row hg (fun e => h1 e.symm) k q q2), fun p hp => (h.el p hp).tch t (fun k q q2 => row_block_ne (h.el p hp).sh.row hg (fun e => h2 e.symm) k q q2)⟩
theorem PsM.push {w3 : World} {B : Nat} {v v3 : Value} {ps : List Prm} {x : Prm} {w : World} (h : PsM w B v ps) (h1 : x.path.size ≤ maxLen) (h2 : x.method.size ≤ maxLen) (hr : w3.ownsRow B 99 3 v3 (ps.length + 1) (ps.flatMap pvc ++ pvc x)) : PsM w3 B v3 (ps ++ [x]) :=
  ⟨by rw [List.length_append, List.flatMap_append]; simpa using hr, fun p hp => by
    rcases List.mem_append.1 hp with q | q
    · exact h.2 p q
    · rw [List.mem_singleton.1 q]; exact ⟨h1, h2⟩⟩
theorem PsM.below {w w' : World} {B : Nat} {v : Value} {ps : List Prm} (h : PsM w B v ps) (hb : Below w.heap.size w w') : PsM w' B v ps := h.all (Tch.of_below (S := No) hb) (fun _ _ q => q)
theorem PsM.tch {w w' : World} {B g : Nat} {v : Value} {ps : List Prm} {cs : Array Value} {ty : TypeId} (h : PsM w B v ps) (hg : w.heap[g]? = some (.cells cs ty (0, 0))) (h1 : ty ≠ 99) (t : Tch (fun k => k = g) w w') : PsM w' B v ps := ⟨ownsRow_tch h.1 t (fun k q q2 => row_block_ne h.1 hg (fun e => h1 e.symm) k q q2), h.2⟩
theorem HM.below {w w' : World} {B : Nat} {x : HV} {h : Hst} (q : HM w B x h) (hb : Below w.heap.size w w') : HM w' B x h := q.all (Tch.of_below (S := No) hb) (fun _ _ q => q)
end Go.Ck
namespace Go.Proofs.Ytjepgpocmnijiaa
open Go.RowKit
theorem info85 : (Try.prog.info? 85).map (fun i => (i.zero, i.size, i.bytes)) = some (some (.agg #[.string ⟨#[]⟩, .string ⟨#[]⟩, .slice none 0 0]), 3, 56) := by kernel_rfl
theorem info99 : (Try.prog.info? 99).map (fun i => (i.zero, i.size, i.bytes)) = some (some (.agg #[.string ⟨#[]⟩, .string ⟨#[]⟩, .bool false]), 3, 40) := by kernel_rfl
theorem info83 : (Try.prog.info? 83).map (fun i => (i.zero, i.size, i.bytes)) = some (some (.agg #[.string ⟨#[]⟩, .string ⟨#[]⟩, .slice none 0 0, .slice none 0 0]), 4, 80) := by kernel_rfl
end Go.Proofs.Ytjepgpocmnijiaa
end
