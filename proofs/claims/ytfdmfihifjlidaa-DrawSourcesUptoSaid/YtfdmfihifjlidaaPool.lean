/- Several sources in memory, none of which shares a block with another: what stays where one of them is worked on. -/
import Derived.Test.YtfdmfihifjlidaaSrcCopy
namespace Go.Tp
open Go.RowKit
set_option linter.unusedVariables false
structure En where
  T : TypeId
  b : Nat
  v : Value
  s : Sc
def ApartE (e f : En) : Prop := e.b ≠ f.b ∧ ∀ g, e.v.ownBlock = some g → f.v.ownBlock ≠ some g
theorem ApartE.symm {e f : En} (h : ApartE e f) : ApartE f e := ⟨h.1.symm, fun g h1 h2 => h.2 g h2 h1⟩
/-- All of them stand. -/
structure PoolS (w : World) (B : Nat) (l : List En) : Prop where
  all : ∀ e ∈ l, SrcM e.T w B e.b e.v e.s ∧ e.T ≠ 22
  apart : l.Pairwise ApartE
theorem PoolS.perm {w : World} {B : Nat} {l l' : List En} (h : PoolS w B l) (hp : l.Perm l') : PoolS w B l' :=
  ⟨fun e he => h.all e (hp.symm.subset he), (List.Perm.pairwise_iff (fun h => ApartE.symm h) hp).1 h.apart⟩
theorem PoolS.below {w w' : World} {B : Nat} {l : List En} (h : PoolS w B l) (hb : Below w.heap.size w w') : PoolS w' B l :=
  ⟨fun e he => ⟨src_below (h.all e he).1 hb, (h.all e he).2⟩, h.apart⟩
theorem PoolS.tail {w : World} {B : Nat} {e : En} {l : List En} (h : PoolS w B (e :: l)) : PoolS w B l :=
  ⟨fun f hf => h.all f (List.mem_cons_of_mem _ hf), (List.pairwise_cons.1 h.apart).2⟩
/-- One is worked on: its block and its row may be written, its new row is the old one, none, or new. -/
theorem PoolS.work {w w' : World} {B : Nat} {e : En} {l : List En} {v' : Value} {s' : Sc} {c : Option Nat} (h : PoolS w B (e :: l)) (hs : SrcM e.T w' B e.b v' s') (hb : But w w' e.b c) (hc : ∀ k, c = some k → e.v.ownBlock = some k)
    (hv : v'.ownBlock = e.v.ownBlock ∨ v'.ownBlock = none ∨ ∃ g, v'.ownBlock = some g ∧ w.heap.size ≤ g) : PoolS w' B (⟨e.T, e.b, v', s'⟩ :: l) := by
  have he := h.all e List.mem_cons_self
  have hp := List.pairwise_cons.1 h.apart
  refine ⟨fun f hf => ?_, List.pairwise_cons.2 ⟨fun f hf => ⟨(hp.1 f hf).1, fun g hg hfg => ?_⟩, hp.2⟩⟩
  · rcases List.mem_cons.1 hf with rfl | hf
    · exact ⟨hs, he.2⟩
    · have hfa := h.all f (List.mem_cons_of_mem _ hf)
      have hap := hp.1 f hf
      refine ⟨src_but hfa.1 hb hap.1.symm (fun hcb => ?_) (fun hr => ?_) (fun g hg hcg => ?_), hfa.2⟩
      · exact row_src hfa.2 hfa.1 he.1.row (hc _ hcb) rfl
      · exact row_src he.2 he.1 hfa.1.row hr rfl
      · exact hap.2 g (hc _ hcg) hg
  · dsimp only at hg
    rcases hv with h1 | h1 | ⟨g', h1, h2⟩
    · rw [h1] at hg; exact (hp.1 f hf).2 g hg hfg
    · rw [h1] at hg; cases hg
    · rw [h1] at hg
      cases hg
      obtain ⟨_, _, _, hlt⟩ := row_block (h.all f (List.mem_cons_of_mem _ hf)).1.row hfg
      omega
/-- A new one. -/
theorem PoolS.add {w w' : World} {B : Nat} {e : En} {l : List En} (h : PoolS w B l) (hb : Below w.heap.size w w') (hs : SrcM e.T w' w.heap.size e.b e.v e.s) (hT : e.T ≠ 22) (hB : B ≤ w.heap.size) : PoolS w' B (e :: l) := by
  have h' := h.below hb
  refine ⟨fun f hf => ?_, List.pairwise_cons.2 ⟨fun f hf => ⟨?_, fun g hg hfg => ?_⟩, h'.apart⟩⟩
  · rcases List.mem_cons.1 hf with rfl | hf
    · exact ⟨⟨hs.blk, viewRow_mono hs.row hB, Nat.le_trans hB hs.hb⟩, hT⟩
    · exact h'.all f hf
  · have := (Array.getElem?_eq_some_iff.1 (h.all f hf).1.blk).1
    have := hs.hb
    omega
  · obtain ⟨_, _, h1, _⟩ := row_block hs.row hg
    obtain ⟨_, _, _, h2⟩ := row_block (h.all f hf).1.row hfg
    omega
/-- A row that is none of theirs. -/
def NotRow (l : List En) (g : Nat) : Prop := ∀ e ∈ l, e.v.ownBlock ≠ some g
/-- Such a row is written. -/
theorem PoolS.foreign {w w' : World} {B g : Nat} {l : List En} {n : Nat} {xs : List Value} {u : Value} (h : PoolS w B l) (hu : viewRow w 0 22 u n xs) (hg : u.ownBlock = some g) (hn : NotRow l g) (hb : But w w' g none) : PoolS w' B l :=
  ⟨fun e he => ⟨src_but (h.all e he).1 hb (fun e' => row_src (h.all e he).2 (h.all e he).1 hu hg e'.symm) (by simp) (hn e he) (fun _ _ h => by cases h), (h.all e he).2⟩, h.apart⟩
end Go.Tp
