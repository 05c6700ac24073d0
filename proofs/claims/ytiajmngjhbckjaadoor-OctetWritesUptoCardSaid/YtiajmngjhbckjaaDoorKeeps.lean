/- What stays apart from some blocks; of no program. By this session. -/
import Derived.Test.YtiajmngjhbckjaaDoorMore
namespace Go.Proofs.YtiajmngjhbckjaaDoor
open Go.RowKit
/-- The blocks of F apart, all old memory stays. -/
structure Keeps (F : List Nat) (w w' : World) : Prop where
  os : w'.os = w.os
  tape : w'.tape = w.tape
  output : w'.output = w.output
  size : w.heap.size ≤ w'.heap.size
  block : ∀ k, k < w.heap.size → k ∉ F → w'.heap[k]? = w.heap[k]?
theorem Keeps.refl (F : List Nat) (w : World) : Keeps F w w := ⟨rfl, rfl, rfl, Nat.le_refl _, fun _ _ _ => rfl⟩
theorem Keeps.trans {F F' : List Nat} {w w1 w2 : World} (h : Keeps F w w1) (h' : Keeps F' w1 w2) (hF : ∀ x ∈ F', x ∈ F ∨ w.heap.size ≤ x) : Keeps F w w2 :=
  ⟨h'.os.trans h.os, h'.tape.trans h.tape, h'.output.trans h.output, Nat.le_trans h.size h'.size, fun k hk hn =>
    (h'.block k (Nat.lt_of_lt_of_le hk h.size) (fun hm => (hF k hm).elim hn (fun hle => by omega))).trans (h.block k hk hn)⟩
theorem Keeps.mono {F F' : List Nat} {w w' : World} (h : Keeps F w w') (hF : ∀ x ∈ F, x ∈ F' ∨ w.heap.size ≤ x) : Keeps F' w w' := (Keeps.refl F' w).trans h hF
theorem Keeps.alloc {F : List Nat} {w w' : World} (h : Keeps F w w') (o : Obj) : Keeps F w (w'.alloc o) :=
  ⟨h.os, h.tape, h.output, Nat.le_trans h.size (by simp), fun k hk hn => (Below.heap_alloc w' o k (Nat.lt_of_lt_of_le hk h.size)).trans (h.block k hk hn)⟩
theorem Keeps.setCell {F : List Nat} {w w' : World} (h : Keeps F w w') {p : Addr} (hp : p.block ∈ F ∨ w.heap.size ≤ p.block) (u : Value) : Keeps F w (w'.setCell p u) :=
  ⟨h.os, h.tape, h.output, by simpa [World.setCell] using h.size, fun k hk hn => (Below.heap_setCell w' p u k (fun e => hp.elim (fun hm => hn (e ▸ hm)) (fun hle => by omega))).trans (h.block k hk hn)⟩
theorem Keeps.drewN {F : List Nat} {w w' : World} (h : Keeps F w w') (n : Nat) : Keeps F w (w'.drewN n) := ⟨h.os, h.tape, h.output, h.size, h.block⟩
theorem Keeps.as {F : List Nat} {w w1 w2 : World} (h : Keeps F w w1) (hh : w2.heap = w1.heap) (ho : w2.os = w1.os) (ht : w2.tape = w1.tape) (hu : w2.output = w1.output) : Keeps F w w2 :=
  ⟨ho.trans h.os, ht.trans h.tape, hu.trans h.output, by rw [hh]; exact h.size, fun k hk hn => by rw [hh]; exact h.block k hk hn⟩
theorem Keeps.drew {F : List Nat} {w w' : World} (h : Keeps F w w') : Keeps F w w'.drew := ⟨h.os, h.tape, h.output, h.size, h.block⟩
theorem Keeps.below {F : List Nat} {w w' : World} {B : Nat} (h : Keeps F w w') (hF : ∀ x ∈ F, B ≤ x) (hB : B ≤ w.heap.size) : Below B w w' :=
  ⟨h.os, h.tape, h.output, h.size, fun k hk => h.block k (by omega) (fun hm => by have := hF k hm; omega)⟩
theorem Keeps.blk {F : List Nat} {w w' : World} {g : Nat} {t : TypeId} {cs : Array Value} (h : Keeps F w w') (hb : Blk w g t cs) (hg : g ∉ F) : Blk w' g t cs := (h.block g hb.lt hg).trans hb
theorem Keeps.of_grown {F : List Nat} {w w' : World} {row : Option Nat} (h : w.grownBy w' row) (hr : ∀ g, row = some g → g ∈ F) : Keeps F w w' :=
  ⟨h.os, h.tape, h.output, h.size, fun k hk hn => h.block k hk (fun e => hn (hr k e.symm))⟩
end Go.Proofs.YtiajmngjhbckjaaDoor
