/- addr.Normal and addr.May, for addresses of at most 10^9 bytes, where the package-level variables read as their texts lay them. -/
import Derived.Test.YtkoncmmbdlnmfaaGreatDoorPlainT
namespace Go.Proofs.YtkoncmmbdlnmfaaGreatDoor
open Go.RowKit Go.Lib
set_option linter.unusedSimpArgs false
set_option linter.unusedVariables false
set_option linter.unnecessarySimpa false
set_option maxRecDepth 100000

structure Two (B : Nat) (x y : Value) (W : World) : Prop where
  lt : B < W.heap.size
  c0 : W.cell? ⟨B, 0, none⟩ = some x
  c1 : W.cell? ⟨B, 1, none⟩ = some y
  f0 : W.frozen? ⟨B, 0, none⟩ = false
  f1 : W.frozen? ⟨B, 1, none⟩ = false
theorem Two.below {B : Nat} {x y : Value} {w W : World} (h : Two B x y w) (hb : Below w.heap.size w W) : Two B x y W :=
  ⟨Nat.lt_of_lt_of_le h.lt hb.size, (hb.cell (p := ⟨B, 0, none⟩) h.lt).trans h.c0, (hb.cell (p := ⟨B, 1, none⟩) h.lt).trans h.c1,
   (hb.frozen (p := ⟨B, 0, none⟩) h.lt).trans h.f0, (hb.frozen (p := ⟨B, 1, none⟩) h.lt).trans h.f1⟩
theorem Two.of {B : Nat} {x y : Value} {t : TypeId} {W : World} (h : W.heap[B]? = some (.cells #[x, y] t (0, 0))) : Two B x y W := by
  refine ⟨(Array.getElem?_eq_some_iff.1 h).1, ?_, ?_, ?_, ?_⟩ <;> simp [World.cell?, World.frozen?, h]
theorem Two.made (w : World) (x y : Value) (t : TypeId) : Two w.heap.size x y (w.alloc (.cells #[x, y] t)) := Two.of (heap_alloc_new w _)
theorem Two.set1 {B : Nat} {x y : Value} {W : World} (h : Two B x y W) (y' : Value) : Two B x y' (W.setCell ⟨B, 1, none⟩ y') :=
  ⟨by simpa [World.setCell] using h.lt, (World.cell?_setCell_other _ _ _ _ (by intro e; injection e with _ e2 _; cases e2)).trans h.c0, World.cell?_setCell_same _ _ _ h.c1,
   by rw [World.frozen?_setCell]; exact h.f0, by rw [World.frozen?_setCell]; exact h.f1⟩
theorem Two.set0 {B : Nat} {x y : Value} {W : World} (h : Two B x y W) (x' : Value) : Two B x' y (W.setCell ⟨B, 0, none⟩ x') :=
  ⟨by simpa [World.setCell] using h.lt, World.cell?_setCell_same _ _ _ h.c0, (World.cell?_setCell_other _ _ _ _ (by intro e; injection e with _ e2 _; cases e2)).trans h.c1,
   by rw [World.frozen?_setCell]; exact h.f0, by rw [World.frozen?_setCell]; exact h.f1⟩
theorem Two.far {B C o : Nat} {x y v : Value} {W : World} (h : Two B x y W) (hne : B ≠ C) : Two B x y (W.setCell ⟨C, o, none⟩ v) :=
  ⟨by simpa [World.setCell] using h.lt, (World.cell?_setCell_other _ _ _ _ (by intro e; injection e with e1 _ _; exact hne e1.symm)).trans h.c0, (World.cell?_setCell_other _ _ _ _ (by intro e; injection e with e1 _ _; exact hne e1.symm)).trans h.c1,
   by rw [World.frozen?_setCell]; exact h.f0, by rw [World.frozen?_setCell]; exact h.f1⟩
def pmL : List UInt8 := [112, 111, 115, 116, 109, 97, 115, 116, 101, 114]
def normL (a : List UInt8 × List UInt8) : List UInt8 × List UInt8 := (if (lowL a.1 == pmL) = true then pmL else a.1, lowL a.2)
theorem low_pm : lowL pmL = pmL := by decide
end Go.Proofs.YtkoncmmbdlnmfaaGreatDoor
