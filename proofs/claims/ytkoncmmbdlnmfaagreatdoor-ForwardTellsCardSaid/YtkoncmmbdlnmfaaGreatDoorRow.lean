/- A slice whose elements are one cell each and lie in memory; what of it stays behind a call that writes only new memory. -/
import Derived.Test.YtkoncmmbdlnmfaaGreatDoorPure
import Derived.Lib.SplitLaws
namespace Go.Proofs.YtkoncmmbdlnmfaaGreatDoor
open Go.RowKit Go.Lib
set_option linter.unusedSimpArgs false
set_option linter.unusedVariables false

def Row (w : World) (v : Value) (xs : List Value) : Prop :=
  ∃ p cap, v = .slice p xs.length cap ∧ (xs = [] ∨ ∃ b o, p = some ⟨b, o, none⟩ ∧ b < w.heap.size ∧ ∀ (i : Nat) (h : i < xs.length), w.cell? ⟨b, o + i, none⟩ = some xs[i])
theorem Row.below {w W : World} {v : Value} {xs : List Value} (h : Row w v xs) (hb : Below w.heap.size w W) : Row W v xs := by
  obtain ⟨p, cap, rfl, h⟩ := h
  refine ⟨p, cap, rfl, ?_⟩
  rcases h with h | ⟨b, o, rfl, hlt, hc⟩
  · exact .inl h
  · exact .inr ⟨b, o, rfl, Nat.lt_of_lt_of_le hlt hb.size, fun i hi => by rw [hb.cell (p := ⟨b, o + i, none⟩) hlt]; exact hc i hi⟩
theorem alloc_below (w : World) (o : Obj) : Below w.heap.size w (w.alloc o) := (Below.refl _ w).alloc (Nat.le_refl _) _
theorem drew_below (W : World) : Below W.heap.size W W.drew := ⟨rfl, rfl, rfl, Nat.le_refl _, fun _ _ => rfl⟩
theorem drewN_below (W : World) (n : Nat) : Below W.heap.size W (W.drewN n) := ⟨rfl, rfl, rfl, Nat.le_refl _, fun _ _ => rfl⟩
theorem Row.made (w : World) (cs : List Value) (t : TypeId) (cap : Nat) : Row (w.alloc (.cells cs.toArray t)) (.slice (some ⟨w.heap.size, 0, none⟩) cs.length cap) cs := by
  refine ⟨_, cap, rfl, .inr ⟨w.heap.size, 0, rfl, by rw [World.size_alloc]; exact Nat.lt_succ_self _, fun i hi => ?_⟩⟩
  have h : (w.alloc (.cells cs.toArray t)).heap[w.heap.size]? = some (.cells cs.toArray t (0, 0)) := heap_alloc_new w _
  simp only [World.cell?, h]
  simp [hi]
theorem Row.of_owns {w : World} {B n : Nat} {t : TypeId} {v : Value} {xs : List Value} (h : w.ownsRow B t 1 v n xs) : Row w v xs := by
  obtain ⟨hl, ⟨rfl, h⟩ | ⟨g, cap, cur, rfl, hg, hh, h1, h2, h3, h4⟩⟩ := h
  · have : xs = [] := List.eq_nil_of_length_eq_zero (by omega)
    subst this
    exact ⟨none, 0, rfl, .inl rfl⟩
  · have hln : n = xs.length := by omega
    subst hln
    refine ⟨_, cap, rfl, .inr ⟨g, 0, rfl, ?_, fun i hi => ?_⟩⟩
    · exact (Array.getElem?_eq_some_iff.1 hh).1
    · have e : cur[0 + i]? = some xs[i] := by
        have : cur.toList[i]? = (cur.toList.take (xs.length * 1))[i]? := by rw [List.getElem?_take]; simp; omega
        rw [Nat.zero_add, ← Array.getElem?_toList, this, h4]
        simp [hi]
      simpa [World.cell?, hh] using e
def strV (p : List UInt8) : Value := .string ⟨p.toArray⟩
theorem Row.of_split (w : World) (c : UInt8) (s : ByteArray) :
    Row (w.alloc (.cells ((Lib.splitB ⟨#[c]⟩ 0 (Lib.countB s ⟨#[c]⟩) s).map Value.string).toArray 9)) (.slice (some ⟨w.heap.size, 0, none⟩) (Lib.countB s ⟨#[c]⟩ + 1) (Lib.countB s ⟨#[c]⟩ + 1)) ((pieces c s.data.toList).map strV) := by
  have h := Row.made w ((pieces c s.data.toList).map strV) 9 (pieces c s.data.toList).length
  rw [List.length_map] at h
  rw [splitB_pieces, splitB_length, List.map_map]
  exact h
end Go.Proofs.YtkoncmmbdlnmfaaGreatDoor
