/- Bytes made of a text, and texts made of bytes: what the walks of CodingKnown and its neighbours ask for. -/
import Derived.Test.YthnohioamefbmaaDoorTellsW
import Derived.Laws.IdiomStrings
namespace Go.Proofs.YthnohioamefbmaaDoor
open Go.RowKit Go.Lib
set_option linter.unusedSimpArgs false
set_option linter.unusedVariables false

/-- the world behind a text's conversion to bytes. -/
def cnv (w : World) (s : ByteArray) : World :=
  w.drew.alloc (.cells (bytesRow s (grownCap w s.size 0 5)) 5 ((bytesRow s (grownCap w s.size 0 5)).size, (bytesRow s (grownCap w s.size 0 5)).size + 1))
theorem cnv_run (w : World) (s : ByteArray) : (convert 9 22 (.string s)).run Tryd.prog w = .ok (.slice (some ⟨w.heap.size, 0, none⟩) s.size (grownCap w s.size 0 5)) (cnv w s) :=
  run_bytes_of_string w 9 22 5 s Tryd.underlying9 Tryd.underlying22 Tryd.underlying5
theorem cnv_below (w : World) (s : ByteArray) : Below w.heap.size w (cnv w s) := (drew_below w).trans (alloc_below w.drew _)
theorem cnv_size (w : World) (s : ByteArray) : (cnv w s).heap.size = w.heap.size + 1 := by simp [cnv]
theorem cnv_bytes (w : World) (s : ByteArray) (n cap : Nat) (hn : s.size = n) : Bytes (cnv w s) (.slice (some ⟨w.heap.size, 0, none⟩) n cap) (s.data.toList.map UInt8.toNat) := by
  subst hn
  refine ⟨some ⟨w.heap.size, 0, none⟩, cap, by simp, ?_⟩
  right
  refine ⟨w.heap.size, 0, rfl, by rw [cnv_size]; omega, fun i hi => ?_⟩
  have h : (cnv w s).heap[w.heap.size]? = some (.cells (bytesRow s (grownCap w s.size 0 5)) 5 ((bytesRow s (grownCap w s.size 0 5)).size, (bytesRow s (grownCap w s.size 0 5)).size + 1)) := heap_last w.drew _
  have hi' : i < s.data.size := by simpa using hi
  simp only [World.cell?, h]
  have hi2 : i < s.size := hi'
  have hg : s.data[i]? = some s.data[i] := Array.getElem?_eq_getElem hi'
  simp [bytesRow, Array.getElem?_append, hi2, List.getD_eq_getElem?_getD]
theorem conv_bytes {w : World} {v : Value} {out : List Nat} (hlf : ∀ x ∈ out, x < 256) (h : Bytes w v out) : (convert 22 9 v).run Tryd.prog w = .ok (.string ⟨(out.map UInt8.ofNat).toArray⟩) w := by
  obtain ⟨p, cap, rfl, hh⟩ := h
  have hin := (Bytes.isIn (cap := cap) (n := out.length) ⟨p, cap, rfl, hh⟩).2
  have := hin.convert (by simp) cap 22 5 9 Tryd.underlying22 Tryd.underlying5 Tryd.underlying9
  rw [this]
  have e : (out.map fun (x : Nat) => (x : Int)).map (fun n => UInt8.ofNat n.toNat) = out.map UInt8.ofNat := by
    rw [List.map_map]
    exact List.map_congr_left fun x _ => by simp
  exact congrArg (fun x : List UInt8 => Result.ok (Value.string ⟨x.toArray⟩) w) e
end Go.Proofs.YthnohioamefbmaaDoor
