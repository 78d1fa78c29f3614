/- The law's Few, and addr.Compare, for addresses of at most 10^9 bytes. -/
import Derived.Test.YtffngbjnbigipaaDoorOrd
namespace Go.Proofs.YtffngbjnbigipaaDoor
open Go.RowKit Go.Lib
set_option linter.unusedSimpArgs false
set_option linter.unusedVariables false
set_option linter.unnecessarySimpa false
set_option maxRecDepth 100000

def cutS (X : ByteArray) (n : Int) : ByteArray := X.extract 0 (min (X.size : Int) n).toNat
theorem cutS_size (X : ByteArray) (n : Nat) : (cutS X n).size ≤ n := by unfold cutS; simp; omega
set_option maxHeartbeats 8000000 in
theorem Few_any (X Y : ByteArray) (h1 : X.size ≤ 9223372036854775807) (h2 : Y.size ≤ 9223372036854775807) (w : World) :
    Calls Tryd.prog 14 #[.agg #[.string X, .string Y]] w fun e w' => e = .returned (.agg #[.string (cutS X 80), .string (cutS Y 300)]) ∧ Below w.heap.size w w' := by
  unfold cutS
  have a0 : (0 : Int) ≤ min (X.size : Int) 80 := by omega
  have a1 : min (X.size : Int) 80 ≤ (X.size : Int) := by omega
  have b0 : (0 : Int) ≤ min (Y.size : Int) 300 := by omega
  have b1 : min (Y.size : Int) 300 ≤ (Y.size : Int) := by omega
  have ht1 := Two.made w (.string X) (.string Y) 23
  have hb1 := alloc_below w (.cells #[.string X, .string Y] 23)
  have hs1 : (w.alloc (.cells #[.string X, .string Y] 23)).heap.size = w.heap.size + 1 := World.size_alloc _ _
  generalize hw1 : w.alloc (.cells #[.string X, .string Y] 23) = w1 at ht1 hb1 hs1
  have ht2 := Two.made w1 (.string ⟨#[]⟩) (.string ⟨#[]⟩) 23
  have hb2' := alloc_below w1 (.cells #[.string ⟨#[]⟩, .string ⟨#[]⟩] 23)
  generalize hw2 : w1.alloc (.cells #[.string ⟨#[]⟩, .string ⟨#[]⟩] 23) = w2 at ht2 hb2'
  rw [hs1] at ht2
  have ht1 := ht1.below hb2'
  have hb2 : Below w.heap.size w w2 := hb1.trans (hb2'.mono hb1.size)
  have hbd := hb2.trans ((drew_below w2).mono hb2.size)
  have hS2 : w2.drew.cell? ⟨w.heap.size, 0, none⟩ = some (.string X) ∧ w2.drew.cell? ⟨w.heap.size, 1, none⟩ = some (.string Y) := ⟨(ht1.below (drew_below w2)).c0, (ht1.below (drew_below w2)).c1⟩
  have U := Lib.hid ((ht1.far (C := w.heap.size + 1) (o := 0) (v := .string (X.extract 0 (min (X.size : Int) 80).toNat)) (by omega)).far (C := w.heap.size + 1) (o := 1) (v := .string (Y.extract 0 (min (Y.size : Int) 300).toNat)) (by omega))
  clear ht1
  obtain ⟨-, k0, k1, m0, m1⟩ := ht2
  clear hb1 hb2'
  go_enter Tryd.func14, Tryd.ntmps14
  go_wp2_with fail
  go_region_held3 (fun W => W.cell? ⟨w.heap.size, 0, none⟩ = some (.string X) ∧ W.cell? ⟨w.heap.size, 1, none⟩ = some (.string Y))
    (first | exact ⟨U.out.c0, U.out.c1⟩ | go_keep)
    (fail)
  all_goals
    go_wp2
    refine bodyPost_ret (v := .agg #[.string (X.extract 0 (min (X.size : Int) 80).toNat), .string (Y.extract 0 (min (Y.size : Int) 300).toNat)]) (by simp [results, Tryd.results14, go_sem, set_same _ _ _ _ k0, set_first _ _ _ _ _ _ k0 k1]) rfl ⟨rfl, ?_⟩
    exact (hbd.setCell (p := ⟨w.heap.size + 1, 0, none⟩) (Nat.le_succ _) _).setCell (p := ⟨w.heap.size + 1, 1, none⟩) (Nat.le_succ _) _
end Go.Proofs.YtffngbjnbigipaaDoor
