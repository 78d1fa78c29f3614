/- The law's fixed examples come out true, where the package's table reads as its text lays it. -/
import Derived.Test.YthnohioamefbmaaDoorPureD
import Derived.Lib.SlBytesConst
namespace Go.Proofs.YthnohioamefbmaaDoor
open Go.RowKit Go.Lib
set_option linter.unusedSimpArgs false
set_option linter.unusedVariables false

theorem kinds_cells (w : World) : Calls Tryd.prog 7 #[] w fun e w' => e = .returned (.slice (some ⟨w.heap.size, 0, none⟩) 3 3) ∧ w' = w.alloc (.cells #[.int .i64 5, .func (.func 12) #[] #[], .func (.func 14) #[] #[], .int .i64 6, .func (.func 13) #[] #[], .func (.func 15) #[] #[], .int .i64 4, .func (.func 17) #[] #[], .func (.func 16) #[] #[]] 28) := by
  go_enter Tryd.func7, Tryd.ntmps7
  go_wp2
  go_ret
  exact ⟨rfl, rfl⟩

theorem wk1 : tellL L32 5 1 [102] = [77, 89] := by decide
theorem wk2 : tellL L64 6 4 [102] = [90, 103, 61, 61] := by decide
theorem wk3 : tellL L16 4 1 [102] = [54, 54] := by decide
theorem wk4 : tellL L32 5 1 [102, 111, 111, 98, 97, 114] = [77, 90, 88, 87, 54, 89, 84, 66, 79, 73] := by decide
theorem wk5 : tellL L64 6 4 [102, 111, 111, 98, 97, 114] = [90, 109, 57, 118, 89, 109, 70, 121] := by decide
theorem wk6 : tellL L16 4 1 [102, 111, 111, 98, 97, 114] = [54, 54, 54, 102, 54, 102, 54, 50, 54, 49, 55, 50] := by decide
theorem conv_second (w : World) (o : Obj) (C : Array Value) (n c : Nat) :
    (convert 22 22 (.slice (some ⟨w.heap.size + 1, 0, none⟩) n c)).run Tryd.prog ((w.alloc o).alloc (.cells C 5)) = .ok (.slice (some ⟨w.heap.size + 1, 0, none⟩) n c) ((w.alloc o).alloc (.cells C 5 (C.size, C.size + 1))) := by
  have h := Lib.run_convert_bytes_const (P := Tryd.prog) (w.alloc o) 22 5 C n c Tryd.underlying22 Tryd.underlying5
  rw [World.size_alloc] at h
  exact h
theorem heap_last (w : World) (o : Obj) : (w.alloc o).heap[w.heap.size]? = some o := by
  show (w.heap.push o)[w.heap.size]? = _
  exact Array.getElem?_push_size
theorem cell_first (w : World) (C : Array Value) (t : TypeId) (fz : Nat × Nat) (o2 : Obj) (k : Nat) : ((w.alloc (.cells C t fz)).alloc o2).cell? ⟨w.heap.size, k, none⟩ = C[k]? := by
  have h : ((w.alloc (.cells C t fz)).alloc o2).heap[w.heap.size]? = some (.cells C t fz) := by
    rw [Below.heap_alloc _ _ _ (by rw [World.size_alloc]; omega)]; exact heap_last _ _
  simp only [World.cell?, h]; rfl
theorem cell_second (w : World) (C : Array Value) (t : TypeId) (fz : Nat × Nat) (o1 : Obj) (k : Nat) : ((w.alloc o1).alloc (.cells C t fz)).cell? ⟨w.heap.size + 1, k, none⟩ = C[k]? := by
  have h : ((w.alloc o1).alloc (.cells C t fz)).heap[w.heap.size + 1]? = some (.cells C t fz) := by
    have := heap_last (w.alloc o1) (.cells C t fz)
    rwa [World.size_alloc] at this
  simp only [World.cell?, h]; rfl
def wkW (w : World) : World := (w.alloc (Obj.cells #[Value.int IntKind.u8 102] 5 (1, 2))).alloc (Obj.cells #[Value.int IntKind.u8 102, Value.int IntKind.u8 111, Value.int IntKind.u8 111, Value.int IntKind.u8 98, Value.int IntKind.u8 97, Value.int IntKind.u8 114] 5 (6, 7))
theorem wk_facts (w : World) (hT : Tabs w) (V : World) (hb : Below (wkW w).heap.size (wkW w) V) :
    Tabs V ∧ Bytes V (.slice (some ⟨w.heap.size, 0, none⟩) 1 1) [102] ∧ Bytes V (.slice (some ⟨w.heap.size + 1, 0, none⟩) 6 6) [102, 111, 111, 98, 97, 114] ∧ Below w.heap.size w V ∧ Below (wkW w).heap.size (wkW w) V := by
  have hw : Below w.heap.size w V := (((Below.refl _ w).alloc (Nat.le_refl _) _).alloc (by simp) _).trans (hb.mono (by simp [wkW]; omega))
  have hs : w.heap.size + 2 = (wkW w).heap.size := by simp [wkW]
  refine ⟨hT.below hw, Bytes.below ⟨_, _, rfl, .inr ⟨_, _, rfl, by omega, ?_⟩⟩ hb, Bytes.below ⟨_, _, rfl, .inr ⟨_, _, rfl, by omega, ?_⟩⟩ hb, hw, hb⟩
  · intro i hi
    have hi0 : i = 0 := by simpa using hi
    subst hi0
    unfold wkW
    rw [cell_first]; rfl
  · intro i hi
    have h6 : i = 0 ∨ i = 1 ∨ i = 2 ∨ i = 3 ∨ i = 4 ∨ i = 5 := by simp at hi; omega
    have hsz : (w.alloc (Obj.cells #[Value.int IntKind.u8 102] 5 (1, 2))).heap.size = w.heap.size + 1 := by simp
    unfold wkW
    rw [cell_second]
    rcases h6 with rfl | rfl | rfl | rfl | rfl | rfl <;> rfl
set_option maxRecDepth 100000 in
set_option maxHeartbeats 4000000 in
theorem wakes_any (w : World) (hT : Tabs w) : Calls Tryd.prog 11 #[] w fun e w' => e = .returned (.bool true) ∧ Below w.heap.size w w' := by
  have kc := fun (w : World) (C : Array Value) (n c : Nat) => Lib.run_convert_bytes_const (P := Tryd.prog) w 22 5 C n c Tryd.underlying22 Tryd.underlying5
  have kc2 := fun (w : World) (o : Obj) (C : Array Value) (n c : Nat) => conv_second w o C n c
  obtain ⟨hT0, hx0, hy0, hw0, hW0⟩ := wk_facts w hT (wkW w) (Below.refl _ _)
  go_enter Tryd.func11, Tryd.ntmps11
  go_wp2_with fail
  clear kc kc2
  have hc1 := base32_any _ [102] (by decide) _ hT0 (by decide) hx0
  rw [wk1] at hc1
  refine hc1.mono ?_
  rintro e w1 ⟨rfl, hb1⟩
  clear hc1
  have hf1 := wk_facts w hT w1 (hW0.trans (hb1.mono hW0.size))
  obtain ⟨hT1, hx1, hy1, hw1, hW1⟩ := hf1
  clear hT0 hx0 hy0 hw0 hW0
  go_wp2_with fail
  have hc2 := base64_any _ [102] (by decide) _ hT1 (by decide) hx1
  rw [wk2] at hc2
  refine hc2.mono ?_
  rintro e w2 ⟨rfl, hb2⟩
  clear hc2
  have hf2 := wk_facts w hT w2 (hW1.trans (hb2.mono hW1.size))
  obtain ⟨hT2, hx2, hy2, hw2, hW2⟩ := hf2
  clear hT1 hx1 hy1 hw1 hW1
  go_wp2_with fail
  have hc3 := hex_any _ [102] (by decide) _ hT2 (by decide) hx2
  rw [wk3] at hc3
  refine hc3.mono ?_
  rintro e w3 ⟨rfl, hb3⟩
  clear hc3
  have hf3 := wk_facts w hT w3 (hW2.trans (hb3.mono hW2.size))
  obtain ⟨hT3, hx3, hy3, hw3, hW3⟩ := hf3
  clear hT2 hx2 hy2 hw2 hW2
  go_wp2_with fail
  have hc4 := base32_any _ [102, 111, 111, 98, 97, 114] (by decide) _ hT3 (by decide) hy3
  rw [wk4] at hc4
  refine hc4.mono ?_
  rintro e w4 ⟨rfl, hb4⟩
  clear hc4
  have hf4 := wk_facts w hT w4 (hW3.trans (hb4.mono hW3.size))
  obtain ⟨hT4, hx4, hy4, hw4, hW4⟩ := hf4
  clear hT3 hx3 hy3 hw3 hW3
  go_wp2_with fail
  have hc5 := base64_any _ [102, 111, 111, 98, 97, 114] (by decide) _ hT4 (by decide) hy4
  rw [wk5] at hc5
  refine hc5.mono ?_
  rintro e w5 ⟨rfl, hb5⟩
  clear hc5
  have hf5 := wk_facts w hT w5 (hW4.trans (hb5.mono hW4.size))
  obtain ⟨hT5, hx5, hy5, hw5, hW5⟩ := hf5
  clear hT4 hx4 hy4 hw4 hW4
  go_wp2_with fail
  have hc6 := hex_any _ [102, 111, 111, 98, 97, 114] (by decide) _ hT5 (by decide) hy5
  rw [wk6] at hc6
  refine hc6.mono ?_
  rintro e w6 ⟨rfl, hb6⟩
  clear hc6
  have hf6 := wk_facts w hT w6 (hW5.trans (hb6.mono hW5.size))
  obtain ⟨hT6, hx6, hy6, hw6, hW6⟩ := hf6
  clear hT5 hx5 hy5 hw5 hW5
  go_wp2
  go_ret
  exact ⟨rfl, hw6⟩
end Go.Proofs.YthnohioamefbmaaDoor
