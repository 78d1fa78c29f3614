/- addr.Compare and addr.Same, for addresses of at most 10^9 bytes; the law's Few and sign. -/
import Derived.Test.YtffngbjnbigipaaGreatDoorCmp
import Derived.Deep.RegionLaw
namespace Go.Proofs.YtffngbjnbigipaaGreatDoor
open Go.RowKit Go.Lib
set_option linter.unusedSimpArgs false
set_option linter.unusedVariables false
set_option linter.unnecessarySimpa false
set_option maxRecDepth 100000

def nS (X : ByteArray) : ByteArray := ⟨(if (lowL X.data.toList == pmL) = true then pmL else X.data.toList).toArray⟩
def lS (Y : ByteArray) : ByteArray := ⟨(lowL Y.data.toList).toArray⟩
theorem back_text (X : ByteArray) : (⟨X.data.toList.toArray⟩ : ByteArray) = X := by cases X; simp
theorem Normal_S (X Y : ByteArray) (hx : X.size ≤ 1000000000) (hy : Y.size ≤ 1000000000) (w : World) : Calls Tryz.prog 34 #[.agg #[.string X, .string Y]] w fun e w' => e = .returned (.agg #[.string (nS X), .string (lS Y)]) ∧ Below w.heap.size w w' := by
  have h := Normal_any (X.data.toList, Y.data.toList) (by rw [list_len]; exact hx) (by rw [list_len]; exact hy) w
  simp only [addrV, normL, back_text] at h
  exact h
def ordS (X Y X' Y' : ByteArray) : Int := ordL (normL (X.data.toList, Y.data.toList)) (normL (X'.data.toList, Y'.data.toList))
theorem ordS_eq (X Y X' Y' : ByteArray) : ordS X Y X' Y' = if cmpL (lS Y).data.toList (lS Y').data.toList = 0 then cmpL (nS X).data.toList (nS X').data.toList else cmpL (lS Y).data.toList (lS Y').data.toList := rfl
theorem two_of4 {B C : Nat} {x y x' y' : Value} {w W : World} (h : w.cell? ⟨B, 0, none⟩ = some x ∧ w.cell? ⟨B, 1, none⟩ = some y ∧ w.cell? ⟨C, 0, none⟩ = some x' ∧ w.cell? ⟨C, 1, none⟩ = some y') (hb : Below w.heap.size w W) :
    W.cell? ⟨B, 0, none⟩ = some x ∧ W.cell? ⟨B, 1, none⟩ = some y ∧ W.cell? ⟨C, 0, none⟩ = some x' ∧ W.cell? ⟨C, 1, none⟩ = some y' :=
  ⟨(hb.cell (p := ⟨B, 0, none⟩) (World.block_lt_of_cell? w _ h.1)).trans h.1, (hb.cell (p := ⟨B, 1, none⟩) (World.block_lt_of_cell? w _ h.2.1)).trans h.2.1,
   (hb.cell (p := ⟨C, 0, none⟩) (World.block_lt_of_cell? w _ h.2.2.1)).trans h.2.2.1, (hb.cell (p := ⟨C, 1, none⟩) (World.block_lt_of_cell? w _ h.2.2.2)).trans h.2.2.2⟩
set_option maxHeartbeats 8000000 in
theorem SameA_any (X Y X' Y' : ByteArray) (h1 : X.size ≤ 1000000000) (h2 : Y.size ≤ 1000000000) (h3 : X'.size ≤ 1000000000) (h4 : Y'.size ≤ 1000000000) (w : World) :
    Calls Tryz.prog 20 #[.agg #[.string X, .string Y], .agg #[.string X', .string Y']] w fun e w' => e = .returned (.bool (decide (ordS X Y X' Y' = 0))) ∧ Below w.heap.size w w' := by
  have HN := Lib.hid (fun X Y hx hy W => Normal_S X Y hx hy W)
  have hz : decide (ordS X Y X' Y' = 0) = ((nS X).toList == (nS X').toList && (lS Y).toList == (lS Y').toList) := by
    rw [Bool.eq_iff_iff]
    simp only [decide_eq_true_eq, Bool.and_eq_true, beq_iff_eq, ByteArray.toList_eq]
    unfold ordS
    rw [ord_zero]
    simp only [normL, Prod.mk.injEq]
    rfl
  rw [hz]
  clear hz
  have ht1 := Two.made w (.string X) (.string Y) 30
  have hb1 := alloc_below w (.cells #[.string X, .string Y] 30)
  have hs1 : (w.alloc (.cells #[.string X, .string Y] 30)).heap.size = w.heap.size + 1 := World.size_alloc _ _
  generalize hw1 : w.alloc (.cells #[.string X, .string Y] 30) = w1 at ht1 hb1 hs1
  have ht2 := Two.made w1 (.string X') (.string Y') 30
  have hb2' := alloc_below w1 (.cells #[.string X', .string Y'] 30)
  generalize hw2 : w1.alloc (.cells #[.string X', .string Y'] 30) = w2 at ht2 hb2'
  rw [hs1] at ht2
  have ht1 := ht1.below hb2'
  have hb2 : Below w.heap.size w w2 := hb1.trans (hb2'.mono hb1.size)
  have hS2 := two_of4 ⟨ht1.c0, ht1.c1, ht2.c0, ht2.c1⟩ (drew_below w2)
  have hbd := hb2.trans ((drew_below w2).mono hb2.size)
  clear ht1 ht2 hb1 hb2'
  generalize hA : (nS X).toList = A
  generalize hA' : (nS X').toList = A'
  generalize hB : (lS Y).toList = B
  generalize hB' : (lS Y').toList = B'
  by_cases e1 : A = A'
  · by_cases e2 : B = B'
    · subst e1
      subst e2
      rw [show ((A == A) && (B == B)) = true by simp]
      go_enter Tryz.func20, Tryz.ntmps20
      go_wp2_with fail
      go_region_held3 (fun W => W.cell? ⟨w.heap.size, 0, none⟩ = some (.string X) ∧ W.cell? ⟨w.heap.size, 1, none⟩ = some (.string Y) ∧ W.cell? ⟨w.heap.size + 1, 0, none⟩ = some (.string X') ∧ W.cell? ⟨w.heap.size + 1, 1, none⟩ = some (.string Y'))
        (first | go_keep | exact hS4 | exact hS3)
        (first
          | (go_at_call 34; refine (HN.out _ _ (by assumption) (by assumption) _).mono ?_; rintro e w3 ⟨rfl, hb3⟩; have hS3 := two_of4 hS2 hb3; have hb3w := hbd.trans (hb3.mono hbd.size))
          | (go_at_call 34; refine (HN.out _ _ (by assumption) (by assumption) _).mono ?_; rintro e w4 ⟨rfl, hb4⟩; have hS4 := two_of4 hS3 hb4; have hb4w := hb3w.trans (hb4.mono hb3w.size)))
      go_wp2
      go_ret
      exact ⟨by first | rfl | simp [*], hb4w⟩
    · rw [show ((A == A') && (B == B')) = false by simp [e2]]
      subst e1
      go_enter Tryz.func20, Tryz.ntmps20
      go_wp2_with fail
      go_region_held3 (fun W => W.cell? ⟨w.heap.size, 0, none⟩ = some (.string X) ∧ W.cell? ⟨w.heap.size, 1, none⟩ = some (.string Y) ∧ W.cell? ⟨w.heap.size + 1, 0, none⟩ = some (.string X') ∧ W.cell? ⟨w.heap.size + 1, 1, none⟩ = some (.string Y'))
        (first | go_keep | exact hS4 | exact hS3)
        (first
          | (go_at_call 34; refine (HN.out _ _ (by assumption) (by assumption) _).mono ?_; rintro e w3 ⟨rfl, hb3⟩; have hS3 := two_of4 hS2 hb3; have hb3w := hbd.trans (hb3.mono hbd.size))
          | (go_at_call 34; refine (HN.out _ _ (by assumption) (by assumption) _).mono ?_; rintro e w4 ⟨rfl, hb4⟩; have hS4 := two_of4 hS3 hb4; have hb4w := hb3w.trans (hb4.mono hb3w.size)))
      go_wp2
      go_ret
      exact ⟨by first | rfl | simp [*], hb4w⟩
  · rw [show ((A == A') && (B == B')) = false by simp [e1]]
    go_enter Tryz.func20, Tryz.ntmps20
    go_wp2_with fail
    go_region_held3 (fun W => W.cell? ⟨w.heap.size, 0, none⟩ = some (.string X) ∧ W.cell? ⟨w.heap.size, 1, none⟩ = some (.string Y) ∧ W.cell? ⟨w.heap.size + 1, 0, none⟩ = some (.string X') ∧ W.cell? ⟨w.heap.size + 1, 1, none⟩ = some (.string Y'))
      (first | go_keep | exact hS4 | exact hS3)
      (first
        | (go_at_call 34; refine (HN.out _ _ (by assumption) (by assumption) _).mono ?_; rintro e w3 ⟨rfl, hb3⟩; have hS3 := two_of4 hS2 hb3; have hb3w := hbd.trans (hb3.mono hbd.size))
        | (go_at_call 34; refine (HN.out _ _ (by assumption) (by assumption) _).mono ?_; rintro e w4 ⟨rfl, hb4⟩; have hS4 := two_of4 hS3 hb4; have hb4w := hb3w.trans (hb4.mono hb3w.size)))
    go_wp2
    go_ret
    exact ⟨by first | rfl | simp [*], hb4w⟩
end Go.Proofs.YtffngbjnbigipaaGreatDoor
