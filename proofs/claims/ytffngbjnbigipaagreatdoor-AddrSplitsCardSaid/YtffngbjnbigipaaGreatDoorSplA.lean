/- addr.Split: what it hands back. -/
import Derived.Test.YtffngbjnbigipaaGreatDoorCutP
namespace Go.Proofs.YtffngbjnbigipaaGreatDoor
open Go.RowKit Go.Lib
set_option linter.unusedSimpArgs false
set_option linter.unusedVariables false
set_option linter.unnecessarySimpa false
set_option maxRecDepth 100000

set_option maxHeartbeats 4000000 in
theorem Split_addr (s : ByteArray) (hs : s.size ≤ 1000000) (w : World) (hE : Env w) :
    Calls Tryz.prog 28 #[.string s] w fun e w' => e = .returned (.tuple #[.string ⟨(splitL s.data.toList).1.toArray⟩, .string ⟨(splitL s.data.toList).2.1.toArray⟩, .bool (splitL s.data.toList).2.2]) ∧ Below w.heap.size w w' := by
  obtain ⟨m, hm⟩ := hE.m
  cases hl : s.data.toList with
  | nil =>
    obtain rfl : s = ⟨#[]⟩ := by
      apply ByteArray.ext
      apply Array.ext'
      rw [hl]
    simp only [splitL]
    clear hl
    go_enter Tryz.func28, Tryz.ntmps28
    go_wp2
    go_ret3
    exact ⟨rfl, Below.refl _ _⟩
  | cons c r =>
    have hne : s.toList.isEmpty = false := by rw [ByteArray.toList_eq, hl]; rfl
    have hsz : s.size = r.length + 1 := by rw [show s.size = s.data.toList.length by simp, hl]; rfl
    have e1 : (s.extract 1 s.size).data.toList = r := by
      rw [ByteArray.data_extract, Array.toList_extract, List.extract_eq_take_drop, hl]
      simp [hsz]
    have e2 : (s.extract 0 1).data.toList = [c] := by
      rw [ByteArray.data_extract, Array.toList_extract, List.extract_eq_take_drop, hl]
      simp
    have HC := Lib.hid (fun W (hm : W.cell? ⟨3, 0, none⟩ = some (.int .i64 m)) => Tryz.strings_Cut (s.extract 1 s.size) ⟨#[43]⟩ m W (by rw [ByteArray.size_extract]; omega) hm)
    rw [e1, show (⟨#[43]⟩ : ByteArray).data.toList = [43] from rfl, cut_plus] at HC
    obtain ⟨Z, hZ⟩ : ∃ Z : ByteArray, Z = ⟨(c :: (cutP r).1).toArray⟩ := ⟨_, rfl⟩
    have hz : Z = s.extract 0 1 ++ ⟨(cutP r).1.toArray⟩ := by
      rw [hZ]
      apply ByteArray.ext
      apply Array.ext'
      rw [ByteArray.data_append, Array.toList_append, e2]
      simp
    have hlen : (cutP r).1.length ≤ r.length := by
      rcases index_plus r with ⟨_, _, h3⟩ | ⟨k, _, _, _, h4, _⟩
      · rw [h3]; exact Nat.le_refl _
      · rw [h4, List.length_take]; exact Nat.min_le_right _ _
    have hadd : ∀ w, (Op.stringOp .add (s.extract 0 1) ⟨(cutP r).1.toArray⟩).run Tryz.prog w = .ok (.string Z) w := fun w => by
      rw [hz]
      exact run_string_add_sum w _ _ (by rw [ByteArray.size_extract]; show _ + (cutP r).1.length ≤ _; omega)
    simp only [splitL]
    rw [← hZ]
    have i1 : (1 : Int) ≤ (s.size : Int) := by omega
    have i0 : (0 : Int) ≤ (1 : Int) := by omega
    generalize (⟨(cutP r).1.toArray⟩ : ByteArray) = U at HC hadd
    generalize (⟨(cutP r).2.1.toArray⟩ : ByteArray) = D at HC ⊢
    generalize (cutP r).2.2 = h at HC ⊢
    have hnl : ¬ s.toList = [] := by rw [ByteArray.toList_eq, hl]; simp
    clear hz hZ hlen e1 e2 hl hsz
    go_enter Tryz.func28, Tryz.ntmps28
    go_wp2_with fail
    refine (HC.out _ hm).mono ?_
    rintro e w1 ⟨rfl, n, rfl⟩
    go_wp2
    go_ret3
    exact ⟨rfl, drewN_below _ _⟩
end Go.Proofs.YtffngbjnbigipaaGreatDoor
