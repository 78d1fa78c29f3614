/- list's reader: its method blank. -/
import Derived.Test.YtffngbjnbigipaaGreatDoorMust
import Derived.Test.YtffngbjnbigipaaGreatDoorListL
namespace Go.Proofs.YtffngbjnbigipaaGreatDoor
open Go.RowKit Go.Lib
set_option linter.unusedSimpArgs false
set_option linter.unusedVariables false
set_option linter.unnecessarySimpa false
set_option maxRecDepth 100000

set_option maxHeartbeats 2000000 in
theorem blank_wrong (B : Nat) (s : ByteArray) (k : Nat) (v : Value) (long : Bool) (w : World) (h : RS B s k v true long w) :
    Calls Tryz.prog 116 #[.pointer (some ⟨B, 0, none⟩)] w fun e w' => e = .returned (.tuple #[]) ∧ RS B s k v true long w' ∧ But B w w' := by
  have HH := Lib.hid h
  obtain ⟨-, c0, c1, c2, c3, c4, -⟩ := h
  go_enter Tryz.func116, Tryz.ntmps116
  go_wp2
  refine bodyPost_ret (v := .tuple #[]) (by simp [results, Tryz.results116, go_sem]) rfl ⟨rfl, HH.out, But.refl B w⟩
set_option maxHeartbeats 2000000 in
theorem blank_any (B : Nat) (s : ByteArray) (k : Nat) (v : Value) (long : Bool) (w : World) (h : RS B s k v false long w) (hk : k ≤ s.size) (hs : s.size ≤ 1000000000000) :
    Calls Tryz.prog 116 #[.pointer (some ⟨B, 0, none⟩)] w fun e w' => e = .returned (.tuple #[]) ∧ RS B s (k + (blankL (s.data.toList.drop k)).1) v (decide ((blankL (s.data.toList.drop k)).2 ≠ 0)) long w' ∧ But B w w' := by
  have hm := blank_many (s.data.toList.drop k)
  rw [List.length_drop, list_len] at hm
  have hB := fun W => Blank_any (s.extract k s.size) (by simp; omega) W
  have e1 : (s.extract k s.size).data.toList = s.data.toList.drop k := by rw [ext_drop]
  rw [e1] at hB
  generalize blankL (s.data.toList.drop k) = R at hB hm ⊢
  obtain ⟨n, er⟩ := R
  simp only [comV] at hB hm ⊢
  have HB := Lib.hid hB
  have HH := Lib.hid h
  have f1 := h.fr 1 (by decide)
  obtain ⟨-, c0, c1, c2, c3, c4, -⟩ := h
  have hk0 : (0 : Int) ≤ (k : Int) := by omega
  have hk1 : (k : Int) ≤ (s.size : Int) := by omega
  have hwr : IntKind.i64.wrap ((k : Int) + (n : Int)) = ((k + n : Nat) : Int) := by rw [IntKind.wrap_i64]; omega
  clear hB e1
  by_cases he : er = 0
  · subst he
    go_enter Tryz.func116, Tryz.ntmps116
    go_wp2_with fail
    go_quiet ((go_at_call 152; exact Calls.quiet_of_same (HB.out _)))
    go_wp2
    go_end0
    exact ⟨rfl, (HH.out.below (drewN_below w _)).at_ (k + n), (But.of_below (drewN_below w _)).set 1 _⟩
  · have he0 : ((er : Int) != 0) = true := by rw [bne_iff_ne]; omega
    have hdec : decide (er ≠ 0) = true := by simpa using he
    rw [hdec]
    go_enter Tryz.func116, Tryz.ntmps116
    go_wp2_with fail
    go_quiet ((go_at_call 152; exact Calls.quiet_of_same (HB.out _)))
    have HR := Lib.hid ((HH.out.below (drewN_below w nq)).at_ (k + n))
    have HF := Lib.hid (fail_any B s (k + n) v false long _ HR.out)
    go_wp2_with fail
    refine HF.out.mono ?_
    rintro e w3 ⟨rfl, hr, hb3⟩
    have HR3 := Lib.hid hr
    clear hr
    go_wp2
    go_end0
    exact ⟨rfl, HR3.out, ((But.of_below (drewN_below w nq)).set 1 _).trans hb3⟩
end Go.Proofs.YtffngbjnbigipaaGreatDoor
