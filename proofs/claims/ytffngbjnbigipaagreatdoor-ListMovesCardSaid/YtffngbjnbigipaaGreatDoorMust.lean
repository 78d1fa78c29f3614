/- list's reader: its method must. -/
import Derived.Test.YtffngbjnbigipaaGreatDoorIs
namespace Go.Proofs.YtffngbjnbigipaaGreatDoor
open Go.RowKit Go.Lib
set_option linter.unusedSimpArgs false
set_option linter.unusedVariables false
set_option linter.unnecessarySimpa false
set_option maxRecDepth 100000

set_option maxHeartbeats 1000000 in
theorem must_yes (B : Nat) (s : ByteArray) (k : Nat) (v : Value) (long : Bool) (w : World) (h : RS B s k v false long w) (hk : k < s.size) (hs : s.size ≤ 1000000000000) :
    Calls Tryz.prog 121 #[.pointer (some ⟨B, 0, none⟩), .int .u8 (s[k].toNat : Int)] w fun e w' => e = .returned (.tuple #[]) ∧ RS B s (k + 1) v false long w' ∧ But B w w' := by
  have HI := Lib.hid (is_yes B s k v long w h hk hs)
  clear h
  go_enter Tryz.func121, Tryz.ntmps121
  go_wp2_with fail
  refine HI.out.mono ?_
  rintro e w2 ⟨rfl, hr, hb⟩
  have HR := Lib.hid hr
  clear hr
  go_wp2
  go_end0
  exact ⟨rfl, HR.out, hb⟩
set_option maxHeartbeats 1000000 in
/-- the byte is not there: the reader is wrong from now on. -/
theorem must_no (B : Nat) (s : ByteArray) (k : Nat) (v : Value) (wrong long : Bool) (c : Nat) (w : World) (h : RS B s k v wrong long w)
    (hi : Calls Tryz.prog 72 #[.pointer (some ⟨B, 0, none⟩), .int .u8 (c : Int)] w fun e w' => e = .returned (.bool false) ∧ Below w.heap.size w w') :
    Calls Tryz.prog 121 #[.pointer (some ⟨B, 0, none⟩), .int .u8 (c : Int)] w fun e w' => e = .returned (.tuple #[]) ∧ RS B s k v true long w' ∧ But B w w' := by
  have HI := Lib.hid hi
  have HH := Lib.hid h
  clear h hi
  go_enter Tryz.func121, Tryz.ntmps121
  go_wp2_with fail
  refine HI.out.mono ?_
  rintro e w2 ⟨rfl, hb⟩
  have HF := Lib.hid (fail_any B s k v wrong long w2 (HH.out.below hb))
  go_wp2_with fail
  refine HF.out.mono ?_
  rintro e w3 ⟨rfl, hr, hb3⟩
  have HR := Lib.hid hr
  clear hr
  go_wp2
  go_end0
  exact ⟨rfl, HR.out, (But.of_below hb).trans hb3⟩
end Go.Proofs.YtffngbjnbigipaaGreatDoor
