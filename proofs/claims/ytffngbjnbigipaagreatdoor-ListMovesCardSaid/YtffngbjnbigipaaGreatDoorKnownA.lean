/- addr.Below, and what the closed statement AddrKnown asks of addr's functions at its examples. -/
import Derived.Test.YtffngbjnbigipaaGreatDoorCom
import Derived.Test.YtffngbjnbigipaaGreatDoorWakes
import Derived.Test.YtffngbjnbigipaaGreatDoorTxt
namespace Go.Proofs.YtffngbjnbigipaaGreatDoor
open Go.RowKit Go.Lib
set_option linter.unusedSimpArgs false
set_option linter.unusedVariables false
set_option linter.unnecessarySimpa false
set_option maxRecDepth 100000

def belL (a b : List UInt8) : Bool := Lib.hasSuffix (lowL a) (46 :: lowL b) && decide (b.length + 1 < a.length)
set_option maxHeartbeats 2000000 in
theorem Below_any (s t : ByteArray) (hs : s.size ≤ 1000000000) (ht : t.size ≤ 1000000000) (w : World) : Calls Tryz.prog 21 #[.string s, .string t] w fun e w' => e = .returned (.bool (belL s.data.toList t.data.toList)) ∧ Below w.heap.size w w' := by
  have H1 := Lib.hid (Lower_any s (by omega) w)
  have H2 := Lib.hid (fun W => Lower_any t (by omega) W)
  have hls : (lowL s.data.toList).length = s.size := by unfold lowL; rw [List.length_map, list_len]
  have hlt : (lowL t.data.toList).length = t.size := by unfold lowL; rw [List.length_map, list_len]
  have e1 : ∀ l : List UInt8, (⟨l.toArray⟩ : ByteArray).size = l.length := fun l => by simp [ByteArray.size]
  have hadd : ∀ w, (Op.stringOp .add ⟨#[46]⟩ ⟨(lowL t.data.toList).toArray⟩).run Tryz.prog w = .ok (.string (⟨#[46]⟩ ++ ⟨(lowL t.data.toList).toArray⟩)) w := fun w => run_string_add_sum w _ _ (by have h2 := e1 (lowL t.data.toList); rw [hlt] at h2; have h1 : (⟨#[46]⟩ : ByteArray).size = 1 := rfl; omega)
  have H3 := Lib.hid (fun W => Tryz.strings_HasSuffix ⟨(lowL s.data.toList).toArray⟩ (⟨#[46]⟩ ++ ⟨(lowL t.data.toList).toArray⟩) W (by rw [e1, hls]; omega))
  have e2 : (⟨#[46]⟩ ++ ⟨(lowL t.data.toList).toArray⟩ : ByteArray).data.toList = 46 :: lowL t.data.toList := by
    rw [ByteArray.data_append, Array.toList_append]
    rfl
  rw [e2, List.toList_toArray] at H3
  have hb : belL s.data.toList t.data.toList = (Lib.hasSuffix (lowL s.data.toList) (46 :: lowL t.data.toList) && decide (t.size + 1 < s.size)) := by unfold belL; rw [list_len, list_len]
  rw [hb]
  have hw : IntKind.i64.wrap ((t.size : Int) + 1) = (t.size : Int) + 1 := by rw [IntKind.wrap_i64]; omega
  clear e2 hls hlt e1 hb
  generalize lowL s.data.toList = A at H1 H3 ⊢
  generalize lowL t.data.toList = B at H2 H3 hadd ⊢
  by_cases hl : t.size + 1 < s.size
  · have hl1 : (t.size : Int) + 1 < (s.size : Int) := by omega
    rw [decide_eq_true hl]
    have HL := Lib.hid hl
    clear hl
    cases hX : Lib.hasSuffix A (46 :: B) with
    | true =>
      rw [hX] at H3
      go_enter Tryz.func21, Tryz.ntmps21
      go_wp2_with fail
      refine H1.out.mono ?_
      rintro e w1 ⟨rfl, hb1⟩
      go_wp2_with fail
      refine (H2.out _).mono ?_
      rintro e w2 ⟨rfl, hb2⟩
      have hb12 := hb1.trans (hb2.mono hb1.size)
      go_wp2_with fail
      refine (H3.out _).mono ?_
      rintro e w3 ⟨rfl, hw3⟩
      rw [hw3]
      clear hw3
      go_wp2
      go_ret
      first
        | exact ⟨rfl, hb12⟩
        | (refine ⟨?_, hb12⟩; simp [hl1])
    | false =>
      rw [hX] at H3
      go_enter Tryz.func21, Tryz.ntmps21
      go_wp2_with fail
      refine H1.out.mono ?_
      rintro e w1 ⟨rfl, hb1⟩
      go_wp2_with fail
      refine (H2.out _).mono ?_
      rintro e w2 ⟨rfl, hb2⟩
      have hb12 := hb1.trans (hb2.mono hb1.size)
      go_wp2_with fail
      refine (H3.out _).mono ?_
      rintro e w3 ⟨rfl, hw3⟩
      rw [hw3]
      clear hw3
      go_wp2
      go_ret
      first
        | exact ⟨rfl, hb12⟩
        | (refine ⟨?_, hb12⟩; simp [hl1])
  · have hl1 : ¬ (t.size : Int) + 1 < (s.size : Int) := by omega
    rw [decide_eq_false hl, Bool.and_false]
    have HL := Lib.hid hl
    clear hl
    cases hX : Lib.hasSuffix A (46 :: B) with
    | true =>
      rw [hX] at H3
      go_enter Tryz.func21, Tryz.ntmps21
      go_wp2_with fail
      refine H1.out.mono ?_
      rintro e w1 ⟨rfl, hb1⟩
      go_wp2_with fail
      refine (H2.out _).mono ?_
      rintro e w2 ⟨rfl, hb2⟩
      have hb12 := hb1.trans (hb2.mono hb1.size)
      go_wp2_with fail
      refine (H3.out _).mono ?_
      rintro e w3 ⟨rfl, hw3⟩
      rw [hw3]
      clear hw3
      go_wp2
      go_ret
      first
        | exact ⟨rfl, hb12⟩
        | (refine ⟨?_, hb12⟩; simp [hl1])
    | false =>
      rw [hX] at H3
      go_enter Tryz.func21, Tryz.ntmps21
      go_wp2_with fail
      refine H1.out.mono ?_
      rintro e w1 ⟨rfl, hb1⟩
      go_wp2_with fail
      refine (H2.out _).mono ?_
      rintro e w2 ⟨rfl, hb2⟩
      have hb12 := hb1.trans (hb2.mono hb1.size)
      go_wp2_with fail
      refine (H3.out _).mono ?_
      rintro e w3 ⟨rfl, hw3⟩
      rw [hw3]
      clear hw3
      go_wp2
      go_ret
      first
        | exact ⟨rfl, hb12⟩
        | (refine ⟨?_, hb12⟩; simp [hl1])
theorem par3 : parseL (⟨#[34, 97, 46, 98, 34, 64, 99]⟩ : ByteArray).data.toList = ([97, 46, 98], [99], 0) := by decide +kernel
theorem ktext (x y : List UInt8) (z : List UInt8) (h : textL (x, y) = z) (hx : x.length ≤ 1000000000) (hy : y.length ≤ 1000000000) (w : World) (hE : Env w) : Calls Tryz.prog 17 #[.agg #[.string ⟨x.toArray⟩, .string ⟨y.toArray⟩]] w fun e w' => e = .returned (.string ⟨z.toArray⟩) ∧ Below w.heap.size w w' := by
  have := Text_any (x, y) hx hy w hE
  rw [h] at this
  exact this
theorem txt1 : textL ([97, 46, 98], [99]) = [97, 46, 98, 64, 99] := by decide +kernel
theorem txt2 : textL ([97, 92], [98]) = [34, 97, 92, 92, 34, 64, 98] := by decide +kernel
theorem txt3 : textL ([97], [98, 95]) = [] := by decide +kernel
theorem txt4 : textL ([], [98]) = [] := by decide +kernel
theorem may3 : mayL ([127], [98]) = false := by decide +kernel
theorem kmay (w : World) (hE : Env w) : Calls Tryz.prog 18 #[.agg #[.string ⟨#[127]⟩, .string ⟨#[98]⟩]] w fun e w' => e = .returned (.bool false) ∧ Below w.heap.size w w' := by
  have := May_any ([127], [98]) (by decide) (by decide) w hE
  rw [may3] at this
  exact this
theorem ord3 : ordS ⟨#[122]⟩ ⟨#[65]⟩ ⟨#[97]⟩ ⟨#[98]⟩ < 0 := by decide +kernel
theorem ord4 : ordS ⟨#[90]⟩ ⟨#[98]⟩ ⟨#[97]⟩ ⟨#[66]⟩ < 0 := by decide +kernel
theorem ord5 : decide (ordS ⟨#[65]⟩ ⟨#[98]⟩ ⟨#[97]⟩ ⟨#[98]⟩ = 0) = false := by decide +kernel
theorem bel1 : belL (⟨#[46, 98]⟩ : ByteArray).data.toList (⟨#[98]⟩ : ByteArray).data.toList = false := by decide +kernel
theorem bel2 : belL (⟨#[97, 46, 98]⟩ : ByteArray).data.toList (⟨#[66]⟩ : ByteArray).data.toList = true := by decide +kernel
theorem bel3 : belL (⟨#[]⟩ : ByteArray).data.toList (⟨#[]⟩ : ByteArray).data.toList = false := by decide +kernel
end Go.Proofs.YtffngbjnbigipaaGreatDoor
