/- The law ListFinds, walked: it returns true for every text of at most 2^47 bytes, where the package-level variables read as their texts lay them. -/
import Derived.Test.YtffngbjnbigipaaGreatDoorRefF
namespace Go.Proofs.YtffngbjnbigipaaGreatDoor
open Go.RowKit Go.Lib
set_option linter.unusedSimpArgs false
set_option linter.unusedVariables false
set_option linter.unnecessarySimpa false
set_option maxRecDepth 100000

theorem findL_len (l : List UInt8) : (findL l).1.length ≤ 64 := by
  unfold findL
  split
  · simp
  · split
    · simp
    · split
      · simp
      · split
        · simp
        · simpa using (by omega : ¬ 64 < _)
theorem row_blockF {w : World} {p : Option Addr} {l : List Sp} {k : Nat} (h : l = [] ∨ ∃ b, p = some ⟨b, 0, none⟩ ∧ ∀ (i : Nat) (x : Sp), l[i]? = some x → SpAt w b (i * 4) x) (hk : k < l.length) :
    ∃ b, p = some ⟨b, 0, none⟩ ∧ ∀ (i : Nat) (x : Sp), l[i]? = some x → SpAt w b (i * 4) x := by
  rcases h with rfl | h
  · simp at hk
  · exact h
def FR (w : World) (n g : Nat) (v : Value) (W : World) : Prop := ∃ k : Nat, v = .int .i64 (k : Int) ∧ k ≤ n ∧ g = n - k ∧ Below w.heap.size w W
set_option maxHeartbeats 8000000 in
theorem finds_any (s0 : ByteArray) (hs0 : s0.size ≤ 140737488351232) (w : World) (hE : Env w) : Calls Tryz.prog 3 #[.string s0] w fun e w' => e = .returned (.bool true) ∧ Below w.heap.size w w' := by
  go_enter Tryz.func3, Tryz.ntmps3
  have h0 : (0 : Int) ≤ min (s0.size : Int) 800 := by omega
  have h1 : min (s0.size : Int) 800 ≤ (s0.size : Int) := by omega
  have hS : (s0.extract 0 (min (s0.size : Int) 800).toNat).size ≤ 800 := by simp; omega
  go_wp2_with fail
  generalize s0.extract 0 (min (s0.size : Int) 800).toNat = S at hS ⊢
  have HA := Lib.hid (fun W (hE : Env W) => Find_row S (by omega) W hE)
  have HB := Lib.hid (fun W => Find_refrow S (by omega) W)
  have hlen := findL_len S.data.toList
  generalize findL S.data.toList = F at HA HB hlen
  obtain ⟨A, ea⟩ := F
  simp only at HA HB hlen
  have hA64 : (A.length : Int) ≤ 64 := by omega
  clear hs0 hlen h0 h1
  refine (HA.out w hE).mono ?_
  rintro e w1 ⟨va, rfl, hra, hb1⟩
  have RA := Lib.hid hra
  clear hra
  go_wp2_with fail
  refine (HB.out _).mono ?_
  rintro e w2 ⟨vb, rfl, hrb, hb2⟩
  have hb12 := hb1.trans (hb2.mono hb1.size)
  have RA2 := Lib.hid (RA.out.below hb2)
  have RB2 := Lib.hid hrb
  clear hrb RA
  obtain ⟨pa, capa, rfl, hA⟩ := RA2.out
  obtain ⟨pb, capb, rfl, hB⟩ := RB2.out
  have HAA := Lib.hid hA
  have HBB := Lib.hid hB
  clear hA hB
  have q1 : ((ea : Int) != (ea : Int)) = false := by simp
  have q2 : ((A.length : Int) != (A.length : Int)) = false := by simp
  have HE2 := Lib.hid (hE.below hb12)
  have HB12 := Lib.hid hb12
  clear hE hb12
  go_wp2_with fail
  go_loopg [7] A.length (fun g v7 W => FR w2 A.length g v7 W)
  case atStart => exact ⟨0, rfl, Nat.zero_le _, rfl, Below.refl _ _⟩
  case round =>
    obtain ⟨k, rfl, hk, hg, hb⟩ := hrel
    have HG := Lib.hid hg
    have HB3 := Lib.hid hb
    clear hg hb
    by_cases hlt : k < A.length
    · have hk0 : (0 : Int) ≤ (k : Int) := by omega
      have hk1 : (k : Int) < (A.length : Int) := by omega
      have hwk : IntKind.i64.wrap ((k : Int) + 1) = (k : Int) + 1 := by rw [IntKind.wrap_i64]; omega
      obtain ⟨ba, rfl, hA⟩ := row_blockF HAA.out hlt
      obtain ⟨bb, rfl, hB⟩ := row_blockF HBB.out hlt
      have hAc := (hA k _ (List.getElem?_eq_getElem hlt)).below HB3.out
      have hBc := (hB k _ (List.getElem?_eq_getElem hlt)).below HB3.out
      generalize A[k] = x at hAc hBc
      obtain ⟨i0, i1, i2, i3⟩ := x
      obtain ⟨a0, a1, a2, a3⟩ := hAc
      obtain ⟨b0, b1, b2, b3⟩ := hBc
      simp only at a0 a1 a2 a3 b0 b1 b2 b3
      have e0 : ((i0 : Int) != (i0 : Int)) = false := by simp
      have e1 : ((i1 : Int) != (i1 : Int)) = false := by simp
      clear hA hB
      go_wp2_with fail
      go_quiet (fail)
      go_wp2_with fail
      go_roundg (A.length - (k + 1))
      case rel => exact ⟨k + 1, by go_num, by omega, rfl, HB3.out.trans ((drewN_below _ _).mono HB3.out.size)⟩
      case measure => have := HG.out; omega
    · have hge : ¬ (k : Int) < (A.length : Int) := by omega
      have HT := Lib.hid (tells_any wr (HE2.out.below HB3.out))
      go_wp2_with fail
      refine HT.out.mono ?_
      rintro e w5 ⟨rfl, hb5⟩
      go_wp2
      go_ret
      exact ⟨rfl, HB12.out.trans ((HB3.out.trans (hb5.mono HB3.out.size)).mono HB12.out.size)⟩
end Go.Proofs.YtffngbjnbigipaaGreatDoor
