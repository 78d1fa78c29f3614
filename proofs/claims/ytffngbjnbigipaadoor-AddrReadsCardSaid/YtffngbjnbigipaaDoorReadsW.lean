/- The law AddrReads, walked: it returns true for every text of at most 2^47 bytes, where the package-level variables read as their texts lay them. -/
import Derived.Test.YtffngbjnbigipaaDoorWakes
import Derived.Test.YtffngbjnbigipaaDoorParR
namespace Go.Proofs.YtffngbjnbigipaaDoor
open Go.RowKit Go.Lib
set_option linter.unusedSimpArgs false
set_option linter.unusedVariables false
set_option linter.unnecessarySimpa false
set_option maxRecDepth 100000

def Four (B C : Nat) (x y : Value) (W : World) : Prop := W.cell? ⟨B, 0, none⟩ = some x ∧ W.cell? ⟨B, 1, none⟩ = some y ∧ W.cell? ⟨C, 0, none⟩ = some x ∧ W.cell? ⟨C, 1, none⟩ = some y
theorem four_below {B C : Nat} {x y : Value} {w W : World} (h : w.cell? ⟨B, 0, none⟩ = some x ∧ w.cell? ⟨B, 1, none⟩ = some y ∧ w.cell? ⟨C, 0, none⟩ = some x ∧ w.cell? ⟨C, 1, none⟩ = some y) (hb : Below w.heap.size w W) :
    W.cell? ⟨B, 0, none⟩ = some x ∧ W.cell? ⟨B, 1, none⟩ = some y ∧ W.cell? ⟨C, 0, none⟩ = some x ∧ W.cell? ⟨C, 1, none⟩ = some y :=
  ⟨(hb.cell (p := ⟨B, 0, none⟩) (World.block_lt_of_cell? w _ h.1)).trans h.1, (hb.cell (p := ⟨B, 1, none⟩) (World.block_lt_of_cell? w _ h.2.1)).trans h.2.1,
   (hb.cell (p := ⟨C, 0, none⟩) (World.block_lt_of_cell? w _ h.2.2.1)).trans h.2.2.1, (hb.cell (p := ⟨C, 1, none⟩) (World.block_lt_of_cell? w _ h.2.2.2)).trans h.2.2.2⟩
set_option maxHeartbeats 16000000 in
theorem reads_any (s0 : ByteArray) (hs0 : s0.size ≤ 140737488351232) (w : World) (hE : Env w) : Calls Tryd.prog 3 #[.string s0] w fun e w' => e = .returned (.bool true) ∧ Below w.heap.size w w' := by
  go_enter Tryd.func3, Tryd.ntmps3
  go_upto_region 1 with (fail)
  go_cut [0] (fun v0 wc => ∃ t : ByteArray, v0 = .string t ∧ t.size ≤ 500 ∧ wc = w)
  case first =>
    have h0 : (0 : Int) ≤ min (s0.size : Int) 500 := by omega
    have h1 : min (s0.size : Int) 500 ≤ (s0.size : Int) := by omega
    go_wp2
    go_meet
    case rel => exact ⟨_, rfl, by simp; omega, rfl⟩
  case rest =>
    obtain ⟨s, rfl, hss, hw⟩ := hcut
    rw [hw]
    clear hw wc hs0
    have HPA := Lib.hid (fun W (hE : Env W) => Parse_any s (by omega) W hE)
    have HPR := Lib.hid (fun W => Parse_ref s (by omega) W)
    have HSA := Lib.hid (fun W (hE : Env W) => Sub_any s (by omega) W hE)
    have HSR := Lib.hid (fun W => Sub_ref s (by omega) W)
    have HM := Lib.hid (fun W (hE : Env W) => MayDomain_any s (by omega) W hE)
    have HD := Lib.hid (fun W => Domain_ref s (by omega) W)
    have HW := Lib.hid (fun W (hE : Env W) => wakes_any W hE)
    have hdc := domL_cases s.data.toList
    generalize domL s.data.toList = k at HM HD hdc
    generalize subL s.data.toList = U at HSA HSR
    generalize parseL s.data.toList = R at HPA HPR
    obtain ⟨a1, a2, er⟩ := R
    obtain ⟨u1, u2, u3⟩ := U
    have HO := Lib.hid (fun W => Of_any (a1, a2) W)
    simp only [parV, addrV, subV] at HPA HPR HSA HSR HO
    generalize (⟨a1.toArray⟩ : ByteArray) = X at HPA HPR HO
    generalize (⟨a2.toArray⟩ : ByteArray) = Y at HPA HPR HO
    generalize (⟨u1.toArray⟩ : ByteArray) = P at HSA HSR
    generalize (⟨u2.toArray⟩ : ByteArray) = Q at HSA HSR
    go_wp2_with fail
    refine (HPA.out w hE).mono ?_
    rintro e w1 ⟨rfl, hb1⟩
    have T1 := Two.made w1 (.string X) (.string Y) 23
    have hbA0 := alloc_below w1 (.cells #[.string X, .string Y] 23)
    have hbA := hb1.trans (hbA0.mono hb1.size)
    generalize hwA : w1.alloc (.cells #[.string X, .string Y] 23) = wA at T1 hbA hbA0
    go_wp2_with fail
    refine (HPR.out wA).mono ?_
    rintro e w2 ⟨rfl, hb2⟩
    have hbw2 := hbA.trans (hb2.mono hbA.size)
    have T2 := Two.made w2 (.string X) (.string Y) 27
    have hbB0 := alloc_below w2 (.cells #[.string X, .string Y] 27)
    have hbB := hbw2.trans (hbB0.mono hbw2.size)
    have T1 := (T1.below hb2).below hbB0
    clear hwA
    generalize hwB : w2.alloc (.cells #[.string X, .string Y] 27) = wB at T1 T2 hbB hbB0
    go_wp2_with fail
    refine (HSA.out wB (hE.below hbB)).mono ?_
    rintro e w3 ⟨rfl, hb3⟩
    have hbw3 := hbB.trans (hb3.mono hbB.size)
    have T1 := T1.below hb3
    have T2 := T2.below hb3
    clear hwB hbB0
    go_wp2_with fail
    refine (HSR.out w3).mono ?_
    rintro e w4 ⟨rfl, hb4⟩
    have hbw4 := hbw3.trans (hb4.mono hbw3.size)
    have T1 := T1.below hb4
    have T2 := T2.below hb4
    have hS4 : w4.drew.cell? ⟨w1.heap.size, 0, none⟩ = some (.string X) ∧ w4.drew.cell? ⟨w1.heap.size, 1, none⟩ = some (.string Y) ∧ w4.drew.cell? ⟨w2.heap.size, 0, none⟩ = some (.string X) ∧ w4.drew.cell? ⟨w2.heap.size, 1, none⟩ = some (.string Y) :=
      four_below ⟨T1.c0, T1.c1, T2.c0, T2.c1⟩ (drew_below w4)
    have hbw4d := hbw4.trans ((drew_below w4).mono hbw4.size)
    clear T1 T2
    have HEE := Lib.hid hE
    rcases hdc with rfl | rfl | rfl
    all_goals
      go_wp2_with fail
      go_region_held3 (fun W => W.cell? ⟨w1.heap.size, 0, none⟩ = some (.string X) ∧ W.cell? ⟨w1.heap.size, 1, none⟩ = some (.string Y) ∧ W.cell? ⟨w2.heap.size, 0, none⟩ = some (.string X) ∧ W.cell? ⟨w2.heap.size, 1, none⟩ = some (.string Y))
        (first | go_keep | exact hS8 | exact hS7 | exact hS6 | exact hS5)
        (first
          | (go_at_call 10; refine (HO.out _).mono ?_; rintro e w5 ⟨rfl, hb5⟩; have hS5 := four_below hS4 hb5; have hbw5 := hbw4d.trans (hb5.mono hbw4d.size))
          | (go_at_call 11; refine (HM.out _ (HEE.out.below hbw5)).mono ?_; rintro e w6 ⟨rfl, hb6⟩; have hS6 := four_below hS5 hb6; have hbw6 := hbw5.trans (hb6.mono hbw5.size))
          | (go_at_call 12; refine (HD.out _).mono ?_; rintro e w7 ⟨rfl, hb7⟩; have hS7 := four_below hS6 hb7; have hbw7 := hbw6.trans (hb7.mono hbw6.size))
          | (go_at_call 13; refine (HW.out _ (HEE.out.below hbw7)).mono ?_; rintro e w8 ⟨rfl, hb8⟩; have hS8 := four_below hS7 hb8; have hbw8 := hbw7.trans (hb8.mono hbw7.size)))
      go_wp2
      go_ret
      exact ⟨rfl, hbw8⟩
end Go.Proofs.YtffngbjnbigipaaDoor
