/- The law AddrOrder, walked: it returns true for every three addresses whose texts are as long as an int counts, where the package-level variables read as their texts lay them. -/
import Derived.Test.YtffngbjnbigipaaDoorCom
import Derived.Test.YtffngbjnbigipaaDoorWakes
namespace Go.Proofs.YtffngbjnbigipaaDoor
open Go.RowKit Go.Lib
set_option linter.unusedSimpArgs false
set_option linter.unusedVariables false
set_option linter.unnecessarySimpa false
set_option maxRecDepth 100000

structure Six (B : Nat) (a0 a1 a2 a3 a4 a5 : Value) (W : World) : Prop where
  lt : B < W.heap.size
  c0 : W.cell? ⟨B, 0, none⟩ = some a0
  c1 : W.cell? ⟨B, 1, none⟩ = some a1
  c2 : W.cell? ⟨B, 2, none⟩ = some a2
  c3 : W.cell? ⟨B, 3, none⟩ = some a3
  c4 : W.cell? ⟨B, 4, none⟩ = some a4
  c5 : W.cell? ⟨B, 5, none⟩ = some a5
  fr : ∀ o, o < 6 → W.frozen? ⟨B, o, none⟩ = false
theorem Six.below {B : Nat} {a0 a1 a2 a3 a4 a5 : Value} {w W : World} (h : Six B a0 a1 a2 a3 a4 a5 w) (hb : Below w.heap.size w W) : Six B a0 a1 a2 a3 a4 a5 W :=
  ⟨Nat.lt_of_lt_of_le h.lt hb.size, (hb.cell (p := ⟨B, 0, none⟩) h.lt).trans h.c0, (hb.cell (p := ⟨B, 1, none⟩) h.lt).trans h.c1, (hb.cell (p := ⟨B, 2, none⟩) h.lt).trans h.c2, (hb.cell (p := ⟨B, 3, none⟩) h.lt).trans h.c3,
   (hb.cell (p := ⟨B, 4, none⟩) h.lt).trans h.c4, (hb.cell (p := ⟨B, 5, none⟩) h.lt).trans h.c5, fun o ho => (hb.frozen (p := ⟨B, o, none⟩) h.lt).trans (h.fr o ho)⟩
theorem Six.made (w : World) (a0 a1 a2 a3 a4 a5 : Value) (t : TypeId) : Six w.heap.size a0 a1 a2 a3 a4 a5 (w.alloc (.cells #[a0, a1, a2, a3, a4, a5] t)) := by
  have h := heap_alloc_new w (.cells #[a0, a1, a2, a3, a4, a5] t)
  generalize w.alloc (.cells #[a0, a1, a2, a3, a4, a5] t) = W at h
  refine ⟨(Array.getElem?_eq_some_iff.1 h).1, ?_, ?_, ?_, ?_, ?_, ?_, ?_⟩
  all_goals (try (simp [World.cell?, h]))
  intro o ho
  simp [World.frozen?, h]
theorem cell_off (W : World) (B o o' : Nat) (v : Value) (hne : o ≠ o') : (W.setCell ⟨B, o, none⟩ v).cell? ⟨B, o', none⟩ = W.cell? ⟨B, o', none⟩ :=
  World.cell?_setCell_other _ _ _ _ (by intro e; injection e with _ e2 _; exact hne e2)
theorem Six.set0 {B : Nat} {a0 a1 a2 a3 a4 a5 : Value} {W : World} (h : Six B a0 a1 a2 a3 a4 a5 W) (u v : Value) : Six B u v a2 a3 a4 a5 ((W.setCell ⟨B, 0, none⟩ u).setCell ⟨B, 1, none⟩ v) :=
  ⟨by simpa [World.setCell] using h.lt, by rw [cell_off _ _ _ _ _ (by decide)]; exact set_same _ _ _ _ h.c0, set_same _ _ _ _ (by rw [cell_off _ _ _ _ _ (by decide)]; exact h.c1),
   by rw [cell_off _ _ _ _ _ (by decide), cell_off _ _ _ _ _ (by decide)]; exact h.c2, by rw [cell_off _ _ _ _ _ (by decide), cell_off _ _ _ _ _ (by decide)]; exact h.c3,
   by rw [cell_off _ _ _ _ _ (by decide), cell_off _ _ _ _ _ (by decide)]; exact h.c4, by rw [cell_off _ _ _ _ _ (by decide), cell_off _ _ _ _ _ (by decide)]; exact h.c5,
   fun o ho => by rw [World.frozen?_setCell, World.frozen?_setCell]; exact h.fr o ho⟩
theorem Six.set2 {B : Nat} {a0 a1 a2 a3 a4 a5 : Value} {W : World} (h : Six B a0 a1 a2 a3 a4 a5 W) (u v : Value) : Six B a0 a1 u v a4 a5 ((W.setCell ⟨B, 2, none⟩ u).setCell ⟨B, 3, none⟩ v) :=
  ⟨by simpa [World.setCell] using h.lt, by rw [cell_off _ _ _ _ _ (by decide), cell_off _ _ _ _ _ (by decide)]; exact h.c0, by rw [cell_off _ _ _ _ _ (by decide), cell_off _ _ _ _ _ (by decide)]; exact h.c1,
   by rw [cell_off _ _ _ _ _ (by decide)]; exact set_same _ _ _ _ h.c2, set_same _ _ _ _ (by rw [cell_off _ _ _ _ _ (by decide)]; exact h.c3),
   by rw [cell_off _ _ _ _ _ (by decide), cell_off _ _ _ _ _ (by decide)]; exact h.c4, by rw [cell_off _ _ _ _ _ (by decide), cell_off _ _ _ _ _ (by decide)]; exact h.c5,
   fun o ho => by rw [World.frozen?_setCell, World.frozen?_setCell]; exact h.fr o ho⟩
theorem Six.set4 {B : Nat} {a0 a1 a2 a3 a4 a5 : Value} {W : World} (h : Six B a0 a1 a2 a3 a4 a5 W) (u v : Value) : Six B a0 a1 a2 a3 u v ((W.setCell ⟨B, 4, none⟩ u).setCell ⟨B, 5, none⟩ v) :=
  ⟨by simpa [World.setCell] using h.lt, by rw [cell_off _ _ _ _ _ (by decide), cell_off _ _ _ _ _ (by decide)]; exact h.c0, by rw [cell_off _ _ _ _ _ (by decide), cell_off _ _ _ _ _ (by decide)]; exact h.c1,
   by rw [cell_off _ _ _ _ _ (by decide), cell_off _ _ _ _ _ (by decide)]; exact h.c2, by rw [cell_off _ _ _ _ _ (by decide), cell_off _ _ _ _ _ (by decide)]; exact h.c3,
   by rw [cell_off _ _ _ _ _ (by decide)]; exact set_same _ _ _ _ h.c4, set_same _ _ _ _ (by rw [cell_off _ _ _ _ _ (by decide)]; exact h.c5),
   fun o ho => by rw [World.frozen?_setCell, World.frozen?_setCell]; exact h.fr o ho⟩
def OrdRel (w : World) (X0 Y0 X1 Y1 X2 Y2 : ByteArray) (g : Nat) (v7 : Value) (W : World) : Prop :=
  Below w.heap.size w W ∧ ((g = 3 ∧ v7 = .int .i64 0 ∧ Six w.heap.size (.string X0) (.string Y0) (.string X1) (.string Y1) (.string X2) (.string Y2) W) ∨
    (g = 2 ∧ v7 = .int .i64 1 ∧ Six w.heap.size (.string (cutS X0 80)) (.string (cutS Y0 300)) (.string X1) (.string Y1) (.string X2) (.string Y2) W) ∨
    (g = 1 ∧ v7 = .int .i64 2 ∧ Six w.heap.size (.string (cutS X0 80)) (.string (cutS Y0 300)) (.string (cutS X1 80)) (.string (cutS Y1 300)) (.string X2) (.string Y2) W) ∨
    (g = 0 ∧ v7 = .int .i64 3 ∧ Six w.heap.size (.string (cutS X0 80)) (.string (cutS Y0 300)) (.string (cutS X1 80)) (.string (cutS Y1 300)) (.string (cutS X2 80)) (.string (cutS Y2 300)) W))
theorem six_below {B : Nat} {a0 a1 a2 a3 a4 a5 : Value} {w W : World} (h : w.cell? ⟨B, 0, none⟩ = some a0 ∧ w.cell? ⟨B, 1, none⟩ = some a1 ∧ w.cell? ⟨B, 2, none⟩ = some a2 ∧ w.cell? ⟨B, 3, none⟩ = some a3 ∧ w.cell? ⟨B, 4, none⟩ = some a4 ∧ w.cell? ⟨B, 5, none⟩ = some a5) (hb : Below w.heap.size w W) :
    W.cell? ⟨B, 0, none⟩ = some a0 ∧ W.cell? ⟨B, 1, none⟩ = some a1 ∧ W.cell? ⟨B, 2, none⟩ = some a2 ∧ W.cell? ⟨B, 3, none⟩ = some a3 ∧ W.cell? ⟨B, 4, none⟩ = some a4 ∧ W.cell? ⟨B, 5, none⟩ = some a5 :=
  have lt : B < w.heap.size := World.block_lt_of_cell? w ⟨B, 0, none⟩ h.1
  ⟨(hb.cell (p := ⟨B, 0, none⟩) lt).trans h.1, (hb.cell (p := ⟨B, 1, none⟩) lt).trans h.2.1, (hb.cell (p := ⟨B, 2, none⟩) lt).trans h.2.2.1, (hb.cell (p := ⟨B, 3, none⟩) lt).trans h.2.2.2.1, (hb.cell (p := ⟨B, 4, none⟩) lt).trans h.2.2.2.2.1, (hb.cell (p := ⟨B, 5, none⟩) lt).trans h.2.2.2.2.2⟩
theorem ordS_turn (X Y X' Y' : ByteArray) : ordS X' Y' X Y = - ordS X Y X' Y' := ord_turn _ _
theorem ordS_self (X Y : ByteArray) : ordS X Y X Y = 0 := (ord_zero _ _).2 rfl
theorem ordS_vals (X Y X' Y' : ByteArray) : ordS X Y X' Y' = -1 ∨ ordS X Y X' Y' = 0 ∨ ordS X Y X' Y' = 1 := ord_vals _ _

set_option maxHeartbeats 16000000 in
theorem order_any (X0 Y0 X1 Y1 X2 Y2 : ByteArray) (hX0 : X0.size ≤ 9223372036854775807) (hY0 : Y0.size ≤ 9223372036854775807) (hX1 : X1.size ≤ 9223372036854775807) (hY1 : Y1.size ≤ 9223372036854775807) (hX2 : X2.size ≤ 9223372036854775807) (hY2 : Y2.size ≤ 9223372036854775807) (w : World) (hE : Env w) :
    Calls Tryd.prog 4 #[.agg #[.string X0, .string Y0, .string X1, .string Y1, .string X2, .string Y2]] w fun e w' => e = .returned (.bool true) ∧ Below w.heap.size w w' := by
  have HF := Lib.hid (fun X Y h1 h2 W => Few_any X Y h1 h2 W)
  have hsix := Six.made w (.string X0) (.string Y0) (.string X1) (.string Y1) (.string X2) (.string Y2) 36
  have hb1 := alloc_below w (.cells #[.string X0, .string Y0, .string X1, .string Y1, .string X2, .string Y2] 36)
  generalize hw1 : w.alloc (.cells #[.string X0, .string Y0, .string X1, .string Y1, .string X2, .string Y2] 36) = w1 at hsix hb1
  go_enter Tryd.func4, Tryd.ntmps4
  go_wp2_with fail
  go_loopg [7] 3 (fun g v7 W => OrdRel w X0 Y0 X1 Y1 X2 Y2 g v7 W)
  case atStart => exact ⟨hb1, .inl ⟨rfl, rfl, hsix⟩⟩
  case round =>
    clear hw1 hsix hb1
    obtain ⟨hb, ⟨rfl, rfl, hs⟩ | ⟨rfl, rfl, hs⟩ | ⟨rfl, rfl, hs⟩ | ⟨rfl, rfl, hs⟩⟩ := hrel
    · have f0 := hs.fr 0 (by decide)
      have f1 := hs.fr 1 (by decide)
      have HS := Lib.hid hs
      obtain ⟨-, c0, c1, c2, c3, c4, c5, -⟩ := hs
      go_wp2_with fail
      refine (HF.out _ _ (by assumption) (by assumption) wr).mono ?_
      rintro e w2 ⟨rfl, hb2⟩
      clear c0 c1 c2 c3 c4 c5 f0 f1
      have hs2 := HS.out.below hb2
      have f0 := hs2.fr 0 (by decide)
      have f1 := hs2.fr 1 (by decide)
      have c0 := hs2.c0
      have c1 := hs2.c1
      have hs3 := Lib.hid (hs2.set0 (.string (cutS X0 80)) (.string (cutS Y0 300)))
      have hbw := hb.trans (hb2.mono hb.size)
      go_wp2_with fail
      go_roundg 2
      case rel => exact ⟨(hbw.setCell (p := ⟨w.heap.size, 0, none⟩) (Nat.le_refl _) _).setCell (p := ⟨w.heap.size, 1, none⟩) (Nat.le_refl _) _, .inr (.inl ⟨rfl, rfl, hs3.out⟩)⟩
      case measure => omega
    · have f0 := hs.fr 2 (by decide)
      have f1 := hs.fr 3 (by decide)
      have HS := Lib.hid hs
      obtain ⟨-, c0, c1, c2, c3, c4, c5, -⟩ := hs
      go_wp2_with fail
      refine (HF.out _ _ (by assumption) (by assumption) wr).mono ?_
      rintro e w2 ⟨rfl, hb2⟩
      clear c0 c1 c2 c3 c4 c5 f0 f1
      have hs2 := HS.out.below hb2
      have f0 := hs2.fr 2 (by decide)
      have f1 := hs2.fr 3 (by decide)
      have c0 := hs2.c2
      have c1 := hs2.c3
      have hs3 := Lib.hid (hs2.set2 (.string (cutS X1 80)) (.string (cutS Y1 300)))
      have hbw := hb.trans (hb2.mono hb.size)
      go_wp2_with fail
      go_roundg 1
      case rel => exact ⟨(hbw.setCell (p := ⟨w.heap.size, 2, none⟩) (Nat.le_refl _) _).setCell (p := ⟨w.heap.size, 3, none⟩) (Nat.le_refl _) _, .inr (.inr (.inl ⟨rfl, rfl, hs3.out⟩))⟩
      case measure => omega
    · have f0 := hs.fr 4 (by decide)
      have f1 := hs.fr 5 (by decide)
      have HS := Lib.hid hs
      obtain ⟨-, c0, c1, c2, c3, c4, c5, -⟩ := hs
      go_wp2_with fail
      refine (HF.out _ _ (by assumption) (by assumption) wr).mono ?_
      rintro e w2 ⟨rfl, hb2⟩
      clear c0 c1 c2 c3 c4 c5 f0 f1
      have hs2 := HS.out.below hb2
      have f0 := hs2.fr 4 (by decide)
      have f1 := hs2.fr 5 (by decide)
      have c0 := hs2.c4
      have c1 := hs2.c5
      have hs3 := Lib.hid (hs2.set4 (.string (cutS X2 80)) (.string (cutS Y2 300)))
      have hbw := hb.trans (hb2.mono hb.size)
      go_wp2_with fail
      go_roundg 0
      case rel => exact ⟨(hbw.setCell (p := ⟨w.heap.size, 4, none⟩) (Nat.le_refl _) _).setCell (p := ⟨w.heap.size, 5, none⟩) (Nat.le_refl _) _, .inr (.inr (.inr ⟨rfl, rfl, hs3.out⟩))⟩
      case measure => omega
    · have zX0 : (cutS X0 80).size ≤ 1000000000 := Nat.le_trans (cutS_size X0 80) (by decide)
      have zY0 : (cutS Y0 300).size ≤ 1000000000 := Nat.le_trans (cutS_size Y0 300) (by decide)
      have zX1 : (cutS X1 80).size ≤ 1000000000 := Nat.le_trans (cutS_size X1 80) (by decide)
      have zY1 : (cutS Y1 300).size ≤ 1000000000 := Nat.le_trans (cutS_size Y1 300) (by decide)
      have zX2 : (cutS X2 80).size ≤ 1000000000 := Nat.le_trans (cutS_size X2 80) (by decide)
      have zY2 : (cutS Y2 300).size ≤ 1000000000 := Nat.le_trans (cutS_size Y2 300) (by decide)
      clear hX0 hY0 hX1 hY1 hX2 hY2
      generalize cutS X0 80 = A0 at *
      generalize cutS Y0 300 = B0 at *
      generalize cutS X1 80 = A1 at *
      generalize cutS Y1 300 = B1 at *
      generalize cutS X2 80 = A2 at *
      generalize cutS Y2 300 = B2 at *
      have HC := Lib.hid (fun X Y X' Y' h1 h2 h3 h4 W => CompareA_any X Y X' Y' h1 h2 h3 h4 W)
      have HSI := Lib.hid (fun X Y X' Y' W => sign_any (ordS X Y X' Y') (ordS_vals X Y X' Y') W)
      have HE := Lib.hid hE
      have hS1 := six_below ⟨hs.c0, hs.c1, hs.c2, hs.c3, hs.c4, hs.c5⟩ (drew_below wr)
      have hbd := hb.trans ((drew_below wr).mono hb.size)
      clear hs
      go_wp2_with fail
      go_region_held3 (fun W => W.cell? ⟨w.heap.size, 0, none⟩ = some (.string A0) ∧ W.cell? ⟨w.heap.size, 1, none⟩ = some (.string B0) ∧ W.cell? ⟨w.heap.size, 2, none⟩ = some (.string A1) ∧ W.cell? ⟨w.heap.size, 3, none⟩ = some (.string B1) ∧ W.cell? ⟨w.heap.size, 4, none⟩ = some (.string A2) ∧ W.cell? ⟨w.heap.size, 5, none⟩ = some (.string B2))
        (first | exact hS4 | exact hS3 | exact hS2 | go_keep)
        (first
          | (go_at_call 16; refine (HC.out _ _ _ _ (by assumption) (by assumption) (by assumption) (by assumption) _).mono ?_; rintro e w2 ⟨rfl, hb2⟩; have hS2 := six_below hS1 hb2; have hbw2 := hbd.trans (hb2.mono hbd.size))
          | (go_at_call 16; refine (HC.out _ _ _ _ (by assumption) (by assumption) (by assumption) (by assumption) _).mono ?_; rintro e w3 ⟨rfl, hb3⟩; have hS3 := six_below hS2 hb3; have hbw3 := hbw2.trans (hb3.mono hbw2.size))
          | (go_at_call 16; refine (HC.out _ _ _ _ (by assumption) (by assumption) (by assumption) (by assumption) _).mono ?_; rintro e w4 ⟨rfl, hb4⟩; have hS4 := six_below hS3 hb4; have hbw4 := hbw3.trans (hb4.mono hbw3.size))
          | (go_at_call 15; refine (HSI.out _ _ _ _ _).mono ?_; rintro e w5 ⟨rfl, rfl⟩))
      have L1 := ordS_vals A0 B0 A1 B1
      have L2 := ordS_vals A1 B1 A2 B2
      have L3 := ordS_vals A0 B0 A2 B2
      have T1 : ordS A0 B0 A1 B1 ≤ 0 → ordS A1 B1 A2 B2 ≤ 0 → ordS A0 B0 A2 B2 ≤ 0 := ord_trans _ _ _
      have T2 : ordS A0 B0 A1 B1 = 0 → ordS A1 B1 A2 B2 = 0 → ordS A0 B0 A2 B2 = 0 := ord_none _ _ _
      have K10 := fun W => HC.out A1 B1 A0 B0 zX1 zY1 zX0 zY0 W
      have KS := fun W => SameA_any A0 B0 A1 B1 zX0 zY0 zX1 zY1 W
      have K22 := fun W => HC.out A2 B2 A2 B2 zX2 zY2 zX2 zY2 W
      rw [ordS_turn] at K10
      rw [ordS_self] at K22
      generalize ordS A0 B0 A1 B1 = x at *
      generalize ordS A1 B1 A2 B2 = y at *
      generalize ordS A0 B0 A2 B2 = z at *
      have K10h := Lib.hid K10
      have KSh := Lib.hid KS
      have K22h := Lib.hid K22
      have SG := Lib.hid sign_any
      have HW := Lib.hid (fun W (hE : Env W) => wakes_any W hE)
      clear K10 KS K22 HC HSI HF hS1 hS2 hS3
      obtain ⟨c0, c1, c2, c3, c4, c5⟩ := hS4
      rcases L1 with rfl | rfl | rfl <;> rcases L2 with rfl | rfl | rfl <;> rcases L3 with rfl | rfl | rfl
      all_goals first
        | (exfalso; omega)
        | (clear T1 T2
           go_wp2_with fail
           refine (K10h.out _).mono ?_
           rintro e w5 ⟨rfl, hb5⟩
           have hS5 := six_below ⟨c0, c1, c2, c3, c4, c5⟩ hb5
           have hbw5 := hbw4.trans (hb5.mono hbw4.size)
           clear c0 c1 c2 c3 c4 c5
           obtain ⟨c0, c1, c2, c3, c4, c5⟩ := hS5
           go_wp2_with fail
           refine (SG.out _ (by decide) _).mono ?_
           rintro e w6 ⟨rfl, hw6⟩
           rw [hw6]
           clear hw6 w6
           go_wp2_with fail
           refine (KSh.out _).mono ?_
           rintro e w7 ⟨rfl, hb7⟩
           have hS7 := six_below ⟨c0, c1, c2, c3, c4, c5⟩ hb7
           have hbw7 := hbw5.trans (hb7.mono hbw5.size)
           clear c0 c1 c2 c3 c4 c5
           obtain ⟨c0, c1, c2, c3, c4, c5⟩ := hS7
           go_wp2_with fail
           refine (K22h.out _).mono ?_
           rintro e w8 ⟨rfl, hb8⟩
           have hbw8 := hbw7.trans (hb8.mono hbw7.size)
           clear c0 c1 c2 c3 c4 c5
           go_wp2_with fail
           refine (HW.out _ (HE.out.below hbw8)).mono ?_
           rintro e w9 ⟨rfl, hb9⟩
           go_wp2
           go_ret
           exact ⟨rfl, hbw8.trans (hb9.mono hbw8.size)⟩)
end Go.Proofs.YtffngbjnbigipaaDoor
