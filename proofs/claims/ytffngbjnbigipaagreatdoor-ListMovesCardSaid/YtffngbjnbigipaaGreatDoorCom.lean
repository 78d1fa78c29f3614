/- addr.Compare, for addresses of at most 10^9 bytes. -/
import Derived.Test.YtffngbjnbigipaaGreatDoorOrd
namespace Go.Proofs.YtffngbjnbigipaaGreatDoor
open Go.RowKit Go.Lib
set_option linter.unusedSimpArgs false
set_option linter.unusedVariables false
set_option linter.unnecessarySimpa false
set_option maxRecDepth 100000

theorem Two.set {B : Nat} {x y : Value} {W : World} (h : Two B x y W) (x' y' : Value) : Two B x' y' ((W.setCell ⟨B, 0, none⟩ x').setCell ⟨B, 1, none⟩ y') := (h.set0 x').set1 y'
theorem Two.far2 {B C : Nat} {x y u v : Value} {W : World} (h : Two B x y W) (hne : B ≠ C) : Two B x y ((W.setCell ⟨C, 0, none⟩ u).setCell ⟨C, 1, none⟩ v) := (h.far hne).far hne
theorem or_hid (B cap : Nat) (a b : Int) (w : World) (h0 : w.cell? ⟨B, 0, none⟩ = some (.int .i64 a)) (h1 : w.cell? ⟨B, 1, none⟩ = some (.int .i64 b)) :
    Calls Tryz.prog 50 #[.slice (some ⟨B, 0, none⟩) 2 cap] w fun e w' => ∃ n : Int, e = .returned (.int .i64 n) ∧ RowKit.Hid (n = if a = 0 then b else a) ∧ w' = w :=
  (or_two B cap a b w h0 h1).mono fun e w' h => ⟨_, h.1, Lib.hid rfl, h.2⟩
set_option maxHeartbeats 8000000 in
theorem CompareA_any (X Y X' Y' : ByteArray) (h1 : X.size ≤ 1000000000) (h2 : Y.size ≤ 1000000000) (h3 : X'.size ≤ 1000000000) (h4 : Y'.size ≤ 1000000000) (w : World) :
    Calls Tryz.prog 19 #[.agg #[.string X, .string Y], .agg #[.string X', .string Y']] w fun e w' => e = .returned (.int .i64 (ordS X Y X' Y')) ∧ Below w.heap.size w w' := by
  have HN := Lib.hid (fun X Y hx hy W => Normal_S X Y hx hy W)
  have HO := Lib.hid (ordS_eq X Y X' Y')
  generalize ordS X Y X' Y' = R at HO
  have ht1 := Two.made w (.string X) (.string Y) 30
  have hb1 := alloc_below w (.cells #[.string X, .string Y] 30)
  have hs1 : (w.alloc (.cells #[.string X, .string Y] 30)).heap.size = w.heap.size + 1 := World.size_alloc _ _
  generalize hw1 : w.alloc (.cells #[.string X, .string Y] 30) = w1 at ht1 hb1 hs1
  have ht2 := Two.made w1 (.string X') (.string Y') 30
  have hb2' := alloc_below w1 (.cells #[.string X', .string Y'] 30)
  generalize hw2 : w1.alloc (.cells #[.string X', .string Y'] 30) = w2 at ht2 hb2'
  rw [hs1] at ht2
  have ht1 := ht1.below hb2'
  have hb2 : Below w.heap.size w w2 := hb1.trans (hb2'.mono hb1.size)
  have hbd := hb2.trans ((drew_below w2).mono hb2.size)
  have Ud := Lib.hid (ht1.below (drew_below w2))
  have Vd := Lib.hid (ht2.below (drew_below w2))
  obtain ⟨-, c0, c1, f0, f1⟩ := ht1
  obtain ⟨-, k0, k1, m0, m1⟩ := ht2
  clear hb1 hb2'
  go_enter Tryz.func19, Tryz.ntmps19
  go_wp2_with fail
  go_region_law (first
    | (go_simp; go_at_call 34; refine (HN.out _ _ (by assumption) (by assumption) _).mono ?_; rintro e w3 ⟨rfl, hb3⟩; have U3 := Lib.hid (Ud.out.below hb3); have V3 := Lib.hid (Vd.out.below hb3); have hbw3 := hbd.trans (hb3.mono hbd.size); obtain ⟨-, c0, c1, f0, f1⟩ := U3.out; obtain ⟨-, k0, k1, m0, m1⟩ := V3.out)
    | (go_simp; go_at_call 34; refine (HN.out _ _ (by assumption) (by assumption) _).mono ?_; rintro e w4 ⟨rfl, hb4⟩; have U4 := Lib.hid (U3.out.below hb4); have V4 := Lib.hid (V3.out.below hb4); have hbw4 := hbw3.trans (hb4.mono hbw3.size); obtain ⟨-, c0, c1, f0, f1⟩ := U4.out; obtain ⟨-, k0, k1, m0, m1⟩ := V4.out; obtain ⟨-, o0, o1, p0, p1⟩ := V4.out.far2 (C := w.heap.size) (u := .string (nS X)) (v := .string (lS Y)) (by omega)))
  all_goals
    have Uw := (U4.out.set (.string (nS X)) (.string (lS Y))).far2 (C := w.heap.size + 1) (u := .string (nS X')) (v := .string (lS Y')) (by omega)
    have Vw := (V4.out.far2 (C := w.heap.size) (u := .string (nS X)) (v := .string (lS Y)) (by omega)).set (.string (nS X')) (.string (lS Y'))
    have hbw5 := (((hbw4.setCell (p := ⟨w.heap.size, 0, none⟩) (Nat.le_refl _) (.string (nS X))).setCell (p := ⟨w.heap.size, 1, none⟩) (Nat.le_refl _) (.string (lS Y))).setCell (p := ⟨w.heap.size + 1, 0, none⟩) (Nat.le_succ _) (.string (nS X'))).setCell (p := ⟨w.heap.size + 1, 1, none⟩) (Nat.le_succ _) (.string (lS Y'))
    clear c0 c1 f0 f1 k0 k1 m0 m1 o0 o1 p0 p1 U4 V4
    generalize ((((w4.setCell ⟨w.heap.size, 0, none⟩ (.string (nS X))).setCell ⟨w.heap.size, 1, none⟩ (.string (lS Y))).setCell ⟨w.heap.size + 1, 0, none⟩ (.string (nS X'))).setCell ⟨w.heap.size + 1, 1, none⟩ (.string (lS Y'))) = w5 at Uw Vw hbw5 ⊢
    have hS5 := two_of4 ⟨Uw.c0, Uw.c1, Vw.c0, Vw.c1⟩ (drew_below w5)
    have hbw5d := hbw5.trans ((drew_below w5).mono hbw5.size)
    have hbw6 := hbw5d.trans ((alloc_below w5.drew (.cells #[.int .i64 (cmpL (lS Y).data.toList (lS Y').data.toList), .int .i64 (cmpL (nS X).data.toList (nS X').data.toList)] 3)).mono hbw5d.size)
    have hS6 := two_of4 hS5 (alloc_below w5.drew (.cells #[.int .i64 (cmpL (lS Y).data.toList (lS Y').data.toList), .int .i64 (cmpL (nS X).data.toList (nS X').data.toList)] 3))
    have TT := Two.made w5.drew (.int .i64 (cmpL (lS Y).data.toList (lS Y').data.toList)) (.int .i64 (cmpL (nS X).data.toList (nS X').data.toList)) 3
    have q0 := TT.c0
    have q1 := TT.c1
    clear Uw Vw TT
    go_wp2_with fail
    go_region_held3 (fun W => W.cell? ⟨w.heap.size, 0, none⟩ = some (.string (nS X)) ∧ W.cell? ⟨w.heap.size, 1, none⟩ = some (.string (lS Y)) ∧ W.cell? ⟨w.heap.size + 1, 0, none⟩ = some (.string (nS X')) ∧ W.cell? ⟨w.heap.size + 1, 1, none⟩ = some (.string (lS Y')))
      (first | exact hS6 | exact hS5 | go_keep)
      (first
        | (go_at_call 51; refine (cmp_any _ _ _).mono ?_; rintro e w7 ⟨rfl, rfl⟩)
        | (go_at_call 50; refine (or_hid _ _ _ _ _ q0 q1).mono ?_; rintro e w7 ⟨n, rfl, hn, rfl⟩))
    go_wp2
    go_ret
    exact ⟨by rw [HO.out, ← hn.out]; rfl, hbw6⟩
end Go.Proofs.YtffngbjnbigipaaGreatDoor
