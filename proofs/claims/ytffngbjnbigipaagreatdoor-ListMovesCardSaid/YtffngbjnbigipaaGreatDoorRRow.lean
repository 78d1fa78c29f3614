/- list's reader: its method row, over any function value that tells of bytes; list.letter and the three function values that are handed to it. -/
import Derived.Test.YtffngbjnbigipaaGreatDoorRBlank
import Derived.Test.YtffngbjnbigipaaGreatDoorDomX
import Derived.Test.YtffngbjnbigipaaGreatDoorIndex
namespace Go.Proofs.YtffngbjnbigipaaGreatDoor
open Go.RowKit Go.Lib
set_option linter.unusedSimpArgs false
set_option linter.unusedVariables false
set_option linter.unnecessarySimpa false
set_option maxRecDepth 100000

theorem But.cell {B : Nat} {w w' : World} (h : But B w w') {p : Addr} (hp : p.block < w.heap.size) (hn : p.block ≠ B) : w'.cell? p = w.cell? p := World.cell?_of_block (w := w) (h.block p.block hp hn)
theorem AText.but {B : Nat} {w W : World} (h : AText w) (hb : But B w W) (hn : 8 ≤ B) : AText W :=
  ⟨(hb.cell (p := ⟨6, 0, none⟩) (World.block_lt_of_cell? w _ h.a0) (by show 6 ≠ B; omega)).trans h.a0, (hb.cell (p := ⟨6, 1, none⟩) (World.block_lt_of_cell? w _ h.a1) (by show 6 ≠ B; omega)).trans h.a1,
   (hb.cell (p := ⟨6, 2, none⟩) (World.block_lt_of_cell? w _ h.a2) (by show 6 ≠ B; omega)).trans h.a2, (hb.cell (p := ⟨6, 3, none⟩) (World.block_lt_of_cell? w _ h.a3) (by show 6 ≠ B; omega)).trans h.a3⟩
theorem Env.but {B : Nat} {w W : World} (h : Env w) (hb : But B w W) (hn : 8 ≤ B) : Env W := by
  obtain ⟨m, hm⟩ := h.m
  refine ⟨h.atx.but hb hn, ⟨m, (hb.cell (p := ⟨3, 0, none⟩) (World.block_lt_of_cell? w _ hm) (by show 3 ≠ B; omega)).trans hm⟩, ?_⟩
  have hp := h.pow
  have hc := Lib.TabIs.cell hp pow_named 0 (by decide)
  have hlt : 7 < w.heap.size := World.block_lt_of_cell? w ⟨7, 0, none⟩ hc
  unfold Lib.TabIs at hp ⊢
  rw [← hp]
  simp only [World.var?, pow_named, Option.bind_some]
  rw [hb.block 7 hlt (by omega)]

theorem bool_at (k N : Nat) : Ending.returned (.bool (decide (k < k + N))) = Ending.returned (.bool (decide (0 < N))) := by simp
def RowRel (B : Nat) (s : ByteArray) (k : Nat) (v : Value) (wrong long : Bool) (p : UInt8 → Bool) (N : Nat) (w : World) (g : Nat) (W : World) : Prop :=
  ∃ j, k ≤ j ∧ j ≤ s.size ∧ g = s.size - j ∧ k + N = j + tw p (s.data.toList.drop j) ∧ RS B s j v wrong long W ∧ But B w W
set_option maxHeartbeats 4000000 in
theorem row_any (F : Nat) (p : UInt8 → Bool) (B : Nat) (s : ByteArray) (k : Nat) (v : Value) (wrong long : Bool) (w : World) (h : RS B s k v wrong long w) (hk : k ≤ s.size) (hs : s.size ≤ 1000000000000)
    (eg : ∀ args w, (callFunc F args).run Tryz.prog w = .ok (.enter F args) w)
    (hf : ∀ (c : UInt8) (W : World), But B w W → Calls Tryz.prog F #[.int .u8 (c.toNat : Int)] W fun e w' => e = .returned (.bool (p c)) ∧ Below W.heap.size W w') :
    Calls Tryz.prog 153 #[.pointer (some ⟨B, 0, none⟩), .func (.func F) #[] #[]] w fun e w' => e = .returned (.bool (decide (0 < tw p (s.data.toList.drop k)))) ∧ RS B s (k + tw p (s.data.toList.drop k)) v wrong long w' ∧ But B w w' := by
  have HF := Lib.hid hf
  have HH := Lib.hid h
  have c1 := h.c1
  clear hf h
  generalize hN : tw p (s.data.toList.drop k) = N
  have HN := Lib.hid hN
  clear hN
  go_enter Tryz.func153, Tryz.ntmps153
  go_wp2_with fail
  go_loopg [] (s.size - k) (fun g W => RowRel B s k v wrong long p N w g W)
  case atStart => exact ⟨k, Nat.le_refl _, hk, rfl, by rw [HN.out], HH.out, But.refl B w⟩
  case round =>
    obtain ⟨j, hkj, hj, hg, hN, hr, hb⟩ := hrel
    have HR := Lib.hid hr
    have HB := Lib.hid hb
    have HG := Lib.hid hg
    have HNN := Lib.hid hN
    have f1 := hr.fr 1 (by decide)
    obtain ⟨-, c0, c1', c2, c3, c4, -⟩ := hr
    clear hb hg hN c1
    have hj0 : (0 : Int) ≤ (j : Int) := by omega
    by_cases hlt : j < s.size
    · have hj1 : (j : Int) < (s.size : Int) := by omega
      have hwr : IntKind.i64.wrap ((j : Int) + 1) = ((j + 1 : Nat) : Int) := by rw [IntKind.wrap_i64]; omega
      have hdc := drop_cons s j hlt
      have hS : wr.drew.cell? ⟨B, 0, none⟩ = some (.string s) ∧ wr.drew.cell? ⟨B, 1, none⟩ = some (.int .i64 (j : Int)) := ⟨c0, c1'⟩
      have HC := Lib.hid (HF.out s[j] wr.drew (HB.out.trans (But.of_below (drew_below wr))))
      cases hp : p s[j] with
      | true =>
        rw [hp] at HC
        have HN2 := HNN.out
        rw [hdc, tw_yes p _ _ hp] at HN2
        have HN3 := Lib.hid HN2
        clear HN2 hdc hp
        go_wp2_with fail
        go_region_held3 (fun W => W.cell? ⟨B, 0, none⟩ = some (.string s) ∧ W.cell? ⟨B, 1, none⟩ = some (.int .i64 (j : Int)))
          (first | go_keep | exact hS5)
          (first | ((with_reducible refine HC.out.mono ?_); rintro e w5 ⟨rfl, hb5⟩; have hS5 : w5.cell? ⟨B, 0, none⟩ = some (.string s) ∧ w5.cell? ⟨B, 1, none⟩ = some (.int .i64 (j : Int)) := ⟨(hb5.cell (p := ⟨B, 0, none⟩) HR.out.lt).trans c0, (hb5.cell (p := ⟨B, 1, none⟩) HR.out.lt).trans c1'⟩))
        have hbb := (drew_below wr).trans (hb5.mono (drew_below wr).size)
        have HR5 := Lib.hid ((HR.out.below hbb).at_ (j + 1))
        have f5 : w5.frozen? ⟨B, 1, none⟩ = false := (hb5.frozen (p := ⟨B, 1, none⟩) HR.out.lt).trans f1
        obtain ⟨g0, g1⟩ := hS5
        go_wp2_with fail
        go_roundg (s.size - (j + 1))
        case rel => exact ⟨j + 1, by omega, by omega, rfl, by have := HN3.out; omega, HR5.out, (HB.out.trans (But.of_below hbb)).set 1 _⟩
        case measure => have := HG.out; omega
      | false =>
        rw [hp] at HC
        have HN2 := HNN.out
        rw [hdc, tw_no p _ _ hp] at HN2
        have hjN : j = k + N := by omega
        have HJ := Lib.hid hjN
        clear HN2 hdc hp hjN
        go_wp2_with fail
        go_region_held3 (fun W => W.cell? ⟨B, 0, none⟩ = some (.string s) ∧ W.cell? ⟨B, 1, none⟩ = some (.int .i64 (j : Int)))
          (first | go_keep | exact hS5)
          (first | ((with_reducible refine HC.out.mono ?_); rintro e w5 ⟨rfl, hb5⟩; have hS5 : w5.cell? ⟨B, 0, none⟩ = some (.string s) ∧ w5.cell? ⟨B, 1, none⟩ = some (.int .i64 (j : Int)) := ⟨(hb5.cell (p := ⟨B, 0, none⟩) HR.out.lt).trans c0, (hb5.cell (p := ⟨B, 1, none⟩) HR.out.lt).trans c1'⟩))
        have hbb := (drew_below wr).trans (hb5.mono (drew_below wr).size)
        have HR5 := Lib.hid (HR.out.below hbb)
        obtain ⟨g0, g1⟩ := hS5
        go_wp2
        go_ret
        have hJ := HJ.out
        subst hJ
        exact ⟨bool_at k N, HR5.out, HB.out.trans (But.of_below hbb)⟩
    · have hnil : s.data.toList.drop j = [] := List.drop_eq_nil_of_le (by simp; omega)
      have HN2 := HNN.out
      rw [hnil, tw_nil] at HN2
      have hjN : j = k + N := by omega
      have HJ := Lib.hid hjN
      have hd : decide (j < s.size) = false := by simp; omega
      clear HN2 hnil hjN
      have hS : wr.drew.cell? ⟨B, 0, none⟩ = some (.string s) ∧ wr.drew.cell? ⟨B, 1, none⟩ = some (.int .i64 (j : Int)) := ⟨c0, c1'⟩
      go_wp2_with fail
      refine wp_region_held_drew (S := (fun W => W.cell? ⟨B, 0, none⟩ = some (.string s) ∧ W.cell? ⟨B, 1, none⟩ = some (.int .i64 (j : Int)))) (by kernel_rfl) hS (fun hHeld => ?_)
      refine wpAnyH_take (i := 0) (oi := _) (v := .pointer (some ⟨B, 0, none⟩)) rfl (by kernel_rfl) (by kernel_rfl) (by kernel_rfl) (fun _ _ _ h => h) (Or.inl ⟨by kernel_rfl, ?_⟩) (by assumption) ?_
      · (intro w hSw; (try dsimp only at hSw); go_simp)
      try simp only [List.getElem_toArray, List.getElem_cons_zero, List.getElem_cons_succ, Act.put, List.setIfInBounds_toArray, List.set_cons_zero, List.set_cons_succ]
      refine wpAnyH_take (i := 1) (oi := _) (v := .pointer (some ⟨B, 0, none⟩)) rfl (by kernel_rfl) (by kernel_rfl) (by kernel_rfl) (fun _ _ _ h => h) (Or.inl ⟨by kernel_rfl, ?_⟩) (by assumption) ?_
      · (intro w hSw; (try dsimp only at hSw); go_simp)
      try simp only [List.getElem_toArray, List.getElem_cons_zero, List.getElem_cons_succ, Act.put, List.setIfInBounds_toArray, List.set_cons_zero, List.set_cons_succ]
      refine wpAnyH_take (i := 2) (oi := _) (v := .pointer (some ⟨B, 1, none⟩)) rfl (by kernel_rfl) (by kernel_rfl) (by kernel_rfl) (fun _ _ _ h => h) (Or.inl ⟨by kernel_rfl, ?_⟩) (by assumption) ?_
      · (intro w hSw; (try dsimp only at hSw); go_simp)
      try simp only [List.getElem_toArray, List.getElem_cons_zero, List.getElem_cons_succ, Act.put, List.setIfInBounds_toArray, List.set_cons_zero, List.set_cons_succ]
      refine wpAnyH_take (i := 3) (oi := _) (v := .int .i64 (j : Int)) rfl (by kernel_rfl) (by kernel_rfl) (by kernel_rfl) (fun _ _ _ h => h) (Or.inl ⟨by kernel_rfl, ?_⟩) (by assumption) ?_
      · (intro w hSw; (try dsimp only at hSw); go_simp)
      try simp only [List.getElem_toArray, List.getElem_cons_zero, List.getElem_cons_succ, Act.put, List.setIfInBounds_toArray, List.set_cons_zero, List.set_cons_succ]
      refine wpAnyH_take (i := 4) (oi := _) (v := .pointer (some ⟨B, 0, none⟩)) rfl (by kernel_rfl) (by kernel_rfl) (by kernel_rfl) (fun _ _ _ h => h) (Or.inl ⟨by kernel_rfl, ?_⟩) (by assumption) ?_
      · (intro w hSw; (try dsimp only at hSw); go_simp)
      try simp only [List.getElem_toArray, List.getElem_cons_zero, List.getElem_cons_succ, Act.put, List.setIfInBounds_toArray, List.set_cons_zero, List.set_cons_succ]
      refine wpAnyH_take (i := 5) (oi := _) (v := .pointer (some ⟨B, 0, none⟩)) rfl (by kernel_rfl) (by kernel_rfl) (by kernel_rfl) (fun _ _ _ h => h) (Or.inl ⟨by kernel_rfl, ?_⟩) (by assumption) ?_
      · (intro w hSw; (try dsimp only at hSw); go_simp)
      try simp only [List.getElem_toArray, List.getElem_cons_zero, List.getElem_cons_succ, Act.put, List.setIfInBounds_toArray, List.set_cons_zero, List.set_cons_succ]
      refine wpAnyH_take (i := 6) (oi := _) (v := .pointer (some ⟨B, 0, none⟩)) rfl (by kernel_rfl) (by kernel_rfl) (by kernel_rfl) (fun _ _ _ h => h) (Or.inl ⟨by kernel_rfl, ?_⟩) (by assumption) ?_
      · (intro w hSw; (try dsimp only at hSw); go_simp)
      try simp only [List.getElem_toArray, List.getElem_cons_zero, List.getElem_cons_succ, Act.put, List.setIfInBounds_toArray, List.set_cons_zero, List.set_cons_succ]
      refine wpAnyH_take (i := 7) (oi := _) (v := .string s) rfl (by kernel_rfl) (by kernel_rfl) (by kernel_rfl) (fun _ _ _ h => h) (Or.inl ⟨by kernel_rfl, ?_⟩) (by assumption) ?_
      · (intro w hSw; (try dsimp only at hSw); go_simp)
      try simp only [List.getElem_toArray, List.getElem_cons_zero, List.getElem_cons_succ, Act.put, List.setIfInBounds_toArray, List.set_cons_zero, List.set_cons_succ]
      refine wpAnyH_take (i := 8) (oi := _) (v := .int .i64 (s.size : Int)) rfl (by kernel_rfl) (by kernel_rfl) (by kernel_rfl) (fun _ _ _ h => h) (Or.inl ⟨by kernel_rfl, ?_⟩) (by assumption) ?_
      · (intro w hSw; (try dsimp only at hSw); go_simp)
      try simp only [List.getElem_toArray, List.getElem_cons_zero, List.getElem_cons_succ, Act.put, List.setIfInBounds_toArray, List.set_cons_zero, List.set_cons_succ]
      refine wpAnyH_take (i := 9) (oi := _) (v := .bool false) rfl (by kernel_rfl) (by kernel_rfl) (by kernel_rfl) (fun _ _ _ h => h) (Or.inl ⟨by kernel_rfl, ?_⟩) (by assumption) ?_
      · (intro w hSw; (try dsimp only at hSw); go_simp)
      try simp only [List.getElem_toArray, List.getElem_cons_zero, List.getElem_cons_succ, Act.put, List.setIfInBounds_toArray, List.set_cons_zero, List.set_cons_succ]
      refine wpAnyH_take (i := 10) (oi := _) (v := .bool false) rfl (by kernel_rfl) (by kernel_rfl) (by kernel_rfl) (fun _ _ _ h => h) (Or.inl ⟨by kernel_rfl, ?_⟩) (by assumption) ?_
      · (intro w hSw; (try dsimp only at hSw); go_simp)
      try simp only [List.getElem_toArray, List.getElem_cons_zero, List.getElem_cons_succ, Act.put, List.setIfInBounds_toArray, List.set_cons_zero, List.set_cons_succ]
      refine wpAnyH_take (i := 11) (oi := _) (v := undef) rfl (by kernel_rfl) (by kernel_rfl) (by kernel_rfl) (fun _ _ _ h => h) (Or.inr ⟨by kernel_rfl, rfl⟩) (by assumption) ?_
      try simp only [List.getElem_toArray, List.getElem_cons_zero, List.getElem_cons_succ, Act.put, List.setIfInBounds_toArray, List.set_cons_zero, List.set_cons_succ]
      refine wpAnyH_take (i := 12) (oi := _) (v := undef) rfl (by kernel_rfl) (by kernel_rfl) (by kernel_rfl) (fun _ _ _ h => h) (Or.inr ⟨by kernel_rfl, rfl⟩) (by assumption) ?_
      try simp only [List.getElem_toArray, List.getElem_cons_zero, List.getElem_cons_succ, Act.put, List.setIfInBounds_toArray, List.set_cons_zero, List.set_cons_succ]
      refine wpAnyH_take (i := 13) (oi := _) (v := undef) rfl (by kernel_rfl) (by kernel_rfl) (by kernel_rfl) (fun _ _ _ h => h) (Or.inr ⟨by kernel_rfl, rfl⟩) (by assumption) ?_
      try simp only [List.getElem_toArray, List.getElem_cons_zero, List.getElem_cons_succ, Act.put, List.setIfInBounds_toArray, List.set_cons_zero, List.set_cons_succ]
      refine wpAnyH_take (i := 14) (oi := _) (v := undef) rfl (by kernel_rfl) (by kernel_rfl) (by kernel_rfl) (fun _ _ _ h => h) (Or.inr ⟨by kernel_rfl, rfl⟩) (by assumption) ?_
      try simp only [List.getElem_toArray, List.getElem_cons_zero, List.getElem_cons_succ, Act.put, List.setIfInBounds_toArray, List.set_cons_zero, List.set_cons_succ]
      refine wpAnyH_take (i := 15) (oi := _) (v := undef) rfl (by kernel_rfl) (by kernel_rfl) (by kernel_rfl) (fun _ _ _ h => h) (Or.inr ⟨by kernel_rfl, rfl⟩) (by assumption) ?_
      try simp only [List.getElem_toArray, List.getElem_cons_zero, List.getElem_cons_succ, Act.put, List.setIfInBounds_toArray, List.set_cons_zero, List.set_cons_succ]
      refine wpAnyH_take (i := 16) (oi := _) (v := undef) rfl (by kernel_rfl) (by kernel_rfl) (by kernel_rfl) (fun _ _ _ h => h) (Or.inr ⟨by kernel_rfl, rfl⟩) (by assumption) ?_
      try simp only [List.getElem_toArray, List.getElem_cons_zero, List.getElem_cons_succ, Act.put, List.setIfInBounds_toArray, List.set_cons_zero, List.set_cons_succ]
      refine wpAnyH_take (i := 17) (oi := _) (v := undef) rfl (by kernel_rfl) (by kernel_rfl) (by kernel_rfl) (fun _ _ _ h => h) (Or.inr ⟨by kernel_rfl, rfl⟩) (by assumption) ?_
      try simp only [List.getElem_toArray, List.getElem_cons_zero, List.getElem_cons_succ, Act.put, List.setIfInBounds_toArray, List.set_cons_zero, List.set_cons_succ]
      refine wpAnyH_take (i := 18) (oi := _) (v := undef) rfl (by kernel_rfl) (by kernel_rfl) (by kernel_rfl) (fun _ _ _ h => h) (Or.inr ⟨by kernel_rfl, rfl⟩) (by assumption) ?_
      try simp only [List.getElem_toArray, List.getElem_cons_zero, List.getElem_cons_succ, Act.put, List.setIfInBounds_toArray, List.set_cons_zero, List.set_cons_succ]
      refine wpAnyH_take (i := 19) (oi := _) (v := undef) rfl (by kernel_rfl) (by kernel_rfl) (by kernel_rfl) (fun _ _ _ h => h) (Or.inr ⟨by kernel_rfl, rfl⟩) (by assumption) ?_
      try simp only [List.getElem_toArray, List.getElem_cons_zero, List.getElem_cons_succ, Act.put, List.setIfInBounds_toArray, List.set_cons_zero, List.set_cons_succ]
      refine wpAnyH_take (i := 20) (oi := _) (v := undef) rfl (by kernel_rfl) (by kernel_rfl) (by kernel_rfl) (fun _ _ _ h => h) (Or.inr ⟨by kernel_rfl, rfl⟩) (by assumption) ?_
      try simp only [List.getElem_toArray, List.getElem_cons_zero, List.getElem_cons_succ, Act.put, List.setIfInBounds_toArray, List.set_cons_zero, List.set_cons_succ]
      refine wpAnyH_take (i := 21) (oi := _) (v := undef) rfl (by kernel_rfl) (by kernel_rfl) (by kernel_rfl) (fun _ _ _ h => h) (Or.inr ⟨by kernel_rfl, rfl⟩) (by assumption) ?_
      try simp only [List.getElem_toArray, List.getElem_cons_zero, List.getElem_cons_succ, Act.put, List.setIfInBounds_toArray, List.set_cons_zero, List.set_cons_succ]
      refine wpAnyH_take (i := 22) (oi := _) (v := .bool false) rfl (by kernel_rfl) (by kernel_rfl) (by kernel_rfl) (fun _ _ _ h => h) (Or.inl ⟨by kernel_rfl, ?_⟩) (by assumption) ?_
      · (intro w hSw; (try dsimp only at hSw); go_simp)
      try simp only [List.getElem_toArray, List.getElem_cons_zero, List.getElem_cons_succ, Act.put, List.setIfInBounds_toArray, List.set_cons_zero, List.set_cons_succ]
      refine wpAnyH_done (by kernel_rfl) ?_ _
      go_wp2
      go_ret
      have hJ := HJ.out
      subst hJ
      exact ⟨bool_at k N, HR.out.below (drew_below wr), HB.out.trans (But.of_below (drew_below wr))⟩
theorem letter_any (c : Nat) (w : World) : Calls Tryz.prog 181 #[.int .u8 (c : Int)] w fun e w' => e = .returned (.bool (letterB c)) ∧ w' = w := by
  by_cases h1 : 97 ≤ c
  · by_cases h2 : c ≤ 122
    · go_enter Tryz.func181, Tryz.ntmps181
      go_wp2
      go_ret
      exact ⟨by simp [letterB, h1, h2], rfl⟩
    · go_enter Tryz.func181, Tryz.ntmps181
      go_wp2
      go_ret
      exact ⟨by have h3 : ¬ c ≤ 90 := by omega
                have h4 : ¬ c ≤ 57 := by omega
                simp [letterB, h1, h2, h3, h4]
                omega, rfl⟩
  · by_cases h3 : 65 ≤ c
    · by_cases h4 : c ≤ 90
      · go_enter Tryz.func181, Tryz.ntmps181
        go_wp2
        go_ret
        exact ⟨by simp [letterB, h1, h3, h4], rfl⟩
      · go_enter Tryz.func181, Tryz.ntmps181
        go_wp2
        go_ret
        exact ⟨by have h5 : ¬ c ≤ 57 := by omega
                  simp [letterB, h1, h3, h4, h5]
                  omega, rfl⟩
    · by_cases h5 : 48 ≤ c
      · go_enter Tryz.func181, Tryz.ntmps181
        go_wp2
        go_ret
        exact ⟨by simp [letterB, h1, h3, h5]; omega, rfl⟩
      · go_enter Tryz.func181, Tryz.ntmps181
        go_wp2
        go_ret
        exact ⟨by simp [letterB, h1, h3, h5], rfl⟩
/-- text's table of the letters of atoms. -/
theorem u8_ne {c d : UInt8} (h : c ≠ d) : ((c.toNat : Int) == (d.toNat : Int)) = false := by
  rw [beq_eq_false_iff_ne]
  intro e
  exact h (UInt8.toNat_inj.1 (by omega))
theorem end_clo (c : UInt8) (W : World) : Calls Tryz.prog 179 #[.int .u8 (c.toNat : Int)] W fun e w' => e = .returned (.bool (notEnd c)) ∧ Below W.heap.size W w' := by
  by_cases h : c = 93
  · subst h
    go_enter Tryz.func179, Tryz.ntmps179
    go_wp2
    go_ret
    exact ⟨rfl, Below.refl _ _⟩
  · have h1 : ((c.toNat : Int) != 93) = true := by have := u8_ne h; simpa [bne] using this
    have h2 : notEnd c = true := by unfold notEnd; simpa using h
    rw [h2]
    go_enter Tryz.func179, Tryz.ntmps179
    go_wp2
    go_ret
    exact ⟨rfl, Below.refl _ _⟩
theorem host_clo (c : UInt8) (W : World) : Calls Tryz.prog 180 #[.int .u8 (c.toNat : Int)] W fun e w' => e = .returned (.bool (hostdotB c)) ∧ Below W.heap.size W w' := by
  by_cases h : c = 46
  · subst h
    go_enter Tryz.func180, Tryz.ntmps180
    go_wp2
    go_ret
    exact ⟨rfl, Below.refl _ _⟩
  · by_cases h' : c = 45
    · subst h'
      go_enter Tryz.func180, Tryz.ntmps180
      go_wp2
      go_ret
      exact ⟨rfl, Below.refl _ _⟩
    · have h1 : ((c.toNat : Int) == 46) = false := u8_ne h
      have h2 : ((c.toNat : Int) == 45) = false := u8_ne h'
      have h3 : hostdotB c = letterB c.toNat := by unfold hostdotB; simp [h, h']
      have HL := Lib.hid (fun w => letter_any c.toNat w)
      rw [h3]
      clear h h' h3
      generalize letterB c.toNat = L at HL
      go_enter Tryz.func180, Tryz.ntmps180
      go_wp2_with fail
      refine (HL.out _).mono ?_
      rintro e w2 ⟨rfl, hw2⟩
      rw [hw2]
      go_wp2
      go_ret
      exact ⟨rfl, Below.refl _ _⟩
set_option maxHeartbeats 1000000 in
theorem word_clo (c : UInt8) (W : World) (hA : AText W) : Calls Tryz.prog 154 #[.int .u8 (c.toNat : Int)] W fun e w' => e = .returned (.bool (wordB c)) ∧ Below W.heap.size W w' := by
  by_cases h : c = 46
  · subst h
    go_enter Tryz.func154, Tryz.ntmps154
    go_wp2
    go_ret
    exact ⟨rfl, Below.refl _ _⟩
  · have h1 : ((c.toNat : Int) == 46) = false := u8_ne h
    have h3 : wordB c = atomB c.toNat := by unfold wordB; simp [h]
    have hb := alloc_below W (.cells #[byteV c] 5)
    have HA := Lib.hid (Atom_any ⟨#[c]⟩ (by show 1 ≤ _; omega) _ (hA.below hb))
    have h4 : atomL [c] = atomB c.toNat := by simp [atomL]
    have h5 : (⟨#[c]⟩ : ByteArray).data.toList = [c] := rfl
    rw [h5, h4] at HA
    have hcv := conv_row (w := W.alloc (.cells #[byteV c] 5)) (n := 1) (c := 1) (l := [c]) rfl (Row.made W [byteV c] 5 1)
    unfold byteV at hcv HA hb
    have HB := Lib.hid hb
    clear hb
    rw [h3]
    clear h h3 h4 h5
    generalize atomB c.toNat = L at HA
    go_enter Tryz.func154, Tryz.ntmps154
    go_wp2_with fail
    refine HA.out.mono ?_
    rintro e w2 ⟨rfl, hw2⟩
    go_wp2
    go_ret
    exact ⟨rfl, HB.out.trans (hw2.mono HB.out.size)⟩
end Go.Proofs.YtffngbjnbigipaaGreatDoor
