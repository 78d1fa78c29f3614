/- alias.ParseTarget: what it hands back. -/
import Derived.Test.YtkoncmmbdlnmfaaGreatDoorFull
import Derived.Test.YtkoncmmbdlnmfaaGreatDoorMay
import Derived.Test.YtkoncmmbdlnmfaaGreatDoorLinT
import Derived.Test.YtkoncmmbdlnmfaaGreatDoorEK2
import Derived.Test.YtkoncmmbdlnmfaaGreatDoorParse
namespace Go.Proofs.YtkoncmmbdlnmfaaGreatDoor
open Go.RowKit Go.Lib
set_option linter.unusedSimpArgs false
set_option linter.unusedVariables false
set_option linter.unnecessarySimpa false
set_option maxRecDepth 100000

/-- the cells of a block that only newer calls have left behind. -/
structure Four4 (B : Nat) (x y z u : Value) (W : World) : Prop where
  c : Four B x y z u W
  f0 : W.frozen? ⟨B, 0, none⟩ = false
  f1 : W.frozen? ⟨B, 1, none⟩ = false
  f2 : W.frozen? ⟨B, 2, none⟩ = false
  f3 : W.frozen? ⟨B, 3, none⟩ = false
theorem Four4.made (w : World) (x y z u : Value) (t : TypeId) : Four4 w.heap.size x y z u (w.alloc (.cells #[x, y, z, u] t)) := by
  have h := heap_alloc_new w (.cells #[x, y, z, u] t)
  refine ⟨Four.made w x y z u t, ?_, ?_, ?_, ?_⟩ <;> simp only [World.frozen?, h] <;> rfl
theorem Four4.below {B : Nat} {x y z u : Value} {w W : World} (h : Four4 B x y z u w) (hb : Below w.heap.size w W) : Four4 B x y z u W := by
  have hl := h.c.lt
  have hh := hb.block B hl
  exact ⟨⟨Nat.lt_of_lt_of_le hl hb.size, (World.cell?_of_block (w := w) hh).trans h.c.c0, (World.cell?_of_block (w := w) hh).trans h.c.c1, (World.cell?_of_block (w := w) hh).trans h.c.c2, (World.cell?_of_block (w := w) hh).trans h.c.c3⟩,
    (World.frozen?_of_block (w := w) hh).trans h.f0, (World.frozen?_of_block (w := w) hh).trans h.f1, (World.frozen?_of_block (w := w) hh).trans h.f2, (World.frozen?_of_block (w := w) hh).trans h.f3⟩
theorem cell_off (W : World) (B o o' : Nat) (x : Value) (h : o ≠ o') : (W.setCell ⟨B, o, none⟩ x).cell? ⟨B, o', none⟩ = W.cell? ⟨B, o', none⟩ :=
  World.cell?_setCell_other _ _ _ _ (by intro e; injection e with _ e2 _; exact h e2)
theorem Four4.set {B : Nat} {x y z u : Value} {W : World} (h : Four4 B x y z u W) (a b c d : Value) : Four4 B a b c d ((((W.setCell ⟨B, 0, none⟩ a).setCell ⟨B, 1, none⟩ b).setCell ⟨B, 2, none⟩ c).setCell ⟨B, 3, none⟩ d) := by
  have e0 := set_same W ⟨B, 0, none⟩ _ a h.c.c0
  have k1 : (W.setCell ⟨B, 0, none⟩ a).cell? ⟨B, 1, none⟩ = some y := (cell_off W B 0 1 a (by decide)).trans h.c.c1
  have e1 := set_same _ ⟨B, 1, none⟩ _ b k1
  have k2 : ((W.setCell ⟨B, 0, none⟩ a).setCell ⟨B, 1, none⟩ b).cell? ⟨B, 2, none⟩ = some z := ((cell_off _ B 1 2 b (by decide)).trans (cell_off W B 0 2 a (by decide))).trans h.c.c2
  have e2 := set_same _ ⟨B, 2, none⟩ _ c k2
  have k3 : (((W.setCell ⟨B, 0, none⟩ a).setCell ⟨B, 1, none⟩ b).setCell ⟨B, 2, none⟩ c).cell? ⟨B, 3, none⟩ = some u := (((cell_off _ B 2 3 c (by decide)).trans (cell_off _ B 1 3 b (by decide))).trans (cell_off W B 0 3 a (by decide))).trans h.c.c3
  have e3 := set_same _ ⟨B, 3, none⟩ _ d k3
  refine ⟨⟨by simpa [World.setCell] using h.c.lt, ?_, ?_, ?_, e3⟩, ?_, ?_, ?_, ?_⟩
  · rw [cell_off _ B 3 0 d (by decide), cell_off _ B 2 0 c (by decide), cell_off _ B 1 0 b (by decide)]; exact e0
  · rw [cell_off _ B 3 1 d (by decide), cell_off _ B 2 1 c (by decide)]; exact e1
  · rw [cell_off _ B 3 2 d (by decide)]; exact e2
  · simp only [World.frozen?_setCell]; exact h.f0
  · simp only [World.frozen?_setCell]; exact h.f1
  · simp only [World.frozen?_setCell]; exact h.f2
  · simp only [World.frozen?_setCell]; exact h.f3
theorem Four4.put3 {B : Nat} {x y z u : Value} {W : World} (h : Four4 B x y z u W) (d : Value) : Four4 B x y z d (W.setCell ⟨B, 3, none⟩ d) := by
  refine ⟨⟨by simpa [World.setCell] using h.c.lt, ?_, ?_, ?_, set_same W ⟨B, 3, none⟩ _ d h.c.c3⟩, ?_, ?_, ?_, ?_⟩
  · rw [cell_off _ B 3 0 d (by decide)]; exact h.c.c0
  · rw [cell_off _ B 3 1 d (by decide)]; exact h.c.c1
  · rw [cell_off _ B 3 2 d (by decide)]; exact h.c.c2
  · simp only [World.frozen?_setCell]; exact h.f0
  · simp only [World.frozen?_setCell]; exact h.f1
  · simp only [World.frozen?_setCell]; exact h.f2
  · simp only [World.frozen?_setCell]; exact h.f3
theorem Four4.other {B B' o : Nat} {x y z u v : Value} {W : World} (h : Four4 B x y z u W) (hne : B ≠ B') : Four4 B x y z u (W.setCell ⟨B', o, none⟩ v) := by
  have hc : ∀ j, (W.setCell ⟨B', o, none⟩ v).cell? ⟨B, j, none⟩ = W.cell? ⟨B, j, none⟩ := fun j => World.cell?_setCell_other _ _ _ _ (by intro e; injection e with e1 _ _; exact hne e1.symm)
  exact ⟨⟨by simpa [World.setCell] using h.c.lt, (hc 0).trans h.c.c0, (hc 1).trans h.c.c1, (hc 2).trans h.c.c2, (hc 3).trans h.c.c3⟩, by simp only [World.frozen?_setCell]; exact h.f0, by simp only [World.frozen?_setCell]; exact h.f1, by simp only [World.frozen?_setCell]; exact h.f2, by simp only [World.frozen?_setCell]; exact h.f3⟩
theorem set4_below {n B : Nat} {w W : World} (h : Below n w W) (hB : n ≤ B) (a b c d : Value) : Below n w ((((W.setCell ⟨B, 0, none⟩ a).setCell ⟨B, 1, none⟩ b).setCell ⟨B, 2, none⟩ c).setCell ⟨B, 3, none⟩ d) :=
  (((h.setCell (p := ⟨B, 0, none⟩) hB _).setCell (p := ⟨B, 1, none⟩) hB _).setCell (p := ⟨B, 2, none⟩) hB _).setCell (p := ⟨B, 3, none⟩) hB _
/-- what ParseTarget hands back: a target and no error, or none and an error. -/
def ParR (s : List UInt8) (e : Ending) : Prop := ∃ c : Nat, e = .returned (.tuple #[tgV ((targF s).getD tg0), .int .i64 (c : Int)]) ∧ (c = 0 ↔ (targF s).isSome = true)
set_option maxHeartbeats 8000000 in
theorem ParT_any (s : ByteArray) (hs : s.size ≤ 1000000000) (w : World) (hE : Env w) (hB : Begs w) : Calls Tryz.prog 43 #[.string s] w fun e w' => ParR s.data.toList e ∧ Below w.heap.size w w' := by
  have hb0 := alloc_below w (.cells #[.int .i64 0, .string ⟨#[]⟩, .string ⟨#[]⟩, .string ⟨#[]⟩] 28)
  have hF0 := Four4.made w (.int .i64 0) (.string ⟨#[]⟩) (.string ⟨#[]⟩) (.string ⟨#[]⟩) 28
  have HK := Lib.hid (Kind_any s _ (hB.below hb0))
  have HE := Lib.hid (hE.below hb0)
  have hkl := kind_le s.data.toList
  have hlen := kind_len s.data.toList
  have HT := Lib.hid (targF_tF s.data.toList)
  have HP := Lib.hid (fun W (h : Env W) => Parse_any s hs W h)
  obtain ⟨K, hK⟩ : ∃ K, kindL s.data.toList = K := ⟨_, rfl⟩
  rw [hK] at HK hkl HT hlen
  clear hK hE hB
  unfold ParR
  generalize hX : targF s.data.toList = X at HT
  generalize parseL s.data.toList = PL at HT HP
  clear hX
  have HB0 := Lib.hid hb0
  have HF0 := Lib.hid hF0
  clear hb0 hF0
  obtain ⟨k, r⟩ := K
  simp only at hkl HK hlen
  go_enter Tryz.func43, Tryz.ntmps43
  go_wp2_with fail
  refine HK.out.mono ?_
  rintro e w2 ⟨rfl, hb2⟩
  have HB2 := Lib.hid (HB0.out.trans (hb2.mono HB0.out.size))
  have HF2 := Lib.hid (HF0.out.below hb2)
  have HE2 := Lib.hid (HE.out.below hb2)
  clear hb2
  have h7 : k = 1 ∨ k = 2 ∨ k = 3 ∨ k = 4 ∨ k = 5 ∨ k = 6 ∨ k = 7 := by omega
  clear hkl
  rcases h7 with rfl | rfl | rfl | rfl | rfl | rfl | rfl
  · obtain ⟨px, py, pe⟩ := PL
    have hX : X = if pe = 0 then some (1, (px, py), []) else none := HT.out
    clear HT
    have HX := Lib.hid hX
    clear hX
    simp only [parV, addrV] at HP
    have HN := Lib.hid (HF2.out.below (alloc_below w2 (.cells #[.int .i64 1, .string ⟨#[]⟩, .string ⟨#[]⟩, .string ⟨r.toArray⟩] 28)))
    have HBN := Lib.hid (HB2.out.trans ((alloc_below w2 (.cells #[.int .i64 1, .string ⟨#[]⟩, .string ⟨#[]⟩, .string ⟨r.toArray⟩] 28)).mono HB2.out.size))
    go_wp2_with fail
    refine (HP.out _ (HE2.out.below (alloc_below _ _))).mono ?_
    rintro e w3 ⟨rfl, hb3⟩
    have HF3 := Lib.hid (HN.out.below hb3)
    have HB3 := Lib.hid (HBN.out.trans (hb3.mono HBN.out.size))
    clear hb3
    have HF4 := Lib.hid (HF3.out.below (alloc_below w3 (.cells #[.string ⟨px.toArray⟩, .string ⟨py.toArray⟩] 26)))
    have hc4 := Two.made w3 (.string ⟨px.toArray⟩) (.string ⟨py.toArray⟩) 26
    have HB4 := Lib.hid (HB3.out.trans ((alloc_below w3 (.cells #[.string ⟨px.toArray⟩, .string ⟨py.toArray⟩] 26)).mono HB3.out.size))
    generalize hw4 : w3.alloc (.cells #[.string ⟨px.toArray⟩, .string ⟨py.toArray⟩] 26) = w4 at HF4 hc4 HB4
    obtain ⟨-, k0, k1⟩ := hc4
    obtain ⟨⟨-, c0, c1, c2, c3⟩, f0, f1, f2, f3⟩ := HF4.out
    by_cases h0 : pe = 0
    · subst h0
      go_wp2
      have hs := (HF4.out.set (.int .i64 1) (.string ⟨px.toArray⟩) (.string ⟨py.toArray⟩) (.string ⟨#[]⟩)).c
      refine bodyPost_ret (v := .tuple #[.agg #[.int .i64 1, .string ⟨px.toArray⟩, .string ⟨py.toArray⟩, .string ⟨#[]⟩], .int .i64 0]) (by rw [results_cell_tmp Tryz.results43]; simp [go_sem, hs.c0, hs.c1, hs.c2, hs.c3]) rfl ⟨⟨0, by rw [HX.out]; rfl, by rw [HX.out]; simp⟩, set4_below HB4.out (Nat.le_refl _) _ _ _ _⟩
    · have hne : ((pe : Int) != 0) = true := by rw [bne_iff_ne]; omega
      have HX2 := Lib.hid (show X = none by rw [HX.out, if_neg h0])
      go_wp2
      have hs := (HF4.out.set (.int .i64 0) (.string ⟨#[]⟩) (.string ⟨#[]⟩) (.string ⟨#[]⟩)).c
      refine bodyPost_ret (v := .tuple #[.agg #[.int .i64 0, .string ⟨#[]⟩, .string ⟨#[]⟩, .string ⟨#[]⟩], .int .i64 (pe : Int)]) (by rw [results_cell_tmp Tryz.results43]; simp [go_sem, hs.c0, hs.c1, hs.c2, hs.c3]) rfl ⟨⟨pe, by rw [HX2.out]; rfl, by rw [HX2.out]; simp [h0]⟩, set4_below HB4.out (Nat.le_refl _) _ _ _ _⟩
  · have hX : X = if localB r = true then some (2, ([], []), lowL r) else none := HT.out
    clear HT
    have HX := Lib.hid hX
    clear hX
    have HLo := Lib.hid (fun W => Lower_any ⟨r.toArray⟩ (by show r.length ≤ _; rw [list_len] at hlen; omega) W)
    have HLc := Lib.hid (fun W (h : AText W) => alocal_any ⟨r.toArray⟩ (by show r.length ≤ _; rw [list_len] at hlen; omega) W h)
    rw [show (⟨r.toArray⟩ : ByteArray).data.toList = r from rfl] at HLo HLc
    generalize localB r = q at HX HLc
    generalize lowL r = n at HX HLo
    have HF6 := Lib.hid (Four4.made w2 (.int .i64 2) (.string ⟨#[]⟩) (.string ⟨#[]⟩) (.string ⟨r.toArray⟩) 28)
    have HN := Lib.hid (HF2.out.below (alloc_below w2 (.cells #[.int .i64 2, .string ⟨#[]⟩, .string ⟨#[]⟩, .string ⟨r.toArray⟩] 28)))
    have HBN := Lib.hid (HB2.out.trans ((alloc_below w2 (.cells #[.int .i64 2, .string ⟨#[]⟩, .string ⟨#[]⟩, .string ⟨r.toArray⟩] 28)).mono HB2.out.size))
    have HEN := Lib.hid (HE2.out.below (alloc_below w2 (.cells #[.int .i64 2, .string ⟨#[]⟩, .string ⟨#[]⟩, .string ⟨r.toArray⟩] 28)))
    go_wp2_with fail
    refine (HLo.out _).mono ?_
    rintro e w3 ⟨rfl, hb3⟩
    have HF63 := Lib.hid (HF6.out.below hb3)
    have HN3 := Lib.hid (HN.out.below hb3)
    have HB3 := Lib.hid (HBN.out.trans (hb3.mono HBN.out.size))
    have HE3 := Lib.hid (HEN.out.below hb3)
    clear hb3
    go_wp2_with fail
    refine (HLc.out _ HE3.out.atx).mono ?_
    rintro e w4 ⟨rfl, hb4⟩
    have HF64 := Lib.hid (HF63.out.below hb4)
    have HN4 := Lib.hid (HN3.out.below hb4)
    have HB4 := Lib.hid (HB3.out.trans (hb4.mono HB3.out.size))
    clear hb4
    have hne : w.heap.size ≠ w2.heap.size := Nat.ne_of_lt HF2.out.c.lt
    have hne2 : w2.heap.size ≠ w.heap.size := fun e => hne e.symm
    obtain ⟨⟨-, c0, c1, c2, c3⟩, f0, f1, f2, f3⟩ := HN4.out
    obtain ⟨⟨-, d0, d1, d2, d3⟩, g0, g1, g2, g3⟩ := HF64.out
    have HN5 := Lib.hid (HN4.out.other (o := 3) (v := .string ⟨n.toArray⟩) hne)
    have HB5 := Lib.hid (HB4.out.setCell (p := ⟨w2.heap.size, 3, none⟩) (Nat.le_of_lt HF2.out.c.lt) (.string ⟨n.toArray⟩))
    cases q with
    | true =>
      go_wp2
      have hs := (HN5.out.set (.int .i64 2) (.string ⟨#[]⟩) (.string ⟨#[]⟩) (.string ⟨n.toArray⟩)).c
      refine bodyPost_ret (v := .tuple #[.agg #[.int .i64 2, .string ⟨#[]⟩, .string ⟨#[]⟩, .string ⟨n.toArray⟩], .int .i64 0]) (by rw [results_cell_tmp Tryz.results43]; simp [go_sem, hs.c0, hs.c1, hs.c2, hs.c3]) rfl ⟨⟨0, by rw [HX.out]; rfl, by rw [HX.out]; simp⟩, set4_below HB5.out (Nat.le_refl _) _ _ _ _⟩
    | false =>
      go_wp2
      have hs := (HN5.out.set (.int .i64 0) (.string ⟨#[]⟩) (.string ⟨#[]⟩) (.string ⟨#[]⟩)).c
      refine bodyPost_ret (v := .tuple #[.agg #[.int .i64 0, .string ⟨#[]⟩, .string ⟨#[]⟩, .string ⟨#[]⟩], .int .i64 5]) (by rw [results_cell_tmp Tryz.results43]; simp [go_sem, hs.c0, hs.c1, hs.c2, hs.c3]) rfl ⟨⟨5, by rw [HX.out]; rfl, by rw [HX.out]; simp⟩, set4_below HB5.out (Nat.le_refl _) _ _ _ _⟩
  · have hX : X = if localB r = true then some (3, ([], []), lowL r) else none := HT.out
    clear HT
    have HX := Lib.hid hX
    clear hX
    have HLo := Lib.hid (fun W => Lower_any ⟨r.toArray⟩ (by show r.length ≤ _; rw [list_len] at hlen; omega) W)
    have HLc := Lib.hid (fun W (h : AText W) => alocal_any ⟨r.toArray⟩ (by show r.length ≤ _; rw [list_len] at hlen; omega) W h)
    rw [show (⟨r.toArray⟩ : ByteArray).data.toList = r from rfl] at HLo HLc
    generalize localB r = q at HX HLc
    generalize lowL r = n at HX HLo
    have HF6 := Lib.hid (Four4.made w2 (.int .i64 3) (.string ⟨#[]⟩) (.string ⟨#[]⟩) (.string ⟨r.toArray⟩) 28)
    have HN := Lib.hid (HF2.out.below (alloc_below w2 (.cells #[.int .i64 3, .string ⟨#[]⟩, .string ⟨#[]⟩, .string ⟨r.toArray⟩] 28)))
    have HBN := Lib.hid (HB2.out.trans ((alloc_below w2 (.cells #[.int .i64 3, .string ⟨#[]⟩, .string ⟨#[]⟩, .string ⟨r.toArray⟩] 28)).mono HB2.out.size))
    have HEN := Lib.hid (HE2.out.below (alloc_below w2 (.cells #[.int .i64 3, .string ⟨#[]⟩, .string ⟨#[]⟩, .string ⟨r.toArray⟩] 28)))
    go_wp2_with fail
    refine (HLo.out _).mono ?_
    rintro e w3 ⟨rfl, hb3⟩
    have HF63 := Lib.hid (HF6.out.below hb3)
    have HN3 := Lib.hid (HN.out.below hb3)
    have HB3 := Lib.hid (HBN.out.trans (hb3.mono HBN.out.size))
    have HE3 := Lib.hid (HEN.out.below hb3)
    clear hb3
    go_wp2_with fail
    refine (HLc.out _ HE3.out.atx).mono ?_
    rintro e w4 ⟨rfl, hb4⟩
    have HF64 := Lib.hid (HF63.out.below hb4)
    have HN4 := Lib.hid (HN3.out.below hb4)
    have HB4 := Lib.hid (HB3.out.trans (hb4.mono HB3.out.size))
    clear hb4
    have hne : w.heap.size ≠ w2.heap.size := Nat.ne_of_lt HF2.out.c.lt
    have hne2 : w2.heap.size ≠ w.heap.size := fun e => hne e.symm
    obtain ⟨⟨-, c0, c1, c2, c3⟩, f0, f1, f2, f3⟩ := HN4.out
    obtain ⟨⟨-, d0, d1, d2, d3⟩, g0, g1, g2, g3⟩ := HF64.out
    have HN5 := Lib.hid (HN4.out.other (o := 3) (v := .string ⟨n.toArray⟩) hne)
    have HB5 := Lib.hid (HB4.out.setCell (p := ⟨w2.heap.size, 3, none⟩) (Nat.le_of_lt HF2.out.c.lt) (.string ⟨n.toArray⟩))
    cases q with
    | true =>
      go_wp2
      have hs := (HN5.out.set (.int .i64 3) (.string ⟨#[]⟩) (.string ⟨#[]⟩) (.string ⟨n.toArray⟩)).c
      refine bodyPost_ret (v := .tuple #[.agg #[.int .i64 3, .string ⟨#[]⟩, .string ⟨#[]⟩, .string ⟨n.toArray⟩], .int .i64 0]) (by rw [results_cell_tmp Tryz.results43]; simp [go_sem, hs.c0, hs.c1, hs.c2, hs.c3]) rfl ⟨⟨0, by rw [HX.out]; rfl, by rw [HX.out]; simp⟩, set4_below HB5.out (Nat.le_refl _) _ _ _ _⟩
    | false =>
      go_wp2
      have hs := (HN5.out.set (.int .i64 0) (.string ⟨#[]⟩) (.string ⟨#[]⟩) (.string ⟨#[]⟩)).c
      refine bodyPost_ret (v := .tuple #[.agg #[.int .i64 0, .string ⟨#[]⟩, .string ⟨#[]⟩, .string ⟨#[]⟩], .int .i64 5]) (by rw [results_cell_tmp Tryz.results43]; simp [go_sem, hs.c0, hs.c1, hs.c2, hs.c3]) rfl ⟨⟨5, by rw [HX.out]; rfl, by rw [HX.out]; simp⟩, set4_below HB5.out (Nat.le_refl _) _ _ _ _⟩
  · have hX : X = if mayName r = true then some (4, ([], []), r) else none := HT.out
    clear HT
    have HX := Lib.hid hX
    clear hX
    have HM := Lib.hid (fun W => MayName_any ⟨r.toArray⟩ (by show r.length ≤ _; rw [list_len] at hlen; omega) W)
    rw [show (⟨r.toArray⟩ : ByteArray).data.toList = r from rfl] at HM
    generalize mayName r = q at HX HM
    have HF6 := Lib.hid (Four4.made w2 (.int .i64 4) (.string ⟨#[]⟩) (.string ⟨#[]⟩) (.string ⟨r.toArray⟩) 28)
    have HN := Lib.hid (HF2.out.below (alloc_below w2 (.cells #[.int .i64 4, .string ⟨#[]⟩, .string ⟨#[]⟩, .string ⟨r.toArray⟩] 28)))
    have HBN := Lib.hid (HB2.out.trans ((alloc_below w2 (.cells #[.int .i64 4, .string ⟨#[]⟩, .string ⟨#[]⟩, .string ⟨r.toArray⟩] 28)).mono HB2.out.size))
    have hne : w.heap.size ≠ w2.heap.size := Nat.ne_of_lt HF2.out.c.lt
    have hne2 : w2.heap.size ≠ w.heap.size := fun e => hne e.symm
    go_wp2_with fail
    refine (HM.out _).mono ?_
    rintro e w3 ⟨rfl, hb⟩
    have HF63 := Lib.hid (HF6.out.below hb)
    have HN3 := Lib.hid (HN.out.below hb)
    have HB3 := Lib.hid (HBN.out.trans (hb.mono HBN.out.size))
    clear hb
    obtain ⟨⟨-, c0, c1, c2, c3⟩, f0, f1, f2, f3⟩ := HN3.out
    obtain ⟨⟨-, d0, d1, d2, d3⟩, g0, g1, g2, g3⟩ := HF63.out
    cases q with
    | true =>
      go_wp2
      have hs := (HN3.out.set (.int .i64 4) (.string ⟨#[]⟩) (.string ⟨#[]⟩) (.string ⟨r.toArray⟩)).c
      refine bodyPost_ret (v := .tuple #[.agg #[.int .i64 4, .string ⟨#[]⟩, .string ⟨#[]⟩, .string ⟨r.toArray⟩], .int .i64 0]) (by rw [results_cell_tmp Tryz.results43]; simp [go_sem, hs.c0, hs.c1, hs.c2, hs.c3]) rfl ⟨⟨0, by rw [HX.out]; rfl, by rw [HX.out]; simp⟩, set4_below HB3.out (Nat.le_refl _) _ _ _ _⟩
    | false =>
      go_wp2
      have hs := (HN3.out.set (.int .i64 0) (.string ⟨#[]⟩) (.string ⟨#[]⟩) (.string ⟨#[]⟩)).c
      refine bodyPost_ret (v := .tuple #[.agg #[.int .i64 0, .string ⟨#[]⟩, .string ⟨#[]⟩, .string ⟨#[]⟩], .int .i64 5]) (by rw [results_cell_tmp Tryz.results43]; simp [go_sem, hs.c0, hs.c1, hs.c2, hs.c3]) rfl ⟨⟨5, by rw [HX.out]; rfl, by rw [HX.out]; simp⟩, set4_below HB3.out (Nat.le_refl _) _ _ _ _⟩
  · have hX : X = if mayName (trimF r) = true then some (5, ([], []), trimF r) else none := HT.out
    clear HT
    have HX := Lib.hid hX
    clear hX
    have HL := Lib.hid (fun W => trimL_any ⟨r.toArray⟩ W)
    rw [show (⟨r.toArray⟩ : ByteArray).data.toList = r from rfl] at HL
    have hnl : (trimF r).length ≤ 1000000000 := by
      have := (List.dropWhile_sublist blkB (l := r)).length_le
      unfold trimF
      rw [list_len] at hlen
      omega
    generalize trimF r = n at HX HL hnl
    have HM := Lib.hid (fun W => MayName_any ⟨n.toArray⟩ (by show n.length ≤ _; omega) W)
    rw [show (⟨n.toArray⟩ : ByteArray).data.toList = n from rfl] at HM
    generalize mayName n = q at HX HM
    have HF6 := Lib.hid (Four4.made w2 (.int .i64 5) (.string ⟨#[]⟩) (.string ⟨#[]⟩) (.string ⟨r.toArray⟩) 28)
    have HN := Lib.hid (HF2.out.below (alloc_below w2 (.cells #[.int .i64 5, .string ⟨#[]⟩, .string ⟨#[]⟩, .string ⟨r.toArray⟩] 28)))
    have HBN := Lib.hid (HB2.out.trans ((alloc_below w2 (.cells #[.int .i64 5, .string ⟨#[]⟩, .string ⟨#[]⟩, .string ⟨r.toArray⟩] 28)).mono HB2.out.size))
    have hne : w.heap.size ≠ w2.heap.size := Nat.ne_of_lt HF2.out.c.lt
    have hne2 : w2.heap.size ≠ w.heap.size := fun e => hne e.symm
    go_wp2_with fail
    refine (HL.out _).mono ?_
    rintro e w3 ⟨rfl, hb⟩
    have HF63 := Lib.hid (HF6.out.below hb)
    have HN3 := Lib.hid (HN.out.below hb)
    have HB3 := Lib.hid (HBN.out.trans (hb.mono HBN.out.size))
    clear hb
    obtain ⟨⟨-, c0, c1, c2, c3⟩, f0, f1, f2, f3⟩ := HN3.out
    obtain ⟨⟨-, d0, d1, d2, d3⟩, g0, g1, g2, g3⟩ := HF63.out
    have HN4 := Lib.hid (HN3.out.other (o := 3) (v := .string ⟨n.toArray⟩) hne)
    have HB4 := Lib.hid (HB3.out.setCell (p := ⟨w2.heap.size, 3, none⟩) (Nat.le_of_lt HF2.out.c.lt) (.string ⟨n.toArray⟩))
    have HF64 := Lib.hid (HF63.out.put3 (.string ⟨n.toArray⟩))
    go_wp2_with fail
    refine (HM.out _).mono ?_
    rintro e w5 ⟨rfl, hb⟩
    have HF65 := Lib.hid (HF64.out.below hb)
    have HN5 := Lib.hid (HN4.out.below hb)
    have HB5 := Lib.hid (HB4.out.trans (hb.mono HB4.out.size))
    clear hb
    clear c0 c1 c2 c3 f0 f1 f2 f3 d0 d1 d2 d3 g0 g1 g2 g3
    obtain ⟨⟨-, c0, c1, c2, c3⟩, f0, f1, f2, f3⟩ := HN5.out
    obtain ⟨⟨-, d0, d1, d2, d3⟩, g0, g1, g2, g3⟩ := HF65.out
    cases q with
    | true =>
      go_wp2
      have hs := (HN5.out.set (.int .i64 5) (.string ⟨#[]⟩) (.string ⟨#[]⟩) (.string ⟨n.toArray⟩)).c
      refine bodyPost_ret (v := .tuple #[.agg #[.int .i64 5, .string ⟨#[]⟩, .string ⟨#[]⟩, .string ⟨n.toArray⟩], .int .i64 0]) (by rw [results_cell_tmp Tryz.results43]; simp [go_sem, hs.c0, hs.c1, hs.c2, hs.c3]) rfl ⟨⟨0, by rw [HX.out]; rfl, by rw [HX.out]; simp⟩, set4_below HB5.out (Nat.le_refl _) _ _ _ _⟩
    | false =>
      go_wp2
      have hs := (HN5.out.set (.int .i64 0) (.string ⟨#[]⟩) (.string ⟨#[]⟩) (.string ⟨#[]⟩)).c
      refine bodyPost_ret (v := .tuple #[.agg #[.int .i64 0, .string ⟨#[]⟩, .string ⟨#[]⟩, .string ⟨#[]⟩], .int .i64 5]) (by rw [results_cell_tmp Tryz.results43]; simp [go_sem, hs.c0, hs.c1, hs.c2, hs.c3]) rfl ⟨⟨5, by rw [HX.out]; rfl, by rw [HX.out]; simp⟩, set4_below HB5.out (Nat.le_refl _) _ _ _ _⟩
  · have hX : X = if (!(trimW r).isEmpty && decide ((trimW r).length ≤ 100) && plainL (trimW r)) = true then some (6, ([], []), trimW r) else none := HT.out
    clear HT
    have HX := Lib.hid hX
    clear hX
    have HL := Lib.hid (fun W => tTrim_any ⟨r.toArray⟩ (by show r.length ≤ _; rw [list_len] at hlen; omega) W)
    rw [show (⟨r.toArray⟩ : ByteArray).data.toList = r from rfl] at HL
    have hnl : (trimW r).length ≤ 1000000000 := by
      have := trimW_len r
      rw [list_len] at hlen
      omega
    generalize trimW r = n at HX HL hnl
    have HM := Lib.hid (fun W => Plain_any ⟨n.toArray⟩ (by show n.length ≤ _; omega) W)
    rw [show (⟨n.toArray⟩ : ByteArray).data.toList = n from rfl] at HM
    generalize plainL n = q at HX HM
    have HF6 := Lib.hid (Four4.made w2 (.int .i64 6) (.string ⟨#[]⟩) (.string ⟨#[]⟩) (.string ⟨r.toArray⟩) 28)
    have HN := Lib.hid (HF2.out.below (alloc_below w2 (.cells #[.int .i64 6, .string ⟨#[]⟩, .string ⟨#[]⟩, .string ⟨r.toArray⟩] 28)))
    have HBN := Lib.hid (HB2.out.trans ((alloc_below w2 (.cells #[.int .i64 6, .string ⟨#[]⟩, .string ⟨#[]⟩, .string ⟨r.toArray⟩] 28)).mono HB2.out.size))
    have hne : w.heap.size ≠ w2.heap.size := Nat.ne_of_lt HF2.out.c.lt
    have hne2 : w2.heap.size ≠ w.heap.size := fun e => hne e.symm
    go_wp2_with fail
    refine (HL.out _).mono ?_
    rintro e w3 ⟨rfl, hb⟩
    have HF63 := Lib.hid (HF6.out.below hb)
    have HN3 := Lib.hid (HN.out.below hb)
    have HB3 := Lib.hid (HBN.out.trans (hb.mono HBN.out.size))
    clear hb
    obtain ⟨⟨-, c0, c1, c2, c3⟩, f0, f1, f2, f3⟩ := HN3.out
    obtain ⟨⟨-, d0, d1, d2, d3⟩, g0, g1, g2, g3⟩ := HF63.out
    have HN4 := Lib.hid (HN3.out.other (o := 3) (v := .string ⟨n.toArray⟩) hne)
    have HB4 := Lib.hid (HB3.out.setCell (p := ⟨w2.heap.size, 3, none⟩) (Nat.le_of_lt HF2.out.c.lt) (.string ⟨n.toArray⟩))
    have HF64 := Lib.hid (HF63.out.put3 (.string ⟨n.toArray⟩))
    by_cases hn0 : n = []
    · subst hn0
      have HX := Lib.hid (show X = none from HX.out)
      go_wp2
      have hs := (HN4.out.set (.int .i64 0) (.string ⟨#[]⟩) (.string ⟨#[]⟩) (.string ⟨#[]⟩)).c
      refine bodyPost_ret (v := .tuple #[.agg #[.int .i64 0, .string ⟨#[]⟩, .string ⟨#[]⟩, .string ⟨#[]⟩], .int .i64 5]) (by rw [results_cell_tmp Tryz.results43]; simp [go_sem, hs.c0, hs.c1, hs.c2, hs.c3]) rfl ⟨⟨5, by rw [HX.out]; rfl, by rw [HX.out]; simp⟩, set4_below HB4.out (Nat.le_refl _) _ _ _ _⟩
    · obtain ⟨x, n', rfl⟩ := List.exists_cons_of_ne_nil hn0
      have hsz : (⟨(x :: n').toArray⟩ : ByteArray).size = n'.length + 1 := rfl
      by_cases hn1 : n'.length + 1 ≤ 100
      · have hi : ((n'.length + 1 : Nat) : Int) ≤ 100 := by omega
        have HX := Lib.hid (show X = if q = true then some (6, ([], []), x :: n') else none by rw [HX.out]; simp [hn1])
        go_wp2_with fail
        refine (HM.out _).mono ?_
        rintro e w5 ⟨rfl, hb⟩
        have HF65 := Lib.hid (HF64.out.below hb)
        have HN5 := Lib.hid (HN4.out.below hb)
        have HB5 := Lib.hid (HB4.out.trans (hb.mono HB4.out.size))
        clear hb
        clear c0 c1 c2 c3 f0 f1 f2 f3 d0 d1 d2 d3 g0 g1 g2 g3
        obtain ⟨⟨-, c0, c1, c2, c3⟩, f0, f1, f2, f3⟩ := HN5.out
        obtain ⟨⟨-, d0, d1, d2, d3⟩, g0, g1, g2, g3⟩ := HF65.out
        cases q with
        | true =>
          go_wp2
          have hs := (HN5.out.set (.int .i64 6) (.string ⟨#[]⟩) (.string ⟨#[]⟩) (.string ⟨(x :: n').toArray⟩)).c
          refine bodyPost_ret (v := .tuple #[.agg #[.int .i64 6, .string ⟨#[]⟩, .string ⟨#[]⟩, .string ⟨(x :: n').toArray⟩], .int .i64 0]) (by rw [results_cell_tmp Tryz.results43]; simp [go_sem, hs.c0, hs.c1, hs.c2, hs.c3]) rfl ⟨⟨0, by rw [HX.out]; rfl, by rw [HX.out]; simp⟩, set4_below HB5.out (Nat.le_refl _) _ _ _ _⟩
        | false =>
          go_wp2
          have hs := (HN5.out.set (.int .i64 0) (.string ⟨#[]⟩) (.string ⟨#[]⟩) (.string ⟨#[]⟩)).c
          refine bodyPost_ret (v := .tuple #[.agg #[.int .i64 0, .string ⟨#[]⟩, .string ⟨#[]⟩, .string ⟨#[]⟩], .int .i64 5]) (by rw [results_cell_tmp Tryz.results43]; simp [go_sem, hs.c0, hs.c1, hs.c2, hs.c3]) rfl ⟨⟨5, by rw [HX.out]; rfl, by rw [HX.out]; simp⟩, set4_below HB5.out (Nat.le_refl _) _ _ _ _⟩
      · have hi : ¬ ((n'.length + 1 : Nat) : Int) ≤ 100 := by omega
        have HX := Lib.hid (show X = none by rw [HX.out]; simp [hn1])
        go_wp2
        have hs := (HN4.out.set (.int .i64 0) (.string ⟨#[]⟩) (.string ⟨#[]⟩) (.string ⟨#[]⟩)).c
        refine bodyPost_ret (v := .tuple #[.agg #[.int .i64 0, .string ⟨#[]⟩, .string ⟨#[]⟩, .string ⟨#[]⟩], .int .i64 5]) (by rw [results_cell_tmp Tryz.results43]; simp [go_sem, hs.c0, hs.c1, hs.c2, hs.c3]) rfl ⟨⟨5, by rw [HX.out]; rfl, by rw [HX.out]; simp⟩, set4_below HB4.out (Nat.le_refl _) _ _ _ _⟩
  · have hX : X = if r = [] then some (7, ([], []), []) else none := HT.out
    clear HT
    have HX := Lib.hid hX
    clear hX
    have HF6 := Lib.hid (Four4.made w2 (.int .i64 7) (.string ⟨#[]⟩) (.string ⟨#[]⟩) (.string ⟨r.toArray⟩) 28)
    have HN := Lib.hid (HF2.out.below (alloc_below w2 (.cells #[.int .i64 7, .string ⟨#[]⟩, .string ⟨#[]⟩, .string ⟨r.toArray⟩] 28)))
    have HBN := Lib.hid (HB2.out.trans ((alloc_below w2 (.cells #[.int .i64 7, .string ⟨#[]⟩, .string ⟨#[]⟩, .string ⟨r.toArray⟩] 28)).mono HB2.out.size))
    have hne : w.heap.size ≠ w2.heap.size := Nat.ne_of_lt HF2.out.c.lt
    have hne2 : w2.heap.size ≠ w.heap.size := fun e => hne e.symm
    obtain ⟨⟨-, c0, c1, c2, c3⟩, f0, f1, f2, f3⟩ := HN.out
    obtain ⟨⟨-, d0, d1, d2, d3⟩, g0, g1, g2, g3⟩ := HF6.out
    by_cases hr : r = []
    · subst hr
      go_wp2
      have hs := (HN.out.set (.int .i64 7) (.string ⟨#[]⟩) (.string ⟨#[]⟩) (.string ⟨#[]⟩)).c
      refine bodyPost_ret (v := .tuple #[.agg #[.int .i64 7, .string ⟨#[]⟩, .string ⟨#[]⟩, .string ⟨#[]⟩], .int .i64 0]) (by rw [results_cell_tmp Tryz.results43]; simp [go_sem, hs.c0, hs.c1, hs.c2, hs.c3]) rfl ⟨⟨0, by rw [HX.out]; rfl, by rw [HX.out]; simp⟩, set4_below HBN.out (Nat.le_refl _) _ _ _ _⟩
    · have HX := Lib.hid (show X = none by rw [HX.out, if_neg hr])
      obtain ⟨x, r', rfl⟩ := List.exists_cons_of_ne_nil hr
      go_wp2
      have hs := (HN.out.set (.int .i64 0) (.string ⟨#[]⟩) (.string ⟨#[]⟩) (.string ⟨#[]⟩)).c
      refine bodyPost_ret (v := .tuple #[.agg #[.int .i64 0, .string ⟨#[]⟩, .string ⟨#[]⟩, .string ⟨#[]⟩], .int .i64 5]) (by rw [results_cell_tmp Tryz.results43]; simp [go_sem, hs.c0, hs.c1, hs.c2, hs.c3]) rfl ⟨⟨5, by rw [HX.out]; rfl, by rw [HX.out]; simp⟩, set4_below HBN.out (Nat.le_refl _) _ _ _ _⟩
end Go.Proofs.YtkoncmmbdlnmfaaGreatDoor
