/- list's reader: its method read: the address of a text; the reader is wrong where it is none, and remembers where it was too long. -/
import Derived.Test.YtffngbjnbigipaaGreatDoorRDom
namespace Go.Proofs.YtffngbjnbigipaaGreatDoor
open Go.RowKit Go.Lib
set_option linter.unusedSimpArgs false
set_option linter.unusedVariables false
set_option linter.unnecessarySimpa false
set_option maxRecDepth 100000

theorem RS.long_ {B : Nat} {s : ByteArray} {k : Nat} {v : Value} {wrong long : Bool} {W : World} (h : RS B s k v wrong long W) (long' : Bool) : RS B s k v wrong long' (W.setCell ⟨B, 4, none⟩ (.bool long')) :=
  ⟨by simpa [World.setCell] using h.lt, by rw [cell_far _ _ _ _ _ (by decide)]; exact h.c0, by rw [cell_far _ _ _ _ _ (by decide)]; exact h.c1, by rw [cell_far _ _ _ _ _ (by decide)]; exact h.c2,
   by rw [cell_far _ _ _ _ _ (by decide)]; exact h.c3, set_same _ _ _ _ h.c4, fun o ho => by rw [World.frozen?_setCell]; exact h.fr o ho⟩
theorem RS.other {B : Nat} {s : ByteArray} {k : Nat} {v : Value} {wrong long : Bool} {W : World} (h : RS B s k v wrong long W) {C : Nat} (hne : C ≠ B) (o : Nat) (u : Value) : RS B s k v wrong long (W.setCell ⟨C, o, none⟩ u) :=
  have ne : ∀ i, (⟨C, o, none⟩ : Addr) ≠ ⟨B, i, none⟩ := fun i e => by injection e with e1 _ _; exact hne e1
  ⟨by simpa [World.setCell] using h.lt, (World.cell?_setCell_other _ _ _ _ (ne 0)).trans h.c0, (World.cell?_setCell_other _ _ _ _ (ne 1)).trans h.c1, (World.cell?_setCell_other _ _ _ _ (ne 2)).trans h.c2,
   (World.cell?_setCell_other _ _ _ _ (ne 3)).trans h.c3, (World.cell?_setCell_other _ _ _ _ (ne 4)).trans h.c4, fun i ho => by rw [World.frozen?_setCell]; exact h.fr i ho⟩
theorem But.frozen {B : Nat} {w w' : World} (h : But B w w') {p : Addr} (hp : p.block < w.heap.size) (hn : p.block ≠ B) : w'.frozen? p = w.frozen? p := World.frozen?_of_block (w := w) (h.block p.block hp hn)
theorem But.setNew {B : Nat} {a w : World} (h : But B a w) {C : Nat} (hC : a.heap.size ≤ C) (o : Nat) (u : Value) : But B a (w.setCell ⟨C, o, none⟩ u) :=
  ⟨h.os, h.tape, h.output, by simpa [World.setCell] using h.size, fun k hk hn => (Below.heap_setCell _ _ _ _ (by show k ≠ C; omega)).trans (h.block k hk hn)⟩
theorem Two.but {B C : Nat} {x y : Value} {w W : World} (h : Two C x y w) (hb : But B w W) (hn : C ≠ B) : Two C x y W :=
  ⟨Nat.lt_of_lt_of_le h.lt hb.size, (hb.cell (p := ⟨C, 0, none⟩) h.lt hn).trans h.c0, (hb.cell (p := ⟨C, 1, none⟩) h.lt hn).trans h.c1,
   (hb.frozen (p := ⟨C, 0, none⟩) h.lt hn).trans h.f0, (hb.frozen (p := ⟨C, 1, none⟩) h.lt hn).trans h.f1⟩
theorem parse_errs (l : List UInt8) : (parseL l).2.2 = 0 ∨ (parseL l).2.2 = 3 ∨ (parseL l).2.2 = 5 := by
  unfold parseL
  split
  · simp
  · rename_i word rest _
    unfold tailL
    split
    · simp
    · split
      · split
        · simp
        · split <;> simp
      · simp
set_option maxHeartbeats 2000000 in
theorem read_any (B : Nat) (s : ByteArray) (k : Nat) (v : Value) (long : Bool) (w : World) (h : RS B s k v false long w) (t : ByteArray) (ht : t.size ≤ 1000000000) (hE : Env w) (hB : 8 ≤ B) :
    Calls Tryz.prog 156 #[.pointer (some ⟨B, 0, none⟩), .string t] w fun e w' => e = .returned (addrV ((parseL t.data.toList).1, (parseL t.data.toList).2.1)) ∧
      RS B s k v (decide ((parseL t.data.toList).2.2 = 5)) (long || decide ((parseL t.data.toList).2.2 = 3)) w' ∧ But B w w' := by
  have hb0 : Below w.heap.size w (w.alloc (.cells #[.string ⟨#[]⟩, .string ⟨#[]⟩] 30)) := alloc_below w _
  have T40 := Two.made w (.string ⟨#[]⟩) (.string ⟨#[]⟩) 30
  have HP := Lib.hid (Parse_any t ht _ (hE.below hb0))
  have her := parse_errs t.data.toList
  generalize parseL t.data.toList = R at HP her ⊢
  obtain ⟨a, b, er⟩ := R
  simp only [parV, addrV] at HP her ⊢
  generalize (⟨a.toArray⟩ : ByteArray) = X at HP ⊢
  generalize (⟨b.toArray⟩ : ByteArray) = Y at HP ⊢
  have hBlt := h.lt
  have hN4 : w.heap.size ≠ B := by omega
  have HR0 := Lib.hid (h.below hb0)
  have HB0 := Lib.hid hb0
  have HT0 := Lib.hid T40
  clear h T40 hE hb0
  go_enter Tryz.func156, Tryz.ntmps156
  go_wp2_with fail
  refine HP.out.mono ?_
  rintro e w1 ⟨rfl, hb1⟩
  have hA := alloc_below w1 (.cells #[.string X, .string Y] 30)
  have T5 := Two.made w1 (.string X) (.string Y) 30
  have T4 := (HT0.out.below hb1).below hA
  have HR := Lib.hid ((HR0.out.below hb1).below hA)
  have hbw1 := HB0.out.trans (hb1.mono HB0.out.size)
  have hbA := hbw1.trans (hA.mono hbw1.size)
  have hN5 : w1.heap.size ≠ B := by have := hbw1.size; omega
  have hN54 : w.heap.size ≠ w1.heap.size := by have := hb1.size; rw [World.size_alloc] at this; omega
  generalize hwA : w1.alloc (.cells #[.string X, .string Y] 30) = wA at hA T5 T4 HR hbA
  have HBA := Lib.hid hbA
  have HT4 := Lib.hid T4
  have HT5 := Lib.hid T5
  clear hA T5 T4 hbA hb1 hbw1
  rcases her with rfl | rfl | rfl
  · cases long
    · -- long = false
      obtain ⟨-, c0, c1, c2, c3, c4, cf⟩ := HR.out
      have f4 := cf 4 (by decide)
      clear cf c0 c1 c2 c3
      obtain ⟨-, p0, p1, fp0, fp1⟩ := HT4.out
      obtain ⟨-, q0, q1, -, -⟩ := HT5.out
      go_wp2
      have TF := ((HT4.out.far hN4 (o := 4) (v := .bool false)).set0 (.string X)).set1 (.string Y)
      refine bodyPost_ret (v := .agg #[.string X, .string Y]) (by simp [results, Tryz.results156, go_sem, TF.c0, TF.c1]) rfl ⟨rfl, ?_, ?_⟩
      · exact (((HR.out).long_ false).other hN4 0 _).other hN4 1 _
      · exact (((But.of_below HBA.out).set 4 _).setNew (Nat.le_refl _) 0 _).setNew (Nat.le_refl _) 1 _
    · -- long = true
      obtain ⟨-, c0, c1, c2, c3, c4, cf⟩ := HR.out
      have f4 := cf 4 (by decide)
      clear cf c0 c1 c2 c3
      obtain ⟨-, p0, p1, fp0, fp1⟩ := HT4.out
      obtain ⟨-, q0, q1, -, -⟩ := HT5.out
      go_wp2
      have TF := ((HT4.out.far hN4 (o := 4) (v := .bool true)).set0 (.string X)).set1 (.string Y)
      refine bodyPost_ret (v := .agg #[.string X, .string Y]) (by simp [results, Tryz.results156, go_sem, TF.c0, TF.c1]) rfl ⟨rfl, ?_, ?_⟩
      · exact (((HR.out).long_ true).other hN4 0 _).other hN4 1 _
      · exact (((But.of_below HBA.out).set 4 _).setNew (Nat.le_refl _) 0 _).setNew (Nat.le_refl _) 1 _
  · cases long
    · -- long = false
      obtain ⟨-, c0, c1, c2, c3, c4, cf⟩ := HR.out
      have f4 := cf 4 (by decide)
      clear cf c0 c1 c2 c3
      obtain ⟨-, p0, p1, fp0, fp1⟩ := HT4.out
      obtain ⟨-, q0, q1, -, -⟩ := HT5.out
      go_wp2
      have TF := ((HT4.out.far hN4 (o := 4) (v := .bool true)).set0 (.string X)).set1 (.string Y)
      refine bodyPost_ret (v := .agg #[.string X, .string Y]) (by simp [results, Tryz.results156, go_sem, TF.c0, TF.c1]) rfl ⟨rfl, ?_, ?_⟩
      · exact (((HR.out).long_ true).other hN4 0 _).other hN4 1 _
      · exact (((But.of_below HBA.out).set 4 _).setNew (Nat.le_refl _) 0 _).setNew (Nat.le_refl _) 1 _
    · -- long = true
      obtain ⟨-, c0, c1, c2, c3, c4, cf⟩ := HR.out
      have f4 := cf 4 (by decide)
      clear cf c0 c1 c2 c3
      obtain ⟨-, p0, p1, fp0, fp1⟩ := HT4.out
      obtain ⟨-, q0, q1, -, -⟩ := HT5.out
      go_wp2
      have TF := ((HT4.out.far hN4 (o := 4) (v := .bool true)).set0 (.string X)).set1 (.string Y)
      refine bodyPost_ret (v := .agg #[.string X, .string Y]) (by simp [results, Tryz.results156, go_sem, TF.c0, TF.c1]) rfl ⟨rfl, ?_, ?_⟩
      · exact (((HR.out).long_ true).other hN4 0 _).other hN4 1 _
      · exact (((But.of_below HBA.out).set 4 _).setNew (Nat.le_refl _) 0 _).setNew (Nat.le_refl _) 1 _
  · cases long
    · have HF := Lib.hid (fail_any B s k v false false wA HR.out)
      go_wp2_with fail
      refine HF.out.mono ?_
      rintro e w3 ⟨rfl, hr3, hb3⟩
      have HR3 := Lib.hid hr3
      have HT43 := Lib.hid (HT4.out.but hb3 hN4)
      have HT53 := Lib.hid (HT5.out.but hb3 hN5)
      clear hr3
      obtain ⟨-, c0, c1, c2, c3, c4, cf⟩ := HR3.out
      have f4 := cf 4 (by decide)
      clear cf c0 c1 c2 c3
      obtain ⟨-, p0, p1, fp0, fp1⟩ := HT43.out
      obtain ⟨-, q0, q1, -, -⟩ := HT53.out
      go_wp2
      have TF := ((HT43.out.far hN4 (o := 4) (v := .bool false)).set0 (.string X)).set1 (.string Y)
      refine bodyPost_ret (v := .agg #[.string X, .string Y]) (by simp [results, Tryz.results156, go_sem, TF.c0, TF.c1]) rfl ⟨rfl, ?_, ?_⟩
      · exact (((HR3.out).long_ false).other hN4 0 _).other hN4 1 _
      · exact ((((But.of_below HBA.out).trans hb3).set 4 _).setNew (Nat.le_refl _) 0 _).setNew (Nat.le_refl _) 1 _
    · have HF := Lib.hid (fail_any B s k v false true wA HR.out)
      go_wp2_with fail
      refine HF.out.mono ?_
      rintro e w3 ⟨rfl, hr3, hb3⟩
      have HR3 := Lib.hid hr3
      have HT43 := Lib.hid (HT4.out.but hb3 hN4)
      have HT53 := Lib.hid (HT5.out.but hb3 hN5)
      clear hr3
      obtain ⟨-, c0, c1, c2, c3, c4, cf⟩ := HR3.out
      have f4 := cf 4 (by decide)
      clear cf c0 c1 c2 c3
      obtain ⟨-, p0, p1, fp0, fp1⟩ := HT43.out
      obtain ⟨-, q0, q1, -, -⟩ := HT53.out
      go_wp2
      have TF := ((HT43.out.far hN4 (o := 4) (v := .bool true)).set0 (.string X)).set1 (.string Y)
      refine bodyPost_ret (v := .agg #[.string X, .string Y]) (by simp [results, Tryz.results156, go_sem, TF.c0, TF.c1]) rfl ⟨rfl, ?_, ?_⟩
      · exact (((HR3.out).long_ true).other hN4 0 _).other hN4 1 _
      · exact ((((But.of_below HBA.out).trans hb3).set 4 _).setNew (Nat.le_refl _) 0 _).setNew (Nat.le_refl _) 1 _
end Go.Proofs.YtffngbjnbigipaaGreatDoor
