/- addr.Normal and addr.May, for addresses of at most 10^9 bytes, where the package-level variables read as their texts lay them. -/
import Derived.Test.YtffngbjnbigipaaGreatDoorPlainT
namespace Go.Proofs.YtffngbjnbigipaaGreatDoor
open Go.RowKit Go.Lib
set_option linter.unusedSimpArgs false
set_option linter.unusedVariables false
set_option linter.unnecessarySimpa false
set_option maxRecDepth 100000

structure Two (B : Nat) (x y : Value) (W : World) : Prop where
  lt : B < W.heap.size
  c0 : W.cell? ⟨B, 0, none⟩ = some x
  c1 : W.cell? ⟨B, 1, none⟩ = some y
  f0 : W.frozen? ⟨B, 0, none⟩ = false
  f1 : W.frozen? ⟨B, 1, none⟩ = false
theorem Two.below {B : Nat} {x y : Value} {w W : World} (h : Two B x y w) (hb : Below w.heap.size w W) : Two B x y W :=
  ⟨Nat.lt_of_lt_of_le h.lt hb.size, (hb.cell (p := ⟨B, 0, none⟩) h.lt).trans h.c0, (hb.cell (p := ⟨B, 1, none⟩) h.lt).trans h.c1,
   (hb.frozen (p := ⟨B, 0, none⟩) h.lt).trans h.f0, (hb.frozen (p := ⟨B, 1, none⟩) h.lt).trans h.f1⟩
theorem Two.of {B : Nat} {x y : Value} {t : TypeId} {W : World} (h : W.heap[B]? = some (.cells #[x, y] t (0, 0))) : Two B x y W := by
  refine ⟨(Array.getElem?_eq_some_iff.1 h).1, ?_, ?_, ?_, ?_⟩ <;> simp [World.cell?, World.frozen?, h]
theorem Two.made (w : World) (x y : Value) (t : TypeId) : Two w.heap.size x y (w.alloc (.cells #[x, y] t)) := Two.of (heap_alloc_new w _)
theorem Two.set1 {B : Nat} {x y : Value} {W : World} (h : Two B x y W) (y' : Value) : Two B x y' (W.setCell ⟨B, 1, none⟩ y') :=
  ⟨by simpa [World.setCell] using h.lt, (World.cell?_setCell_other _ _ _ _ (by intro e; injection e with _ e2 _; cases e2)).trans h.c0, World.cell?_setCell_same _ _ _ h.c1,
   by rw [World.frozen?_setCell]; exact h.f0, by rw [World.frozen?_setCell]; exact h.f1⟩
theorem Two.set0 {B : Nat} {x y : Value} {W : World} (h : Two B x y W) (x' : Value) : Two B x' y (W.setCell ⟨B, 0, none⟩ x') :=
  ⟨by simpa [World.setCell] using h.lt, World.cell?_setCell_same _ _ _ h.c0, (World.cell?_setCell_other _ _ _ _ (by intro e; injection e with _ e2 _; cases e2)).trans h.c1,
   by rw [World.frozen?_setCell]; exact h.f0, by rw [World.frozen?_setCell]; exact h.f1⟩
theorem Two.far {B C o : Nat} {x y v : Value} {W : World} (h : Two B x y W) (hne : B ≠ C) : Two B x y (W.setCell ⟨C, o, none⟩ v) :=
  ⟨by simpa [World.setCell] using h.lt, (World.cell?_setCell_other _ _ _ _ (by intro e; injection e with e1 _ _; exact hne e1.symm)).trans h.c0, (World.cell?_setCell_other _ _ _ _ (by intro e; injection e with e1 _ _; exact hne e1.symm)).trans h.c1,
   by rw [World.frozen?_setCell]; exact h.f0, by rw [World.frozen?_setCell]; exact h.f1⟩
def pmL : List UInt8 := [112, 111, 115, 116, 109, 97, 115, 116, 101, 114]
def normL (a : List UInt8 × List UInt8) : List UInt8 × List UInt8 := (if (lowL a.1 == pmL) = true then pmL else a.1, lowL a.2)
theorem low_pm : lowL pmL = pmL := by decide
set_option maxHeartbeats 8000000 in
theorem Normal_any (a : List UInt8 × List UInt8) (h1 : a.1.length ≤ 1000000000) (h2 : a.2.length ≤ 1000000000) (w : World) : Calls Tryz.prog 34 #[addrV a] w fun e w' => e = .returned (addrV (normL a)) ∧ Below w.heap.size w w' := by
  obtain ⟨x, y⟩ := a
  simp only [normL, addrV] at *
  have e1 : (⟨y.toArray⟩ : ByteArray).data.toList = y := rfl
  have e2 : (⟨x.toArray⟩ : ByteArray).data.toList = x := rfl
  have e3 : (⟨#[112, 111, 115, 116, 109, 97, 115, 116, 101, 114]⟩ : ByteArray).data.toList = pmL := rfl
  have HL := Lib.hid (fun W => Lower_any ⟨y.toArray⟩ (by show y.length ≤ _; omega) W)
  have HS := Lib.hid (fun W => Same_any ⟨x.toArray⟩ ⟨#[112, 111, 115, 116, 109, 97, 115, 116, 101, 114]⟩ (by show x.length ≤ _; omega) (by decide) W)
  rw [e1] at HL
  rw [e2, e3, low_pm] at HS
  generalize (lowL x == pmL) = Q at HS ⊢
  generalize lowL y = ly at HL ⊢
  have hif : (⟨(if Q = true then pmL else x).toArray⟩ : ByteArray) = if Q = true then ⟨#[112, 111, 115, 116, 109, 97, 115, 116, 101, 114]⟩ else ⟨x.toArray⟩ := by cases Q <;> rfl
  rw [hif]
  clear hif
  have ht1 := Two.made w (.string ⟨x.toArray⟩) (.string ⟨y.toArray⟩) 30
  generalize hw1 : w.alloc (.cells #[.string ⟨x.toArray⟩, .string ⟨y.toArray⟩] 30) = w1 at ht1
  have hb1 : Below w.heap.size w w1 := by rw [← hw1]; exact alloc_below w _
  have hs1 : w1.heap.size = w.heap.size + 1 := by rw [← hw1]; exact World.size_alloc _ _
  have ht2 := Two.made w1 (.string ⟨#[]⟩) (.string ⟨#[]⟩) 30
  have hb2' := alloc_below w1 (.cells #[.string ⟨#[]⟩, .string ⟨#[]⟩] 30)
  generalize hw2 : w1.alloc (.cells #[.string ⟨#[]⟩, .string ⟨#[]⟩] 30) = w2 at ht2 hb2'
  rw [hs1] at ht2
  have ht1 := ht1.below hb2'
  have hb2 : Below w.heap.size w w2 := hb1.trans (hb2'.mono hb1.size)
  clear hb1 hb2' e1 e2 e3
  have hX : (⟨pmL.toArray⟩ : ByteArray) = ⟨#[112, 111, 115, 116, 109, 97, 115, 116, 101, 114]⟩ := rfl
  generalize (⟨x.toArray⟩ : ByteArray) = X at *
  generalize (⟨y.toArray⟩ : ByteArray) = Y at *
  generalize (⟨ly.toArray⟩ : ByteArray) = LY at *
  obtain ⟨l1, c0, c1, f0, f1⟩ := ht1
  have T2 := Lib.hid ht2
  clear ht2
  go_enter Tryz.func34, Tryz.ntmps34
  go_wp2_with fail
  refine (HL.out w2).mono ?_
  rintro e w3 ⟨rfl, hb3⟩
  have U1 := Two.below ⟨l1, c0, c1, f0, f1⟩ hb3
  have V1 := T2.out.below hb3
  clear l1 c0 c1 f0 f1 T2
  have hbw3 := hb2.trans (hb3.mono hb2.size)
  have U2 := Lib.hid (U1.set1 (.string LY))
  have V2 := Lib.hid (V1.far (C := w.heap.size) (o := 1) (v := .string LY) (by omega))
  obtain ⟨-, c0, c1, f0, f1⟩ := U1
  obtain ⟨l4, d0, d1, g0, g1⟩ := U2.out
  have hbw4 := hbw3.setCell (p := ⟨w.heap.size, 1, none⟩) (Nat.le_refl _) (.string LY)
  go_wp2_with fail
  refine (HS.out _).mono ?_
  rintro e w5 ⟨rfl, hb5⟩
  have U5 := U2.out.below hb5
  have V5 := V2.out.below hb5
  have hbw5 := hbw4.trans (hb5.mono hbw4.size)
  clear U2 V2 c0 c1 f0 f1 l4 d0 d1 g0 g1
  cases Q with
  | false =>
    obtain ⟨-, c0, c1, f0, f1⟩ := U5
    obtain ⟨-, k0, k1, m0, m1⟩ := V5
    go_wp2
    refine bodyPost_ret (v := .agg #[.string X, .string LY]) (by simp [results, Tryz.results34, go_sem, set_same _ _ _ _ k0, set_first _ _ _ _ _ _ k0 k1]) rfl ⟨rfl, ?_⟩
    exact (hbw5.setCell (p := ⟨w.heap.size + 1, 0, none⟩) (Nat.le_succ _) _).setCell (p := ⟨w.heap.size + 1, 1, none⟩) (Nat.le_succ _) _
  | true =>
    have U6 := U5.set0 (.string ⟨#[112, 111, 115, 116, 109, 97, 115, 116, 101, 114]⟩)
    have V6 := V5.far (C := w.heap.size) (o := 0) (v := .string ⟨#[112, 111, 115, 116, 109, 97, 115, 116, 101, 114]⟩) (by omega)
    have hbw6 := hbw5.setCell (p := ⟨w.heap.size, 0, none⟩) (Nat.le_refl _) (.string ⟨#[112, 111, 115, 116, 109, 97, 115, 116, 101, 114]⟩)
    obtain ⟨-, c0, c1, f0, f1⟩ := U5
    obtain ⟨-, n0, n1, o0, o1⟩ := U6
    obtain ⟨-, k0, k1, m0, m1⟩ := V6
    go_wp2
    refine bodyPost_ret (v := .agg #[.string ⟨#[112, 111, 115, 116, 109, 97, 115, 116, 101, 114]⟩, .string LY]) (by simp [results, Tryz.results34, go_sem, set_same _ _ _ _ k0, set_first _ _ _ _ _ _ k0 k1]) rfl ⟨rfl, ?_⟩
    exact (hbw6.setCell (p := ⟨w.heap.size + 1, 0, none⟩) (Nat.le_succ _) _).setCell (p := ⟨w.heap.size + 1, 1, none⟩) (Nat.le_succ _) _
end Go.Proofs.YtffngbjnbigipaaGreatDoor
