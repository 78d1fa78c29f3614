/- lines.entry: what it hands back. -/
import Derived.Test.YtkoncmmbdlnmfaaGreatDoorLinF
import Derived.Test.YtkoncmmbdlnmfaaGreatDoorParT
namespace Go.Proofs.YtkoncmmbdlnmfaaGreatDoor
open Go.RowKit Go.Lib
set_option linter.unusedSimpArgs false
set_option linter.unusedVariables false
set_option linter.unnecessarySimpa false
set_option maxRecDepth 100000

/-- a block of three cells that may be written. -/
structure Three (B : Nat) (x y z : Value) (W : World) : Prop where
  lt : B < W.heap.size
  c0 : W.cell? ⟨B, 0, none⟩ = some x
  c1 : W.cell? ⟨B, 1, none⟩ = some y
  c2 : W.cell? ⟨B, 2, none⟩ = some z
  f0 : W.frozen? ⟨B, 0, none⟩ = false
  f1 : W.frozen? ⟨B, 1, none⟩ = false
  f2 : W.frozen? ⟨B, 2, none⟩ = false
theorem Three.made (w : World) (x y z : Value) (t : TypeId) : Three w.heap.size x y z (w.alloc (.cells #[x, y, z] t)) := by
  have h := heap_alloc_new w (.cells #[x, y, z] t)
  refine ⟨(Array.getElem?_eq_some_iff.1 h).1, ?_, ?_, ?_, ?_, ?_, ?_⟩
  · rw [Lib.cell_of_heap h]; rfl
  · rw [Lib.cell_of_heap h]; rfl
  · rw [Lib.cell_of_heap h]; rfl
  · simp only [World.frozen?, h]; rfl
  · simp only [World.frozen?, h]; rfl
  · simp only [World.frozen?, h]; rfl
theorem Three.below {B : Nat} {x y z : Value} {w W : World} (h : Three B x y z w) (hb : Below w.heap.size w W) : Three B x y z W := by
  have hh := hb.block B h.lt
  exact ⟨Nat.lt_of_lt_of_le h.lt hb.size, (World.cell?_of_block (w := w) hh).trans h.c0, (World.cell?_of_block (w := w) hh).trans h.c1, (World.cell?_of_block (w := w) hh).trans h.c2,
    (World.frozen?_of_block (w := w) hh).trans h.f0, (World.frozen?_of_block (w := w) hh).trans h.f1, (World.frozen?_of_block (w := w) hh).trans h.f2⟩
theorem Three.set {B : Nat} {x y z : Value} {W : World} (h : Three B x y z W) (a b c : Value) : Three B a b c (((W.setCell ⟨B, 0, none⟩ a).setCell ⟨B, 1, none⟩ b).setCell ⟨B, 2, none⟩ c) := by
  have e0 := set_same W ⟨B, 0, none⟩ _ a h.c0
  have k1 : (W.setCell ⟨B, 0, none⟩ a).cell? ⟨B, 1, none⟩ = some y := (cell_off W B 0 1 a (by decide)).trans h.c1
  have e1 := set_same _ ⟨B, 1, none⟩ _ b k1
  have k2 : ((W.setCell ⟨B, 0, none⟩ a).setCell ⟨B, 1, none⟩ b).cell? ⟨B, 2, none⟩ = some z := ((cell_off _ B 1 2 b (by decide)).trans (cell_off W B 0 2 a (by decide))).trans h.c2
  have e2 := set_same _ ⟨B, 2, none⟩ _ c k2
  refine ⟨by simpa [World.setCell] using h.lt, ?_, ?_, e2, ?_, ?_, ?_⟩
  · rw [cell_off _ B 2 0 c (by decide), cell_off _ B 1 0 b (by decide)]; exact e0
  · rw [cell_off _ B 2 1 c (by decide)]; exact e1
  · simp only [World.frozen?_setCell]; exact h.f0
  · simp only [World.frozen?_setCell]; exact h.f1
  · simp only [World.frozen?_setCell]; exact h.f2
theorem set3_below {n B : Nat} {w W : World} (h : Below n w W) (hB : n ≤ B) (a b c : Value) : Below n w (((W.setCell ⟨B, 0, none⟩ a).setCell ⟨B, 1, none⟩ b).setCell ⟨B, 2, none⟩ c) :=
  ((h.setCell (p := ⟨B, 0, none⟩) hB _).setCell (p := ⟨B, 1, none⟩) hB _).setCell (p := ⟨B, 2, none⟩) hB _
/-- is what a line says an entry without values? -/
def entOk (x : Sd) : Bool := !x.2.2 && printL x.2.1 && !x.2.1.contains 34
/-- what entry hands back: the entry, or none and 'form'. -/
def EntP (x : Sd) (e : Ending) : Prop := if entOk x = true then e = .returned (.tuple #[.agg (enC (x.1, x.2.1)).toArray, .int .i64 0]) else e = .returned (.tuple #[.agg (enC (0, [])).toArray, .int .i64 5])
set_option maxHeartbeats 4000000 in
theorem entry_any (x : Sd) (hx : x.2.1.length ≤ 1000000) (w : World) : Calls Tryz.prog 76 #[.agg (sdC x).toArray, .bool false] w fun e w' => EntP x e ∧ Below w.heap.size w w' := by
  obtain ⟨k, t, al⟩ := x
  simp only at hx
  have HP := Lib.hid (fun W => printable_any ⟨t.toArray⟩ (by show t.length ≤ _; omega) W)
  have HQ := Lib.hid (fun W => Tryz.strings_ContainsRune_ascii ⟨t.toArray⟩ 34 W (by decide) (by decide))
  rw [show (⟨t.toArray⟩ : ByteArray).data.toList = t from rfl] at HP HQ
  rw [show ((34 : Int).toNat.toUInt8) = (34 : UInt8) from rfl, has_at] at HQ
  have hEP : EntP (k, t, al) = fun e => if (!al && printL t && !t.contains 34) = true then e = .returned (.tuple #[.agg (enC (k, t)).toArray, .int .i64 0]) else e = .returned (.tuple #[.agg (enC (0, [])).toArray, .int .i64 5]) := rfl
  rw [hEP]
  clear hEP
  show Calls Tryz.prog 76 #[.agg #[.int .i64 (k : Int), .string ⟨t.toArray⟩, .bool al], .bool false] w _
  generalize printL t = P at HP ⊢
  generalize t.contains 34 = C at HQ ⊢
  have HA := Lib.hid (Three.made w (.int .i64 (k : Int)) (.string ⟨t.toArray⟩) (.bool al) 148)
  have hb1 := alloc_below w (.cells #[.int .i64 (k : Int), .string ⟨t.toArray⟩, .bool al] 148)
  have hsz : (w.alloc (.cells #[.int .i64 (k : Int), .string ⟨t.toArray⟩, .bool al] 148)).heap.size = w.heap.size + 1 := World.size_alloc _ _
  have HR := Lib.hid (Three.made (w.alloc (.cells #[.int .i64 (k : Int), .string ⟨t.toArray⟩, .bool al] 148)) (.int .i64 0) (.string ⟨#[]⟩) (.slice none 0 0) 85)
  have hb2 := alloc_below (w.alloc (.cells #[.int .i64 (k : Int), .string ⟨t.toArray⟩, .bool al] 148)) (.cells #[.int .i64 0, .string ⟨#[]⟩, .slice none 0 0] 85)
  have HA2 := Lib.hid (HA.out.below hb2)
  have HB := Lib.hid (hb1.trans (hb2.mono hb1.size))
  rw [hsz] at HR
  clear hb1 hb2 hsz HA
  go_enter Tryz.func76, Tryz.ntmps76
  cases al with
  | true =>
    obtain ⟨-, a0, a1, a2, -, -, -⟩ := HA2.out
    obtain ⟨-, c0, c1, c2, f0, f1, f2⟩ := HR.out
    go_wp2
    have hs := HR.out.set (.int .i64 0) (.string ⟨#[]⟩) (.slice none 0 0)
    refine bodyPost_ret (v := .tuple #[.agg #[.int .i64 0, .string ⟨#[]⟩, .slice none 0 0], .int .i64 5]) (by rw [results_cell_tmp Tryz.results76]; simp [go_sem, hs.c0, hs.c1, hs.c2]) rfl ⟨rfl, by first | exact HB.out | exact set3_below HB.out (Nat.le_succ _) _ _ _⟩
  | false =>
    obtain ⟨-, a0, a1, a2, -, -, -⟩ := HA2.out
    go_wp2_with fail
    refine (HP.out _).mono ?_
    rintro e w3 ⟨rfl, hb3⟩
    have HA3 := Lib.hid (HA2.out.below hb3)
    have HR3 := Lib.hid (HR.out.below hb3)
    have HB3 := Lib.hid (HB.out.trans (hb3.mono HB.out.size))
    clear hb3 a0 a1 a2
    obtain ⟨-, a0, a1, a2, -, -, -⟩ := HA3.out
    obtain ⟨-, c0, c1, c2, f0, f1, f2⟩ := HR3.out
    cases P with
    | false =>
      go_wp2
      have hs := HR3.out.set (.int .i64 0) (.string ⟨#[]⟩) (.slice none 0 0)
      refine bodyPost_ret (v := .tuple #[.agg #[.int .i64 0, .string ⟨#[]⟩, .slice none 0 0], .int .i64 5]) (by rw [results_cell_tmp Tryz.results76]; simp [go_sem, hs.c0, hs.c1, hs.c2]) rfl ⟨rfl, set3_below HB3.out (Nat.le_succ _) _ _ _⟩
    | true =>
      go_wp2_with fail
      refine (HQ.out _).mono ?_
      rintro e w4 ⟨rfl, rfl⟩
      cases C with
      | true =>
        go_wp2
        have hs := HR3.out.set (.int .i64 0) (.string ⟨#[]⟩) (.slice none 0 0)
        refine bodyPost_ret (v := .tuple #[.agg #[.int .i64 0, .string ⟨#[]⟩, .slice none 0 0], .int .i64 5]) (by rw [results_cell_tmp Tryz.results76]; simp [go_sem, hs.c0, hs.c1, hs.c2]) rfl ⟨rfl, set3_below HB3.out (Nat.le_succ _) _ _ _⟩
      | false =>
        go_wp2
        have hs := HR3.out.set (.int .i64 (k : Int)) (.string ⟨t.toArray⟩) (.slice none 0 0)
        refine bodyPost_ret (v := .tuple #[.agg #[.int .i64 (k : Int), .string ⟨t.toArray⟩, .slice none 0 0], .int .i64 0]) (by rw [results_cell_tmp Tryz.results76]; simp [go_sem, hs.c0, hs.c1, hs.c2]) rfl ⟨rfl, set3_below HB3.out (Nat.le_succ _) _ _ _⟩
end Go.Proofs.YtkoncmmbdlnmfaaGreatDoor
