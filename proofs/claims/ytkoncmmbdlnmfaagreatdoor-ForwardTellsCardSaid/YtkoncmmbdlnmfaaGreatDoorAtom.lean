/- text.Atom: true just where the text is not empty and all its bytes are letters of atoms, for texts of at most 2^40 bytes, where the package's table reads as its text lays it. -/
import Derived.Test.YtkoncmmbdlnmfaaGreatDoorIndex
import Derived.Laws.IdiomStrings
import Derived.Lib.Hide
import Derived.Shelf.Abstract
import Derived.WalkSpells
import Derived.WalkLawsBesides
import Derived.IntWalk
import Derived.KernelRfl
namespace Go.Proofs.YtkoncmmbdlnmfaaGreatDoor
open Go.RowKit Go.Lib
set_option linter.unusedSimpArgs false
set_option linter.unusedVariables false
set_option maxRecDepth 100000

theorem AText.below {w W : World} (h : AText w) (hb : Below w.heap.size w W) : AText W :=
  ⟨(hb.cell (p := ⟨5, 0, none⟩) (World.block_lt_of_cell? w _ h.a0)).trans h.a0, (hb.cell (p := ⟨5, 1, none⟩) (World.block_lt_of_cell? w _ h.a1)).trans h.a1,
   (hb.cell (p := ⟨5, 2, none⟩) (World.block_lt_of_cell? w _ h.a2)).trans h.a2, (hb.cell (p := ⟨5, 3, none⟩) (World.block_lt_of_cell? w _ h.a3)).trans h.a3⟩
def byteV (b : UInt8) : Value := .int .u8 (b.toNat : Int)
/-- the world behind a text's conversion to bytes. -/
def cnv (w : World) (s : ByteArray) : World :=
  w.drew.alloc (.cells (bytesRow s (grownCap w s.size 0 5)) 5 ((bytesRow s (grownCap w s.size 0 5)).size, (bytesRow s (grownCap w s.size 0 5)).size + 1))
theorem cnv_run (w : World) (s : ByteArray) : (convert 9 50 (.string s)).run Tryz.prog w = .ok (.slice (some ⟨w.heap.size, 0, none⟩) s.size (grownCap w s.size 0 5)) (cnv w s) :=
  run_bytes_of_string w 9 50 5 s Tryz.underlying9 Tryz.underlying50 Tryz.underlying5
theorem cnv_below (w : World) (s : ByteArray) : Below w.heap.size w (cnv w s) := (drew_below w).trans (alloc_below w.drew _)
theorem cnv_size (w : World) (s : ByteArray) : (cnv w s).heap.size = w.heap.size + 1 := by simp [cnv]
theorem cnv_row (w : World) (s : ByteArray) (cap : Nat) : Row (cnv w s) (.slice (some ⟨w.heap.size, 0, none⟩) s.size cap) (s.data.toList.map byteV) := by
  have hl : (s.data.toList.map byteV).length = s.size := by rw [List.length_map, Array.length_toList]; rfl
  refine ⟨some ⟨w.heap.size, 0, none⟩, cap, by rw [hl], .inr ⟨w.heap.size, 0, rfl, by rw [cnv_size]; omega, fun i hi => ?_⟩⟩
  have h : (cnv w s).heap[w.heap.size]? = some (.cells (bytesRow s (grownCap w s.size 0 5)) 5 ((bytesRow s (grownCap w s.size 0 5)).size, (bytesRow s (grownCap w s.size 0 5)).size + 1)) := heap_alloc_new w.drew _
  have hi' : i < s.data.size := by rw [hl] at hi; exact hi
  simp only [World.cell?, h, Nat.zero_add]
  rw [bytesRow_at s _ i hi']
  simp [byteV]
theorem text_ne {s t : ByteArray} (h : s ≠ t) : (s.toList == t.toList) = false := by
  rw [ByteArray.toList_eq, ByteArray.toList_eq]
  cases s; cases t
  simpa using h
theorem text_some {s : ByteArray} (h : s ≠ ⟨#[]⟩) : ¬ s.toList = [] := by
  rw [ByteArray.toList_eq]
  intro e
  apply h
  cases s; rename_i d; cases d
  simp at e
  rw [e]
theorem text_len {s : ByteArray} (h : s ≠ ⟨#[]⟩) : 0 < s.size := by
  rcases Nat.eq_zero_or_pos s.size with h0 | h0
  · exact absurd (by cases s; exact congrArg ByteArray.mk (Array.eq_empty_of_size_eq_zero h0)) h
  · exact h0

theorem Atom_q (s : ByteArray) (hne : s ≠ ⟨#[]⟩) : (!(s.data.toList.map byteV).any (fun v => match v with | .int .u8 c => !atomB c.toNat | _ => false)) = atomL s.data.toList := by
  unfold atomL
  have : s.data.toList.isEmpty = false := by
    cases h : s.data.toList with
    | nil => exact absurd (by cases s; rename_i d; cases d; simp at h; subst h; rfl) hne
    | cons a b => rfl
  rw [this, List.any_map]
  induction s.data.toList with
  | nil => rfl
  | cons a b ih =>
    simp only [List.any_cons, List.all_cons, Bool.not_or, Function.comp, byteV, Bool.not_not, Int.toNat_natCast]
    simp only [Bool.not_false, Bool.true_and] at ih ⊢
    rw [← ih]
set_option maxHeartbeats 4000000 in
theorem Atom_any (s : ByteArray) (hs : s.size ≤ 1099511627776) (w : World) (hA : AText w) : Calls Tryz.prog 134 #[.string s] w fun e w' => e = .returned (.bool (atomL s.data.toList)) ∧ Below w.heap.size w w' := by
  by_cases hne : s = ⟨#[]⟩
  · subst hne
    have hz : atomL (⟨#[]⟩ : ByteArray).data.toList = false := rfl
    rw [hz]
    go_enter Tryz.func134, Tryz.ntmps134
    go_wp2
    go_ret
    exact ⟨rfl, Below.refl _ _⟩
  · have hnb := text_some hne
    have hk := cnv_run w s
    have hl : (s.data.toList.map byteV).length ≤ 1099511627776 := by rw [List.length_map, Array.length_toList]; exact hs
    have HC := Lib.hid (contains_bytes 175 #[] (fun v => match v with | .int .u8 c => !atomB c.toNat | _ => false) (.slice (some ⟨w.heap.size, 0, none⟩) s.size (grownCap w s.size 0 5)) _ (cnv w s) (cnv_row w s _) hl (enters_of Tryz.func175 (by kernel_rfl) rfl) (by
      intro x hx W hb
      obtain ⟨b, _, rfl⟩ := List.mem_map.1 hx
      have := Atom_clo b.toNat b.toNat_lt W ((hA.below (cnv_below w s)).below hb)
      simpa [byteV] using this))
    have hq := Atom_q s hne
    generalize (s.data.toList.map byteV).any (fun v => match v with | .int .u8 c => !atomB c.toNat | _ => false) = Q at HC hq
    rw [← hq]
    clear hq hl hne
    go_enter Tryz.func134, Tryz.ntmps134
    go_wp2_with fail
    refine HC.out.mono ?_
    rintro e w2 ⟨rfl, hb⟩
    go_wp2
    go_ret
    have hie : s.toList.isEmpty = false := by cases h : s.toList.isEmpty with
      | false => rfl
      | true => exact absurd (List.isEmpty_iff.1 h) hnb
    exact ⟨by simp [hie], (cnv_below w s).trans (hb.mono (cnv_below w s).size)⟩

theorem Dot_clo (s : ByteArray) (hs : s.size ≤ 1099511627776) (W : World) (hA : AText W) : Calls Tryz.prog 133 (#[.string s] ++ #[]) W fun e w' => e = .returned (.bool (!atomL s.data.toList)) ∧ Below W.heap.size W w' := by
  have HA := Lib.hid (Atom_any s hs W hA)
  generalize atomL s.data.toList = A at HA
  go_enter Tryz.func133, Tryz.ntmps133
  go_wp2_with fail
  refine HA.out.mono ?_
  rintro e w2 ⟨rfl, hb⟩
  go_wp2
  go_ret
  exact ⟨rfl, hb⟩
end Go.Proofs.YtkoncmmbdlnmfaaGreatDoor
