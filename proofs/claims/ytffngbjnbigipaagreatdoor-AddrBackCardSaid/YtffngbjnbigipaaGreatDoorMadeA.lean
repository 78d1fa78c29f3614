/- The law's Made: what it makes of an address. -/
import Derived.Test.YtffngbjnbigipaaGreatDoorMadeP
import Derived.Test.YtffngbjnbigipaaGreatDoorNorm
import Derived.Deep.RegionHeld3
import Derived.Lib.SlBytesConst
namespace Go.Proofs.YtffngbjnbigipaaGreatDoor
open Go.RowKit Go.Lib
set_option linter.unusedSimpArgs false
set_option linter.unusedVariables false
set_option linter.unnecessarySimpa false
set_option maxRecDepth 100000

/-- a block of bytes of which the first i have turned; K holds of the world. -/
def TurnRel (K : World → Prop) (s : ByteArray) (b : Nat) (f : Nat → UInt8 → UInt8) (w0 : World) (g : Nat) (v18 : Value) (W : World) : Prop :=
  ∃ i : Nat, v18 = .int .i64 (i : Int) ∧ i ≤ s.size ∧ g = s.size - i ∧ Below w0.heap.size w0 W ∧ b < W.heap.size ∧ K W ∧
    ∀ (j : Nat) (h : j < s.size), W.cell? ⟨b, j, none⟩ = some (.int .u8 ((if j < i then f j s[j] else s[j]).toNat : Int)) ∧ W.frozen? ⟨b, j, none⟩ = false
theorem loc_byte (b : UInt8) : ((locB b).toNat : Int) = 32 + ((b.toNat : Int) % 95) := by
  unfold locB
  rw [UInt8.toNat_add, UInt8.toNat_mod]
  have h1 : (32 : UInt8).toNat = 32 := rfl
  have h2 : (95 : UInt8).toNat = 95 := rfl
  rw [h1, h2]
  have := b.toNat_lt
  omega
/-- one more byte has turned. -/
theorem turn_cells {W : World} {s : ByteArray} {b i : Nat} {f : Nat → UInt8 → UInt8} {v : Value} (hi : i < s.size) (hv : v = .int .u8 ((f i s[i]).toNat : Int))
    (h : ∀ (j : Nat) (h : j < s.size), W.cell? ⟨b, j, none⟩ = some (.int .u8 ((if j < i then f j s[j] else s[j]).toNat : Int)) ∧ W.frozen? ⟨b, j, none⟩ = false) :
    ∀ (j : Nat) (h : j < s.size), (W.setCell ⟨b, i, none⟩ v).cell? ⟨b, j, none⟩ = some (.int .u8 ((if j < i + 1 then f j s[j] else s[j]).toNat : Int)) ∧ (W.setCell ⟨b, i, none⟩ v).frozen? ⟨b, j, none⟩ = false := by
  intro j hj
  obtain ⟨h1, h2⟩ := h j hj
  refine ⟨?_, by rw [World.frozen?_setCell]; exact h2⟩
  by_cases hji : j = i
  · subst hji
    rw [if_pos (Nat.lt_succ_self _), hv]
    exact World.cell?_setCell_same _ _ _ h1
  · rw [World.cell?_setCell_other _ _ _ _ (by intro e; injection e with _ e2 _; exact hji e2.symm), h1]
    have : (j < i + 1) = (j < i) := by rw [eq_iff_iff]; omega
    simp only [this]
/-- one more byte has turned twice. -/
theorem turn_cells2 {W : World} {s : ByteArray} {b i : Nat} {f : Nat → UInt8 → UInt8} {u v : Value} (hi : i < s.size) (hv : v = .int .u8 ((f i s[i]).toNat : Int))
    (h : ∀ (j : Nat) (h : j < s.size), W.cell? ⟨b, j, none⟩ = some (.int .u8 ((if j < i then f j s[j] else s[j]).toNat : Int)) ∧ W.frozen? ⟨b, j, none⟩ = false) :
    ∀ (j : Nat) (h : j < s.size), ((W.setCell ⟨b, i, none⟩ u).setCell ⟨b, i, none⟩ v).cell? ⟨b, j, none⟩ = some (.int .u8 ((if j < i + 1 then f j s[j] else s[j]).toNat : Int)) ∧ ((W.setCell ⟨b, i, none⟩ u).setCell ⟨b, i, none⟩ v).frozen? ⟨b, j, none⟩ = false := by
  intro j hj
  obtain ⟨h1, h2⟩ := h j hj
  refine ⟨?_, by rw [World.frozen?_setCell, World.frozen?_setCell]; exact h2⟩
  by_cases hji : j = i
  · subst hji
    rw [if_pos (Nat.lt_succ_self _), hv]
    exact World.cell?_setCell_same _ _ _ (World.cell?_setCell_same _ _ _ h1)
  · rw [World.cell?_setCell_other _ _ _ _ (by intro e; injection e with _ e2 _; exact hji e2.symm), World.cell?_setCell_other _ _ _ _ (by intro e; injection e with _ e2 _; exact hji e2.symm), h1]
    have : (j < i + 1) = (j < i) := by rw [eq_iff_iff]; omega
    simp only [this]
theorem tab_byte : ∀ (n : Nat) (h : n < 14), (⟨#[97, 98, 99, 100, 101, 65, 66, 67, 68, 69, 48, 49, 57, 45]⟩ : ByteArray)[n]'h = tabM.getD n 0 := by decide
theorem rep_1 (y : List UInt8) (m : Int) (w : World) (hm : w.cell? ⟨3, 0, none⟩ = some (.int .i64 m)) : Calls Tryz.prog 63 #[.string ⟨(namL y ++ [46]).toArray⟩, .string ⟨#[45, 46]⟩, .string ⟨#[120, 46]⟩] w fun e w' => e = .returned (.string ⟨(rep1 y).toArray⟩) ∧ Below w.heap.size w w' := by
  have hl : (⟨(namL y ++ [46]).toArray⟩ : ByteArray).size ≤ 61 := by have := nam_len y; show (namL y ++ [46]).length ≤ 61; rw [List.length_append]; simp; omega
  have hc := Lib.countB_le (⟨#[45, 46]⟩ : ByteArray) (by decide) _ (⟨(namL y ++ [46]).toArray⟩ : ByteArray) (Nat.le_refl _)
  exact Tryz.strings_ReplaceAll _ ⟨#[45, 46]⟩ ⟨#[120, 46]⟩ m w (by omega) hm (by decide) (by show _ + _ * 2 ≤ _; omega)
theorem rep_2 (y : List UInt8) (m : Int) (w : World) (hm : w.cell? ⟨3, 0, none⟩ = some (.int .i64 m)) : Calls Tryz.prog 63 #[.string ⟨(rep1 y).toArray⟩, .string ⟨#[46, 45]⟩, .string ⟨#[46, 121]⟩] w fun e w' => e = .returned (.string ⟨(rep2 y).toArray⟩) ∧ Below w.heap.size w w' := by
  have hl : (⟨(rep1 y).toArray⟩ : ByteArray).size ≤ 183 := rep1_len y
  have hc := Lib.countB_le (⟨#[46, 45]⟩ : ByteArray) (by decide) _ (⟨(rep1 y).toArray⟩ : ByteArray) (Nat.le_refl _)
  exact Tryz.strings_ReplaceAll _ ⟨#[46, 45]⟩ ⟨#[46, 121]⟩ m w (by omega) hm (by decide) (by show _ + _ * 2 ≤ _; omega)
theorem rep_3 (y : List UInt8) (m : Int) (w : World) (hm : w.cell? ⟨3, 0, none⟩ = some (.int .i64 m)) : Calls Tryz.prog 63 #[.string ⟨(rep2 y).toArray⟩, .string ⟨#[46, 46]⟩, .string ⟨#[46, 122, 46]⟩] w fun e w' => e = .returned (.string ⟨(rep3 y).toArray⟩) ∧ Below w.heap.size w w' := by
  have hl : (⟨(rep2 y).toArray⟩ : ByteArray).size ≤ 549 := rep2_len y
  have hc := Lib.countB_le (⟨#[46, 46]⟩ : ByteArray) (by decide) _ (⟨(rep2 y).toArray⟩ : ByteArray) (Nat.le_refl _)
  exact Tryz.strings_ReplaceAll _ ⟨#[46, 46]⟩ ⟨#[46, 122, 46]⟩ m w (by omega) hm (by decide) (by show _ + _ * 3 ≤ _; omega)
theorem trim_3 (y : List UInt8) (w : World) : Calls Tryz.prog 64 #[.string ⟨(rep3 y).toArray⟩, .string ⟨#[46]⟩] w fun e w' => e = .returned (.string ⟨(Lib.trimSuffix (rep3 y) [46]).toArray⟩) ∧ w' = w :=
  Tryz.strings_TrimSuffix _ ⟨#[46]⟩ w (by have := rep3_len y; show (rep3 y).length ≤ _; omega)
/-- bytes that lie in a block. -/
structure LAt (W : World) (b : Nat) (l : List UInt8) : Prop where
  lt : b < W.heap.size
  cell : ∀ (j : Nat) (h : j < l.length), W.cell? ⟨b, j, none⟩ = some (byteV l[j])
theorem LAt.row {W : World} {b : Nat} {l : List UInt8} (h : LAt W b l) (c : Nat) : Row W (.slice (some ⟨b, 0, none⟩) l.length c) (l.map byteV) :=
  ⟨_, c, by rw [List.length_map], .inr ⟨b, 0, rfl, h.lt, fun j hj => by rw [Nat.zero_add, h.cell j (by simpa using hj)]; simp⟩⟩
theorem LAt.below {w W : World} {b : Nat} {l : List UInt8} (h : LAt w b l) (hb : Below w.heap.size w W) : LAt W b l :=
  ⟨Nat.lt_of_lt_of_le h.lt hb.size, fun j hj => (hb.cell (p := ⟨b, j, none⟩) h.lt).trans (h.cell j hj)⟩
theorem LAt.far {W : World} {b b' o : Nat} {l : List UInt8} {v : Value} (h : LAt W b l) (hne : b' ≠ b) : LAt (W.setCell ⟨b', o, none⟩ v) b l :=
  ⟨by simpa [World.setCell] using h.lt, fun j hj => by rw [World.cell?_setCell_other _ _ _ _ (by intro e; injection e with e1 _ _; exact hne e1)]; exact h.cell j hj⟩
theorem LAt.conv {W : World} {b : Nat} {l : List UInt8} (h : LAt W b l) (c : Nat) : (convert 80 9 (.slice (some ⟨b, 0, none⟩) l.length c)).run Tryz.prog W = .ok (.string ⟨l.toArray⟩) W := conv_row rfl (h.row c)
theorem turn_done {W : World} {s : ByteArray} {b : Nat} {f : Nat → UInt8 → UInt8} {l : List UInt8} (hb : b < W.heap.size) (hl : l = s.data.toList.mapIdx f)
    (h : ∀ (j : Nat) (h : j < s.size), W.cell? ⟨b, j, none⟩ = some (.int .u8 ((if j < s.size then f j s[j] else s[j]).toNat : Int)) ∧ W.frozen? ⟨b, j, none⟩ = false) : LAt W b l := by
  subst hl
  refine ⟨hb, fun j hj => ?_⟩
  have hj' : j < s.size := by simpa using hj
  have := (h j hj').1
  rw [if_pos hj'] at this
  rw [this]
  simp [byteV]
  rfl
theorem name_byte (i : Nat) (b : UInt8) (h : i % 9 ≠ 8) : namB i b = tabM.getD (b.toNat % 14) 0 := by unfold namB; rw [if_neg h]
theorem name_dot (i : Nat) (b : UInt8) (h : i % 9 = 8) : namB i b = 46 := by unfold namB; rw [if_pos h]
theorem mapIdx_const (f : UInt8 → UInt8) (l : List UInt8) : l.mapIdx (fun _ b => f b) = l.map f := by
  apply List.ext_getElem
  · simp
  · intro i h1 h2
    simp
theorem add_run' {X Y Z : ByteArray} (hZ : Z = X ++ Y) (h : X.size + Y.size ≤ 9000000000000000000) : ∀ w, (Op.stringOp .add X Y).run Tryz.prog w = .ok (.string Z) w := fun w => by
  rw [hZ]; exact run_string_add_sum w _ _ (by omega)
def CutRel (X Y : ByteArray) (w : World) (v3 : Value) (W : World) : Prop :=
  ∃ bA cA, v3 = .slice (some ⟨bA, 0, none⟩) (locL X.data.toList).length cA ∧ LAt W bA (locL X.data.toList) ∧ w.heap.size + 2 ≤ bA ∧ Two w.heap.size (.string X) (.string Y) W ∧ Two (w.heap.size + 1) (.string ⟨#[]⟩) (.string ⟨#[]⟩) W ∧ Below w.heap.size w W
set_option maxHeartbeats 16000000 in
theorem Made_any (X Y : ByteArray) (hX : X.size ≤ 9223372036854775807) (hY : Y.size ≤ 9223372036854775807) (w : World) (hE : ∃ m : Int, w.cell? ⟨3, 0, none⟩ = some (.int .i64 m)) :
    Calls Tryz.prog 30 #[.agg #[.string X, .string Y]] w fun e w' => e = .returned (.agg #[.string ⟨(locL X.data.toList).toArray⟩, .string ⟨(domM Y.data.toList).toArray⟩]) ∧ Below w.heap.size w w' := by
  have a0 : (0 : Int) ≤ min (X.size : Int) 64 := by omega
  have a1 : min (X.size : Int) 64 ≤ (X.size : Int) := by omega
  have b0 : (0 : Int) ≤ min (Y.size : Int) 60 := by omega
  have b1 : min (Y.size : Int) 60 ≤ (Y.size : Int) := by omega
  have HE := Lib.hid hE
  clear hE
  have ht1 := Two.made w (.string X) (.string Y) 30
  have hb1 := alloc_below w (.cells #[.string X, .string Y] 30)
  have hs1 : (w.alloc (.cells #[.string X, .string Y] 30)).heap.size = w.heap.size + 1 := World.size_alloc _ _
  generalize hw1 : w.alloc (.cells #[.string X, .string Y] 30) = w1 at ht1 hb1 hs1
  have ht2 := Two.made w1 (.string ⟨#[]⟩) (.string ⟨#[]⟩) 30
  have hb2' := alloc_below w1 (.cells #[.string ⟨#[]⟩, .string ⟨#[]⟩] 30)
  have hs2 : (w1.alloc (.cells #[.string ⟨#[]⟩, .string ⟨#[]⟩] 30)).heap.size = w1.heap.size + 1 := World.size_alloc _ _
  generalize hw2 : w1.alloc (.cells #[.string ⟨#[]⟩, .string ⟨#[]⟩] 30) = w2 at ht2 hb2' hs2
  have ht1 := ht1.below hb2'
  have hb2 : Below w.heap.size w w2 := hb1.trans (hb2'.mono hb1.size)
  have hw2s : w2.heap.size = w.heap.size + 2 := by omega
  obtain ⟨s1, hs1'⟩ : ∃ s1, s1 = X.extract 0 (min (X.size : Int) 64).toNat := ⟨_, rfl⟩
  have hlist : s1.data.toList = X.data.toList.take 64 := by
    rw [hs1', ByteArray.data_extract, Array.toList_extract, List.extract_eq_take_drop]
    have h1 : X.data.toList.length = X.size := by simp
    simp
    omega
  have hk := cnv_run w2 s1
  have hb0 := hb2.trans ((cnv_below w2 s1).mono hb2.size)
  have hsz0 := cnv_size w2 s1
  have hc0 := cnv_cell w2 s1
  have hf0 := cnv_frozen w2 s1
  have T1 := Lib.hid (ht1.below (cnv_below w2 s1))
  have T2 := Lib.hid (ht2.below (cnv_below w2 s1))
  rw [hs1] at T2
  generalize grownCap w2 s1.size 0 5 = cp at hk
  generalize cnv w2 s1 = wc at hk hb0 hsz0 hc0 hf0 T1 T2
  have HC0 := Lib.hid hc0
  have HF0 := Lib.hid hf0
  have HB0 := Lib.hid hb0
  have HLI := Lib.hid hlist
  have HW2 := Lib.hid hw2s
  have HSZ0 := Lib.hid hsz0
  have c0 := ht1.c0
  have c1 := ht1.c1
  rw [hs1'] at hk
  have hl1 : (X.extract 0 (min (X.size : Int) 64).toNat).size = s1.size := by rw [hs1']
  clear hc0 hf0 ht1 ht2 hb1 hb2' hs1' hlist hs2 hw2s hsz0
  go_enter Tryz.func30, Tryz.ntmps30
  go_wp2_with fail
  go_loopg [4, 18] s1.size (fun g v4 v18 W => TurnRel (fun W => Two w.heap.size (.string X) (.string Y) W ∧ Two (w.heap.size + 1) (.string ⟨#[]⟩) (.string ⟨#[]⟩) W) s1 w2.heap.size (fun _ b => locB b) w g v18 W)
  case atStart => exact ⟨0, rfl, by omega, by omega, HB0.out, by have := HSZ0.out; omega, ⟨T1.out, T2.out⟩, fun j h => ⟨by rw [HC0.out j h, if_neg (by omega)], HF0.out j h⟩⟩
  case round =>
    obtain ⟨i, rfl, hi, hg, hb, hlt0, hK, hcc⟩ := hrel
    have HG := Lib.hid hg
    have HCC := Lib.hid hcc
    have HB := Lib.hid hb
    have HK := Lib.hid hK
    have HLT := Lib.hid hlt0
    clear hg hcc hb hK hlt0
    by_cases hlt : i < s1.size
    · have hi0 : (0 : Int) ≤ (i : Int) := by omega
      have hi1 : (i : Int) < (s1.size : Int) := by omega
      obtain ⟨hc, hf⟩ := HCC.out i hlt
      rw [if_neg (Nat.lt_irrefl i)] at hc
      have h64 : s1.size ≤ 64 := by rw [← hl1, ByteArray.size_extract]; omega
      have hwk : IntKind.i64.wrap ((i : Int) + 1) = (i : Int) + 1 := by rw [IntKind.wrap_i64]; omega
      have HLB := Lib.hid (loc_byte s1[i])
      go_wp2_with fail
      go_roundg (s1.size - (i + 1))
      case rel =>
        exact ⟨i + 1, by go_num, by omega, rfl, HB.out.setCell (p := ⟨w2.heap.size, i, none⟩) (by have := HW2.out; show w.heap.size ≤ w2.heap.size; omega) _, by simpa [World.setCell] using HLT.out,
          ⟨HK.out.1.far (by have := HW2.out; omega), HK.out.2.far (by have := HW2.out; omega)⟩, turn_cells (f := fun _ b => locB b) hlt (by rw [HLB.out]) HCC.out⟩
      case measure => have := HG.out; omega
    · have hge : ¬ (i : Int) < (s1.size : Int) := by omega
      obtain rfl : i = s1.size := by omega
      have HL := Lib.hid (turn_done (f := fun _ b => locB b) HLT.out rfl HCC.out)
      clear hlt
      go_upto_if 33 with (fail)
      go_cut [3] (fun v3 W => CutRel X Y w v3 W)
      case first =>
        by_cases h0 : s1.size = 0
        · have t0 : ((s1.size : Int) == 0) = true := by rw [beq_iff_eq]; omega
          have hX0 : X.data.toList.take 64 = [] := by
            rw [← HLI.out]
            exact List.eq_nil_of_length_eq_zero (by simpa using h0)
          have hLA : locL X.data.toList = [97] := by unfold locL; rw [if_pos hX0]
          have hcv := Lib.run_convert_bytes_const (P := Tryz.prog) wr 80 5 #[.int .u8 97] 1 1 Tryz.underlying80 Tryz.underlying5
          have HLA := Lib.hid hLA
          have HH := Lib.hid (heap_alloc_new wr (.cells #[.int .u8 97] 5 (1, 2)))
          clear hX0 hLA h0
          go_wp2_with fail
          go_meet
          case rel =>
            have hlat : LAt (wr.alloc (.cells #[.int .u8 97] 5 (1, 2))) wr.heap.size [97] := by
              refine ⟨by rw [World.size_alloc]; omega, fun j hj => ?_⟩
              obtain rfl : j = 0 := by simp at hj; omega
              rw [Lib.cell_of_heap HH.out]
              rfl
            have hbw := HB.out.trans ((alloc_below wr (.cells #[.int .u8 97] 5 (1, 2))).mono HB.out.size)
            refine ⟨wr.heap.size, 1, ?_, ?_, by have := HW2.out; have := HLT.out; omega, HK.out.1.below (alloc_below _ _), HK.out.2.below (alloc_below _ _), hbw⟩
            · rw [HLA.out]; rfl
            · rw [HLA.out]; exact hlat
        · have t0 : ((s1.size : Int) == 0) = false := by rw [beq_eq_false_iff_ne]; omega
          have hX0 : ¬ X.data.toList.take 64 = [] := by
            rw [← HLI.out]
            intro h
            have : s1.data.toList.length = 0 := by rw [h]; rfl
            exact h0 (by simpa using this)
          have hLA : locL X.data.toList = s1.data.toList.mapIdx (fun _ b => locB b) := by unfold locL; rw [if_neg hX0, mapIdx_const, HLI.out]
          have HLA := Lib.hid hLA
          clear hX0 hLA h0
          go_wp2_with fail
          go_meet
          case rel =>
            refine ⟨w2.heap.size, cp, ?_, ?_, by have := HW2.out; omega, HK.out.1, HK.out.2, HB.out⟩
            · rw [HLA.out]; simp
            · rw [HLA.out]; exact HL.out
      case rest =>
        obtain ⟨bA, cA, rfl, hLA, hbA, hT1, hT2, hbW⟩ := hcut
        have HLA := Lib.hid hLA
        have HT1 := Lib.hid hT1
        have HT2 := Lib.hid hT2
        have HBW := Lib.hid hbW
        have HBA := Lib.hid hbA
        have HBC := Lib.hid (Nat.lt_of_le_of_lt hbA hLA.lt)
        have HBAL := Lib.hid hLA.lt
        obtain ⟨s2, hs2'⟩ : ∃ s2, s2 = Y.extract 0 (min (Y.size : Int) 60).toNat := ⟨_, rfl⟩
        have hlist : s2.data.toList = Y.data.toList.take 60 := by
          rw [hs2', ByteArray.data_extract, Array.toList_extract, List.extract_eq_take_drop]
          have h1 : Y.data.toList.length = Y.size := by simp
          simp
          omega
        have hk := cnv_run wc s2
        have hb0 := cnv_below wc s2
        have hsz0 := cnv_size wc s2
        have hc0 := cnv_cell wc s2
        have hf0 := cnv_frozen wc s2
        generalize grownCap wc s2.size 0 5 = cp2 at hk
        generalize cnv wc s2 = wd at hk hb0 hsz0 hc0 hf0
        have HC1 := Lib.hid hc0
        have HF1 := Lib.hid hf0
        have HB1 := Lib.hid hb0
        have HSZ1 := Lib.hid hsz0
        have HLI2 := Lib.hid hlist
        have d0 := hT1.c0
        have d1 := hT1.c1
        rw [hs2'] at hk
        have hl2 : (Y.extract 0 (min (Y.size : Int) 60).toNat).size = s2.size := by rw [hs2']
        have h60 : s2.size ≤ 60 := by rw [← hl2, ByteArray.size_extract]; omega
        clear hc0 hf0 hb0 hsz0 hlist hs2' hLA hT1 hT2 hbW hbA c0 c1
        go_wp2_with fail
        go_loopg [6, 46] s2.size (fun g v6 v46 W => TurnRel (fun W => Two w.heap.size (.string X) (.string Y) W ∧ Two (w.heap.size + 1) (.string ⟨#[]⟩) (.string ⟨#[]⟩) W ∧ LAt W bA (locL X.data.toList)) s2 wc.heap.size namB w g v46 W)
        case atStart => exact ⟨0, rfl, by omega, by omega, HBW.out.trans (HB1.out.mono HBW.out.size), by have := HSZ1.out; omega, ⟨HT1.out.below HB1.out, HT2.out.below HB1.out, HLA.out.below HB1.out⟩, fun j h => ⟨by rw [HC1.out j h, if_neg (by omega)], HF1.out j h⟩⟩
        case round =>
          obtain ⟨i, rfl, hi, hg, hb, hlt0, hK, hcc⟩ := hrel
          have HG2 := Lib.hid hg
          have HCC2 := Lib.hid hcc
          have HB2 := Lib.hid hb
          have HK2 := Lib.hid hK
          have HLT2 := Lib.hid hlt0
          clear hg hcc hb hK hlt0
          by_cases hlt : i < s2.size
          · have hi0 : (0 : Int) ≤ (i : Int) := by omega
            have hi1 : (i : Int) < (s2.size : Int) := by omega
            obtain ⟨hc, hf⟩ := HCC2.out i hlt
            rw [if_neg (Nat.lt_irrefl i)] at hc
            have hwk : IntKind.i64.wrap ((i : Int) + 1) = (i : Int) + 1 := by rw [IntKind.wrap_i64]; omega
            have u0 : (0 : Int) ≤ (s2[i].toNat : Int) % 14 := by omega
            have u1 : (s2[i].toNat : Int) % 14 < 14 := by omega
            by_cases h8 : i % 9 = 8
            · have e1 : ((i : Int) % 9 == 8) = true := by rw [beq_iff_eq]; omega
              have e2 : (i : Int) % 9 = 8 := by omega
              have HV := Lib.hid (show (46 : Int) = ((namB i s2[i]).toNat : Int) by rw [name_dot _ _ h8]; rfl)
              clear h8
              go_wp2_with fail
              go_roundg (s2.size - (i + 1))
              case rel =>
                exact ⟨i + 1, by go_num, by omega, rfl, (HB2.out.setCell (p := ⟨wc.heap.size, i, none⟩) HBW.out.size _).setCell (p := ⟨wc.heap.size, i, none⟩) HBW.out.size _, by simpa [World.setCell] using HLT2.out,
                  ⟨(HK2.out.1.far (by have := HBC.out; omega)).far (by have := HBC.out; omega), (HK2.out.2.1.far (by have := HBC.out; omega)).far (by have := HBC.out; omega), (HK2.out.2.2.far (by have := HBAL.out; omega)).far (by have := HBAL.out; omega)⟩, turn_cells2 (f := namB) hlt (by rw [← HV.out]) HCC2.out⟩
              case measure => have := HG2.out; omega
            · have e1 : ((i : Int) % 9 == 8) = false := by rw [beq_eq_false_iff_ne]; omega
              have HV := Lib.hid (show tabM.getD (s2[i].toNat % 14) 0 = namB i s2[i] by rw [name_byte _ _ h8])
              have e2 : ¬ (i : Int) % 9 = 8 := by omega
              clear h8
              go_wp2_with fail
              go_roundg (s2.size - (i + 1))
              case rel =>
                exact ⟨i + 1, by go_num, by omega, rfl, HB2.out.setCell (p := ⟨wc.heap.size, i, none⟩) HBW.out.size _, by simpa [World.setCell] using HLT2.out,
                  ⟨HK2.out.1.far (by have := HBC.out; omega), HK2.out.2.1.far (by have := HBC.out; omega), HK2.out.2.2.far (by have := HBAL.out; omega)⟩, turn_cells (f := namB) hlt (by rw [tab_byte _ (by omega), HV.out]) HCC2.out⟩
              case measure => have := HG2.out; omega
          · have hge : ¬ (i : Int) < (s2.size : Int) := by omega
            obtain rfl : i = s2.size := by omega
            have hNL : namL Y.data.toList = s2.data.toList.mapIdx namB := by unfold namL; rw [HLI2.out]
            have hl2' := turn_done (f := namB) HLT2.out hNL HCC2.out
            have hcv := conv_row (l := namL Y.data.toList) (n := s2.size) (c := cp2) (by rw [hNL]; simp) (by have := hl2'.row cp2; rwa [show (namL Y.data.toList).length = s2.size by rw [hNL]; simp] at this)
            obtain ⟨N0, hN0⟩ : ∃ N0 : ByteArray, N0 = ⟨(namL Y.data.toList).toArray⟩ := ⟨_, rfl⟩
            obtain ⟨N1, hN1⟩ : ∃ N1 : ByteArray, N1 = ⟨(namL Y.data.toList ++ [46]).toArray⟩ := ⟨_, rfl⟩
            have ha1 := add_run' (X := N0) (Y := ⟨#[46]⟩) (Z := N1) (by rw [hN0, hN1]; apply ByteArray.ext; simp) (by rw [hN0]; have := nam_len Y.data.toList; show (namL Y.data.toList).length + 1 ≤ _; omega)
            rw [← hN0] at hcv
            obtain ⟨m, hm⟩ := HE.out
            have HM := Lib.hid hm
            have HR1 := Lib.hid (fun W hm => rep_1 Y.data.toList m W hm)
            have HR2 := Lib.hid (fun W hm => rep_2 Y.data.toList m W hm)
            have HR3 := Lib.hid (fun W hm => rep_3 Y.data.toList m W hm)
            have HT := Lib.hid (fun W => trim_3 Y.data.toList W)
            rw [← hN1] at HR1
            obtain ⟨D0, hD0⟩ : ∃ D0 : ByteArray, D0 = ⟨(Lib.trimSuffix (rep3 Y.data.toList) [46]).toArray⟩ := ⟨_, rfl⟩
            obtain ⟨D1, hD1⟩ : ∃ D1 : ByteArray, D1 = ⟨(domM Y.data.toList).toArray⟩ := ⟨_, rfl⟩
            have ha2 := add_run' (X := ⟨#[100]⟩) (Y := D0) (Z := D1) (by rw [hD0, hD1]; apply ByteArray.ext; simp [domM]) (by rw [hD0]; have := dom_len Y.data.toList; unfold domM at this; show 1 + (Lib.trimSuffix (rep3 Y.data.toList) [46]).length ≤ _; simp only [List.length_cons] at this; omega)
            rw [← hD0] at HT
            have HD1 := Lib.hid hD1
            obtain ⟨A0, hA0⟩ : ∃ A0 : ByteArray, A0 = ⟨(locL X.data.toList).toArray⟩ := ⟨_, rfl⟩
            have HA0 := Lib.hid hA0
            generalize (⟨(rep1 Y.data.toList).toArray⟩ : ByteArray) = Q1 at HR1 HR2
            generalize (⟨(rep2 Y.data.toList).toArray⟩ : ByteArray) = Q2 at HR2 HR3
            generalize (⟨(rep3 Y.data.toList).toArray⟩ : ByteArray) = Q3 at HR3 HT
            clear hNL hl2' hN0 hN1 hm hD0 hD1 hlt
            go_wp2_with fail
            refine (HR1.out _ ((HB2.out.cell (p := ⟨3, 0, none⟩) (World.block_lt_of_cell? w _ HM.out)).trans HM.out)).mono ?_
            rintro e x1 ⟨rfl, hx1⟩
            have HX1 := Lib.hid (HB2.out.trans (hx1.mono HB2.out.size))
            have HY1 := Lib.hid hx1
            clear hx1
            go_wp2_with fail
            refine (HR2.out _ ((HX1.out.cell (p := ⟨3, 0, none⟩) (World.block_lt_of_cell? w _ HM.out)).trans HM.out)).mono ?_
            rintro e x2 ⟨rfl, hx2⟩
            have HX2 := Lib.hid (HX1.out.trans (hx2.mono HX1.out.size))
            have HY2 := Lib.hid (HY1.out.trans (hx2.mono HY1.out.size))
            clear hx2
            go_wp2_with fail
            refine (HR3.out _ ((HX2.out.cell (p := ⟨3, 0, none⟩) (World.block_lt_of_cell? w _ HM.out)).trans HM.out)).mono ?_
            rintro e x3 ⟨rfl, hx3⟩
            have HX3 := Lib.hid (HX2.out.trans (hx3.mono HX2.out.size))
            have HY3 := Lib.hid (HY2.out.trans (hx3.mono HY2.out.size))
            clear hx3
            have hA3 := HK2.out.2.2.below HY3.out
            have hT3 := HK2.out.2.1.below HY3.out
            have hcv3 := (hA3.below (drew_below x3)).conv cA
            have hcv4 := fun u v => (((hA3.below (drew_below x3)).far (b' := w.heap.size + 1) (o := 0) (v := u) (by have := HBA.out; omega)).far (b' := w.heap.size + 1) (o := 1) (v := v) (by have := HBA.out; omega)).conv cA
            rw [← hA0] at hcv3 hcv4
            have HCV4 := Lib.hid hcv4
            have k0 := hT3.c0
            have k1 := hT3.c1
            have m0 := hT3.f0
            have m1 := hT3.f1
            clear hA3 hT3 hA0 hcv hcv4
            have HTD := Lib.hid (HT.out x3.drew)
            go_wp2_with fail
            go_region_held3 (fun W => (convert 80 9 (.slice (some ⟨bA, 0, none⟩) (locL X.data.toList).length cA)).run Tryz.prog W = .ok (.string A0) W) (first | exact hcv3 | exact HCV4.out _ _ | go_keep)
              (first | ((with_reducible refine HTD.out.mono ?_); rintro e x4 ⟨rfl, rfl⟩))
            all_goals
              go_wp2
              refine bodyPost_ret (v := .agg #[.string A0, .string D1]) (by simp [results, Tryz.results30, go_sem, set_same _ _ _ _ k0, set_first _ _ _ _ _ _ k0 k1]) rfl ⟨by rw [HA0.out, HD1.out], ?_⟩
              exact ((HX3.out.trans ((drew_below x3).mono HX3.out.size)).setCell (p := ⟨w.heap.size + 1, 0, none⟩) (Nat.le_succ _) _).setCell (p := ⟨w.heap.size + 1, 1, none⟩) (Nat.le_succ _) _
end Go.Proofs.YtffngbjnbigipaaGreatDoor
