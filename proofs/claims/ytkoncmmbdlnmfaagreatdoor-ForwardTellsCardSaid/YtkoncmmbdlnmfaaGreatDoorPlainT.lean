/- text.Plain: true just where each byte is plain, for every text of at most 10^12 bytes; text.Lower and text.Same. -/
import Derived.Test.YtkoncmmbdlnmfaaGreatDoorParse
import Derived.Laws.RangeAny
namespace Go.Proofs.YtkoncmmbdlnmfaaGreatDoor
open Go.RowKit Go.Lib
set_option linter.unusedSimpArgs false
set_option linter.unusedVariables false
set_option linter.unnecessarySimpa false
set_option maxRecDepth 100000

def plainL (l : List UInt8) : Bool := l.all fun b => plainB b.toNat
def PlRel (s : ByteArray) (w : World) (g : Nat) (v4 : Value) (W : World) : Prop :=
  ∃ i : Nat, i ≤ s.size ∧ g = s.size - i ∧ W = w.iter s i ∧ plainL (s.data.toList.take i) = true
theorem iter_below (w : World) (s : ByteArray) (i : Nat) : Below w.heap.size w (w.iter s i) := alloc_below w _
theorem plain_not (s : ByteArray) (i : Nat) (h : i < s.size) (hp : plainB s[i].toNat = false) : plainL s.data.toList = false := by
  unfold plainL
  rw [List.all_eq_false]
  exact ⟨_, list_at s i h, by rw [hp]; simp⟩
set_option maxHeartbeats 4000000 in
theorem Plain_any (s : ByteArray) (hs : s.size ≤ 1000000000000) (w : World) : Calls Tryz.prog 89 #[.string s] w fun e w' => e = .returned (.bool (plainL s.data.toList)) ∧ Below w.heap.size w w' := by
  have HBAD := Lib.hid (plain_not s)
  have HALL := Lib.hid (show plainL (s.data.toList.take s.size) = true → plainL s.data.toList = true by rw [take_all]; exact id)
  generalize plainL s.data.toList = R at HBAD HALL
  go_enter Tryz.func89, Tryz.ntmps89
  go_wp2_with fail
  go_loopg [4] s.size (fun g v4 W => PlRel s w g v4 W)
  case atStart => exact ⟨0, by omega, by omega, rfl, by simp [plainL]⟩
  case round =>
    obtain ⟨i, hi, hg, rfl, hall⟩ := hrel
    have HG := Lib.hid hg
    have HA := Lib.hid hall
    clear hg hall
    by_cases hlt : i < s.size
    · by_cases ha : s[i].toNat < 128
      · have hnx := fun ty => run_next_ascii (P := Tryz.prog) w s i ty hlt ha
        have hP := plain_text s[i].toNat (w.iter s (i + 1))
        have hts := take_snoc s i hlt
        have HS := Lib.hid (show plainB s[i].toNat = true → plainL (s.data.toList.take (i + 1)) = true by
          intro h; unfold plainL; rw [hts, List.all_append]; have := HA.out; unfold plainL at this; rw [this]; simp [h])
        have HB := Lib.hid (fun h => HBAD.out i hlt h)
        have hwu : IntKind.u8.wrap (s[i].toNat : Int) = (s[i].toNat : Int) := by rw [IntKind.wrap_u8]; omega
        clear hts
        cases hp : plainB s[i].toNat with
        | true =>
          have h126 : ¬ (126 : Int) < (s[i].toNat : Int) := by
            simp only [plainB, Bool.and_eq_true, decide_eq_true_eq] at hp
            omega
          rw [hp] at hP
          have HP := Lib.hid hP
          have HSS := Lib.hid (HS.out hp)
          clear hp hP
          go_wp2_with fail
          refine HP.out.mono ?_
          rintro e w2 ⟨rfl, hw2⟩
          rw [hw2]
          clear hw2 w2
          go_wp2_with fail
          go_roundg (s.size - (i + 1))
          case rel => exact ⟨i + 1, by omega, rfl, rfl, HSS.out⟩
          case measure => have := HG.out; omega
        | false =>
          rw [hp] at hP
          have HP := Lib.hid hP
          have HR := Lib.hid (HB.out hp)
          clear hp hP
          by_cases h126 : (126 : Int) < (s[i].toNat : Int)
          · go_wp2
            go_ret
            exact ⟨by rw [HR.out]; rfl, iter_below w s _⟩
          · go_wp2_with fail
            refine HP.out.mono ?_
            rintro e w2 ⟨rfl, hw2⟩
            rw [hw2]
            clear hw2 w2
            go_wp2
            go_ret
            exact ⟨by rw [HR.out]; rfl, iter_below w s _⟩
      · have hnx := fun ty => run_next_any (P := Tryz.prog) w s i ty hlt
        have hhi := (decode_high s i hlt (by omega)).1
        have HR := Lib.hid (HBAD.out i hlt (by
          simp only [plainB, Bool.and_eq_false_iff, decide_eq_false_iff_not]
          omega))
        generalize (Utf8.decode s i).1 = r at hnx hhi
        generalize (Utf8.decode s i).2 = n at hnx
        have h126 : (126 : Int) < (r : Int) := by omega
        go_wp2
        go_ret
        exact ⟨by rw [HR.out]; rfl, iter_below w s _⟩
    · have hnx := fun ty => run_next_end (P := Tryz.prog) w s i ty hlt
      have hii : i = s.size := by omega
      have HR := Lib.hid (HALL.out (by rw [← hii]; exact HA.out))
      clear hii
      go_wp2
      go_ret
      exact ⟨by rw [HR.out]; rfl, iter_below w s _⟩

/-! lower case -/
def lowB (b : UInt8) : UInt8 := if 65 ≤ b.toNat ∧ b.toNat ≤ 90 then b + 32 else b
def lowL (l : List UInt8) : List UInt8 := l.map lowB
def LowRel (s : ByteArray) (w : World) (g : Nat) (v10 : Value) (W : World) : Prop :=
  ∃ i : Nat, v10 = .int .i64 (i : Int) ∧ i ≤ s.size ∧ g = s.size - i ∧ Below w.heap.size w W ∧ w.heap.size < W.heap.size ∧
    ∀ (j : Nat) (h : j < s.size), W.cell? ⟨w.heap.size, j, none⟩ = some (.int .u8 ((if j < i then lowB s[j] else s[j]).toNat : Int)) ∧ W.frozen? ⟨w.heap.size, j, none⟩ = false
theorem cnv_frozen (w : World) (s : ByteArray) (i : Nat) (h : i < s.size) : (cnv w s).frozen? ⟨w.heap.size, i, none⟩ = false := by
  have hh : (cnv w s).heap[w.heap.size]? = some (.cells (bytesRow s (grownCap w s.size 0 5)) 5 ((bytesRow s (grownCap w s.size 0 5)).size, (bytesRow s (grownCap w s.size 0 5)).size + 1)) := heap_alloc_new w.drew _
  have hsz : i < (bytesRow s (grownCap w s.size 0 5)).size := by
    have h1 : s.data.size = s.size := rfl
    simp only [bytesRow, Array.size_append, Array.size_map]
    omega
  simp only [World.frozen?, hh]
  rw [decide_eq_false (by omega)]
  rfl
theorem low_byte (b : UInt8) (h : 65 ≤ b.toNat ∧ b.toNat ≤ 90) : (lowB b).toNat = b.toNat + 32 := by
  unfold lowB
  rw [if_pos h, UInt8.toNat_add]
  show (b.toNat + 32) % 256 = _
  omega
theorem low_same (b : UInt8) (h : ¬ (65 ≤ b.toNat ∧ b.toNat ≤ 90)) : lowB b = b := by unfold lowB; rw [if_neg h]
set_option maxHeartbeats 8000000 in
theorem Lower_any (s : ByteArray) (hs : s.size ≤ 1000000000000) (w : World) : Calls Tryz.prog 11 #[.string s] w fun e w' => e = .returned (.string ⟨(lowL s.data.toList).toArray⟩) ∧ Below w.heap.size w w' := by
  generalize hX : lowL s.data.toList = X
  have HX := Lib.hid hX
  clear hX
  have hk := cnv_run w s
  have hb0 := cnv_below w s
  have hsz0 := cnv_size w s
  have hc0 := cnv_cell w s
  have hf0 := cnv_frozen w s
  generalize grownCap w s.size 0 5 = cp at hk
  generalize cnv w s = wc at hk hb0 hsz0 hc0 hf0
  have HC0 := Lib.hid hc0
  have HF0 := Lib.hid hf0
  clear hc0 hf0
  go_enter Tryz.func11, Tryz.ntmps11
  go_wp2_with fail
  go_loopg [10] s.size (fun g v10 W => LowRel s w g v10 W)
  case atStart => exact ⟨0, rfl, by omega, by omega, hb0, by omega, fun j h => ⟨by rw [HC0.out j h, if_neg (by omega)], HF0.out j h⟩⟩
  case round =>
    obtain ⟨i, rfl, hi, hg, hb, hlt0, hcc⟩ := hrel
    have HG := Lib.hid hg
    have HCC := Lib.hid hcc
    clear hg hcc
    by_cases hlt : i < s.size
    · have hi0 : (0 : Int) ≤ (i : Int) := by omega
      have hi1 : (i : Int) < (s.size : Int) := by omega
      obtain ⟨hc, hf⟩ := HCC.out i hlt
      rw [if_neg (Nat.lt_irrefl i)] at hc
      by_cases hup : 65 ≤ s[i].toNat ∧ s[i].toNat ≤ 90
      · have u1 : (65 : Int) ≤ (s[i].toNat : Int) := by omega
        have u2 : (s[i].toNat : Int) ≤ 90 := by omega
        have hw1 : IntKind.u8.wrap ((s[i].toNat : Int) + 97) = (s[i].toNat : Int) + 97 := by rw [IntKind.wrap_u8]; omega
        have hw2 : IntKind.u8.wrap ((s[i].toNat : Int) + 97 - 65) = ((s[i].toNat + 32 : Nat) : Int) := by rw [IntKind.wrap_u8]; omega
        have HLB := Lib.hid (low_byte s[i] hup)
        clear hup
        go_wp2_with fail
        go_roundg (s.size - (i + 1))
        case rel =>
          refine ⟨i + 1, by go_num, by omega, rfl, hb.setCell (p := ⟨w.heap.size, i, none⟩) (Nat.le_refl _) _, by simpa [World.setCell] using hlt0, fun j h => ?_⟩
          obtain ⟨h1, h2⟩ := HCC.out j h
          refine ⟨?_, by rw [World.frozen?_setCell]; exact h2⟩
          by_cases hji : j = i
          · subst hji
            rw [if_pos (Nat.lt_succ_self _), HLB.out]
            exact World.cell?_setCell_same _ _ _ hc
          · rw [World.cell?_setCell_other _ _ _ _ (by intro e; injection e with _ e2 _; exact hji e2.symm), h1]
            have : (j < i + 1) = (j < i) := by rw [eq_iff_iff]; omega
            simp only [this]
        case measure => have := HG.out; omega
      · have HLB := Lib.hid (low_same s[i] hup)
        have hnot : ¬ (65 : Int) ≤ (s[i].toNat : Int) ∨ ((65 : Int) ≤ (s[i].toNat : Int) ∧ ¬ (s[i].toNat : Int) ≤ 90) := by omega
        clear hup
        have hnew : ∀ (j : Nat) (h : j < s.size), wr.cell? ⟨w.heap.size, j, none⟩ = some (.int .u8 ((if j < i + 1 then lowB s[j] else s[j]).toNat : Int)) ∧ wr.frozen? ⟨w.heap.size, j, none⟩ = false := fun j h => by
          obtain ⟨h1, h2⟩ := HCC.out j h
          refine ⟨?_, h2⟩
          rw [h1]
          by_cases hji : j = i
          · subst hji
            rw [if_neg (Nat.lt_irrefl _), if_pos (Nat.lt_succ_self _), HLB.out]
          · have : (j < i + 1) = (j < i) := by rw [eq_iff_iff]; omega
            simp only [this]
        have HNEW := Lib.hid hnew
        clear hnew
        rcases hnot with u1 | ⟨u1, u2⟩
        · go_wp2_with fail
          go_roundg (s.size - (i + 1))
          case rel => exact ⟨i + 1, by go_num, by omega, rfl, hb, hlt0, HNEW.out⟩
          case measure => have := HG.out; omega
        · go_wp2_with fail
          go_roundg (s.size - (i + 1))
          case rel => exact ⟨i + 1, by go_num, by omega, rfl, hb, hlt0, HNEW.out⟩
          case measure => have := HG.out; omega
    · have hge : ¬ (i : Int) < (s.size : Int) := by omega
      have hii : i = s.size := by omega
      have hrow : Row wr (.slice (some ⟨w.heap.size, 0, none⟩) s.size cp) ((lowL s.data.toList).map byteV) := by
        have hln : ((lowL s.data.toList).map byteV).length = s.size := by simp [lowL]
        refine ⟨_, cp, by rw [hln], .inr ⟨w.heap.size, 0, rfl, hlt0, fun j hj => ?_⟩⟩
        have hj2 : j < s.size := by rw [hln] at hj; exact hj
        have := (HCC.out j hj2).1
        rw [if_pos (by omega)] at this
        rw [Nat.zero_add, this]
        simp [lowL, byteV]
        rfl
      have hcv := conv_row (l := lowL s.data.toList) (by simp [lowL]) hrow
      rw [HX.out] at hcv
      clear hrow hii
      go_wp2
      go_ret
      exact ⟨rfl, hb⟩
theorem low_len (l : List UInt8) : (lowL l).length = l.length := by simp [lowL]
end Go.Proofs.YtkoncmmbdlnmfaaGreatDoor
