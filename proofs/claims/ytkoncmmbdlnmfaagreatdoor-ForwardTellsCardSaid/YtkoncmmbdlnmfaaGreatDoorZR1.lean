/- Several texts joined into one (a claim has a limit of files). -/
import Derived.Test.YtkoncmmbdlnmfaaGreatDoorLinE
import Derived.Test.YtkoncmmbdlnmfaaGreatDoorLinF
import Derived.Test.YtkoncmmbdlnmfaaGreatDoorParse
import Derived.Test.YtkoncmmbdlnmfaaGreatDoorRefs
import Derived.Test.YtkoncmmbdlnmfaaGreatDoorMay
import Derived.Test.YtkoncmmbdlnmfaaGreatDoorQuot
import Derived.Test.YtkoncmmbdlnmfaaGreatDoorQuote
import Derived.Test.YtkoncmmbdlnmfaaGreatDoorTextA
/- The document's blank, Trim, printable (package 13): what they hand back. -/
namespace Go.Proofs.YtkoncmmbdlnmfaaGreatDoor
open Go.RowKit Go.Lib
set_option linter.unusedSimpArgs false
set_option linter.unusedVariables false
set_option linter.unnecessarySimpa false
set_option maxRecDepth 100000

theorem blk_nat (b : UInt8) : blkB b = (((b.toNat : Int) == 32) || ((b.toNat : Int) == 9)) := by
  have := byte_all (fun b => blkB b == (((b.toNat : Int) == 32) || ((b.toNat : Int) == 9))) (by decide) b
  simpa using this
theorem blank13 (b : UInt8) (w : World) : Calls Tryz.prog 147 #[.int .u8 (b.toNat : Int)] w fun e w' => e = .returned (.bool (blkB b)) ∧ w' = w := by
  have hb := blk_nat b
  generalize blkB b = R at hb ⊢
  generalize (b.toNat : Int) = n at hb ⊢
  cases h1 : (n == 32) with
  | true =>
    rw [h1] at hb
    obtain rfl : R = true := hb
    go_enter Tryz.func147, Tryz.ntmps147
    go_wp2
    go_ret
    exact ⟨rfl, rfl⟩
  | false =>
    rw [h1] at hb
    obtain rfl : R = (n == 9) := by rw [hb]; rfl
    clear hb
    go_enter Tryz.func147, Tryz.ntmps147
    go_wp2
    go_ret
    exact ⟨rfl, rfl⟩
/-! Trim -/
theorem trimF_step {l : List UInt8} {i : Nat} {b : UInt8} (h : l[i]? = some b) (hb : blkB b = true) : trimF (l.drop (i + 1)) = trimF (l.drop i) := by
  have hlt : i < l.length := (List.getElem?_eq_some_iff.1 h).1
  have e : l.drop i = b :: l.drop (i + 1) := by rw [List.drop_eq_getElem_cons hlt, (List.getElem?_eq_some_iff.1 h).2]
  rw [e]
  unfold trimF
  rw [List.dropWhile_cons, if_pos hb]
theorem trimF_stop {l : List UInt8} {i : Nat} (h : ∀ b, l[i]? = some b → blkB b = false) : trimF (l.drop i) = l.drop i := by
  unfold trimF
  cases hd : l.drop i with
  | nil => rfl
  | cons b r =>
    have : l[i]? = some b := by
      have := congrArg (·[0]?) hd
      simpa using this
    rw [List.dropWhile_cons, if_neg (by rw [h b this]; simp)]
theorem trimR_step {m : List UInt8} {n : Nat} {b : UInt8} (h : m[n]? = some b) (hb : blkB b = true) : trimF (m.take n).reverse = trimF (m.take (n + 1)).reverse := by
  rw [List.take_add_one, h]
  unfold trimF
  simp [List.dropWhile_cons, hb]
theorem trimR_stop {m : List UInt8} {n : Nat} {b : UInt8} (h : m[n]? = some b) (hb : blkB b = false) : trimF (m.take (n + 1)).reverse = (m.take (n + 1)).reverse := by
  rw [List.take_add_one, h]
  unfold trimF
  simp [List.dropWhile_cons, hb]
def T1Rel (s : ByteArray) (w : World) (g : Nat) (v3 : Value) (W : World) : Prop :=
  ∃ i : Nat, v3 = .int .i64 (i : Int) ∧ i ≤ s.size ∧ g = s.size - i ∧ W = w ∧ trimF (s.data.toList.drop i) = trimF s.data.toList
def T2Rel (s : ByteArray) (f : Nat) (w : World) (g : Nat) (v4 : Value) (W : World) : Prop :=
  ∃ t : Nat, v4 = .int .i64 (t : Int) ∧ f ≤ t ∧ t ≤ s.size ∧ g = t ∧ W = w ∧ trimF (((s.data.toList.drop f).take (t - f)).reverse) = trimF (s.data.toList.drop f).reverse
theorem get_byte (s : ByteArray) {i : Nat} (h : i < s.size) : s.data.toList[i]? = some s[i] := by
  rw [List.getElem?_eq_getElem (by simpa using h)]
  rfl
set_option maxHeartbeats 4000000 in
theorem Trim13 (s : ByteArray) (hs : s.size ≤ 1000000000000) (w : World) : Calls Tryz.prog 146 #[.string s] w fun e w' => e = .returned (.string ⟨(trimW s.data.toList).toArray⟩) ∧ w' = w := by
  have HR := Lib.hid (show trimW s.data.toList = (trimF (trimF s.data.toList).reverse).reverse from rfl)
  generalize trimW s.data.toList = R at HR ⊢
  have HGB := Lib.hid (fun i (h : i < s.size) => get_byte s h)
  have HX := Lib.hid (fun a b => ext_mid s a b)
  have HLL := Lib.hid (show s.data.toList.length = s.size from by simp)
  go_enter Tryz.func146, Tryz.ntmps146
  go_wp2_with fail
  go_loopg [3] s.size (fun g v3 W => T1Rel s w g v3 W)
  case atStart => exact ⟨0, rfl, by omega, by omega, rfl, by simp⟩
  case round =>
    obtain ⟨i, rfl, hi, hg, rfl, hst⟩ := hrel
    have HG := Lib.hid hg
    have HS := Lib.hid hst
    clear hg hst
    have h0 : (0 : Int) ≤ (i : Int) := by omega
    by_cases hgo : ∃ h : i < s.size, blkB s[i] = true
    · obtain ⟨hlt, hb⟩ := hgo
      have h1 : (i : Int) < (s.size : Int) := by omega
      have h1d : decide ((i : Int) < (s.size : Int)) = true := by rw [decide_eq_true_eq]; exact h1
      have hw : IntKind.i64.wrap ((i : Int) + 1) = ((i + 1 : Nat) : Int) := by rw [IntKind.wrap_i64]; omega
      have hbl := blank13 s[i]
      rw [hb] at hbl
      have HBL := Lib.hid hbl
      have HN := Lib.hid ((trimF_step (HGB.out i hlt) hb).trans HS.out)
      clear hb hbl
      go_wp2_with fail
      refine (HBL.out _).mono ?_
      rintro e w2 ⟨rfl, hw2⟩
      rw [hw2]
      clear hw2
      go_wp2_with fail
      go_roundg (s.size - (i + 1))
      case rel => exact ⟨i + 1, by go_num, by omega, rfl, rfl, HN.out⟩
      case measure => have := HG.out; omega
    · have hstop : trimF (s.data.toList.drop i) = s.data.toList.drop i := trimF_stop (fun b hb => by
        by_cases hlt : i < s.size
        · rw [HGB.out i hlt] at hb
          injection hb with hb
          subst hb
          cases hbb : blkB s[i] with
          | false => rfl
          | true => exact absurd ⟨hlt, hbb⟩ hgo
        · rw [List.getElem?_eq_none (by rw [HLL.out]; omega)] at hb
          cases hb)
      have hF : trimF s.data.toList = s.data.toList.drop i := HS.out.symm.trans hstop
      have HF := Lib.hid hF
      have hcase : (¬ i < s.size) ∨ ∃ h : i < s.size, blkB s[i] = false := by
        by_cases hlt : i < s.size
        · right
          refine ⟨hlt, ?_⟩
          cases hbb : blkB s[i] with
          | false => rfl
          | true => exact absurd ⟨hlt, hbb⟩ hgo
        · exact .inl hlt
      clear hgo hstop hF HS
      have hend : ∀ t : Nat, i ≤ t → trimF (((s.data.toList.drop i).take (t - i)).reverse) = trimF (s.data.toList.drop i).reverse → trimF (((s.data.toList.drop i).take (t - i)).reverse) = ((s.data.toList.drop i).take (t - i)).reverse → (⟨R.toArray⟩ : ByteArray) = s.extract i t := fun t _ h1 h2 => by
        rw [HX.out, HR.out, HF.out, ← h1, h2, List.reverse_reverse]
      have HEND := Lib.hid hend
      have HDA := Lib.hid (fun t (h1 : i ≤ t) (h2 : t < s.size) => drop_at s i t h1 h2)
      have HLD := Lib.hid (show (s.data.toList.drop i).length = s.size - i from by rw [List.length_drop, HLL.out])
      clear hend HR HX HF HGB HLL
      have hz0 : (0 : Int) ≤ (s.size : Int) := by omega
      rcases hcase with hlt | ⟨hlt, hb⟩
      have h1d : decide ((i : Int) < (s.size : Int)) = false := by rw [decide_eq_false_iff_not]; omega
      have h1 : ¬ (i : Int) < (s.size : Int) := by omega
      go_wp2_with fail
      rotate_left
      have h1d : decide ((i : Int) < (s.size : Int)) = true := by rw [decide_eq_true_eq]; omega
      have h1 : (i : Int) < (s.size : Int) := by omega
      have hbl := blank13 s[i]
      rw [hb] at hbl
      have HBL := Lib.hid hbl
      clear hb hbl
      go_wp2_with fail
      refine (HBL.out _).mono ?_
      rintro e w2 ⟨rfl, hw2⟩
      rw [hw2]
      clear hw2 HBL
      go_wp2_with fail
      all_goals
        clear h1 h1d
        go_loopg [4] s.size (fun g v4 W => T2Rel s i wr g v4 W)
        case atStart => exact ⟨s.size, rfl, hi, Nat.le_refl _, rfl, rfl, by rw [List.take_of_length_le (by rw [HLD.out]; exact Nat.le_refl _)]⟩
        case round =>
          obtain ⟨t, rfl, ht1, ht2, hg2, rfl, hst2⟩ := hrel
          have HG2 := Lib.hid hg2
          have HS2 := Lib.hid hst2
          clear hg2 hst2
          have q0 : (0 : Int) ≤ (t : Int) := by omega
          have q1 : (i : Int) ≤ (t : Int) := by omega
          have q2 : (t : Int) ≤ (s.size : Int) := by omega
          by_cases hti : t = i
          · subst hti
            have k1 : decide ((t : Int) < (t : Int)) = false := by rw [decide_eq_false_iff_not]; omega
            have k2 : ¬ (t : Int) < (t : Int) := by omega
            have HE := Lib.hid (show (⟨R.toArray⟩ : ByteArray) = ByteArray.empty from by rw [HEND.out t (Nat.le_refl _) HS2.out (by rw [Nat.sub_self, List.take_zero]; rfl)]; simp)
            go_wp2
            go_ret
            exact ⟨by rw [HE.out]; rfl, rfl⟩
          · obtain ⟨u, rfl⟩ : ∃ u, t = u + 1 := ⟨t - 1, by omega⟩
            have hul : u < s.size := by omega
            have k1 : decide ((i : Int) < ((u + 1 : Nat) : Int)) = true := by rw [decide_eq_true_eq]; omega
            have k2 : (i : Int) < ((u + 1 : Nat) : Int) := by omega
            have k3 : IntKind.i64.wrap (((u + 1 : Nat) : Int) - 1) = (u : Int) := by rw [IntKind.wrap_i64]; omega
            have k4 : (0 : Int) ≤ (u : Int) := by omega
            have k5 : (u : Int) < (s.size : Int) := by omega
            have hda := HDA.out u (by omega) hul
            have hbl2 := blank13 s[u]
            cases hbu : blkB s[u] with
            | true =>
              have hn := trimR_step hda hbu
              rw [show u - i + 1 = u + 1 - i by omega] at hn
              have HN := Lib.hid (hn.trans HS2.out)
              rw [hbu] at hbl2
              have HB2 := Lib.hid hbl2
              clear hbu hbl2 hn hda
              generalize ((u + 1 : Nat) : Int) = U1 at k1 k2 k3 q0 q1 q2 ⊢
              go_wp2_with fail
              refine (HB2.out _).mono ?_
              rintro e w3 ⟨rfl, hw3⟩
              rw [hw3]
              clear hw3
              go_wp2_with fail
              go_roundg u
              case rel => exact ⟨u, by first | rfl | rw [k3], by omega, by omega, rfl, rfl, HN.out⟩
              case measure => have := HG2.out; omega
            | false =>
              have hn := trimR_stop hda hbu
              rw [show u - i + 1 = u + 1 - i by omega] at hn
              have HE := Lib.hid (HEND.out (u + 1) (by omega) HS2.out hn)
              rw [hbu] at hbl2
              have HB2 := Lib.hid hbl2
              clear hbu hbl2 hn hda
              have HEI := Lib.hid (show (⟨R.toArray⟩ : ByteArray) = s.extract i (((u + 1 : Nat) : Int).toNat) from HE.out)
              generalize ((u + 1 : Nat) : Int) = U1 at k1 k2 k3 q0 q1 q2 HEI ⊢
              go_wp2_with fail
              refine (HB2.out _).mono ?_
              rintro e w3 ⟨rfl, hw3⟩
              rw [hw3]
              clear hw3
              go_wp2
              go_ret
              exact ⟨by rw [HEI.out]; rfl, rfl⟩
end Go.Proofs.YtkoncmmbdlnmfaaGreatDoor

/- The document's printable, word (of a text without quotes), Values (package 13): what they hand back. -/
namespace Go.Proofs.YtkoncmmbdlnmfaaGreatDoor
open Go.RowKit Go.Lib
set_option linter.unusedSimpArgs false
set_option linter.unusedVariables false
set_option linter.unnecessarySimpa false
set_option maxRecDepth 100000

theorem mk_listr (l : List UInt8) : (⟨l.toArray⟩ : ByteArray).data.toList = l := rfl
theorem byte_eq (b : UInt8) (n : Nat) (hn : n < 256) : ((b.toNat : Int) == (n : Int)) = (b == UInt8.ofNat n) := by
  have h1 : (UInt8.ofNat n).toNat = n := by simp [Nat.mod_eq_of_lt hn]
  by_cases h : b = UInt8.ofNat n
  · subst h
    rw [h1]
    simp
  · have : ¬ b.toNat = n := fun e => h (UInt8.toNat_inj.1 (by rw [h1]; exact e))
    have e1 : ((b.toNat : Int) == (n : Int)) = false := by rw [beq_eq_false_iff_ne]; omega
    have e2 : (b == UInt8.ofNat n) = false := by rw [beq_eq_false_iff_ne]; exact h
    rw [e1, e2]
theorem bt_ne {b c : UInt8} (h : b ≠ c) : ((b.toNat : Int) == (c.toNat : Int)) = false ∧ ((b.toNat : Int) != (c.toNat : Int)) = true := by
  have : ¬ b.toNat = c.toNat := fun e => h (UInt8.toNat_inj.1 e)
  have e1 : ((b.toNat : Int) == (c.toNat : Int)) = false := by rw [beq_eq_false_iff_ne]; omega
  exact ⟨e1, by rw [bne, e1]; rfl⟩
def P13 (c : UInt8) : Bool := c == 9 || plainB c.toNat
theorem printL_eq (s : List UInt8) : printL s = s.all P13 := rfl
theorem print13_not (s : ByteArray) (i : Nat) (h : i < s.size) (hp : P13 s[i] = false) : printL s.data.toList = false := by
  rw [printL_eq, List.all_eq_false]
  exact ⟨s[i], List.getElem_mem (by simpa using h), by rw [hp]; simp⟩
def Pr13Rel (s : ByteArray) (w : World) (g : Nat) (v3 : Value) (W : World) : Prop :=
  ∃ i : Nat, v3 = .int .i64 (i : Int) ∧ i ≤ s.size ∧ g = s.size - i ∧ W = w ∧ printL (s.data.toList.take i) = true
set_option maxHeartbeats 2000000 in
theorem Print13 (s : ByteArray) (hs : s.size ≤ 1000000000000) (w : World) : Calls Tryz.prog 93 #[.string s] w fun e w' => e = .returned (.bool (printL s.data.toList)) ∧ w' = w := by
  have HBAD := Lib.hid (fun i h hp => print13_not s i h hp)
  have HALL := Lib.hid (show printL (s.data.toList.take s.size) = true → printL s.data.toList = true by rw [take_all]; exact id)
  have HST := Lib.hid (fun (i : Nat) (h : i < s.size) (hp : P13 s[i] = true) (ha : printL (s.data.toList.take i) = true) => show printL (s.data.toList.take (i + 1)) = true by
    rw [take_snoc s i h, printL_eq, List.all_append, ← printL_eq, ha]
    simp [hp])
  generalize printL s.data.toList = R at HBAD HALL
  go_enter Tryz.func93, Tryz.ntmps93
  go_wp2_with fail
  go_loopg [3] s.size (fun g v3 W => Pr13Rel s w g v3 W)
  case atStart => exact ⟨0, rfl, by omega, by omega, rfl, by simp [printL]⟩
  case round =>
    obtain ⟨i, rfl, hi, hg, rfl, hall⟩ := hrel
    have HG := Lib.hid hg
    have HL := Lib.hid hall
    clear hg hall
    by_cases hlt : i < s.size
    · have h0 : (0 : Int) ≤ (i : Int) := by omega
      have h1 : (i : Int) < (s.size : Int) := by omega
      have hw : IntKind.i64.wrap ((i : Int) + 1) = ((i + 1 : Nat) : Int) := by rw [IntKind.wrap_i64]; omega
      have HN := Lib.hid (fun hp => HST.out i hlt hp HL.out)
      have HB := Lib.hid (fun hp => HBAD.out i hlt hp)
      by_cases h9 : s[i] = 9
      · have q1 : ((s[i].toNat : Int) != 9) = false := by rw [h9]; rfl
        have hN := HN.out (by unfold P13; rw [h9]; rfl)
        have HN2 := Lib.hid hN
        clear hN h9 HN HB
        go_wp2_with fail
        go_roundg (s.size - (i + 1))
        case rel => exact ⟨i + 1, by go_num, by omega, rfl, rfl, HN2.out⟩
        case measure => have := HG.out; omega
      · have q1 : ((s[i].toNat : Int) != 9) = true := (bt_ne h9).2
        have hp9 : P13 s[i] = plainB s[i].toNat := by
          unfold P13
          have : (s[i] == 9) = false := by rw [beq_eq_false_iff_ne]; exact h9
          rw [this]
          rfl
        clear h9
        by_cases h32 : s[i].toNat < 32
        · have q2 : (s[i].toNat : Int) < 32 := by omega
          have q3 : decide ((s[i].toNat : Int) < 32) = true := by rw [decide_eq_true_eq]; exact q2
          have hR := HB.out (by rw [hp9]; unfold plainB; simp; omega)
          subst hR
          clear hp9 HN HB
          go_wp2
          go_ret
          exact ⟨rfl, rfl⟩
        · have q2 : ¬ (s[i].toNat : Int) < 32 := by omega
          have q3 : decide ((s[i].toNat : Int) < 32) = false := by rw [decide_eq_false_iff_not]; exact q2
          by_cases h126 : 126 < s[i].toNat
          · have q4 : (126 : Int) < (s[i].toNat : Int) := by omega
            have q5 : decide ((126 : Int) < (s[i].toNat : Int)) = true := by rw [decide_eq_true_eq]; exact q4
            have hR := HB.out (by rw [hp9]; unfold plainB; simp; omega)
            subst hR
            clear hp9 HN HB
            go_wp2
            go_ret
            exact ⟨rfl, rfl⟩
          · have q4 : ¬ (126 : Int) < (s[i].toNat : Int) := by omega
            have q5 : decide ((126 : Int) < (s[i].toNat : Int)) = false := by rw [decide_eq_false_iff_not]; exact q4
            have hN := HN.out (by rw [hp9]; unfold plainB; simp; omega)
            have HN2 := Lib.hid hN
            clear hN hp9 HN HB
            go_wp2_with fail
            go_roundg (s.size - (i + 1))
            case rel => exact ⟨i + 1, by go_num, by omega, rfl, rfl, HN2.out⟩
            case measure => have := HG.out; omega
    · have hii : i = s.size := by omega
      have hR : R = true := HALL.out (by rw [← hii]; exact HL.out)
      subst hR
      have h1 : ¬ (i : Int) < (s.size : Int) := by omega
      clear hii
      go_wp2
      go_ret
      exact ⟨rfl, rfl⟩
/-! word -/
theorem trimW_cons {b : UInt8} {r : List UInt8} (hb : blkB b = true) : trimW (b :: r) = trimW r := by
  unfold trimW
  have : trimF (b :: r) = trimF r := by unfold trimF; rw [List.dropWhile_cons, if_pos hb]
  rw [this]
theorem mid_cons (s : ByteArray) {a j : Nat} (h : a < j) (hj : j ≤ s.size) : (s.data.toList.drop a).take (j - a) = s[a]'(by omega) :: (s.data.toList.drop (a + 1)).take (j - (a + 1)) := by
  have hlt : a < s.data.toList.length := by rw [list_len]; omega
  rw [List.drop_eq_getElem_cons hlt, show j - a = (j - (a + 1)) + 1 by omega, List.take_succ_cons]
  rfl
def W1Rel (s : ByteArray) (at_ j : Nat) (T : List UInt8) (w : World) (g : Nat) (v1 : Value) (W : World) : Prop :=
  ∃ a : Nat, v1 = .int .i64 (a : Int) ∧ at_ ≤ a ∧ a ≤ j ∧ g = j - a ∧ W = w ∧ trimW ((s.data.toList.drop a).take (j - a)) = T
def W4Rel (a j : Nat) (w : World) (g : Nat) (v11 : Value) (W : World) : Prop :=
  ∃ i : Nat, v11 = .int .i64 (i : Int) ∧ a ≤ i ∧ i ≤ j ∧ g = j - i ∧ W = w
/-- where a word ends. -/
structure WordAt (s : ByteArray) (j : Nat) : Prop where
  le : j ≤ s.size
  e : j = s.size ∨ ∃ h : j < s.size, s[j] = 44
theorem blk_no {b : UInt8} (h : blkB b = true) : b ≠ 44 ∧ b ≠ 34 ∧ b ≠ 10 ∧ b ≠ 13 := by
  refine ⟨?_, ?_, ?_, ?_⟩ <;> (rintro rfl; revert h; decide)
set_option maxHeartbeats 8000000 in
theorem word13 (s : ByteArray) (hs : s.size ≤ 1000000000000) (hq : ∀ b ∈ s.data.toList, b ≠ 34) (at_ j : Nat) (haj : at_ ≤ j) (hwa : WordAt s j) (hno : ∀ (k : Nat) (h : k < s.size), at_ ≤ k → k < j → s[k] ≠ 44) (T : List UInt8) (hT : trimW ((s.data.toList.drop at_).take (j - at_)) = T) (w : World) :
    Calls Tryz.prog 94 #[.string s, .int .i64 (at_ : Int), .int .u8 44] w fun e w' => e = .returned (.tuple #[.string ⟨T.toArray⟩, .int .i64 ((j + 1 : Nat) : Int), .bool (!T.isEmpty)]) ∧ w' = w := by
  have HQ := Lib.hid (fun i (h : i < s.size) => hq s[i] (List.getElem_mem (by simpa using h)))
  have HNO := Lib.hid hno
  have HT := Lib.hid hT
  have HWA := Lib.hid hwa
  have hjs := hwa.le
  clear hq hno hT hwa
  go_enter Tryz.func94, Tryz.ntmps94
  go_wp2_with fail
  go_loopg [1] (j - at_) (fun g v1 W => W1Rel s at_ j T w g v1 W)
  case atStart => exact ⟨at_, rfl, Nat.le_refl _, haj, rfl, rfl, HT.out⟩
  case round =>
    obtain ⟨a, rfl, ha1, ha2, hg, rfl, hst⟩ := hrel
    have HG := Lib.hid hg
    have HS := Lib.hid hst
    clear hg hst
    have h0 : (0 : Int) ≤ (a : Int) := by omega
    by_cases hgo : ∃ h : a < j, blkB (s[a]'(by omega)) = true
    · obtain ⟨haj2, hb⟩ := hgo
      have hlt : a < s.size := by omega
      have h1 : (a : Int) < (s.size : Int) := by omega
      have h1d : decide ((a : Int) < (s.size : Int)) = true := by rw [decide_eq_true_eq]; exact h1
      have hw : IntKind.i64.wrap ((a : Int) + 1) = ((a + 1 : Nat) : Int) := by rw [IntKind.wrap_i64]; omega
      have hbl := blank13 s[a]
      rw [hb] at hbl
      have HBL := Lib.hid hbl
      have HN := Lib.hid (show trimW ((s.data.toList.drop (a + 1)).take (j - (a + 1))) = T from by rw [← HS.out, mid_cons s haj2 hjs, trimW_cons hb])
      clear hb hbl
      go_wp2_with fail
      refine (HBL.out _).mono ?_
      rintro e w2 ⟨rfl, hw2⟩
      rw [hw2]
      clear hw2
      go_wp2_with fail
      go_roundg (j - (a + 1))
      case rel => exact ⟨a + 1, by go_num, by omega, by omega, rfl, rfl, HN.out⟩
      case measure => have := HG.out; omega
    · have hcase : (¬ a < s.size) ∨ ∃ h : a < s.size, blkB s[a] = false := by
        by_cases hlt : a < s.size
        · right
          refine ⟨hlt, ?_⟩
          by_cases haj2 : a < j
          · cases hbb : blkB s[a] with
            | false => rfl
            | true => exact absurd ⟨haj2, hbb⟩ hgo
          · have : a = j := by omega
            subst this
            rcases HWA.out.e with h | ⟨h, he⟩
            · omega
            · rw [he]; decide
        · exact .inl hlt
      have HTR := Lib.hid (fun (W : World) (h : (s.extract a j).size ≤ 1000000000000) => Trim13 (s.extract a j) h W)
      simp only [ext_mid, mk_listr, HS.out] at HTR
      rw [← ext_mid] at HTR
      have hxs : (s.extract a j).size ≤ 1000000000000 := by simp; omega
      clear hgo HS
      rcases hcase with hlt | ⟨hlt, hb⟩
      have h1d : decide ((a : Int) < (s.size : Int)) = false := by rw [decide_eq_false_iff_not]; omega
      have h1 : ¬ (a : Int) < (s.size : Int) := by omega
      go_wp2_with fail
      rotate_left
      have h1d : decide ((a : Int) < (s.size : Int)) = true := by rw [decide_eq_true_eq]; omega
      have h1 : (a : Int) < (s.size : Int) := by omega
      have hbl := blank13 s[a]
      rw [hb] at hbl
      have HBL := Lib.hid hbl
      have q34 : ((s[a].toNat : Int) == 34) = false := (bt_ne (HQ.out a hlt)).1
      clear hb hbl
      go_wp2_with fail
      refine (HBL.out _).mono ?_
      rintro e w2 ⟨rfl, hw2⟩
      rw [hw2]
      clear hw2 HBL
      go_wp2_with fail
      all_goals
        go_loopg [11] (j - a) (fun g v11 W => W4Rel a j wr g v11 W)
        case atStart => exact ⟨a, rfl, Nat.le_refl _, ha2, rfl, rfl⟩
        case round =>
          obtain ⟨i, rfl, hi1, hi2, hg2, rfl⟩ := hrel
          have HG2 := Lib.hid hg2
          clear hg2
          have k0 : (0 : Int) ≤ (i : Int) := by omega
          by_cases hij : i < j
          · have hil : i < s.size := by omega
            have k1 : (i : Int) < (s.size : Int) := by omega
            have k1d : decide ((i : Int) < (s.size : Int)) = true := by rw [decide_eq_true_eq]; exact k1
            have kw : IntKind.i64.wrap ((i : Int) + 1) = ((i + 1 : Nat) : Int) := by rw [IntKind.wrap_i64]; omega
            have k44 : ((s[i].toNat : Int) != 44) = true := (bt_ne (HNO.out i hil (by omega) hij)).2
            have k34 : ((s[i].toNat : Int) == 34) = false := (bt_ne (HQ.out i hil)).1
            go_wp2_with fail
            go_roundg (j - (i + 1))
            case rel => exact ⟨i + 1, by go_num, by omega, by omega, rfl, rfl⟩
            case measure => have := HG2.out; omega
          · obtain rfl : i = j := by omega
            have k5 : (a : Int) ≤ (i : Int) := by omega
            have k6 : (i : Int) ≤ (s.size : Int) := by omega
            have kw : IntKind.i64.wrap ((i : Int) + 1) = ((i + 1 : Nat) : Int) := by rw [IntKind.wrap_i64]; omega
            have HTR2 := Lib.hid (fun W => HTR.out W hxs)
            rcases HWA.out.e with hz | ⟨hz, he⟩
            · have k1 : ¬ (i : Int) < (s.size : Int) := by omega
              have k1d : decide ((i : Int) < (s.size : Int)) = false := by rw [decide_eq_false_iff_not]; exact k1
              clear hz
              go_wp2_with fail
              refine (HTR2.out _).mono ?_
              rintro e w3 ⟨rfl, hw3⟩
              rw [hw3]
              clear hw3
              by_cases hT0 : T = []
              · subst hT0
                clear HT HTR HTR2
                go_wp2
                go_ret3
                exact ⟨rfl, rfl⟩
              · obtain ⟨x, T', rfl⟩ := List.exists_cons_of_ne_nil hT0
                clear HT HTR HTR2 hT0
                go_wp2
                go_ret3
                exact ⟨rfl, rfl⟩
            · have k1 : (i : Int) < (s.size : Int) := by omega
              have k1d : decide ((i : Int) < (s.size : Int)) = true := by rw [decide_eq_true_eq]; exact k1
              have k44 : ((s[i].toNat : Int) != 44) = false := by rw [he]; rfl
              clear he
              go_wp2_with fail
              refine (HTR2.out _).mono ?_
              rintro e w3 ⟨rfl, hw3⟩
              rw [hw3]
              clear hw3
              by_cases hT0 : T = []
              · subst hT0
                clear HT HTR HTR2
                go_wp2
                go_ret3
                exact ⟨rfl, rfl⟩
              · obtain ⟨x, T', rfl⟩ := List.exists_cons_of_ne_nil hT0
                clear HT HTR HTR2 hT0
                go_wp2
                go_ret3
                exact ⟨rfl, rfl⟩
/-! Values -/
/-- the next piece of a list, by its place. -/
theorem piece_at (c : UInt8) (l : List UInt8) (at_ : Nat) (h : at_ ≤ l.length) : ∃ j, at_ ≤ j ∧ j ≤ l.length ∧ (∀ k : Nat, at_ ≤ k → k < j → l[k]? ≠ some c) ∧
    ((j = l.length ∧ pieces c (l.drop at_) = [(l.drop at_).take (j - at_)]) ∨ (l[j]? = some c ∧ pieces c (l.drop at_) = (l.drop at_).take (j - at_) :: pieces c (l.drop (j + 1)))) := by
  have hget : ∀ k : Nat, (l.drop at_)[k]? = l[at_ + k]? := fun k => by rw [List.getElem?_drop]
  by_cases hx : ∃ i : Nat, (l.drop at_)[i]? = some c
  · obtain ⟨i, hi, hmin⟩ : ∃ i : Nat, (l.drop at_)[i]? = some c ∧ ∀ k : Nat, k < i → (l.drop at_)[k]? ≠ some c := by
      obtain ⟨n, hn⟩ := hx
      induction n using Nat.strongRecOn with
      | ind n ih =>
        by_cases hm : ∃ k : Nat, k < n ∧ (l.drop at_)[k]? = some c
        · obtain ⟨k, hk, hkc⟩ := hm
          exact ih k hk hkc
        · exact ⟨n, hn, fun k hk e => hm ⟨k, hk, e⟩⟩
    have hil : i < (l.drop at_).length := (List.getElem?_eq_some_iff.1 hi).1
    rw [List.length_drop] at hil
    refine ⟨at_ + i, by omega, by omega, fun k h1 h2 => ?_, .inr ⟨by rw [← hget]; exact hi, ?_⟩⟩
    · have := hmin (k - at_) (by omega)
      rw [hget, show at_ + (k - at_) = k by omega] at this
      exact this
    · rw [pieces_take c _ i hi hmin, List.drop_drop, show at_ + i - at_ = i by omega, show at_ + (i + 1) = at_ + i + 1 by omega]
  · refine ⟨l.length, h, Nat.le_refl _, fun k h1 h2 e => hx ⟨k - at_, by rw [hget, show at_ + (k - at_) = k by omega]; exact e⟩, .inl ⟨rfl, ?_⟩⟩
    rw [pieces_one c _ (fun k e => hx ⟨k, e⟩), List.take_of_length_le (by rw [List.length_drop]; exact Nat.le_refl _)]
def Val13Rel (s : ByteArray) (w : World) (g : Nat) (v4 v5 : Value) (W : World) : Prop :=
  ∃ (done : List (List UInt8)) (at_ : Nat), v5 = .int .i64 (at_ : Int) ∧ g = s.size + 1 - at_ ∧ (∀ x ∈ done, x ≠ []) ∧ W.ownsRow w.heap.size 9 1 v4 done.length (done.map strV) ∧ Below w.heap.size w W ∧ done.length ≤ at_ ∧
    ((at_ ≤ s.size ∧ (pieces 44 s.data.toList).map trimW = done ++ (pieces 44 (s.data.toList.drop at_)).map trimW) ∨ (at_ = s.size + 1 ∧ (pieces 44 s.data.toList).map trimW = done))
set_option maxHeartbeats 8000000 in
theorem Values13 (s : ByteArray) (hs : s.size ≤ 1000000) (hq : ∀ b ∈ s.data.toList, b ≠ 34) (hp : printL s.data.toList = true) (w : World) :
    Calls Tryz.prog 45 #[.string s] w fun e w' => ValP (valsL s.data.toList) e w' ∧ Below w.heap.size w w' := by
  have HPR := Lib.hid (fun W => Print13 s (by omega) W)
  rw [hp] at HPR
  have HBAD := Lib.hid (fun done rest h => vals_bad (l0 := s.data.toList) (done := done) (rest := rest) h)
  have HGOOD := Lib.hid (fun done h hd => vals_good (l0 := s.data.toList) (done := done) h hd)
  have HQ := Lib.hid hq
  have HPA := Lib.hid (fun a (h : a ≤ s.data.toList.length) => piece_at 44 s.data.toList a h)
  have HLL := Lib.hid (list_len s)
  have HGB := Lib.hid (fun i (h : i < s.size) => get_byte s h)
  clear hp hq
  go_enter Tryz.func45, Tryz.ntmps45
  go_wp2_with fail
  refine (HPR.out _).mono ?_
  rintro e w1 ⟨rfl, hw1⟩
  rw [hw1]
  clear hw1
  go_wp2_with fail
  go_loopg [4, 5] (s.size + 1) (fun g v4 v5 W => Val13Rel s w g v4 v5 W)
  case atStart => exact ⟨[], 0, rfl, rfl, (fun x hx => by cases hx), World.ownsRow_nil _ _ _ _, Below.refl _ _, Nat.le_refl _, .inl ⟨Nat.zero_le _, by simp⟩⟩
  case round =>
    obtain ⟨done, a, rfl, hg, hd, hown, hb, hdl, ⟨ha, hps⟩ | ⟨ha, hps⟩⟩ := hrel
    · obtain ⟨j, h1, h2, h3, h4⟩ := HPA.out a (by rw [HLL.out]; exact ha)
      rw [HLL.out] at h2
      have HG := Lib.hid hg
      have HPS := Lib.hid hps
      have HD := Lib.hid hd
      have HB := Lib.hid hb
      have HO := Lib.hid hown
      have H4 := Lib.hid h4
      have hwa : WordAt s j := ⟨h2, by
        rcases h4 with ⟨h, -⟩ | ⟨h, -⟩
        · exact .inl (by rw [h, HLL.out])
        · right
          have hj : j < s.size := by
            have := (List.getElem?_eq_some_iff.1 h).1
            rw [HLL.out] at this
            exact this
          refine ⟨hj, ?_⟩
          rw [HGB.out j hj] at h
          injection h⟩
      obtain ⟨T, hT⟩ : ∃ T, trimW ((s.data.toList.drop a).take (j - a)) = T := ⟨_, rfl⟩
      have HW := Lib.hid (fun W => word13 s (by omega) HQ.out a j h1 hwa (fun k hk k1 k2 e => h3 k k1 k2 (by rw [HGB.out k hk, e])) T hT W)
      have HT := Lib.hid hT
      have k0 : (0 : Int) ≤ (a : Int) := by omega
      have k1 : (a : Int) ≤ (s.size : Int) := by omega
      have k1d : decide ((a : Int) ≤ (s.size : Int)) = true := by rw [decide_eq_true_eq]; exact k1
      clear hg hps hd hb hown h3 h4 hwa hT
      by_cases hT0 : T = []
      · subst hT0
        have hN : valsL s.data.toList = none := by
          rcases H4.out with ⟨-, hp⟩ | ⟨-, hp⟩
          · refine HBAD.out done [] ?_
            rw [HPS.out, hp, List.map_cons, HT.out]
            rfl
          · refine HBAD.out done ((pieces 44 (s.data.toList.drop (j + 1))).map trimW) ?_
            rw [HPS.out, hp, List.map_cons, HT.out]
        have HN := Lib.hid hN
        clear hN
        go_wp2_with fail
        refine (HW.out _).mono ?_
        rintro e w2 ⟨rfl, hw2⟩
        rw [hw2]
        clear hw2
        go_wp2
        go_ret2
        exact ⟨by rw [HN.out]; exact ⟨5, by decide, rfl⟩, HB.out⟩
      · have hie : T.isEmpty = false := by rw [List.isEmpty_eq_false_iff]; exact hT0
        rw [hie] at HW
        have HT0 := Lib.hid hT0
        have hbs := HB.out.size
        clear hie hT0
        go_wp2_with fail
        refine (HW.out _).mono ?_
        rintro e w2 ⟨rfl, hw2⟩
        rw [hw2]
        clear hw2
        go_wp2_with (first | (at_builtin; refine app_str rfl _ _ rfl w.heap.size _ _ _ rfl (World.ownsRow.alloc (w := wr) HO.out _) ⟨wr.heap.size, 0, none⟩ 1 (.string ⟨T.toArray⟩) rfl (new_cell _ _ _) rfl (by omega) (by rw [World.size_alloc]; exact Nat.le_succ_of_le hbs) ?_; intro g' cap w3 hown3 hgr) | fail)
        go_roundg (s.size + 1 - (j + 1))
        case rel =>
          refine ⟨done ++ [T], j + 1, rfl, rfl, ?_, ?_, (HB.out.alloc hbs _).grown hgr (by rw [World.size_alloc]; exact Nat.le_succ_of_le hbs) (own_base HO.out), by rw [List.length_append, List.length_singleton]; omega, ?_⟩
          · intro y hy
            rcases List.mem_append.1 hy with hy | hy
            · exact HD.out y hy
            · obtain rfl := List.mem_singleton.1 hy
              exact HT0.out
          · rw [List.length_append, List.map_append]
            exact hown3
          · rcases H4.out with ⟨hj, hp⟩ | ⟨hj, hp⟩
            · right
              refine ⟨by rw [hj, HLL.out], ?_⟩
              rw [HPS.out, hp, List.map_cons, HT.out]
              rfl
            · left
              have hj2 : j < s.size := by
                have := (List.getElem?_eq_some_iff.1 hj).1
                rw [HLL.out] at this
                exact this
              refine ⟨hj2, ?_⟩
              rw [HPS.out, hp, List.map_cons, HT.out, List.append_assoc]
              rfl
        case measure => have := HG.out; omega
    · have HB := Lib.hid hb
      have hv := HGOOD.out _ hps hd
      have hrow := Row.of_owns hown
      have HR := Lib.hid hrow
      have hl2 : done.length ≤ s.size + 1 := by omega
      have k1 : ¬ (a : Int) ≤ (s.size : Int) := by omega
      have k1d : decide ((a : Int) ≤ (s.size : Int)) = false := by rw [decide_eq_false_iff_not]; exact k1
      obtain ⟨p, cap, hv4, -⟩ := hrow
      rw [List.length_map] at hv4
      subst hv4
      by_cases h16 : 16 < done.length
      · rw [if_pos h16] at hv
        have HV := Lib.hid hv
        have hi : (16 : Int) < (done.length : Int) := by omega
        clear hv hps hd hown hg ha
        go_wp2
        go_ret2
        exact ⟨by rw [HV.out]; exact ⟨7, by decide, rfl⟩, HB.out⟩
      · rw [if_neg h16] at hv
        have HV := Lib.hid hv
        have hi : ¬ (16 : Int) < (done.length : Int) := by omega
        clear hv hps hd hown hg ha
        go_wp2
        go_ret2
        exact ⟨by rw [HV.out]; exact ⟨_, rfl, HR.out⟩, HB.out⟩
end Go.Proofs.YtkoncmmbdlnmfaaGreatDoor

/- The document's Values once more: its row is the call's own. -/
namespace Go.Proofs.YtkoncmmbdlnmfaaGreatDoor
open Go.RowKit Go.Lib
set_option linter.unusedSimpArgs false
set_option linter.unusedVariables false
set_option linter.unnecessarySimpa false
set_option maxRecDepth 100000
set_option maxHeartbeats 8000000 in
theorem Values13n (s : ByteArray) (hs : s.size ≤ 1000000) (hq : ∀ b ∈ s.data.toList, b ≠ 34) (hp : printL s.data.toList = true) (w : World) :
    Calls Tryz.prog 45 #[.string s] w fun e w' => ValP (valsL s.data.toList) e w' ∧ Below w.heap.size w w' ∧ ∀ v c, e = .returned (.tuple #[v, c]) → ∀ g, v.ownBlock = some g → w.heap.size ≤ g := by
  have HPR := Lib.hid (fun W => Print13 s (by omega) W)
  rw [hp] at HPR
  have HBAD := Lib.hid (fun done rest h => vals_bad (l0 := s.data.toList) (done := done) (rest := rest) h)
  have HGOOD := Lib.hid (fun done h hd => vals_good (l0 := s.data.toList) (done := done) h hd)
  have HQ := Lib.hid hq
  have HPA := Lib.hid (fun a (h : a ≤ s.data.toList.length) => piece_at 44 s.data.toList a h)
  have HLL := Lib.hid (list_len s)
  have HGB := Lib.hid (fun i (h : i < s.size) => get_byte s h)
  clear hp hq
  go_enter Tryz.func45, Tryz.ntmps45
  go_wp2_with fail
  refine (HPR.out _).mono ?_
  rintro e w1 ⟨rfl, hw1⟩
  rw [hw1]
  clear hw1
  go_wp2_with fail
  go_loopg [4, 5] (s.size + 1) (fun g v4 v5 W => Val13Rel s w g v4 v5 W)
  case atStart => exact ⟨[], 0, rfl, rfl, (fun x hx => by cases hx), World.ownsRow_nil _ _ _ _, Below.refl _ _, Nat.le_refl _, .inl ⟨Nat.zero_le _, by simp⟩⟩
  case round =>
    obtain ⟨done, a, rfl, hg, hd, hown, hb, hdl, ⟨ha, hps⟩ | ⟨ha, hps⟩⟩ := hrel
    · obtain ⟨j, h1, h2, h3, h4⟩ := HPA.out a (by rw [HLL.out]; exact ha)
      rw [HLL.out] at h2
      have HG := Lib.hid hg
      have HPS := Lib.hid hps
      have HD := Lib.hid hd
      have HB := Lib.hid hb
      have HO := Lib.hid hown
      have H4 := Lib.hid h4
      have hwa : WordAt s j := ⟨h2, by
        rcases h4 with ⟨h, -⟩ | ⟨h, -⟩
        · exact .inl (by rw [h, HLL.out])
        · right
          have hj : j < s.size := by
            have := (List.getElem?_eq_some_iff.1 h).1
            rw [HLL.out] at this
            exact this
          refine ⟨hj, ?_⟩
          rw [HGB.out j hj] at h
          injection h⟩
      obtain ⟨T, hT⟩ : ∃ T, trimW ((s.data.toList.drop a).take (j - a)) = T := ⟨_, rfl⟩
      have HW := Lib.hid (fun W => word13 s (by omega) HQ.out a j h1 hwa (fun k hk k1 k2 e => h3 k k1 k2 (by rw [HGB.out k hk, e])) T hT W)
      have HT := Lib.hid hT
      have k0 : (0 : Int) ≤ (a : Int) := by omega
      have k1 : (a : Int) ≤ (s.size : Int) := by omega
      have k1d : decide ((a : Int) ≤ (s.size : Int)) = true := by rw [decide_eq_true_eq]; exact k1
      clear hg hps hd hb hown h3 h4 hwa hT
      by_cases hT0 : T = []
      · subst hT0
        have hN : valsL s.data.toList = none := by
          rcases H4.out with ⟨-, hp⟩ | ⟨-, hp⟩
          · refine HBAD.out done [] ?_
            rw [HPS.out, hp, List.map_cons, HT.out]
            rfl
          · refine HBAD.out done ((pieces 44 (s.data.toList.drop (j + 1))).map trimW) ?_
            rw [HPS.out, hp, List.map_cons, HT.out]
        have HN := Lib.hid hN
        clear hN
        go_wp2_with fail
        refine (HW.out _).mono ?_
        rintro e w2 ⟨rfl, hw2⟩
        rw [hw2]
        clear hw2
        go_wp2
        go_ret2
        exact ⟨by rw [HN.out]; exact ⟨5, by decide, rfl⟩, HB.out, fun v c e g hg => by injection e with e; injection e with e; rw [← (Array.mk.inj e |> List.cons.inj).1] at hg; cases hg⟩
      · have hie : T.isEmpty = false := by rw [List.isEmpty_eq_false_iff]; exact hT0
        rw [hie] at HW
        have HT0 := Lib.hid hT0
        have hbs := HB.out.size
        clear hie hT0
        go_wp2_with fail
        refine (HW.out _).mono ?_
        rintro e w2 ⟨rfl, hw2⟩
        rw [hw2]
        clear hw2
        go_wp2_with (first | (at_builtin; refine app_str rfl _ _ rfl w.heap.size _ _ _ rfl (World.ownsRow.alloc (w := wr) HO.out _) ⟨wr.heap.size, 0, none⟩ 1 (.string ⟨T.toArray⟩) rfl (new_cell _ _ _) rfl (by omega) (by rw [World.size_alloc]; exact Nat.le_succ_of_le hbs) ?_; intro g' cap w3 hown3 hgr) | fail)
        go_roundg (s.size + 1 - (j + 1))
        case rel =>
          refine ⟨done ++ [T], j + 1, rfl, rfl, ?_, ?_, (HB.out.alloc hbs _).grown hgr (by rw [World.size_alloc]; exact Nat.le_succ_of_le hbs) (own_base HO.out), by rw [List.length_append, List.length_singleton]; omega, ?_⟩
          · intro y hy
            rcases List.mem_append.1 hy with hy | hy
            · exact HD.out y hy
            · obtain rfl := List.mem_singleton.1 hy
              exact HT0.out
          · rw [List.length_append, List.map_append]
            exact hown3
          · rcases H4.out with ⟨hj, hp⟩ | ⟨hj, hp⟩
            · right
              refine ⟨by rw [hj, HLL.out], ?_⟩
              rw [HPS.out, hp, List.map_cons, HT.out]
              rfl
            · left
              have hj2 : j < s.size := by
                have := (List.getElem?_eq_some_iff.1 hj).1
                rw [HLL.out] at this
                exact this
              refine ⟨hj2, ?_⟩
              rw [HPS.out, hp, List.map_cons, HT.out, List.append_assoc]
              rfl
        case measure => have := HG.out; omega
    · have HB := Lib.hid hb
      have hv := HGOOD.out _ hps hd
      have hrow := Row.of_owns hown
      have HR := Lib.hid hrow
      have hl2 : done.length ≤ s.size + 1 := by omega
      have k1 : ¬ (a : Int) ≤ (s.size : Int) := by omega
      have k1d : decide ((a : Int) ≤ (s.size : Int)) = false := by rw [decide_eq_false_iff_not]; exact k1
      obtain ⟨p, cap, hv4, -⟩ := hrow
      rw [List.length_map] at hv4
      have HON := Lib.hid (own_ge hown)
      subst hv4
      by_cases h16 : 16 < done.length
      · rw [if_pos h16] at hv
        have HV := Lib.hid hv
        have hi : (16 : Int) < (done.length : Int) := by omega
        clear hv hps hd hown hg ha
        go_wp2
        go_ret2
        exact ⟨by rw [HV.out]; exact ⟨7, by decide, rfl⟩, HB.out, fun v c e g hg => by injection e with e; injection e with e; rw [← (Array.mk.inj e |> List.cons.inj).1] at hg; cases hg⟩
      · rw [if_neg h16] at hv
        have HV := Lib.hid hv
        have hi : ¬ (16 : Int) < (done.length : Int) := by omega
        clear hv hps hd hown hg ha
        go_wp2
        go_ret2
        exact ⟨by rw [HV.out]; exact ⟨_, rfl, HR.out⟩, HB.out, fun v c e g hg => by injection e with e; injection e with e; rw [← (Array.mk.inj e |> List.cons.inj).1] at hg; exact HON.out g hg⟩
end Go.Proofs.YtkoncmmbdlnmfaaGreatDoor

/- The document's literal and Domain: the same answers as addr.domain's, for texts of at most 10^9 bytes. -/
namespace Go.Proofs.YtkoncmmbdlnmfaaGreatDoor
open Go.RowKit Go.Lib
set_option linter.unusedSimpArgs false
set_option linter.unusedVariables false
set_option linter.unnecessarySimpa false
set_option maxRecDepth 100000

def LitRel (ps : List (List UInt8)) (w2 : World) (g : Nat) (v4 : Value) (W : World) : Prop :=
  ∃ i : Nat, v4 = .int .i64 (i : Int) ∧ i ≤ 4 ∧ g = 4 - i ∧ W = w2 ∧ ∀ (j : Nat) (h : j < ps.length), j < i → octL ps[j] = true
theorem all_bad {ps : List (List UInt8)} (i : Nat) (h : i < ps.length) (hb : octL ps[i] = false) : ps.all octL = false := by
  rw [List.all_eq_false]
  exact ⟨_, List.getElem_mem h, by rw [hb]; simp⟩
theorem all_good {ps : List (List UInt8)} (h : ∀ (j : Nat) (h : j < ps.length), j < ps.length → octL ps[j] = true) : ps.all octL = true := by
  rw [List.all_eq_true]
  intro x hx
  obtain ⟨j, hj, rfl⟩ := List.getElem_of_mem hx
  exact h j hj hj
set_option maxHeartbeats 8000000 in
theorem literal_ref (s : ByteArray) (hs : s.size ≤ 1000000000) (w : World) : Calls Tryz.prog 192 #[.string s] w fun e w' => e = .returned (.bool (litL s.data.toList)) ∧ Below w.heap.size w w' := by
  have hdef : litL s.data.toList = (decide (2 ≤ s.data.toList.length) && s.data.toList.head? == some 91 && s.data.toList.getLast? == some 93 && decide ((pieces 46 ((s.data.toList.drop 1).take (s.data.toList.length - 2))).length = 4) && (pieces 46 ((s.data.toList.drop 1).take (s.data.toList.length - 2))).all octL) := rfl
  rw [list_len] at hdef
  by_cases h2 : s.size < 2
  · have h20 : (s.size : Int) < 2 := by omega
    have hR : litL s.data.toList = false := by rw [hdef, decide_eq_false (by omega)]; simp
    rw [hR]
    clear hR hdef
    go_enter Tryz.func192, Tryz.ntmps192
    go_wp2
    go_ret
    exact ⟨rfl, Below.refl _ _⟩
  · have h20 : ¬ (s.size : Int) < 2 := by omega
    have hpos0 : (0 : Int) < (s.size : Int) := by omega
    have hwr : IntKind.i64.wrap ((s.size : Int) - 1) = ((s.size - 1 : Nat) : Int) := by rw [IntKind.wrap_i64]; omega
    have hm0 : (0 : Int) ≤ ((s.size - 1 : Nat) : Int) := by omega
    have hm1 : ((s.size - 1 : Nat) : Int) < (s.size : Int) := by omega
    have hm2 : ((s.size - 1 : Nat) : Int) ≤ (s.size : Int) := by omega
    have hm3 : (1 : Int) ≤ ((s.size - 1 : Nat) : Int) := by omega
    have hlast : s.size - 1 < s.size := by omega
    have hpos : 0 < s.size := by omega
    rw [decide_eq_true (by omega), head_eq s hpos, last_eq s hlast] at hdef
    by_cases h0 : s[0] = 91
    · have q0 : ((s[0].toNat : Int) != 91) = false := by rw [h0]; rfl
      by_cases h1 : s[s.size - 1] = 93
      · have q1 : ((s[s.size - 1].toNat : Int) != 93) = false := by rw [h1]; rfl
        rw [h0, h1] at hdef
        simp only [beq_self_eq_true, Bool.true_and] at hdef
        have ex : s.extract 1 (s.size - 1) = ⟨((s.data.toList.drop 1).take (s.size - 2)).toArray⟩ := ext_mid s 1 (s.size - 1)
        have hrl : ((s.data.toList.drop 1).take (s.size - 2)).length ≤ 1000000000 := by rw [List.length_take, List.length_drop, list_len]; omega
        generalize (s.data.toList.drop 1).take (s.size - 2) = r at ex hdef hrl
        have HS := Split_ref ⟨r.toArray⟩ 46 (by show r.length ≤ _; omega) w
        rw [← ex] at HS
        have e1 : (s.extract 1 (s.size - 1)).data.toList = r := by rw [ex]
        rw [e1] at HS
        have hsm : ∀ p ∈ pieces 46 r, p.length ≤ 1000000000 := fun p hp => Nat.le_trans (pieces_small 46 r p hp) hrl
        generalize pieces 46 r = ps at HS hdef hsm
        have HSS := Lib.hid HS
        have HSM := Lib.hid hsm
        rw [hdef]
        clear HS hdef hsm h0 h1 ex e1
        by_cases h4 : ps.length = 4
        · rw [decide_eq_true h4, Bool.true_and]
          generalize hR : ps.all octL = R
          have HR := Lib.hid hR
          clear hR
          go_enter Tryz.func192, Tryz.ntmps192
          go_wp2_with fail
          refine HSS.out.mono ?_
          rintro e w2 ⟨v, rfl, ⟨p, cap, rfl, hc⟩, hb⟩
          have hln : (ps.map strV).length = 4 := by rw [List.length_map]; exact h4
          obtain hnil | ⟨b, o, rfl, hbl, hcc⟩ := hc
          · rw [List.map_eq_nil_iff] at hnil; rw [hnil] at h4; cases h4
          have HCC := Lib.hid hcc
          clear hcc
          rw [hln]
          go_wp2_with fail
          go_loopg [4] 4 (fun g v4 W => LitRel ps w2 g v4 W)
          case atStart => exact ⟨0, rfl, by omega, by omega, rfl, fun j h hj => by omega⟩
          case round =>
            obtain ⟨i, rfl, hi, hg, rfl, hok⟩ := hrel
            have HG := Lib.hid hg
            have HOK := Lib.hid hok
            clear hg hok
            by_cases hlt : i < 4
            · have hip : i < ps.length := by omega
              have hcell : wr.cell? ⟨b, o + i, none⟩ = some (strV ps[i]) := by
                have := HCC.out i (by omega)
                rw [this]; simp
              have hpl := HSM.out ps[i] (List.getElem_mem hip)
              have HOKI := Lib.hid (fun h : octL ps[i] = true => (fun (j : Nat) (hj : j < ps.length) (hji : j < i + 1) => by
                rcases Nat.lt_succ_iff_lt_or_eq.1 hji with h1 | rfl
                · exact HOK.out j hj h1
                · exact h : ∀ (j : Nat) (hj : j < ps.length), j < i + 1 → octL ps[j] = true))
              have HBAD := Lib.hid (fun h : octL ps[i] = false => (HR.out.symm.trans (all_bad i hip h)))
              have hdo : octL ps[i] = (numOk ps[i] 3 && decide (numV ps[i] < 256) && !(decide (1 < ps[i].length) && ps[i].head? == some 48)) := rfl
              have HN := Number_ref ⟨ps[i].toArray⟩ (by show ps[i].length ≤ _; omega) 3 wr
              have e2 : (⟨ps[i].toArray⟩ : ByteArray).data.toList = ps[i] := rfl
              rw [e2] at HN
              unfold strV at hcell
              generalize hq : ps[i] = q at hcell HN HOKI HBAD hdo hpl
              clear hq e2
              have HDO := Lib.hid hdo
              clear hdo
              have hi0 : (0 : Int) ≤ (i : Int) := by omega
              have hi1 : (i : Int) < 4 := by omega
              have hl4 : (i : Int) + 1 ≤ 4 := by omega
              have hwi : IntKind.i64.wrap ((i : Int) + 1) = (i : Int) + 1 := by rw [IntKind.wrap_i64]; omega
              have ePs : (⟨q.toArray⟩ : ByteArray).size = q.length := rfl
              have ePd : (⟨q.toArray⟩ : ByteArray).data.toList = q := rfl
              generalize hP : (⟨q.toArray⟩ : ByteArray) = P at hcell HN ePs ePd
              clear hP
              cases hok : numOk q 3 with
              | false =>
                rw [numR_bad _ _ hok] at HN
                have hR := Lib.hid (HBAD.out (by rw [HDO.out, hok]; simp))
                clear hok
                go_wp2_with fail
                refine HN.mono ?_
                rintro e w3 ⟨rfl, hw3⟩
                rw [hw3]
                clear hw3 w3 HN
                go_wp2
                go_ret
                exact ⟨by rw [hR.out]; rfl, hb⟩
              | true =>
                rw [numR_ok _ _ hok] at HN
                by_cases h255 : 255 < numV q
                · have h2550 : (255 : Int) < (numV q : Int) := by omega
                  have hR := Lib.hid (HBAD.out (by rw [HDO.out, decide_eq_false (by omega : ¬ numV q < 256)]; simp))
                  generalize numV q = n at HN h2550
                  clear hok h255
                  go_wp2_with fail
                  refine HN.mono ?_
                  rintro e w3 ⟨rfl, hw3⟩
                  rw [hw3]
                  clear hw3 w3 HN
                  go_wp2
                  go_ret
                  exact ⟨by rw [hR.out]; rfl, hb⟩
                · have h2550 : ¬ (255 : Int) < (numV q : Int) := by omega
                  have hdo2 := HDO.out
                  rw [hok, decide_eq_true (by omega : numV q < 256)] at hdo2
                  simp only [Bool.true_and] at hdo2
                  generalize numV q = n at HN h2550
                  by_cases h1l : 1 < q.length
                  · have hl0 : (1 : Int) < (P.size : Int) := by omega
                    have hl00 : (0 : Int) < (P.size : Int) := by omega
                    have hPpos : 0 < P.size := by omega
                    have hhd := head_eq P hPpos
                    rw [ePd] at hhd
                    rw [decide_eq_true h1l, hhd, Bool.true_and] at hdo2
                    by_cases h48 : P[0] = 48
                    · have q48 : ((P[0].toNat : Int) == 48) = true := by rw [h48]; rfl
                      have hR := Lib.hid (HBAD.out (by rw [hdo2, h48]; rfl))
                      clear hok h255 hdo2 hhd h48
                      go_wp2_with fail
                      refine HN.mono ?_
                      rintro e w3 ⟨rfl, hw3⟩
                      rw [hw3]
                      clear hw3 w3 HN
                      go_wp2
                      go_ret
                      exact ⟨by rw [hR.out]; rfl, hb⟩
                    · have q48 : ((P[0].toNat : Int) == 48) = false := by
                        rw [beq_eq_false_iff_ne]; intro e; exact h48 (UInt8.toNat_inj.1 (by show P[0].toNat = 48; omega))
                      have hGO := Lib.hid (HOKI.out (by
                        rw [hdo2]
                        have : (some P[0] == some (48 : UInt8)) = false := by rw [beq_eq_false_iff_ne]; intro e; injection e with e; exact h48 e
                        rw [this]; rfl))
                      clear hok h255 hdo2 hhd h48
                      go_wp2_with fail
                      refine HN.mono ?_
                      rintro e w3 ⟨rfl, hw3⟩
                      rw [hw3]
                      clear hw3 w3 HN
                      go_wp2_with fail
                      go_roundg (4 - (i + 1))
                      case rel => exact ⟨i + 1, by go_num, by omega, rfl, rfl, hGO.out⟩
                      case measure => have := HG.out; omega
                  · have hl0 : ¬ (1 : Int) < (P.size : Int) := by omega
                    have hGO := Lib.hid (HOKI.out (by rw [hdo2, decide_eq_false h1l]; rfl))
                    clear hok h255 hdo2
                    go_wp2_with fail
                    refine HN.mono ?_
                    rintro e w3 ⟨rfl, hw3⟩
                    rw [hw3]
                    clear hw3 w3 HN
                    go_wp2_with fail
                    go_roundg (4 - (i + 1))
                    case rel => exact ⟨i + 1, by go_num, by omega, rfl, rfl, hGO.out⟩
                    case measure => have := HG.out; omega
            · have hge : ¬ (i : Int) < 4 := by omega
              have hR : R = true := by rw [← HR.out]; exact all_good (fun j h hj => HOK.out j h (by omega))
              have HRR := Lib.hid hR
              clear hR
              go_wp2
              go_ret
              exact ⟨by rw [HRR.out]; rfl, hb⟩
        · rw [decide_eq_false h4, Bool.false_and]
          go_enter Tryz.func192, Tryz.ntmps192
          go_wp2_with fail
          refine HSS.out.mono ?_
          rintro e w2 ⟨v, rfl, ⟨p, cap, rfl, hc⟩, hb⟩
          have hln : (((ps.map strV).length : Int) != 4) = true := by rw [List.length_map, bne_iff_ne]; omega
          go_wp2
          go_ret
          exact ⟨rfl, hb⟩
      · have q1 : ((s[s.size - 1].toNat : Int) != 93) = true := by
          rw [bne_iff_ne]; intro e; exact h1 (UInt8.toNat_inj.1 (by show s[s.size - 1].toNat = 93; omega))
        have hR : litL s.data.toList = false := by
          rw [hdef]
          have : (some s[s.size - 1] == some (93 : UInt8)) = false := by rw [beq_eq_false_iff_ne]; intro e; injection e with e; exact h1 e
          rw [this]; simp
        rw [hR]
        clear hR hdef h0 h1
        go_enter Tryz.func192, Tryz.ntmps192
        go_wp2
        go_ret
        exact ⟨rfl, Below.refl _ _⟩
    · have q0 : ((s[0].toNat : Int) != 91) = true := by
        rw [bne_iff_ne]; intro e; exact h0 (UInt8.toNat_inj.1 (by show s[0].toNat = 91; omega))
      have hR : litL s.data.toList = false := by
        rw [hdef]
        have : (some s[0] == some (91 : UInt8)) = false := by rw [beq_eq_false_iff_ne]; intro e; injection e with e; exact h0 e
        rw [this]; simp
      rw [hR]
      clear hR hdef h0
      go_enter Tryz.func192, Tryz.ntmps192
      go_wp2
      go_ret
      exact ⟨rfl, Below.refl _ _⟩
end Go.Proofs.YtkoncmmbdlnmfaaGreatDoor

/- The document's Domain: the same answers as addr.domain's, for texts of at most 10^9 bytes. -/
namespace Go.Proofs.YtkoncmmbdlnmfaaGreatDoor
open Go.RowKit Go.Lib
set_option linter.unusedSimpArgs false
set_option linter.unusedVariables false
set_option linter.unnecessarySimpa false
set_option maxRecDepth 100000

def curL (s : ByteArray) (f i : Nat) : List UInt8 := (s.data.toList.drop f).take (i - f)
theorem cur_len (s : ByteArray) (f i : Nat) (hi : i ≤ s.size) : (curL s f i).length = i - f := by
  unfold curL; rw [List.length_take, List.length_drop, list_len]; omega
theorem cur_self (s : ByteArray) (f : Nat) : curL s f f = [] := by unfold curL; simp
theorem cur_snoc (s : ByteArray) (f i : Nat) (hfi : f ≤ i) (hi : i < s.size) : curL s f (i + 1) = curL s f i ++ [s[i]] := by
  unfold curL
  have h := drop_at s f i hfi hi
  have h2 : i - f < (s.data.toList.drop f).length := (List.getElem?_eq_some_iff.1 h).1
  rw [show i + 1 - f = (i - f) + 1 by omega, List.take_succ_eq_append_getElem h2]
  have : (s.data.toList.drop f)[i - f] = s[i] := by
    have h3 := List.getElem?_eq_getElem h2
    rw [h3] at h
    exact Option.some.inj h
  rw [this]
theorem cur_head (s : ByteArray) (f i : Nat) (hfi : f < i) (hi : i ≤ s.size) : (curL s f i).head? = some (s[f]'(by omega)) := by
  unfold curL
  rw [drop_cons s f (by omega), show i - f = (i - f - 1) + 1 by omega, List.take_succ_cons]
  rfl
theorem cur_last (s : ByteArray) (f i : Nat) (hfi : f < i) (hi : i ≤ s.size) : (curL s f i).getLast? = some (s[i - 1]'(by omega)) := by
  have := cur_snoc s f (i - 1) (by omega) (by omega)
  rw [show i - 1 + 1 = i by omega] at this
  rw [this]; simp
theorem edge_cur (s : ByteArray) (f i : Nat) (hfi : f < i) (hi : i ≤ s.size) : edgeB (curL s f i) = (!(s[f]'(by omega) == 45) && !(s[i - 1]'(by omega) == 45)) := by
  unfold edgeB
  rw [cur_head s f i hfi hi, cur_last s f i hfi hi]
  have hne : (curL s f i).isEmpty = false := by
    cases h : curL s f i with
    | nil => have := cur_len s f i hi; rw [h] at this; simp at this; omega
    | cons a b => rfl
  rw [hne]
  rfl
theorem go_dot (cur xs : List UInt8) (x : UInt8) (long : Bool) (h : x.toNat = 46) : domGo cur (x :: xs) long = if edgeB cur then domGo [] xs (long || decide (63 < cur.length)) else 5 := by
  conv => lhs; unfold domGo
  rw [if_pos h]
theorem go_host (cur xs : List UInt8) (x : UInt8) (long : Bool) (h : ¬ x.toNat = 46) : domGo cur (x :: xs) long = if hostB x then domGo (cur ++ [x]) xs long else 5 := by
  conv => lhs; unfold domGo
  rw [if_neg h]
theorem go_end (cur : List UInt8) (long : Bool) : domGo cur [] long = if edgeB cur then (if long || decide (63 < cur.length) then 3 else 0) else 5 := by
  unfold domGo; rfl
def DomRel (s : ByteArray) (w : World) (R : Nat) (g : Nat) (v3 v4 v5 : Value) (W : World) : Prop :=
  ∃ (f i : Nat) (long : Bool), v3 = .bool long ∧ v4 = .int .i64 (f : Int) ∧ v5 = .int .i64 (i : Int) ∧ g = s.size + 2 - i ∧ W = w ∧
    ((f ≤ i ∧ i ≤ s.size ∧ domGo (curL s f i) (s.data.toList.drop i) long = R) ∨ (i = s.size + 1 ∧ R = if long then 3 else 0))
theorem byte_ne {a b : UInt8} {n : Int} (hb : (b.toNat : Int) = n) (h : a ≠ b) : ((a.toNat : Int) == n) = false := by
  rw [beq_eq_false_iff_ne]; intro e; exact h (UInt8.toNat_inj.1 (by omega))

set_option maxHeartbeats 16000000 in
theorem Domain_ref (s : ByteArray) (hs : s.size ≤ 1000000000) (w : World) : Calls Tryz.prog 151 #[.string s] w fun e w' => e = .returned (.int .i64 (domL s.data.toList : Int)) ∧ Below w.heap.size w w' := by
  by_cases hp : s.data.toList.head? = some 91
  · have hd : domL s.data.toList = if litL s.data.toList then 0 else 5 := by unfold domL; rw [if_pos hp]
    have HL := Lib.hid (literal_ref s hs w)
    rw [hd]
    have hpos : 0 < s.size := by
      rcases Nat.eq_zero_or_pos s.size with h | h
      · rw [size_zero h] at hp; cases hp
      · exact h
    have hpos0 : (0 : Int) < (s.size : Int) := by omega
    rw [head_eq s hpos] at hp
    have h91 : s[0] = 91 := Option.some.inj hp
    have q91 : ((s[0].toNat : Int) == 91) = true := by rw [h91]; rfl
    generalize litL s.data.toList = Q at HL
    clear hp hd h91
    go_enter Tryz.func151, Tryz.ntmps151
    go_wp2_with fail
    refine HL.out.mono ?_
    rintro e w2 ⟨rfl, hb⟩
    cases Q with
    | true =>
      go_wp2
      go_ret
      exact ⟨rfl, hb⟩
    | false =>
      go_wp2
      go_ret
      exact ⟨rfl, hb⟩
  · have hd : domL s.data.toList = domP s.data.toList := by unfold domL; rw [if_neg hp]
    rw [hd, ← domGo_domP, list_len]
    generalize hR : domGo [] s.data.toList (decide (255 < s.size)) = R
    have HR := Lib.hid hR
    clear hR hd
    have h255 : decide ((255 : Int) < (s.size : Int)) = decide (255 < s.size) := by
      by_cases h : 255 < s.size
      · rw [decide_eq_true h, decide_eq_true (by omega)]
      · rw [decide_eq_false h, decide_eq_false (by omega)]
    have HH := Lib.hid h255
    have hcond : ∃ b : Bool, b = true := ⟨true, rfl⟩
    clear h255 hcond
    have hfirst : s.size = 0 ∨ (0 < s.size ∧ ∀ h : 0 < s.size, s[0] ≠ 91) := by
      rcases Nat.eq_zero_or_pos s.size with h | h
      · exact .inl h
      · refine .inr ⟨h, fun h2 e => hp ?_⟩
        rw [head_eq s h2, e]
    clear hp
    rcases hfirst with h | ⟨h, hn⟩
    · have hs0 := size_zero h
      subst hs0
      have hR : 5 = R := by rw [← HR.out]; rfl
      subst hR
      clear HR HH h
      go_enter Tryz.func151, Tryz.ntmps151
      go_wp2_with fail
      go_loopg [4, 5] 0 (fun g v4 v5 W => v4 = .int .i64 0 ∧ v5 = .int .i64 0 ∧ W = w ∧ g = 0)
      case atStart => exact ⟨rfl, rfl, rfl, rfl⟩
      case round =>
        obtain ⟨rfl, rfl, rfl, hg⟩ := hrel
        go_wp2
        go_ret
        exact ⟨rfl, Below.refl _ _⟩
    have h0 : (0 : Int) < (s.size : Int) := by omega
    have q91 : ((s[0].toNat : Int) == 91) = false := byte_ne rfl (hn h)
    clear hn
    go_enter Tryz.func151, Tryz.ntmps151
    go_wp2_with fail
    go_loopg [3, 4, 5] (s.size + 2) (fun g v3 v4 v5 W => DomRel s w R g v3 v4 v5 W)
    case atStart => exact ⟨0, 0, decide (255 < s.size), by first | rfl | (rw [← HH.out]) | simp, rfl, rfl, by omega, rfl, .inl ⟨Nat.le_refl _, Nat.zero_le _, by rw [cur_self, List.drop_zero]; exact HR.out⟩⟩
    case round =>
      obtain ⟨f, i, long, rfl, rfl, rfl, hg, rfl, hcase⟩ := hrel
      have HG := Lib.hid hg
      clear hg
      rcases hcase with ⟨hfi, hi, hE⟩ | ⟨hi, hE⟩
      · have hle : (i : Int) ≤ (s.size : Int) := by omega
        have hwr : IntKind.i64.wrap ((i : Int) + 1) = (i : Int) + 1 := by rw [IntKind.wrap_i64]; omega
        by_cases hlt : i < s.size
        · have hi0 : (0 : Int) ≤ (i : Int) := by omega
          have hi1 : (i : Int) < (s.size : Int) := by omega
          rw [drop_cons s i hlt] at hE
          by_cases h46 : s[i].toNat = 46
          · have q46 : ((s[i].toNat : Int) != 46) = false := by rw [h46]; rfl
            rw [go_dot _ _ _ _ h46] at hE
            clear h46
            rcases Nat.lt_or_ge f i with hfi2 | hfi2
            · have hq0 : ((i : Int) == (f : Int)) = false := by rw [beq_eq_false_iff_ne]; omega
              have hf0 : (0 : Int) ≤ (f : Int) := by omega
              have hf1 : (f : Int) < (s.size : Int) := by omega
              have hfs : f < s.size := by omega
              have hws : IntKind.i64.wrap ((i : Int) - 1) = ((i - 1 : Nat) : Int) := by rw [IntKind.wrap_i64]; omega
              have hp0 : (0 : Int) ≤ ((i - 1 : Nat) : Int) := by omega
              have hp1 : ((i - 1 : Nat) : Int) < (s.size : Int) := by omega
              have hps : i - 1 < s.size := by omega
              rw [edge_cur s f i hfi2 hi, cur_len s f i hi] at hE
              by_cases h45 : s[f] = 45
              · have q45 : ((s[f].toNat : Int) == 45) = true := by rw [h45]; rfl
                have hR : 5 = R := by rw [← hE, h45]; rfl
                subst hR
                clear h45 hE
                go_wp2
                go_ret
                exact ⟨rfl, Below.refl _ _⟩
              · have q45 : ((s[f].toNat : Int) == 45) = false := byte_ne rfl h45
                have b45 : (s[f] == 45) = false := by rw [beq_eq_false_iff_ne]; exact h45
                by_cases l45 : s[i - 1] = 45
                · have r45 : ((s[i - 1].toNat : Int) == 45) = true := by rw [l45]; rfl
                  have hR : 5 = R := by rw [← hE, l45, b45]; rfl
                  subst hR
                  clear h45 hE l45
                  go_wp2
                  go_ret
                  exact ⟨rfl, Below.refl _ _⟩
                · have r45 : ((s[i - 1].toNat : Int) == 45) = false := byte_ne rfl l45
                  have c45 : (s[i - 1] == 45) = false := by rw [beq_eq_false_iff_ne]; exact l45
                  rw [b45, c45] at hE
                  simp only [Bool.not_false, Bool.and_self, if_true] at hE
                  have hwd : IntKind.i64.wrap ((i : Int) - (f : Int)) = ((i - f : Nat) : Int) := by rw [IntKind.wrap_i64]; omega
                  clear h45 l45 b45 c45
                  by_cases h6 : 63 < i - f
                  · have h63 : (63 : Int) < ((i - f : Nat) : Int) := by omega
                    rw [decide_eq_true h6] at hE
                    simp only [Bool.or_true] at hE
                    have HE := Lib.hid hE
                    clear hE
                    go_wp2_with fail
                    go_roundg (s.size + 2 - (i + 1))
                    case rel => exact ⟨i + 1, i + 1, true, rfl, by go_num, by go_num, rfl, rfl, .inl ⟨Nat.le_refl _, by omega, by rw [cur_self]; exact HE.out⟩⟩
                    case measure => have := HG.out; omega
                  · have h63 : ¬ (63 : Int) < ((i - f : Nat) : Int) := by omega
                    rw [decide_eq_false h6] at hE
                    simp only [Bool.or_false] at hE
                    have HE := Lib.hid hE
                    clear hE
                    go_wp2_with fail
                    go_roundg (s.size + 2 - (i + 1))
                    case rel => exact ⟨i + 1, i + 1, long, rfl, by go_num, by go_num, rfl, rfl, .inl ⟨Nat.le_refl _, by omega, by rw [cur_self]; exact HE.out⟩⟩
                    case measure => have := HG.out; omega
            · have hfe : f = i := by omega
              subst hfe
              have hR : 5 = R := by rw [← hE, cur_self]; rfl
              subst hR
              clear hE
              go_wp2
              go_ret
              exact ⟨rfl, Below.refl _ _⟩
          · have q46 : ((s[i].toNat : Int) != 46) = true := by rw [bne_iff_ne]; omega
            rw [go_host _ _ _ _ h46] at hE
            have hL := letter_ref s[i].toNat wr
            have hho : hostB s[i] = (letterB s[i].toNat || s[i] == 45) := rfl
            cases hlet : letterB s[i].toNat with
            | true =>
              rw [hlet] at hL hho
              rw [hho, Bool.true_or, if_pos rfl, ← cur_snoc s f i hfi hlt] at hE
              have HE := Lib.hid hE
              clear hE hho hlet h46
              go_wp2_with fail
              refine hL.mono ?_
              rintro e w2 ⟨rfl, hw2⟩
              rw [hw2]
              clear hw2 w2 hL
              go_wp2_with fail
              go_roundg (s.size + 2 - (i + 1))
              case rel => exact ⟨f, i + 1, long, rfl, rfl, by go_num, rfl, rfl, .inl ⟨by omega, by omega, HE.out⟩⟩
              case measure => have := HG.out; omega
            | false =>
              rw [hlet] at hL hho
              rw [hho, Bool.false_or] at hE
              by_cases h45 : s[i] = 45
              · have q45 : ((s[i].toNat : Int) != 45) = false := by rw [h45]; rfl
                rw [if_pos (by rw [h45]; rfl), ← cur_snoc s f i hfi hlt] at hE
                have HE := Lib.hid hE
                clear hE hho hlet h46 h45
                go_wp2_with fail
                refine hL.mono ?_
                rintro e w2 ⟨rfl, hw2⟩
                rw [hw2]
                clear hw2 w2 hL
                go_wp2_with fail
                go_roundg (s.size + 2 - (i + 1))
                case rel => exact ⟨f, i + 1, long, rfl, rfl, by go_num, rfl, rfl, .inl ⟨by omega, by omega, HE.out⟩⟩
                case measure => have := HG.out; omega
              · have q45 : ((s[i].toNat : Int) != 45) = true := by
                  rw [bne_iff_ne]; intro e; exact h45 (UInt8.toNat_inj.1 (by show s[i].toNat = 45; omega))
                rw [if_neg (by simpa using h45)] at hE
                subst hE
                clear hho hlet h46 h45
                go_wp2_with fail
                refine hL.mono ?_
                rintro e w2 ⟨rfl, hw2⟩
                rw [hw2]
                clear hw2 w2 hL
                go_wp2
                go_ret
                exact ⟨rfl, Below.refl _ _⟩
        · have hge : ¬ (i : Int) < (s.size : Int) := by omega
          have hnil : s.data.toList.drop i = [] := List.drop_eq_nil_of_le (by rw [list_len]; omega)
          rw [hnil, go_end] at hE
          clear hnil
          rcases Nat.lt_or_ge f i with hfi2 | hfi2
          · have hq0 : ((i : Int) == (f : Int)) = false := by rw [beq_eq_false_iff_ne]; omega
            have hf0 : (0 : Int) ≤ (f : Int) := by omega
            have hf1 : (f : Int) < (s.size : Int) := by omega
            have hfs : f < s.size := by omega
            have hws : IntKind.i64.wrap ((i : Int) - 1) = ((i - 1 : Nat) : Int) := by rw [IntKind.wrap_i64]; omega
            have hp0 : (0 : Int) ≤ ((i - 1 : Nat) : Int) := by omega
            have hp1 : ((i - 1 : Nat) : Int) < (s.size : Int) := by omega
            have hps : i - 1 < s.size := by omega
            rw [edge_cur s f i hfi2 hi, cur_len s f i hi] at hE
            by_cases h45 : s[f] = 45
            · have q45 : ((s[f].toNat : Int) == 45) = true := by rw [h45]; rfl
              have hR : 5 = R := by rw [← hE, h45]; rfl
              subst hR
              clear h45 hE
              go_wp2
              go_ret
              exact ⟨rfl, Below.refl _ _⟩
            · have q45 : ((s[f].toNat : Int) == 45) = false := byte_ne rfl h45
              have b45 : (s[f] == 45) = false := by rw [beq_eq_false_iff_ne]; exact h45
              by_cases l45 : s[i - 1] = 45
              · have r45 : ((s[i - 1].toNat : Int) == 45) = true := by rw [l45]; rfl
                have hR : 5 = R := by rw [← hE, l45, b45]; rfl
                subst hR
                clear h45 hE l45
                go_wp2
                go_ret
                exact ⟨rfl, Below.refl _ _⟩
              · have r45 : ((s[i - 1].toNat : Int) == 45) = false := byte_ne rfl l45
                have c45 : (s[i - 1] == 45) = false := by rw [beq_eq_false_iff_ne]; exact l45
                rw [b45, c45] at hE
                simp only [Bool.not_false, Bool.and_self, if_true] at hE
                have hwd : IntKind.i64.wrap ((i : Int) - (f : Int)) = ((i - f : Nat) : Int) := by rw [IntKind.wrap_i64]; omega
                clear h45 l45 b45 c45
                by_cases h6 : 63 < i - f
                · have h63 : (63 : Int) < ((i - f : Nat) : Int) := by omega
                  rw [decide_eq_true h6] at hE
                  simp only [Bool.or_true] at hE
                  have HE := Lib.hid hE
                  clear hE
                  go_wp2_with fail
                  go_roundg (s.size + 2 - (i + 1))
                  case rel => exact ⟨i + 1, i + 1, true, rfl, by go_num, by go_num, rfl, rfl, .inr ⟨by omega, by rw [← HE.out]; rfl⟩⟩
                  case measure => have := HG.out; omega
                · have h63 : ¬ (63 : Int) < ((i - f : Nat) : Int) := by omega
                  rw [decide_eq_false h6] at hE
                  simp only [Bool.or_false] at hE
                  have HE := Lib.hid hE
                  clear hE
                  go_wp2_with fail
                  go_roundg (s.size + 2 - (i + 1))
                  case rel => exact ⟨i + 1, i + 1, long, rfl, by go_num, by go_num, rfl, rfl, .inr ⟨by omega, by rw [← HE.out]⟩⟩
                  case measure => have := HG.out; omega
          · have hfe : f = i := by omega
            subst hfe
            have hR : 5 = R := by rw [← hE, cur_self]; rfl
            subst hR
            clear hE
            go_wp2
            go_ret
            exact ⟨rfl, Below.refl _ _⟩
      · have hgt : ¬ (i : Int) ≤ (s.size : Int) := by omega
        cases long with
        | true =>
          rw [if_pos rfl] at hE
          subst hE
          go_wp2
          go_ret
          exact ⟨rfl, Below.refl _ _⟩
        | false =>
          rw [if_neg (by simp)] at hE
          subst hE
          go_wp2
          go_ret
          exact ⟨rfl, Below.refl _ _⟩
end Go.Proofs.YtkoncmmbdlnmfaaGreatDoor

/- The document's functions on bytes and addresses: Plain, order, May. -/
namespace Go.Proofs.YtkoncmmbdlnmfaaGreatDoor
open Go.RowKit Go.Lib
set_option linter.unusedSimpArgs false
set_option linter.unusedVariables false
set_option linter.unnecessarySimpa false
set_option maxRecDepth 100000

def PrRelR (s : ByteArray) (w : World) (g : Nat) (v3 : Value) (W : World) : Prop :=
  ∃ i : Nat, v3 = .int .i64 (i : Int) ∧ i ≤ s.size ∧ g = s.size - i ∧ W = w ∧ plainL (s.data.toList.take i) = true
set_option maxHeartbeats 2000000 in
theorem Plain_ref (s : ByteArray) (hs : s.size ≤ 1000000000000) (w : World) : Calls Tryz.prog 99 #[.string s] w fun e w' => e = .returned (.bool (plainL s.data.toList)) ∧ w' = w := by
  have HBAD := Lib.hid (plain_not s)
  have HALL := Lib.hid (show plainL (s.data.toList.take s.size) = true → plainL s.data.toList = true by rw [take_all]; exact id)
  have HST := Lib.hid (fun (i : Nat) (h : i < s.size) (hp : plainB s[i].toNat = true) (ha : plainL (s.data.toList.take i) = true) => show plainL (s.data.toList.take (i + 1)) = true by
    rw [take_snoc s i h]
    unfold plainL at ha ⊢
    rw [List.all_append, ha]
    simp [hp])
  generalize plainL s.data.toList = R at HBAD HALL
  go_enter Tryz.func99, Tryz.ntmps99
  go_wp2_with fail
  go_loopg [3] s.size (fun g v3 W => PrRelR s w g v3 W)
  case atStart => exact ⟨0, rfl, by omega, by omega, rfl, by simp [plainL]⟩
  case round =>
    obtain ⟨i, rfl, hi, hg, rfl, hall⟩ := hrel
    have HG := Lib.hid hg
    have HL := Lib.hid hall
    clear hg hall
    by_cases hlt : i < s.size
    · have h0 : (0 : Int) ≤ (i : Int) := by omega
      have h1 : (i : Int) < (s.size : Int) := by omega
      have hw : IntKind.i64.wrap ((i : Int) + 1) = ((i + 1 : Nat) : Int) := by rw [IntKind.wrap_i64]; omega
      have HP := Lib.hid (fun W => plain_ref s[i].toNat W)
      cases hp : plainB s[i].toNat with
      | true =>
        rw [hp] at HP
        have HN := Lib.hid (HST.out i hlt hp HL.out)
        clear hp
        go_wp2_with fail
        refine (HP.out _).mono ?_
        rintro e w2 ⟨rfl, hw2⟩
        rw [hw2]
        clear hw2
        go_wp2_with fail
        go_roundg (s.size - (i + 1))
        case rel => exact ⟨i + 1, by go_num, by omega, rfl, rfl, HN.out⟩
        case measure => have := HG.out; omega
      | false =>
        rw [hp] at HP
        have hR := HBAD.out i hlt hp
        subst hR
        clear hp
        go_wp2_with fail
        refine (HP.out _).mono ?_
        rintro e w2 ⟨rfl, hw2⟩
        rw [hw2]
        clear hw2
        go_wp2
        go_ret
        exact ⟨rfl, rfl⟩
    · have h1 : ¬ (i : Int) < (s.size : Int) := by omega
      obtain rfl : i = s.size := by omega
      have hR := HALL.out HL.out
      subst hR
      go_wp2
      go_ret
      exact ⟨rfl, rfl⟩
end Go.Proofs.YtkoncmmbdlnmfaaGreatDoor

/- The document's functions on addresses: May. -/
namespace Go.Proofs.YtkoncmmbdlnmfaaGreatDoor
open Go.RowKit Go.Lib
set_option linter.unusedSimpArgs false
set_option linter.unusedVariables false
set_option linter.unnecessarySimpa false
set_option maxRecDepth 100000

set_option maxHeartbeats 8000000 in
theorem May_ref (a : List UInt8 × List UInt8) (h1 : a.1.length ≤ 1000000000) (h2 : a.2.length ≤ 1000000000) (w : World) : Calls Tryz.prog 152 #[addrV a] w fun e w' => e = .returned (.bool (mayL a)) ∧ Below w.heap.size w w' := by
  obtain ⟨x, y⟩ := a
  simp only [mayL, addrV] at *
  have e1 : (⟨y.toArray⟩ : ByteArray).data.toList = y := rfl
  have e2 : (⟨x.toArray⟩ : ByteArray).data.toList = x := rfl
  have e3 : (⟨x.toArray⟩ : ByteArray).size = x.length := rfl
  have HP := Lib.hid (fun W => Plain_ref ⟨x.toArray⟩ (by show x.length ≤ _; omega) W)
  have HD := Lib.hid (fun W => Domain_ref ⟨y.toArray⟩ (by show y.length ≤ _; omega) W)
  rw [e1] at HD
  rw [e2] at HP
  have ht1 := Two.made w (.string ⟨x.toArray⟩) (.string ⟨y.toArray⟩) 100
  have hb1 := alloc_below w (.cells #[.string ⟨x.toArray⟩, .string ⟨y.toArray⟩] 100)
  generalize hw1 : w.alloc (.cells #[.string ⟨x.toArray⟩, .string ⟨y.toArray⟩] 100) = w1 at ht1 hb1
  generalize (⟨x.toArray⟩ : ByteArray) = X at *
  generalize (⟨y.toArray⟩ : ByteArray) = Y at *
  obtain ⟨-, c0, c1, f0, f1⟩ := ht1
  have hne : (!x.isEmpty) = decide (1 ≤ x.length) := by cases x <;> simp
  rw [hne]
  generalize plainL x = P at HP ⊢
  have HD2 : ∃ n : Nat, n = domL y := ⟨_, rfl⟩
  obtain ⟨n, hn⟩ := HD2
  rw [← hn] at HD ⊢
  clear e1 e2 hne hn
  have hb2 := hb1
  by_cases ha : 1 ≤ x.length
  · have ha1 : (1 : Int) ≤ (X.size : Int) := by omega
    by_cases hb : x.length ≤ 64
    · have hb64 : (X.size : Int) ≤ 64 := by omega
      rw [decide_eq_true ha, decide_eq_true hb]
      clear ha hb e3 hb2
      cases P with
      | true =>
        by_cases hz : n = 0
        · have hq : ((n : Int) == 0) = true := by rw [hz]; rfl
          rw [decide_eq_true hz]
          have HZ := Lib.hid hz
          clear hz
          go_enter Tryz.func152, Tryz.ntmps152
          go_wp2_with fail
          refine (HP.out _).mono ?_
          rintro e w2 ⟨rfl, hw2⟩
          rw [hw2]
          clear hw2
          go_wp2_with fail
          refine (HD.out _).mono ?_
          rintro e w3 ⟨rfl, hb3⟩
          go_wp2
          go_ret
          exact ⟨rfl, hb1.trans (hb3.mono hb1.size)⟩
        · have hq : ((n : Int) == 0) = false := by rw [beq_eq_false_iff_ne]; omega
          rw [decide_eq_false hz]
          have HZ := Lib.hid hz
          clear hz
          go_enter Tryz.func152, Tryz.ntmps152
          go_wp2_with fail
          refine (HP.out _).mono ?_
          rintro e w2 ⟨rfl, hw2⟩
          rw [hw2]
          clear hw2
          go_wp2_with fail
          refine (HD.out _).mono ?_
          rintro e w3 ⟨rfl, hb3⟩
          go_wp2
          go_ret
          exact ⟨rfl, hb1.trans (hb3.mono hb1.size)⟩
      | false =>
        go_enter Tryz.func152, Tryz.ntmps152
        go_wp2_with fail
        refine (HP.out _).mono ?_
        rintro e w2 ⟨rfl, hw2⟩
        rw [hw2]
        clear hw2
        go_wp2
        go_ret
        exact ⟨by simp, hb1⟩
    · have hb64 : ¬ (X.size : Int) ≤ 64 := by omega
      rw [decide_eq_false hb]
      clear ha hb e3 hb2
      go_enter Tryz.func152, Tryz.ntmps152
      go_wp2
      go_ret
      first
        | exact ⟨by simp, hb1⟩
        | exact ⟨by simp [hb64], hb1⟩
  · have ha1 : ¬ (1 : Int) ≤ (X.size : Int) := by omega
    rw [decide_eq_false ha]
    clear ha e3 hb2
    go_enter Tryz.func152, Tryz.ntmps152
    go_wp2
    go_ret
    first
      | exact ⟨by simp, hb1⟩
      | exact ⟨by simp [ha1], hb1⟩
end Go.Proofs.YtkoncmmbdlnmfaaGreatDoor

/- The document's Lower. -/
namespace Go.Proofs.YtkoncmmbdlnmfaaGreatDoor
open Go.RowKit Go.Lib
set_option linter.unusedSimpArgs false
set_option linter.unusedVariables false
set_option linter.unnecessarySimpa false
set_option maxRecDepth 100000

def LoRel (s : ByteArray) (w : World) (g : Nat) (v3 v4 : Value) (W : World) : Prop :=
  ∃ k : Nat, v4 = .int .i64 (k : Int) ∧ k ≤ s.size ∧ g = s.size - k ∧ W.ownsRow w.heap.size 5 1 v3 k ((lowL (s.data.toList.take k)).map byteV) ∧ Below w.heap.size w W ∧ w.heap.size ≤ W.heap.size
set_option maxHeartbeats 8000000 in
theorem Lower_ref (s : ByteArray) (hs : s.size ≤ 1000000000000) (w : World) : Calls Tryz.prog 47 #[.string s] w fun e w' => e = .returned (.string ⟨(lowL s.data.toList).toArray⟩) ∧ Below w.heap.size w w' := by
  go_enter Tryz.func47, Tryz.ntmps47
  go_wp2_with fail
  go_loopg [3, 4, 5] s.size (fun g v3 v4 v5 W => LoRel s w g v3 v4 W)
  case atStart => exact ⟨0, rfl, by omega, by omega, by simp [World.ownsRow, lowL], Below.refl _ _, Nat.le_refl _⟩
  case round =>
    obtain ⟨k, rfl, hk, hg, hown, hb, hbs⟩ := hrel
    have HG := Lib.hid hg
    clear hg
    by_cases hlt : k < s.size
    · have hk0 : (0 : Int) ≤ (k : Int) := by omega
      have hk1 : (k : Int) < (s.size : Int) := by omega
      have hwr : IntKind.i64.wrap ((k : Int) + 1) = (k : Int) + 1 := by rw [IntKind.wrap_i64]; omega
      have hst : (lowL (s.data.toList.take (k + 1))).map byteV = (lowL (s.data.toList.take k)).map byteV ++ [byteV (lowB s[k])] := by
        rw [take_snoc s k hlt]; simp [lowL]
      have HST := Lib.hid hst
      clear hst
      by_cases h1 : 65 ≤ s[k].toNat ∧ s[k].toNat ≤ 90
      · have h65 : (65 : Int) ≤ (s[k].toNat : Int) := by omega
        have h90 : (s[k].toNat : Int) ≤ 90 := by omega
        have hlow : ((lowB s[k]).toNat : Int) = (s[k].toNat : Int) + 32 := by
          unfold lowB
          rw [if_pos h1]
          have : (s[k] + 32).toNat = (s[k].toNat + 32) % 256 := UInt8.toNat_add _ _
          omega
        have hw32 : IntKind.u8.wrap ((s[k].toNat : Int) + 32) = ((lowB s[k]).toNat : Int) := by rw [IntKind.wrap_u8, hlow]; omega
        generalize lowB s[k] = d at hlow hw32 HST
        clear hlow h1
        go_wp2_with (at_builtin; refine app_byte rfl _ _ rfl w.heap.size _ _ _ rfl (World.ownsRow.alloc (w := wr) hown _) ⟨wr.heap.size, 0, none⟩ 1 (byteV d) rfl (new_cell _ _ _) rfl (by omega) (by rw [World.size_alloc]; exact Nat.le_succ_of_le hbs) ?_; intro g' cap w' hown' hgr)
        go_roundg (s.size - (k + 1))
        case rel =>
          refine ⟨k + 1, rfl, by omega, rfl, ?_, ?_, ?_⟩
          · rw [HST.out]; exact hown'
          · exact (hb.alloc hbs _).grown hgr (by rw [World.size_alloc]; exact Nat.le_succ_of_le hbs) (own_base5 hown)
          · have := hgr.size
            rw [World.size_alloc] at this
            exact Nat.le_trans hbs (Nat.le_trans (Nat.le_succ _) this)
        case measure => have := HG.out; omega
      · have hlow : lowB s[k] = s[k] := by unfold lowB; rw [if_neg h1]
        rw [hlow] at HST
        clear hlow
        by_cases h2 : 65 ≤ s[k].toNat
        · have h65 : (65 : Int) ≤ (s[k].toNat : Int) := by omega
          have h90 : ¬ (s[k].toNat : Int) ≤ 90 := by omega
          clear h1
          go_wp2_with (at_builtin; refine app_byte rfl _ _ rfl w.heap.size _ _ _ rfl (World.ownsRow.alloc (w := wr) hown _) ⟨wr.heap.size, 0, none⟩ 1 (byteV s[k]) rfl (new_cell _ _ _) rfl (by omega) (by rw [World.size_alloc]; exact Nat.le_succ_of_le hbs) ?_; intro g' cap w' hown' hgr)
          go_roundg (s.size - (k + 1))
          case rel =>
            refine ⟨k + 1, rfl, by omega, rfl, ?_, ?_, ?_⟩
            · rw [HST.out]; exact hown'
            · exact (hb.alloc hbs _).grown hgr (by rw [World.size_alloc]; exact Nat.le_succ_of_le hbs) (own_base5 hown)
            · have := hgr.size
              rw [World.size_alloc] at this
              exact Nat.le_trans hbs (Nat.le_trans (Nat.le_succ _) this)
          case measure => have := HG.out; omega
        · have h65 : ¬ (65 : Int) ≤ (s[k].toNat : Int) := by omega
          clear h1
          go_wp2_with (at_builtin; refine app_byte rfl _ _ rfl w.heap.size _ _ _ rfl (World.ownsRow.alloc (w := wr) hown _) ⟨wr.heap.size, 0, none⟩ 1 (byteV s[k]) rfl (new_cell _ _ _) rfl (by omega) (by rw [World.size_alloc]; exact Nat.le_succ_of_le hbs) ?_; intro g' cap w' hown' hgr)
          go_roundg (s.size - (k + 1))
          case rel =>
            refine ⟨k + 1, rfl, by omega, rfl, ?_, ?_, ?_⟩
            · rw [HST.out]; exact hown'
            · exact (hb.alloc hbs _).grown hgr (by rw [World.size_alloc]; exact Nat.le_succ_of_le hbs) (own_base5 hown)
            · have := hgr.size
              rw [World.size_alloc] at this
              exact Nat.le_trans hbs (Nat.le_trans (Nat.le_succ _) this)
          case measure => have := HG.out; omega
    · have hge : ¬ (k : Int) < (s.size : Int) := by omega
      obtain rfl : k = s.size := by omega
      rw [take_all] at hown
      obtain ⟨q, cp, rfl⟩ := own_form hown
      have hcv := conv_own (l := lowL s.data.toList) (by unfold lowL; rw [List.length_map, list_len]) hown
      go_wp2
      go_ret
      exact ⟨rfl, hb⟩
end Go.Proofs.YtkoncmmbdlnmfaaGreatDoor

/- The document's Quote, of plain bytes. -/
namespace Go.Proofs.YtkoncmmbdlnmfaaGreatDoor
open Go.RowKit Go.Lib
set_option linter.unusedSimpArgs false
set_option linter.unusedVariables false
set_option linter.unnecessarySimpa false
set_option maxRecDepth 100000

def QrRel (s : ByteArray) (w : World) (g : Nat) (v4 v5 : Value) (W : World) : Prop :=
  ∃ k : Nat, v5 = .int .i64 (k : Int) ∧ k ≤ s.size ∧ g = s.size - k ∧ v4 = .string ⟨(34 :: escL (s.data.toList.take k)).toArray⟩ ∧ W = w
set_option maxHeartbeats 4000000 in
theorem Quote_ref (s : ByteArray) (hs : s.size ≤ 900000000) (hp : plainL s.data.toList = true) (w : World) : Calls Tryz.prog 153 #[.string s] w fun e w' => e = .returned (.tuple #[.string ⟨(quoteL s.data.toList).toArray⟩, .int .i64 0]) ∧ w' = w := by
  have HP := Lib.hid (Plain_ref s (by omega) w)
  rw [hp] at HP
  clear hp
  go_enter Tryz.func153, Tryz.ntmps153
  go_wp2_with fail
  refine HP.out.mono ?_
  rintro e w1 ⟨rfl, hw1⟩
  rw [hw1]
  clear hw1
  go_wp2_with fail
  go_loopg [4, 5] s.size (fun g v4 v5 W => QrRel s w g v4 v5 W)
  case atStart => exact ⟨0, rfl, by omega, by omega, by simp [escL], rfl⟩
  case round =>
    obtain ⟨k, rfl, hk, hg, rfl, rfl⟩ := hrel
    have HG := Lib.hid hg
    have hel := esc_len (s.data.toList.take k)
    rw [List.length_take, list_len] at hel
    clear hg
    by_cases hlt : k < s.size
    · have hk0 : (0 : Int) ≤ (k : Int) := by omega
      have hk1 : (k : Int) < (s.size : Int) := by omega
      have hk2 : (k : Int) ≤ (s.size : Int) := by omega
      have hk3 : (k : Int) + 1 ≤ (s.size : Int) := by omega
      have hk4 : (k : Int) ≤ (k : Int) + 1 := by omega
      have hwr : IntKind.i64.wrap ((k : Int) + 1) = (k : Int) + 1 := by rw [IntKind.wrap_i64]; omega
      have hts := take_snoc s k hlt
      have hes := esc_snoc (s.data.toList.take k) s[k]
      rw [← hts] at hes
      have hx1 := ext_one s k hlt
      have hx2 : s.extract k ((k : Int) + 1).toNat = ⟨[s[k]].toArray⟩ := by rw [← hx1]; congr 1
      have hb : s[k] = 34 ∨ s[k] = 92 ∨ (s[k] ≠ 34 ∧ s[k] ≠ 92) := by
        by_cases h1 : s[k] = 34
        · exact .inl h1
        · by_cases h2 : s[k] = 92
          · exact .inr (.inl h2)
          · exact .inr (.inr ⟨h1, h2⟩)
      generalize escL (s.data.toList.take k) = E at hel hes ⊢
      have hla : (34 :: E).length ≤ 2000000000 := by simp; omega
      obtain ⟨Z0, hZ0⟩ : ∃ Z : ByteArray, Z = ⟨(34 :: E).toArray⟩ := ⟨_, rfl⟩
      rw [← hZ0]
      have hs0 : Z0.size ≤ 2000000000 := by rw [hZ0]; exact hla
      obtain ⟨D, hD⟩ : ∃ D, D = s.extract k (k + 1) := ⟨_, rfl⟩
      have hD1 : D = ⟨[s[k]].toArray⟩ := by rw [hD, hx1]
      have hDs : D.size = 1 := by rw [hD1]; rfl
      have hDe := hD.symm
      rcases hb with h | h | ⟨h, h'⟩
      · have hq : ((s[k].toNat : Int) == 34) = true := by rw [h]; rfl
        have he2 : escB s[k] = [92, s[k]] := by unfold escB; rw [if_pos (by rw [h]; decide)]
        rw [he2] at hes
        obtain ⟨Z1, hZ1⟩ : ∃ Z : ByteArray, Z = Z0 ++ ⟨#[92]⟩ := ⟨_, rfl⟩
        have hs1 : Z1.size = Z0.size + 1 := by rw [hZ1, ByteArray.size_append]; rfl
        have ha1 : ∀ w, (Op.stringOp .add Z0 ⟨#[92]⟩).run Tryz.prog w = .ok (.string Z1) w := fun w => by rw [hZ1]; exact run_string_add_sum w _ _ (by have h1 : (⟨#[92]⟩ : ByteArray).size = 1 := rfl; omega)
        obtain ⟨Z2, hZ2⟩ : ∃ Z : ByteArray, Z = Z1 ++ D := ⟨_, rfl⟩
        have ha2 : ∀ w, (Op.stringOp .add Z1 D).run Tryz.prog w = .ok (.string Z2) w := fun w => by rw [hZ2]; exact run_string_add_sum w _ _ (by omega)
        have HF := Lib.hid (show Z2 = ⟨(34 :: escL (s.data.toList.take (k + 1))).toArray⟩ by rw [hZ2, hZ1, hZ0, hD1, hes]; apply ByteArray.ext; simp)
        clear hes he2 h hts hla hel hZ0 hZ1 hZ2 hs0 hs1 hD hD1 hDs hx1 hx2
        go_wp2_with fail
        go_roundg (s.size - (k + 1))
        case rel => exact ⟨k + 1, by go_num, by omega, rfl, by rw [HF.out], rfl⟩
        case measure => have := HG.out; omega
      · have hq : ((s[k].toNat : Int) == 34) = false := by rw [h]; rfl
        have hq2 : ((s[k].toNat : Int) == 92) = true := by rw [h]; rfl
        have he2 : escB s[k] = [92, s[k]] := by unfold escB; rw [if_pos (by rw [h]; decide)]
        rw [he2] at hes
        obtain ⟨Z1, hZ1⟩ : ∃ Z : ByteArray, Z = Z0 ++ ⟨#[92]⟩ := ⟨_, rfl⟩
        have hs1 : Z1.size = Z0.size + 1 := by rw [hZ1, ByteArray.size_append]; rfl
        have ha1 : ∀ w, (Op.stringOp .add Z0 ⟨#[92]⟩).run Tryz.prog w = .ok (.string Z1) w := fun w => by rw [hZ1]; exact run_string_add_sum w _ _ (by have h1 : (⟨#[92]⟩ : ByteArray).size = 1 := rfl; omega)
        obtain ⟨Z2, hZ2⟩ : ∃ Z : ByteArray, Z = Z1 ++ D := ⟨_, rfl⟩
        have ha2 : ∀ w, (Op.stringOp .add Z1 D).run Tryz.prog w = .ok (.string Z2) w := fun w => by rw [hZ2]; exact run_string_add_sum w _ _ (by omega)
        have HF := Lib.hid (show Z2 = ⟨(34 :: escL (s.data.toList.take (k + 1))).toArray⟩ by rw [hZ2, hZ1, hZ0, hD1, hes]; apply ByteArray.ext; simp)
        clear hes he2 h hts hla hel hZ0 hZ1 hZ2 hs0 hs1 hD hD1 hDs hx1 hx2
        go_wp2_with fail
        go_roundg (s.size - (k + 1))
        case rel => exact ⟨k + 1, by go_num, by omega, rfl, by rw [HF.out], rfl⟩
        case measure => have := HG.out; omega
      · have hq : ((s[k].toNat : Int) == 34) = false := by have : s[k].toNat ≠ 34 := fun e => h (UInt8.toNat_inj.1 e); rw [beq_eq_false_iff_ne]; omega
        have hq2 : ((s[k].toNat : Int) == 92) = false := by have : s[k].toNat ≠ 92 := fun e => h' (UInt8.toNat_inj.1 e); rw [beq_eq_false_iff_ne]; omega
        have he2 : escB s[k] = [s[k]] := by
          unfold escB
          rw [if_neg]
          rintro (e | e)
          · exact h (UInt8.toNat_inj.1 e)
          · exact h' (UInt8.toNat_inj.1 e)
        rw [he2] at hes
        obtain ⟨Z2, hZ2⟩ : ∃ Z : ByteArray, Z = Z0 ++ D := ⟨_, rfl⟩
        have ha2 : ∀ w, (Op.stringOp .add Z0 D).run Tryz.prog w = .ok (.string Z2) w := fun w => by rw [hZ2]; exact run_string_add_sum w _ _ (by omega)
        have HF := Lib.hid (show Z2 = ⟨(34 :: escL (s.data.toList.take (k + 1))).toArray⟩ by rw [hZ2, hZ0, hD1, hes]; apply ByteArray.ext; simp)
        clear hes he2 h h' hts hla hel hZ0 hZ2 hs0 hD hD1 hDs hx1 hx2
        go_wp2_with fail
        go_roundg (s.size - (k + 1))
        case rel => exact ⟨k + 1, by go_num, by omega, rfl, by rw [HF.out], rfl⟩
        case measure => have := HG.out; omega
    · have hge : ¬ (k : Int) < (s.size : Int) := by omega
      obtain rfl : k = s.size := by omega
      rw [take_all] at hel ⊢
      obtain ⟨Z0, hZ0⟩ : ∃ Z : ByteArray, Z = ⟨(34 :: escL s.data.toList).toArray⟩ := ⟨_, rfl⟩
      rw [← hZ0]
      have hs0 : Z0.size ≤ 2000000000 := by rw [hZ0]; show (34 :: escL s.data.toList).length ≤ _; simp; omega
      obtain ⟨Z1, hZ1⟩ : ∃ Z : ByteArray, Z = Z0 ++ ⟨#[34]⟩ := ⟨_, rfl⟩
      have ha1 : ∀ w, (Op.stringOp .add Z0 ⟨#[34]⟩).run Tryz.prog w = .ok (.string Z1) w := fun w => by rw [hZ1]; exact run_string_add_sum w _ _ (by have h1 : (⟨#[34]⟩ : ByteArray).size = 1 := rfl; omega)
      have HF := Lib.hid (show Z1 = ⟨(quoteL s.data.toList).toArray⟩ by rw [hZ1, hZ0]; unfold quoteL; apply ByteArray.ext; simp)
      clear hZ0 hZ1 hs0 hel
      go_wp2
      go_ret2
      rw [← HF.out]
      exact ⟨rfl, rfl⟩
end Go.Proofs.YtkoncmmbdlnmfaaGreatDoor

/- The document's Text of any address. -/
namespace Go.Proofs.YtkoncmmbdlnmfaaGreatDoor
open Go.RowKit Go.Lib
set_option linter.unusedSimpArgs false
set_option linter.unusedVariables false
set_option linter.unnecessarySimpa false
set_option maxRecDepth 100000

set_option maxHeartbeats 4000000 in
theorem Text_ref (a : List UInt8 × List UInt8) (h1 : a.1.length ≤ 900000000) (h2 : a.2.length ≤ 900000000) (w : World) : Calls Tryz.prog 101 #[addrV a] w fun e w' => e = .returned (.string ⟨(textL a).toArray⟩) ∧ Below w.heap.size w w' := by
  have HM := Lib.hid (fun W => May_ref a (by omega) (by omega) W)
  obtain ⟨x, y⟩ := a
  simp only [addrV] at h1 h2 HM ⊢
  obtain ⟨R, hR⟩ : ∃ R : ByteArray, R = ⟨(textL (x, y)).toArray⟩ := ⟨_, rfl⟩
  rw [← hR]
  have e2 : (⟨x.toArray⟩ : ByteArray).data.toList = x := rfl
  have HDA := Lib.hid (fun W => DotAtom_ref ⟨x.toArray⟩ (by show x.length ≤ _; omega) W)
  rw [e2] at HDA
  have ht1 := Two.made w (.string ⟨x.toArray⟩) (.string ⟨y.toArray⟩) 100
  have hb1 := alloc_below w (.cells #[.string ⟨x.toArray⟩, .string ⟨y.toArray⟩] 100)
  unfold textL at hR
  simp only at hR
  cases hm : mayL (x, y) with
  | false =>
    rw [hm] at hR HM
    simp only [Bool.false_eq_true, if_false] at hR
    have HR := Lib.hid hR
    generalize hw1 : w.alloc (.cells #[.string ⟨x.toArray⟩, .string ⟨y.toArray⟩] 100) = w1 at ht1 hb1
    generalize (⟨x.toArray⟩ : ByteArray) = X at *
    generalize (⟨y.toArray⟩ : ByteArray) = Y at *
    obtain ⟨-, c0, c1, f0, f1⟩ := ht1
    clear hR hm HDA e2
    go_enter Tryz.func101, Tryz.ntmps101
    go_wp2_with fail
    refine (HM.out _).mono ?_
    rintro e w2 ⟨rfl, hb2⟩
    go_wp2
    go_ret
    rw [HR.out]
    exact ⟨rfl, hb1.trans (hb2.mono hb1.size)⟩
  | true =>
    have hpl : plainL x = true := by
      unfold mayL at hm
      simp only [Bool.and_eq_true] at hm
      exact hm.1.2
    have HQ := Lib.hid (fun W => Quote_ref ⟨x.toArray⟩ (by show x.length ≤ _; omega) hpl W)
    rw [e2] at HQ
    rw [hm] at hR HM
    simp only [if_true] at hR
    cases hd : dotGo x true with
    | true =>
      rw [hd] at hR HDA
      simp only [if_true] at hR
      have hq : ∃ Z1 : ByteArray, Z1 = ⟨x.toArray⟩ ++ ⟨#[64]⟩ := ⟨_, rfl⟩
      obtain ⟨Z1, hZ1⟩ := hq
      have hz1 : Z1.size = x.length + 1 := by rw [hZ1, ByteArray.size_append]; rfl
      have hR2 : R = Z1 ++ ⟨y.toArray⟩ := by rw [hR, hZ1]; apply ByteArray.ext; simp
      have ha1 : ∀ w, (Op.stringOp .add ⟨x.toArray⟩ ⟨#[64]⟩).run Tryz.prog w = .ok (.string Z1) w := fun w => by rw [hZ1]; exact run_string_add_sum w _ _ (by show x.length + 1 ≤ _; omega)
      have ha2 : ∀ w, (Op.stringOp .add Z1 ⟨y.toArray⟩).run Tryz.prog w = .ok (.string R) w := fun w => by rw [hR2]; exact run_string_add_sum w _ _ (by rw [hz1]; show x.length + 1 + y.length ≤ _; omega)
      clear hR hR2 hZ1 hz1 hm hd e2 HQ hpl
      generalize hw1 : w.alloc (.cells #[.string ⟨x.toArray⟩, .string ⟨y.toArray⟩] 100) = w1 at ht1 hb1
      generalize (⟨x.toArray⟩ : ByteArray) = X at *
      generalize (⟨y.toArray⟩ : ByteArray) = Y at *
      obtain ⟨-, c0, c1, f0, f1⟩ := Two.below ht1 (Below.refl _ _)
      have T1 := Lib.hid ht1
      clear ht1
      go_enter Tryz.func101, Tryz.ntmps101
      go_wp2_with fail
      refine (HM.out _).mono ?_
      rintro e w2 ⟨rfl, hb2⟩
      clear c0 c1 f0 f1
      obtain ⟨-, c0, c1, f0, f1⟩ := T1.out.below hb2
      go_wp2_with fail
      refine (HDA.out _).mono ?_
      rintro e w3 ⟨rfl, hw3⟩
      rw [hw3]
      clear hw3
      go_wp2
      go_ret
      exact ⟨rfl, hb1.trans (hb2.mono hb1.size)⟩
    | false =>
      rw [hd] at hR HDA
      simp only [Bool.false_eq_true, if_false] at hR
      have hql : (quoteL x).length ≤ 2000000000 := by unfold quoteL; have := esc_len x; simp; omega
      have hq : ∃ Z0 : ByteArray, Z0 = ⟨(quoteL x).toArray⟩ := ⟨_, rfl⟩
      obtain ⟨Z0, hZ0⟩ := hq
      rw [← hZ0] at HQ
      have hz0 : Z0.size = (quoteL x).length := by rw [hZ0]; rfl
      have hq : ∃ Z1 : ByteArray, Z1 = Z0 ++ ⟨#[64]⟩ := ⟨_, rfl⟩
      obtain ⟨Z1, hZ1⟩ := hq
      have hz1 : Z1.size = (quoteL x).length + 1 := by rw [hZ1, ByteArray.size_append, hz0]; rfl
      have hR2 : R = Z1 ++ ⟨y.toArray⟩ := by rw [hR, hZ1, hZ0]; apply ByteArray.ext; simp
      have ha1 : ∀ w, (Op.stringOp .add Z0 ⟨#[64]⟩).run Tryz.prog w = .ok (.string Z1) w := fun w => by rw [hZ1]; exact run_string_add_sum w _ _ (by rw [hz0]; have h1 : (⟨#[64]⟩ : ByteArray).size = 1 := rfl; omega)
      have ha2 : ∀ w, (Op.stringOp .add Z1 ⟨y.toArray⟩).run Tryz.prog w = .ok (.string R) w := fun w => by rw [hR2]; exact run_string_add_sum w _ _ (by rw [hz1]; have h1 : (⟨y.toArray⟩ : ByteArray).size = y.length := rfl; omega)
      clear hR hR2 hZ1 hz1 hm hd e2 hpl hZ0 hz0 hql
      generalize hw1 : w.alloc (.cells #[.string ⟨x.toArray⟩, .string ⟨y.toArray⟩] 100) = w1 at ht1 hb1
      generalize (⟨x.toArray⟩ : ByteArray) = X at *
      generalize (⟨y.toArray⟩ : ByteArray) = Y at *
      obtain ⟨-, c0, c1, f0, f1⟩ := Two.below ht1 (Below.refl _ _)
      have T1 := Lib.hid ht1
      clear ht1
      go_enter Tryz.func101, Tryz.ntmps101
      go_wp2_with fail
      refine (HM.out _).mono ?_
      rintro e w2 ⟨rfl, hb2⟩
      clear c0 c1 f0 f1
      obtain ⟨-, c0, c1, f0, f1⟩ := T1.out.below hb2
      go_wp2_with fail
      refine (HDA.out _).mono ?_
      rintro e w3 ⟨rfl, hw3⟩
      rw [hw3]
      clear hw3
      go_wp2_with fail
      refine (HQ.out _).mono ?_
      rintro e w4 ⟨rfl, hw4⟩
      rw [hw4]
      clear hw4
      go_wp2
      go_ret
      exact ⟨rfl, hb1.trans (hb2.mono hb1.size)⟩
end Go.Proofs.YtkoncmmbdlnmfaaGreatDoor

/- The document's Parse: the same answers as addr.Parse's, for texts of at most 10^9 bytes. -/
namespace Go.Proofs.YtkoncmmbdlnmfaaGreatDoor
open Go.RowKit Go.Lib
set_option linter.unusedSimpArgs false
set_option linter.unusedVariables false
set_option linter.unnecessarySimpa false
set_option maxRecDepth 100000

theorem addr_var2 (w W : World) (x y : Value) (t : TypeId) (hb : Below (w.alloc (.cells #[x, y] t)).heap.size (w.alloc (.cells #[x, y] t)) W) :
    W.cell? ⟨w.heap.size, 0, none⟩ = some x ∧ W.cell? ⟨w.heap.size, 1, none⟩ = some y ∧ W.frozen? ⟨w.heap.size, 0, none⟩ = false ∧ W.frozen? ⟨w.heap.size, 1, none⟩ = false := by
  have h : W.heap[w.heap.size]? = some (.cells #[x, y] t (0, 0)) := by
    rw [hb.block w.heap.size (by rw [World.size_alloc]; exact Nat.lt_succ_self _)]
    exact heap_alloc_new w _
  simp [World.cell?, World.frozen?, h]
def AtRel (s : ByteArray) (w1 : World) (g : Nat) (v5 : Value) (W : World) : Prop :=
  ∃ i : Nat, v5 = .int .i64 (i : Int) ∧ i ≤ s.size ∧ g = s.size - i ∧ W = w1 ∧ ∀ j, j < i → s.data.toList[j]? ≠ some 64
theorem list_get (s : ByteArray) (i : Nat) (h : i < s.size) : s.data.toList[i]? = some s[i] := by
  have := drop_at s 0 i (Nat.zero_le _) h
  simpa using this
theorem tail_no (word : List UInt8) (c : UInt8) (d : List UInt8) (h : c ≠ 64) : tailL word (c :: d) = ([], [], 5) := by simp [tailL, h]
theorem tail_at (word d : List UInt8) : tailL word (64 :: d) = if domL d = 5 then ([], [], 5) else if domL d = 3 ∨ 64 < word.length then ([], [], 3) else (word, d, 0) := rfl

set_option maxHeartbeats 8000000 in
theorem Parse_ref (s : ByteArray) (hs : s.size ≤ 1000000000) (w : World) : Calls Tryz.prog 100 #[.string s] w fun e w' => e = .returned (parV (parseL s.data.toList)) ∧ Below w.heap.size w w' := by
  have hb0 : Below w.heap.size w (w.alloc (.cells #[.string ⟨#[]⟩, .string ⟨#[]⟩] 100)) := alloc_below w _
  generalize hwT : w.alloc (.cells #[.string ⟨#[]⟩, .string ⟨#[]⟩] 100) = w1 at hb0
  have hbX0 : Below (w.alloc (.cells #[.string ⟨#[]⟩, .string ⟨#[]⟩] 100)).heap.size (w.alloc (.cells #[.string ⟨#[]⟩, .string ⟨#[]⟩] 100)) w1 := by rw [hwT]; exact Below.refl _ _
  have hp : parseL s.data.toList = match headL s.data.toList with | none => ([], [], 5) | some (word, rest) => tailL word rest := rfl
  by_cases hne : s = ⟨#[]⟩
  · subst hne
    have HRR := Lib.hid (show parseL (⟨#[]⟩ : ByteArray).data.toList = ([], [], 5) from rfl)
    generalize parseL (⟨#[]⟩ : ByteArray).data.toList = R at HRR
    have HD := Lib.hid (DotAtom_ref ⟨#[]⟩ (by decide) w1)
    have e0 : dotGo (⟨#[]⟩ : ByteArray).data.toList true = false := rfl
    rw [e0] at HD
    obtain ⟨c0, c1, f0, f1⟩ := addr_var2 w w1 _ _ 100 hbX0
    clear hp e0
    go_enter Tryz.func100, Tryz.ntmps100
    go_wp2_with fail
    go_loopg [5] 0 (fun g v5 W => v5 = .int .i64 0 ∧ W = w1)
    case atStart => exact ⟨rfl, rfl⟩
    case round =>
      obtain ⟨rfl, rfl⟩ := hrel
      go_wp2_with fail
      refine HD.out.mono ?_
      rintro e w2 ⟨rfl, hw2⟩
      rw [hw2]
      clear hw2 w2
      go_wp2
      refine bodyPost_ret (v := .tuple #[.agg #[.string ⟨#[]⟩, .string ⟨#[]⟩], .int .i64 5]) (by rw [results_cell_tmp Tryz.results100]; simp [go_sem, set_same _ _ _ _ c0, set_first _ _ _ _ _ _ c0 c1]) rfl ⟨?_, ?_⟩
      · rw [HRR.out]; rfl
      · exact (hb0.setCell (p := ⟨w.heap.size, 0, none⟩) (Nat.le_refl _) _).setCell (p := ⟨w.heap.size, 1, none⟩) (Nat.le_refl _) _
  · have hpos := text_len hne
    have hpos0 : (0 : Int) < (s.size : Int) := by omega
    clear hne
    by_cases h34 : s[0] = 34
    · have q34 : ((s[0].toNat : Int) == 34) = true := by rw [h34]; rfl
      have hH : headL s.data.toList = if (quoted s.data.toList).2.2 = 0 ∧ (quoted s.data.toList).1 ≠ [] then some ((quoted s.data.toList).1, s.data.toList.drop (quoted s.data.toList).2.1) else none := by unfold headL; rw [if_pos (by rw [head_eq s hpos, h34])]
      rw [hH] at hp
      have hQ := Quoted_ref s (by omega) w1
      have hm := Quoted_many s
      have hwl := quoted_len s.data.toList
      rw [list_len] at hwl
      generalize quoted s.data.toList = Rq at hp hQ hm hwl
      obtain ⟨word, i, er⟩ := Rq
      simp only [quotV] at hQ
      simp only at hp hm hwl
      have hYs : (⟨word.toArray⟩ : ByteArray).size = word.length := rfl
      have hYe := empty_text word
      generalize hY : (⟨word.toArray⟩ : ByteArray) = Y at hQ hYs hYe
      have HY := Lib.hid hY.symm
      have HQ := Lib.hid hQ
      have HP := Lib.hid hp
      clear hY hQ hp hH h34
      generalize parseL s.data.toList = R at HP
      by_cases he : er = 0
      · subst he
        by_cases hx : word = []
        · have hie : Y.toList.isEmpty = true := by rw [hYe, hx]; rfl
          have hin : Y.toList = [] := by rw [hYe, hx]
          have HRR := Lib.hid (show R = ([], [], 5) from HP.out.trans (by rw [if_neg (by simp [hx])]))
          obtain ⟨c0, c1, f0, f1⟩ := addr_var2 w w1 _ _ 100 hbX0
          clear hYe hx
          go_enter Tryz.func100, Tryz.ntmps100
          go_wp2_with fail
          refine HQ.out.mono ?_
          rintro e w2 ⟨rfl, hw2⟩
          rw [hw2]
          clear hw2 w2
          go_wp2
          refine bodyPost_ret (v := .tuple #[.agg #[.string ⟨#[]⟩, .string ⟨#[]⟩], .int .i64 5]) (by rw [results_cell_tmp Tryz.results100]; simp [go_sem, set_same _ _ _ _ c0, set_first _ _ _ _ _ _ c0 c1]) rfl ⟨?_, ?_⟩
          · rw [HRR.out]; rfl
          · exact (hb0.setCell (p := ⟨w.heap.size, 0, none⟩) (Nat.le_refl _) _).setCell (p := ⟨w.heap.size, 1, none⟩) (Nat.le_refl _) _
        · have hie : Y.toList.isEmpty = false := by rw [hYe]; cases word with | nil => exact absurd rfl hx | cons a b => rfl
          have hin : ¬ Y.toList = [] := by rw [hYe]; exact hx
          have HT := Lib.hid (show R = tailL word (s.data.toList.drop i) from HP.out.trans (by rw [if_pos ⟨rfl, hx⟩]))
          have hi : i ≤ s.size := hm
          clear hYe hx
          go_enter Tryz.func100, Tryz.ntmps100
          go_wp2_with fail
          refine HQ.out.mono ?_
          rintro e wT ⟨rfl, hw2⟩
          have hbX : Below (w.alloc (.cells #[.string ⟨#[]⟩, .string ⟨#[]⟩] 100)).heap.size (w.alloc (.cells #[.string ⟨#[]⟩, .string ⟨#[]⟩] 100)) wT := by rw [hw2]; exact hbX0
          have hbT : Below w.heap.size w wT := by rw [hw2]; exact hb0
          clear hw2
          by_cases hat : i < s.size
          · have ia0 : (0 : Int) ≤ (i : Int) := by omega
            have ia1 : (i : Int) < (s.size : Int) := by omega
            have ia2 : ¬ (s.size : Int) ≤ (i : Int) := by omega
            have ht := HT.out
            rw [drop_cons s i hat] at ht
            by_cases h64 : s[i] = 64
            · have q64 : ((s[i].toNat : Int) != 64) = false := by rw [h64]; rfl
              have q64b : ((s[i].toNat : Int) == 64) = true := by rw [h64]; rfl
              rw [h64, tail_at] at ht
              have hwi : IntKind.i64.wrap ((i : Int) + 1) = (i : Int) + 1 := by rw [IntKind.wrap_i64]; omega
              have ia3 : (0 : Int) ≤ (i : Int) + 1 := by omega
              have ia4 : (i : Int) + 1 ≤ (s.size : Int) := by omega
              have ex := ext_drop s (i + 1)
              have hdl : (s.data.toList.drop (i + 1)).length ≤ 1000000000 := by rw [List.length_drop, list_len]; omega
              generalize s.data.toList.drop (i + 1) = d at ht ex hdl
              have hD := Domain_ref ⟨d.toArray⟩ hdl wT
              have e3 : (⟨d.toArray⟩ : ByteArray).data.toList = d := rfl
              rw [e3, ← ex] at hD
              have hdc := domL_cases d
              generalize domL d = k at hD ht hdc
              have HDom := Lib.hid hD
              have HEX := Lib.hid ex
              have HDC := Lib.hid hdc
              have HTT := Lib.hid ht
              clear hD ex e3 hdc ht h64
              go_wp2_with fail
              refine HDom.out.mono ?_
              rintro e w4 ⟨rfl, hb4⟩
              obtain ⟨c0, c1, f0, f1⟩ := addr_var2 w w4 _ _ 100 (hbX.trans (hb4.mono hbX.size))
              have hbw4 := hbT.trans (hb4.mono hbT.size)
              have hR0 := HTT.out
              rcases HDC.out with rfl | rfl | rfl
              · by_cases hw64 : 64 < word.length
                · have hw640 : (64 : Int) < (Y.size : Int) := by omega
                  rw [if_neg (by decide), if_pos (Or.inr hw64)] at hR0
                  have HRR := Lib.hid hR0
                  clear hR0
                  go_wp2
                  refine bodyPost_ret (v := .tuple #[.agg #[.string ⟨#[]⟩, .string ⟨#[]⟩], .int .i64 3]) (by rw [results_cell_tmp Tryz.results100]; simp [go_sem, set_same _ _ _ _ c0, set_first _ _ _ _ _ _ c0 c1]) rfl ⟨?_, ?_⟩
                  · rw [HRR.out]; rfl
                  · exact (hbw4.setCell (p := ⟨w.heap.size, 0, none⟩) (Nat.le_refl _) _).setCell (p := ⟨w.heap.size, 1, none⟩) (Nat.le_refl _) _
                · have hw640 : ¬ (64 : Int) < (Y.size : Int) := by omega
                  rw [if_neg (by decide), if_neg (by omega)] at hR0
                  have HRR := Lib.hid hR0
                  clear hR0
                  go_wp2
                  refine bodyPost_ret (v := .tuple #[.agg #[.string Y, .string (s.extract (i + 1) s.size)], .int .i64 0]) (by rw [results_cell_tmp Tryz.results100]; simp [go_sem, set_same _ _ _ _ c0, set_first _ _ _ _ _ _ c0 c1]) rfl ⟨?_, ?_⟩
                  · rw [HRR.out, HEX.out, HY.out]; rfl
                  · exact (hbw4.setCell (p := ⟨w.heap.size, 0, none⟩) (Nat.le_refl _) _).setCell (p := ⟨w.heap.size, 1, none⟩) (Nat.le_refl _) _
              · rw [if_neg (by decide), if_pos (Or.inl rfl)] at hR0
                have HRR := Lib.hid hR0
                clear hR0
                go_wp2
                refine bodyPost_ret (v := .tuple #[.agg #[.string ⟨#[]⟩, .string ⟨#[]⟩], .int .i64 3]) (by rw [results_cell_tmp Tryz.results100]; simp [go_sem, set_same _ _ _ _ c0, set_first _ _ _ _ _ _ c0 c1]) rfl ⟨?_, ?_⟩
                · rw [HRR.out]; rfl
                · exact (hbw4.setCell (p := ⟨w.heap.size, 0, none⟩) (Nat.le_refl _) _).setCell (p := ⟨w.heap.size, 1, none⟩) (Nat.le_refl _) _
              · rw [if_pos rfl] at hR0
                have HRR := Lib.hid hR0
                clear hR0
                go_wp2
                refine bodyPost_ret (v := .tuple #[.agg #[.string ⟨#[]⟩, .string ⟨#[]⟩], .int .i64 5]) (by rw [results_cell_tmp Tryz.results100]; simp [go_sem, set_same _ _ _ _ c0, set_first _ _ _ _ _ _ c0 c1]) rfl ⟨?_, ?_⟩
                · rw [HRR.out]; rfl
                · exact (hbw4.setCell (p := ⟨w.heap.size, 0, none⟩) (Nat.le_refl _) _).setCell (p := ⟨w.heap.size, 1, none⟩) (Nat.le_refl _) _
            · have q64 : ((s[i].toNat : Int) != 64) = true := by
                rw [bne_iff_ne]; intro e; exact h64 (UInt8.toNat_inj.1 (by show s[i].toNat = 64; omega))
              rw [tail_no word _ _ h64] at ht
              have HRR := Lib.hid ht
              clear ht h64
              obtain ⟨c0, c1, f0, f1⟩ := addr_var2 w wT _ _ 100 hbX
              go_wp2
              refine bodyPost_ret (v := .tuple #[.agg #[.string ⟨#[]⟩, .string ⟨#[]⟩], .int .i64 5]) (by rw [results_cell_tmp Tryz.results100]; simp [go_sem, set_same _ _ _ _ c0, set_first _ _ _ _ _ _ c0 c1]) rfl ⟨?_, ?_⟩
              · rw [HRR.out]; rfl
              · exact (hbT.setCell (p := ⟨w.heap.size, 0, none⟩) (Nat.le_refl _) _).setCell (p := ⟨w.heap.size, 1, none⟩) (Nat.le_refl _) _
          · have ia2 : (s.size : Int) ≤ (i : Int) := by omega
            have ia1 : ¬ (i : Int) < (s.size : Int) := by omega
            have hnil : s.data.toList.drop i = [] := List.drop_eq_nil_of_le (by rw [list_len]; omega)
            have ht := HT.out
            rw [hnil, tailL_nil] at ht
            have HRR := Lib.hid ht
            clear ht hnil
            obtain ⟨c0, c1, f0, f1⟩ := addr_var2 w wT _ _ 100 hbX
            go_wp2
            refine bodyPost_ret (v := .tuple #[.agg #[.string ⟨#[]⟩, .string ⟨#[]⟩], .int .i64 5]) (by rw [results_cell_tmp Tryz.results100]; simp [go_sem, set_same _ _ _ _ c0, set_first _ _ _ _ _ _ c0 c1]) rfl ⟨?_, ?_⟩
            · rw [HRR.out]; rfl
            · exact (hbT.setCell (p := ⟨w.heap.size, 0, none⟩) (Nat.le_refl _) _).setCell (p := ⟨w.heap.size, 1, none⟩) (Nat.le_refl _) _
      · have he0 : ((er : Int) != 0) = true := by rw [bne_iff_ne]; omega
        have HRR := Lib.hid (show R = ([], [], 5) from HP.out.trans (by rw [if_neg (by simp [he])]))
        obtain ⟨c0, c1, f0, f1⟩ := addr_var2 w w1 _ _ 100 hbX0
        clear hYe
        go_enter Tryz.func100, Tryz.ntmps100
        go_wp2_with fail
        refine HQ.out.mono ?_
        rintro e w2 ⟨rfl, hw2⟩
        rw [hw2]
        clear hw2 w2
        go_wp2
        refine bodyPost_ret (v := .tuple #[.agg #[.string ⟨#[]⟩, .string ⟨#[]⟩], .int .i64 5]) (by rw [results_cell_tmp Tryz.results100]; simp [go_sem, set_same _ _ _ _ c0, set_first _ _ _ _ _ _ c0 c1]) rfl ⟨?_, ?_⟩
        · rw [HRR.out]; rfl
        · exact (hb0.setCell (p := ⟨w.heap.size, 0, none⟩) (Nat.le_refl _) _).setCell (p := ⟨w.heap.size, 1, none⟩) (Nat.le_refl _) _
    · have q34 : ((s[0].toNat : Int) == 34) = false := byte_ne rfl h34
      have hH : headL s.data.toList = if dotGo (s.data.toList.takeWhile (· != 64)) true then some (s.data.toList.takeWhile (· != 64), s.data.toList.dropWhile (· != 64)) else none := by
        unfold headL
        rw [if_neg (by rw [head_eq s hpos]; intro e; exact h34 (Option.some.inj e))]
      rw [hH] at hp
      have HP := Lib.hid hp
      clear hp hH h34
      generalize parseL s.data.toList = R at HP
      go_enter Tryz.func100, Tryz.ntmps100
      go_wp2_with fail
      go_loopg [5] s.size (fun g v5 W => AtRel s w1 g v5 W)
      case atStart => exact ⟨0, rfl, by omega, by omega, rfl, by intro j hj; omega⟩
      case round =>
        obtain ⟨i, rfl, hi, hg, rfl, hno⟩ := hrel
        have HG := Lib.hid hg
        have HN := Lib.hid hno
        clear hg hno
        have hi0 : (0 : Int) ≤ (i : Int) := by omega
        have hi2 : (i : Int) ≤ (s.size : Int) := by omega
        have hwr : IntKind.i64.wrap ((i : Int) + 1) = (i : Int) + 1 := by rw [IntKind.wrap_i64]; omega
        have hstop : (i < s.size ∧ s.data.toList[i]? ≠ some 64) ∨ ((s.data.toList.takeWhile (· != 64) = s.data.toList.take i ∧ s.data.toList.dropWhile (· != 64) = s.data.toList.drop i) ∧ (i < s.size → s.data.toList[i]? = some 64)) := by
          by_cases hlt : i < s.size
          · by_cases h64 : s.data.toList[i]? = some 64
            · exact .inr ⟨while_take 64 _ i h64 HN.out, fun _ => h64⟩
            · exact .inl ⟨hlt, h64⟩
          · have hii : i = s.size := by omega
            subst hii
            refine .inr ⟨?_, fun h => absurd h hlt⟩
            rw [take_all, List.drop_eq_nil_of_le (by rw [list_len]; exact Nat.le_refl _)]
            refine while_none 64 _ (fun k hk => ?_)
            have hlen : k < s.data.toList.length := (List.getElem?_eq_some_iff.1 hk).1
            rw [list_len] at hlen
            exact HN.out k hlen hk
        rcases hstop with ⟨hlt, h64⟩ | ⟨⟨ht1, ht2⟩, h64⟩
        · have hi1 : (i : Int) < (s.size : Int) := by omega
          have q64 : ((s[i].toNat : Int) != 64) = true := by
            rw [list_get s i hlt] at h64
            rw [bne_iff_ne]; intro e; exact h64 (by rw [UInt8.toNat_inj.1 (show s[i].toNat = (64 : UInt8).toNat by show s[i].toNat = 64; omega)])
          have H64 := Lib.hid h64
          clear h64
          go_wp2_with fail
          go_roundg (s.size - (i + 1))
          case rel =>
            refine ⟨i + 1, by go_num, by omega, rfl, rfl, ?_⟩
            intro j hj
            rcases Nat.lt_succ_iff_lt_or_eq.1 hj with h | rfl
            · exact HN.out j h
            · exact H64.out
          case measure => have := HG.out; omega
        · have hp2 := HP.out
          rw [ht1, ht2] at hp2
          have e1 := ext_take s i
          have hwl : (s.data.toList.take i).length ≤ s.size := by rw [List.length_take, list_len]; omega
          have hD := DotAtom_ref ⟨(s.data.toList.take i).toArray⟩ (by show (s.data.toList.take i).length ≤ _; omega) wr
          have e3 : (⟨(s.data.toList.take i).toArray⟩ : ByteArray).data.toList = s.data.toList.take i := rfl
          rw [e3] at hD
          have hYs : (⟨(s.data.toList.take i).toArray⟩ : ByteArray).size = (s.data.toList.take i).length := rfl
          rw [← e1] at hD hYs
          generalize hword : s.data.toList.take i = word at *
          generalize hYY : s.extract 0 i = Y at *
          have HYX := Lib.hid hYY
          have HY := Lib.hid e1
          have HP2 := Lib.hid hp2
          generalize dotGo word true = Q at hD HP2
          clear ht1 ht2 hp2 e1 hword e3 hYY
          have hcond : (i < s.size ∧ ∀ h : i < s.size, s[i] = 64) ∨ i = s.size := by
            by_cases hlt : i < s.size
            · refine .inl ⟨hlt, fun h => ?_⟩
              have := h64 h
              rw [list_get s i h] at this
              exact Option.some.inj this
            · exact .inr (by omega)
          clear h64
          have hb1 := hbX0
          cases Q with
          | false =>
            have HRR := Lib.hid (show R = ([], [], 5) from HP2.out)
            obtain ⟨c0, c1, f0, f1⟩ := addr_var2 w wr _ _ 100 hb1
            rcases hcond with ⟨hlt, h64⟩ | hii
            · have hi1 : (i : Int) < (s.size : Int) := by omega
              have q64 : ((s[i].toNat : Int) != 64) = false := by rw [h64 hlt]; rfl
              have hYZ := HYX.out
              clear h64
              go_wp2_with fail
              refine hD.mono ?_
              rintro e w2 ⟨rfl, hw2⟩
              rw [hw2]
              clear hw2 w2
              go_wp2
              refine bodyPost_ret (v := .tuple #[.agg #[.string ⟨#[]⟩, .string ⟨#[]⟩], .int .i64 5]) (by rw [results_cell_tmp Tryz.results100]; simp [go_sem, set_same _ _ _ _ c0, set_first _ _ _ _ _ _ c0 c1]) rfl ⟨?_, ?_⟩
              · rw [HRR.out]; rfl
              · exact (hb0.setCell (p := ⟨w.heap.size, 0, none⟩) (Nat.le_refl _) _).setCell (p := ⟨w.heap.size, 1, none⟩) (Nat.le_refl _) _
            · have hi1 : ¬ (i : Int) < (s.size : Int) := by omega
              have hYZ := HYX.out
              clear hii
              go_wp2_with fail
              refine hD.mono ?_
              rintro e w2 ⟨rfl, hw2⟩
              rw [hw2]
              clear hw2 w2
              go_wp2
              refine bodyPost_ret (v := .tuple #[.agg #[.string ⟨#[]⟩, .string ⟨#[]⟩], .int .i64 5]) (by rw [results_cell_tmp Tryz.results100]; simp [go_sem, set_same _ _ _ _ c0, set_first _ _ _ _ _ _ c0 c1]) rfl ⟨?_, ?_⟩
              · rw [HRR.out]; rfl
              · exact (hb0.setCell (p := ⟨w.heap.size, 0, none⟩) (Nat.le_refl _) _).setCell (p := ⟨w.heap.size, 1, none⟩) (Nat.le_refl _) _
          | true =>
            have HT := Lib.hid (show R = tailL word (s.data.toList.drop i) from HP2.out)
            rcases hcond with ⟨hlt, h64⟩ | hii
            · have hi1 : (i : Int) < (s.size : Int) := by omega
              have q64 : ((s[i].toNat : Int) != 64) = false := by rw [h64 hlt]; rfl
              have hYZ := HYX.out
              have H64 := Lib.hid (h64 hlt)
              clear h64
              go_wp2_with fail
              refine hD.mono ?_
              rintro e wT ⟨rfl, hw2⟩
              have hbX : Below (w.alloc (.cells #[.string ⟨#[]⟩, .string ⟨#[]⟩] 100)).heap.size (w.alloc (.cells #[.string ⟨#[]⟩, .string ⟨#[]⟩] 100)) wT := by rw [hw2]; exact hb1
              have hbT : Below w.heap.size w wT := by rw [hw2]; exact hb0
              clear hw2 hYZ
              by_cases hat : i < s.size
              · have ia0 : (0 : Int) ≤ (i : Int) := by omega
                have ia1 : (i : Int) < (s.size : Int) := by omega
                have ia2 : ¬ (s.size : Int) ≤ (i : Int) := by omega
                have ht := HT.out
                rw [drop_cons s i hat] at ht
                by_cases h64 : s[i] = 64
                · have q64 : ((s[i].toNat : Int) != 64) = false := by rw [h64]; rfl
                  have q64b : ((s[i].toNat : Int) == 64) = true := by rw [h64]; rfl
                  rw [h64, tail_at] at ht
                  have hwi : IntKind.i64.wrap ((i : Int) + 1) = (i : Int) + 1 := by rw [IntKind.wrap_i64]; omega
                  have ia3 : (0 : Int) ≤ (i : Int) + 1 := by omega
                  have ia4 : (i : Int) + 1 ≤ (s.size : Int) := by omega
                  have ex := ext_drop s (i + 1)
                  have hdl : (s.data.toList.drop (i + 1)).length ≤ 1000000000 := by rw [List.length_drop, list_len]; omega
                  generalize s.data.toList.drop (i + 1) = d at ht ex hdl
                  have hD := Domain_ref ⟨d.toArray⟩ hdl wT
                  have e3 : (⟨d.toArray⟩ : ByteArray).data.toList = d := rfl
                  rw [e3, ← ex] at hD
                  have hdc := domL_cases d
                  generalize domL d = k at hD ht hdc
                  have HDom := Lib.hid hD
                  have HEX := Lib.hid ex
                  have HDC := Lib.hid hdc
                  have HTT := Lib.hid ht
                  clear hD ex e3 hdc ht h64
                  go_wp2_with fail
                  refine HDom.out.mono ?_
                  rintro e w4 ⟨rfl, hb4⟩
                  obtain ⟨c0, c1, f0, f1⟩ := addr_var2 w w4 _ _ 100 (hbX.trans (hb4.mono hbX.size))
                  have hbw4 := hbT.trans (hb4.mono hbT.size)
                  have hR0 := HTT.out
                  rcases HDC.out with rfl | rfl | rfl
                  · by_cases hw64 : 64 < word.length
                    · have hw640 : (64 : Int) < (Y.size : Int) := by omega
                      rw [if_neg (by decide), if_pos (Or.inr hw64)] at hR0
                      have HRR := Lib.hid hR0
                      clear hR0
                      go_wp2
                      refine bodyPost_ret (v := .tuple #[.agg #[.string ⟨#[]⟩, .string ⟨#[]⟩], .int .i64 3]) (by rw [results_cell_tmp Tryz.results100]; simp [go_sem, set_same _ _ _ _ c0, set_first _ _ _ _ _ _ c0 c1]) rfl ⟨?_, ?_⟩
                      · rw [HRR.out]; rfl
                      · exact (hbw4.setCell (p := ⟨w.heap.size, 0, none⟩) (Nat.le_refl _) _).setCell (p := ⟨w.heap.size, 1, none⟩) (Nat.le_refl _) _
                    · have hw640 : ¬ (64 : Int) < (Y.size : Int) := by omega
                      rw [if_neg (by decide), if_neg (by omega)] at hR0
                      have HRR := Lib.hid hR0
                      clear hR0
                      go_wp2
                      refine bodyPost_ret (v := .tuple #[.agg #[.string Y, .string (s.extract (i + 1) s.size)], .int .i64 0]) (by rw [results_cell_tmp Tryz.results100]; simp [go_sem, set_same _ _ _ _ c0, set_first _ _ _ _ _ _ c0 c1]) rfl ⟨?_, ?_⟩
                      · rw [HRR.out, HEX.out, HY.out]; rfl
                      · exact (hbw4.setCell (p := ⟨w.heap.size, 0, none⟩) (Nat.le_refl _) _).setCell (p := ⟨w.heap.size, 1, none⟩) (Nat.le_refl _) _
                  · rw [if_neg (by decide), if_pos (Or.inl rfl)] at hR0
                    have HRR := Lib.hid hR0
                    clear hR0
                    go_wp2
                    refine bodyPost_ret (v := .tuple #[.agg #[.string ⟨#[]⟩, .string ⟨#[]⟩], .int .i64 3]) (by rw [results_cell_tmp Tryz.results100]; simp [go_sem, set_same _ _ _ _ c0, set_first _ _ _ _ _ _ c0 c1]) rfl ⟨?_, ?_⟩
                    · rw [HRR.out]; rfl
                    · exact (hbw4.setCell (p := ⟨w.heap.size, 0, none⟩) (Nat.le_refl _) _).setCell (p := ⟨w.heap.size, 1, none⟩) (Nat.le_refl _) _
                  · rw [if_pos rfl] at hR0
                    have HRR := Lib.hid hR0
                    clear hR0
                    go_wp2
                    refine bodyPost_ret (v := .tuple #[.agg #[.string ⟨#[]⟩, .string ⟨#[]⟩], .int .i64 5]) (by rw [results_cell_tmp Tryz.results100]; simp [go_sem, set_same _ _ _ _ c0, set_first _ _ _ _ _ _ c0 c1]) rfl ⟨?_, ?_⟩
                    · rw [HRR.out]; rfl
                    · exact (hbw4.setCell (p := ⟨w.heap.size, 0, none⟩) (Nat.le_refl _) _).setCell (p := ⟨w.heap.size, 1, none⟩) (Nat.le_refl _) _
                · exact absurd H64.out h64
              · exact absurd hlt hat
            · have hi1 : ¬ (i : Int) < (s.size : Int) := by omega
              have hYZ := HYX.out
              clear hii
              go_wp2_with fail
              refine hD.mono ?_
              rintro e wT ⟨rfl, hw2⟩
              have hbX : Below (w.alloc (.cells #[.string ⟨#[]⟩, .string ⟨#[]⟩] 100)).heap.size (w.alloc (.cells #[.string ⟨#[]⟩, .string ⟨#[]⟩] 100)) wT := by rw [hw2]; exact hb1
              have hbT : Below w.heap.size w wT := by rw [hw2]; exact hb0
              clear hw2 hYZ
              by_cases hat : i < s.size
              · exfalso; omega
              · have ia2 : (s.size : Int) ≤ (i : Int) := by omega
                have ia1 : ¬ (i : Int) < (s.size : Int) := by omega
                have hnil : s.data.toList.drop i = [] := List.drop_eq_nil_of_le (by rw [list_len]; omega)
                have ht := HT.out
                rw [hnil, tailL_nil] at ht
                have HRR := Lib.hid ht
                clear ht hnil
                obtain ⟨c0, c1, f0, f1⟩ := addr_var2 w wT _ _ 100 hbX
                go_wp2
                refine bodyPost_ret (v := .tuple #[.agg #[.string ⟨#[]⟩, .string ⟨#[]⟩], .int .i64 5]) (by rw [results_cell_tmp Tryz.results100]; simp [go_sem, set_same _ _ _ _ c0, set_first _ _ _ _ _ _ c0 c1]) rfl ⟨?_, ?_⟩
                · rw [HRR.out]; rfl
                · exact (hbT.setCell (p := ⟨w.heap.size, 0, none⟩) (Nat.le_refl _) _).setCell (p := ⟨w.heap.size, 1, none⟩) (Nat.le_refl _) _
end Go.Proofs.YtkoncmmbdlnmfaaGreatDoor
