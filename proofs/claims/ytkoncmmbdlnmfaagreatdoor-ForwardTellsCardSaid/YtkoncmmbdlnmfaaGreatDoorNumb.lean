/- text.Number and the document's Number, for every text of at most 10^12 bytes and every count of digits that an int holds. -/
import Derived.Test.YtkoncmmbdlnmfaaGreatDoorQuot
import Derived.Test.YtkoncmmbdlnmfaaGreatDoorTrim
import Derived.Test.YtkoncmmbdlnmfaaGreatDoorNum
namespace Go.Proofs.YtkoncmmbdlnmfaaGreatDoor
open Go.RowKit Go.Lib
set_option linter.unusedSimpArgs false
set_option linter.unusedVariables false
set_option linter.unnecessarySimpa false
set_option maxRecDepth 100000

theorem numV_snoc (l : List UInt8) (b : UInt8) : numV (l ++ [b]) = 10 * numV l + (b.toNat - 48) := by simp [numV, List.foldl_append]
theorem numV_lt : ∀ (n : Nat) (l : List UInt8), l.length = n → l.all digitB = true → numV l < 10 ^ n
  | 0, l, h, _ => by rw [List.eq_nil_of_length_eq_zero h]; decide
  | n + 1, l, h, hd => by
    have hne : l ≠ [] := by intro e; rw [e] at h; simp at h
    obtain ⟨l', b, rfl⟩ : ∃ l' b, l = l' ++ [b] := ⟨l.dropLast, l.getLast hne, (List.dropLast_concat_getLast hne).symm⟩
    have hl : l'.length = n := by simp at h; exact h
    rw [List.all_append, Bool.and_eq_true] at hd
    have ih := numV_lt n l' hl hd.1
    have hb := dig_lt b (by simpa using hd.2)
    rw [numV_snoc, Nat.pow_succ]
    omega
theorem numV_small (l : List UInt8) (h : l.length ≤ 15) (hd : l.all digitB = true) : numV l < 1000000000000000 := by
  have h1 := numV_lt _ l rfl hd
  have h2 : 10 ^ l.length ≤ 10 ^ 15 := Nat.pow_le_pow_right (by omega) h
  have h3 : (10 : Nat) ^ 15 = 1000000000000000 := by decide
  omega
def digitsS : ByteArray := ⟨#[48, 49, 50, 51, 52, 53, 54, 55, 56, 57]⟩
theorem digits_contains0 : ∀ n, n < 256 → ([48, 49, 50, 51, 52, 53, 54, 55, 56, 57] : List UInt8).contains (UInt8.ofNat n) = digitB (UInt8.ofNat n) := by decide +kernel
theorem digits_contains (b : UInt8) : ([48, 49, 50, 51, 52, 53, 54, 55, 56, 57] : List UInt8).contains b = digitB b := by
  have := digits_contains0 b.toNat b.toNat_lt
  simpa using this
theorem trim_digits (s : ByteArray) (hs : s.size ≤ 1000000000000) (w : World) : ∃ X : ByteArray, X.toList.isEmpty = s.data.toList.all digitB ∧
    Calls Tryz.prog 144 #[.string s, .string ⟨#[48, 49, 50, 51, 52, 53, 54, 55, 56, 57]⟩] w fun e w' => e = .returned (.string X) ∧ Below w.heap.size w w' := by
  refine ⟨_, ?_, Tryz.strings_Trim_set s ⟨#[48, 49, 50, 51, 52, 53, 54, 55, 56, 57]⟩ w (by omega) (by decide) (ascii_of_all (by decide))⟩
  rw [ByteArray.toList_eq]
  rw [trimS_nil]
  congr 1
  funext b
  exact digits_contains b
def numR (l : List UInt8) (d : Int) : Value := .tuple #[.int .i64 (if numOk l d then (numV l : Int) else 0), .int .i64 (if numOk l d then 0 else 5)]
theorem numR_ok (l : List UInt8) (d : Int) (h : numOk l d = true) : numR l d = .tuple #[.int .i64 (numV l : Int), .int .i64 0] := by simp [numR, h]
theorem numR_bad (l : List UInt8) (d : Int) (h : numOk l d = false) : numR l d = .tuple #[.int .i64 0, .int .i64 5] := by simp [numR, h]

theorem cnv_cell (w : World) (s : ByteArray) (i : Nat) (h : i < s.size) : (cnv w s).cell? ⟨w.heap.size, i, none⟩ = some (.int .u8 (s[i].toNat : Int)) := by
  have hh : (cnv w s).heap[w.heap.size]? = some (.cells (bytesRow s (grownCap w s.size 0 5)) 5 ((bytesRow s (grownCap w s.size 0 5)).size, (bytesRow s (grownCap w s.size 0 5)).size + 1)) := heap_alloc_new w.drew _
  simp only [World.cell?, hh]
  exact bytesRow_at s _ i h
def NumRel (s : ByteArray) (wc : World) (g : Nat) (v6 v27 : Value) (W : World) : Prop :=
  ∃ i : Nat, v27 = .int .i64 (i : Int) ∧ i ≤ s.size ∧ g = s.size - i ∧ v6 = .int .i64 (numV (s.data.toList.take i) : Int) ∧ W = wc
theorem take_snoc (s : ByteArray) (i : Nat) (h : i < s.size) : s.data.toList.take (i + 1) = s.data.toList.take i ++ [s[i]] := by
  have h2 : i < s.data.toList.length := by simpa using h
  rw [List.take_succ_eq_append_getElem h2]; rfl
theorem take_all (s : ByteArray) : s.data.toList.take s.size = s.data.toList := List.take_of_length_le (by simp)
theorem all_take {l : List UInt8} {q : UInt8 → Bool} (h : l.all q = true) (i : Nat) : (l.take i).all q = true :=
  List.all_eq_true.2 fun x hx => List.all_eq_true.1 h x (List.mem_of_mem_take hx)
theorem list_len (s : ByteArray) : s.data.toList.length = s.size := by rw [Array.length_toList]; rfl
theorem list_ne {s : ByteArray} (h : s ≠ ⟨#[]⟩) : s.data.toList.isEmpty = false := by
  have h1 := text_isE h
  rw [ByteArray.toList_eq] at h1
  exact h1
set_option maxHeartbeats 8000000 in
theorem Number_any (s : ByteArray) (hs : s.size ≤ 1000000000000) (d : Int) (w : World) : Calls Tryz.prog 217 #[.string s, .int .i64 d] w fun e w' =>
    e = .returned (numR s.data.toList d) ∧ Below w.heap.size w w' := by
  by_cases hne : s = ⟨#[]⟩
  · subst hne
    rw [numR_bad _ _ (by simp [numOk])]
    go_enter Tryz.func217, Tryz.ntmps217
    go_wp2
    go_ret2
    exact ⟨rfl, Below.refl _ _⟩
  · have hie := text_isE hne
    by_cases hlen : (max 1 (min d 15) : Int) < (s.size : Int)
    · rw [numR_bad _ _ (by simp only [numOk, list_len]; rw [decide_eq_false (by omega)]; simp)]
      go_enter Tryz.func217, Tryz.ntmps217
      go_wp2
      go_ret2
      exact ⟨rfl, Below.refl _ _⟩
    · obtain ⟨X, hX, HT⟩ := trim_digits s hs w
      cases hd : s.data.toList.all digitB with
      | false =>
        rw [hd] at hX
        rw [numR_bad _ _ (by simp [numOk, hd])]
        have HT := Lib.hid HT
        clear hd
        go_enter Tryz.func217, Tryz.ntmps217
        go_wp2_with fail
        refine HT.out.mono ?_
        rintro e w2 ⟨rfl, hb⟩
        go_wp2
        go_ret2
        exact ⟨rfl, hb⟩
      | true =>
        rw [hd] at hX
        have h15 : s.size ≤ 15 := by omega
        rw [numR_ok _ _ (by simp only [numOk, list_len, hd, list_ne hne]; rw [decide_eq_true (by omega)]; rfl)]
        have HT := Lib.hid HT
        have HD := Lib.hid hd
        clear hd hne
        go_enter Tryz.func217, Tryz.ntmps217
        go_wp2_with fail
        refine HT.out.mono ?_
        rintro e w2 ⟨rfl, hb⟩
        have hk := cnv_run w2 s
        have hbc := hb.trans ((cnv_below w2 s).mono hb.size)
        generalize hwc : cnv w2 s = wc at hk hbc
        have HW := Lib.hid hwc
        clear hwc
        go_wp2_with fail
        go_loopg [6, 27] s.size (fun g v6 v27 W => NumRel s wc g v6 v27 W)
        case atStart => exact ⟨0, rfl, by omega, by omega, by simp [numV], rfl⟩
        case round =>
          obtain ⟨i, rfl, hi, hg, rfl, rfl⟩ := hrel
          have HG := Lib.hid hg
          clear hg
          by_cases hlt : i < s.size
          · have hc := cnv_cell w2 s i hlt
            rw [HW.out] at hc
            have hlt0 : (i : Int) < (s.size : Int) := by omega
            have hnn : (0 : Int) ≤ (i : Int) := by omega
            have hdig : digitB s[i] = true := List.all_eq_true.1 HD.out _ (by
              have : s[i] = s.data.toList[i]'(by rw [list_len]; exact hlt) := rfl
              rw [this]; exact List.getElem_mem _)
            have hn := numV_small (s.data.toList.take i) (by rw [List.length_take, list_len]; omega) (all_take HD.out i)
            have hts := take_snoc s i hlt
            have HS := Lib.hid (show numV (s.data.toList.take (i + 1)) = 10 * numV (s.data.toList.take i) + (s[i].toNat - 48) by rw [hts, numV_snoc])
            clear hts
            simp only [digitB, Bool.and_eq_true, decide_eq_true_eq] at hdig
            generalize numV (s.data.toList.take i) = n at hn HS
            have hw1 : IntKind.i64.wrap (10 * (n : Int)) = 10 * (n : Int) := by rw [IntKind.wrap_i64]; omega
            have hw2 : IntKind.u8.wrap ((s[i].toNat : Int) - 48) = ((s[i].toNat - 48 : Nat) : Int) := by rw [IntKind.wrap_u8]; omega
            have hw4 : IntKind.i64.wrap ((s[i].toNat - 48 : Nat) : Int) = ((s[i].toNat - 48 : Nat) : Int) := by rw [IntKind.wrap_i64]; omega
            have hw3 : IntKind.i64.wrap (10 * (n : Int) + ((s[i].toNat - 48 : Nat) : Int)) = ((10 * n + (s[i].toNat - 48) : Nat) : Int) := by rw [IntKind.wrap_i64]; omega
            go_wp2_with fail
            go_roundg (s.size - (i + 1))
            case rel => exact ⟨i + 1, by go_num, by omega, rfl, by rw [HS.out]; simp only [Value.int.injEq, true_and]; omega, rfl⟩
            case measure => have := HG.out; omega
          · have hge : ¬ (i : Int) < (s.size : Int) := by omega
            have : i = s.size := by omega
            subst this
            rw [take_all]
            go_wp2
            go_ret2
            exact ⟨rfl, hbc⟩

def NumRelR (s : ByteArray) (wc : World) (g : Nat) (v6 v7 : Value) (W : World) : Prop :=
  ∃ i : Nat, v7 = .int .i64 (i : Int) ∧ i ≤ s.size ∧ g = s.size - i ∧ v6 = .int .i64 (numV (s.data.toList.take i) : Int) ∧ (s.data.toList.take i).all digitB = true ∧ W = wc
theorem list_at (s : ByteArray) (i : Nat) (h : i < s.size) : s[i] ∈ s.data.toList := by
  have : s[i] = s.data.toList[i]'(by rw [list_len]; exact h) := rfl
  rw [this]; exact List.getElem_mem _
theorem size_zero {s : ByteArray} (h : s.size = 0) : s = ⟨#[]⟩ := by
  cases s; exact congrArg ByteArray.mk (Array.eq_empty_of_size_eq_zero h)
set_option maxHeartbeats 8000000 in
theorem Number_ref (s : ByteArray) (hs : s.size ≤ 1000000000000) (d : Int) (w : World) : Calls Tryz.prog 221 #[.string s, .int .i64 d] w fun e w' =>
    e = .returned (numR s.data.toList d) ∧ w' = w := by
  have HOK := Lib.hid (numR_ok s.data.toList d)
  have HBAD := Lib.hid (numR_bad s.data.toList d)
  generalize numR s.data.toList d = R at HOK HBAD
  go_enter Tryz.func221, Tryz.ntmps221
  go_upto_if 9 with (fail)
  go_cut [1] (fun v1 wc => v1 = .int .i64 (max 1 d) ∧ wc = w)
  case first =>
    by_cases h1 : d < 1
    · have e : (max 1 d : Int) = 1 := by omega
      go_wp2
      go_meet
      case rel => exact ⟨by rw [e], rfl⟩
    · have e : (max 1 d : Int) = d := by omega
      go_wp2
      go_meet
      case rel => exact ⟨by rw [e], rfl⟩
  case rest =>
    obtain ⟨rfl, hw⟩ := hcut
    rw [hw]
    clear hw wc
    generalize hM1 : (max 1 d : Int) = M1
    have HM1 := Lib.hid hM1
    clear hM1
    go_upto_if 11 with (fail)
    go_cut [1] (fun v1 wc => v1 = .int .i64 (min M1 15) ∧ wc = w)
    case first =>
      by_cases h1 : 15 < M1
      · have e : (min M1 15 : Int) = 15 := by omega
        go_wp2
        go_meet
        case rel => exact ⟨by rw [e], rfl⟩
      · have e : (min M1 15 : Int) = M1 := by omega
        go_wp2
        go_meet
        case rel => exact ⟨by rw [e], rfl⟩
    case rest =>
    obtain ⟨rfl, hw⟩ := hcut
    rw [hw]
    clear hw wc
    have hMM : (min M1 15 : Int) = max 1 (min d 15) := by have := HM1.out; omega
    rw [hMM]
    clear hMM
    generalize hM : (max 1 (min d 15) : Int) = M
    have HM := Lib.hid hM
    clear hM
    by_cases h0 : s.size < 1
    · have e := Lib.hid (HBAD.out (by rw [size_zero (by omega : s.size = 0)]; simp [numOk]))
      have h00 : (s.size : Int) < 1 := by omega
      go_wp2
      go_ret2
      exact ⟨by rw [e.out]; rfl, rfl⟩
    · have h00 : ¬ (s.size : Int) < 1 := by omega
      by_cases hM : M < (s.size : Int)
      · have e := Lib.hid (HBAD.out (by simp only [numOk, list_len, HM.out]; rw [decide_eq_false (by omega)]; simp))
        go_wp2
        go_ret2
        exact ⟨by rw [e.out]; rfl, rfl⟩
      · have h15 : s.size ≤ 15 := by have := HM.out; omega
        have hne : s.data.toList.isEmpty = false := list_ne (by rintro rfl; exact h0 (by decide))
        have HOK2 := Lib.hid (fun hd : s.data.toList.all digitB = true => HOK.out (by simp only [numOk, list_len, hd, hne, HM.out]; rw [decide_eq_true (by omega)]; rfl))
        have HBAD2 := Lib.hid (fun hd : s.data.toList.all digitB = false => HBAD.out (by simp [numOk, hd]))
        clear hne
        go_wp2_with fail
        go_loopg [6, 7] s.size (fun g v6 v7 W => NumRelR s w g v6 v7 W)
        case atStart => exact ⟨0, rfl, by omega, by omega, by simp [numV], rfl, rfl⟩
        case round =>
          obtain ⟨i, rfl, hi, hg, rfl, hall, rfl⟩ := hrel
          have HG := Lib.hid hg
          have HA := Lib.hid hall
          clear hg hall
          by_cases hlt : i < s.size
          · have hlt0 : (i : Int) < (s.size : Int) := by omega
            have hnn : (0 : Int) ≤ (i : Int) := by omega
            by_cases hlo : (s[i].toNat : Int) < 48
            · have hbad : s.data.toList.all digitB = false := by
                cases h : s.data.toList.all digitB with
                | false => rfl
                | true =>
                  have := List.all_eq_true.1 h _ (list_at s i hlt)
                  simp only [digitB, Bool.and_eq_true, decide_eq_true_eq] at this
                  omega
              have HB := Lib.hid (HBAD2.out hbad)
              clear hbad
              go_wp2
              go_ret2
              exact ⟨by rw [HB.out]; rfl, rfl⟩
            · by_cases hhi : (57 : Int) < (s[i].toNat : Int)
              · have hbad : s.data.toList.all digitB = false := by
                  cases h : s.data.toList.all digitB with
                  | false => rfl
                  | true =>
                    have := List.all_eq_true.1 h _ (list_at s i hlt)
                    simp only [digitB, Bool.and_eq_true, decide_eq_true_eq] at this
                    omega
                have HB := Lib.hid (HBAD2.out hbad)
                clear hbad
                go_wp2
                go_ret2
                exact ⟨by rw [HB.out]; rfl, rfl⟩
              · have hn := numV_small (s.data.toList.take i) (by rw [List.length_take, list_len]; omega) HA.out
                have hts := take_snoc s i hlt
                have HS := Lib.hid (show numV (s.data.toList.take (i + 1)) = 10 * numV (s.data.toList.take i) + (s[i].toNat - 48) by rw [hts, numV_snoc])
                have HA2 := Lib.hid (show (s.data.toList.take (i + 1)).all digitB = true by rw [hts, List.all_append, HA.out]; simp only [digitB, List.all_cons, List.all_nil, Bool.and_true, Bool.true_and, Bool.and_eq_true, decide_eq_true_eq]; omega)
                clear hts
                generalize numV (s.data.toList.take i) = n at hn HS
                have hw1 : IntKind.i64.wrap (10 * (n : Int)) = 10 * (n : Int) := by rw [IntKind.wrap_i64]; omega
                have hw2 : IntKind.u8.wrap ((s[i].toNat : Int) - 48) = ((s[i].toNat - 48 : Nat) : Int) := by rw [IntKind.wrap_u8]; omega
                have hw4 : IntKind.i64.wrap ((s[i].toNat - 48 : Nat) : Int) = ((s[i].toNat - 48 : Nat) : Int) := by rw [IntKind.wrap_i64]; omega
                have hw3 : IntKind.i64.wrap (10 * (n : Int) + ((s[i].toNat - 48 : Nat) : Int)) = ((10 * n + (s[i].toNat - 48) : Nat) : Int) := by rw [IntKind.wrap_i64]; omega
                go_wp2_with fail
                go_roundg (s.size - (i + 1))
                case rel => exact ⟨i + 1, by go_num, by omega, rfl, by rw [HS.out]; simp only [Value.int.injEq, true_and]; omega, HA2.out, rfl⟩
                case measure => have := HG.out; omega
          · have hge : ¬ (i : Int) < (s.size : Int) := by omega
            have : i = s.size := by omega
            subst this
            have hA := HA.out
            rw [take_all] at hA
            rw [take_all]
            have HB := Lib.hid (HOK2.out hA)
            clear hA
            go_wp2
            go_ret2
            exact ⟨by rw [HB.out]; rfl, rfl⟩
end Go.Proofs.YtkoncmmbdlnmfaaGreatDoor
