/- text.Comment and text.Blank: how many bytes, and the error, for every text of at most 10^12 bytes. -/
import Derived.Test.YtffngbjnbigipaaGreatDoorRefs
import Derived.Test.YtffngbjnbigipaaGreatDoorBlankP
namespace Go.Proofs.YtffngbjnbigipaaGreatDoor
open Go.RowKit Go.Lib
set_option linter.unusedSimpArgs false
set_option linter.unusedVariables false
set_option linter.unnecessarySimpa false
set_option maxRecDepth 100000

def ComRel (s : ByteArray) (w : World) (R : Nat × Nat) (g : Nat) (v4 v5 : Value) (W : World) : Prop :=
  ∃ k deep : Nat, v4 = .int .i64 (deep : Int) ∧ v5 = .int .i64 (k : Int) ∧ k ≤ s.size ∧ g = s.size - k ∧ deep ≤ 8 ∧ (deep = 0 → k = 0) ∧ W = w ∧ comGo (s.data.toList.drop k) deep k = R
def comV (R : Nat × Nat) : Value := .tuple #[.int .i64 (R.1 : Int), .int .i64 (R.2 : Int)]
set_option maxHeartbeats 8000000 in
theorem Comment_any (s : ByteArray) (hs : s.size ≤ 1000000000000) (w : World) : Calls Tryz.prog 178 #[.string s] w fun e w' => e = .returned (comV (commentL s.data.toList)) ∧ w' = w := by
  by_cases hne : s = ⟨#[]⟩
  · subst hne
    go_enter Tryz.func178, Tryz.ntmps178
    go_wp2
    go_ret2
    exact ⟨rfl, rfl⟩
  · have hie : s.toList.isEmpty = false := text_isE hne
    have hpos := text_len hne
    have hpos0 : (0 : Int) < (s.size : Int) := by omega
    have hh : s.data.toList.head? = some s[0] := by
      have hl := drop_cons s 0 hpos
      rw [List.drop_zero] at hl
      rw [hl]; rfl
    by_cases h40 : s[0] = 40
    · have hq : ((s[0].toNat : Int) != 40) = false := by rw [h40]; rfl
      have hR : commentL s.data.toList = comGo s.data.toList 0 0 := by unfold commentL; rw [hh, if_pos (by rw [h40])]
      rw [hR]
      generalize hX : comGo s.data.toList 0 0 = R
      have HX := Lib.hid hX
      have H40 := Lib.hid h40
      clear hX hR hne hh h40
      go_enter Tryz.func178, Tryz.ntmps178
      go_wp2_with fail
      go_loopg [4, 5] s.size (fun g v4 v5 W => ComRel s w R g v4 v5 W)
      case atStart => exact ⟨0, 0, rfl, rfl, by omega, by omega, by omega, fun _ => rfl, rfl, by rw [List.drop_zero]; exact HX.out⟩
      case round =>
        obtain ⟨k, deep, rfl, rfl, hk, hg, hd8, hd0, rfl, hR⟩ := hrel
        have HG := Lib.hid hg
        have HD0 := Lib.hid hd0
        clear hg hd0
        by_cases hlt : k < s.size
        · have hk0 : (0 : Int) ≤ (k : Int) := by omega
          have hk1 : (k : Int) < (s.size : Int) := by omega
          have hwr : IntKind.i64.wrap ((k : Int) + 1) = (k : Int) + 1 := by rw [IntKind.wrap_i64]; omega
          have hwd : IntKind.i64.wrap ((deep : Int) + 1) = ((deep + 1 : Nat) : Int) := by rw [IntKind.wrap_i64]; omega
          rw [drop_cons s k hlt] at hR
          by_cases h1 : s[k].toNat = 40
          · have hq1 : ((s[k].toNat : Int) == 40) = true := by rw [h1]; rfl
            rw [com_open _ _ _ _ h1] at hR
            by_cases h8 : 8 ≤ deep
            · have h80 : (8 : Int) < ((deep + 1 : Nat) : Int) := by omega
              rw [if_pos h8] at hR
              subst hR
              go_wp2
              go_ret2
              exact ⟨rfl, rfl⟩
            · have h80 : ¬ (8 : Int) < ((deep + 1 : Nat) : Int) := by omega
              rw [if_neg h8] at hR
              have HR := Lib.hid hR
              clear hR
              go_wp2_with fail
              go_roundg (s.size - (k + 1))
              case rel => exact ⟨k + 1, deep + 1, rfl, by go_num, by omega, rfl, by omega, fun h => by omega, rfl, HR.out⟩
              case measure => have := HG.out; omega
          · have hq1 : ((s[k].toNat : Int) == 40) = false := by rw [beq_eq_false_iff_ne]; omega
            by_cases h2 : s[k].toNat = 41
            · have hq2 : ((s[k].toNat : Int) == 41) = true := by rw [h2]; rfl
              have hd1 : 1 ≤ deep := by
                rcases Nat.eq_zero_or_pos deep with h | h
                · have hk00 := HD0.out h
                  subst hk00
                  have := H40.out
                  rw [this] at h1
                  exact absurd rfl h1
                · exact h
              have hwm : IntKind.i64.wrap ((deep : Int) - 1) = ((deep - 1 : Nat) : Int) := by rw [IntKind.wrap_i64]; omega
              rw [com_close _ _ _ _ h2] at hR
              by_cases hd : deep = 1
              · subst hd
                rw [if_pos rfl] at hR
                subst hR
                go_wp2
                go_ret2
                exact ⟨rfl, rfl⟩
              · have hdz : (((deep - 1 : Nat) : Int) == 0) = false := by rw [beq_eq_false_iff_ne]; omega
                rw [if_neg hd] at hR
                have HR := Lib.hid hR
                clear hR
                go_wp2_with fail
                go_roundg (s.size - (k + 1))
                case rel => exact ⟨k + 1, deep - 1, rfl, by go_num, by omega, rfl, by omega, fun h => by omega, rfl, HR.out⟩
                case measure => have := HG.out; omega
            · have hq2 : ((s[k].toNat : Int) == 41) = false := by rw [beq_eq_false_iff_ne]; omega
              by_cases h3 : s[k].toNat = 92
              · have hq3 : ((s[k].toNat : Int) == 92) = true := by rw [h3]; rfl
                by_cases hlt2 : k + 1 < s.size
                · rw [drop_cons s (k + 1) hlt2] at hR
                  cases hp : plainB s[k + 1].toNat with
                  | true =>
                    have hP := pair_ok s hs k hlt2 hp wr
                    rw [com_back _ _ _ _ _ h3 hp] at hR
                    have HR := Lib.hid hR
                    generalize s[k + 1] = d at hP
                    have hwr2 : IntKind.i64.wrap ((k : Int) + 1 + 1) = ((k + 2 : Nat) : Int) := by rw [IntKind.wrap_i64]; omega
                    clear hR hp
                    go_wp2_with fail
                    refine hP.mono ?_
                    rintro e w2 ⟨rfl, hw2⟩
                    rw [hw2]
                    clear hw2 w2 hP
                    go_wp2_with fail
                    go_roundg (s.size - (k + 2))
                    case rel => exact ⟨k + 2, deep, rfl, rfl, by omega, rfl, hd8, fun h => by have := HD0.out h; subst this; have := H40.out; rw [this] at h1; exact absurd rfl h1, rfl, HR.out⟩
                    case measure => have := HG.out; omega
                  | false =>
                    have hP := pair_bad s hs k hlt2 hp wr
                    rw [com_back_bad _ _ _ _ _ h3 hp] at hR
                    subst hR
                    clear hp
                    go_wp2_with fail
                    refine hP.mono ?_
                    rintro e w2 ⟨rfl, hw2⟩
                    rw [hw2]
                    clear hw2 w2 hP
                    go_wp2
                    go_ret2
                    exact ⟨rfl, rfl⟩
                · have hP := pair_end s hs k hlt2 hlt wr
                  have hnil : s.data.toList.drop (k + 1) = [] := List.drop_eq_nil_of_le (by simp; omega)
                  rw [hnil, com_back_end _ _ _ h3] at hR
                  subst hR
                  go_wp2_with fail
                  refine hP.mono ?_
                  rintro e w2 ⟨rfl, hw2⟩
                  rw [hw2]
                  clear hw2 w2 hP
                  go_wp2
                  go_ret2
                  exact ⟨rfl, rfl⟩
              · have hq3 : ((s[k].toNat : Int) == 92) = false := by rw [beq_eq_false_iff_ne]; omega
                have hkk : deep = 0 → k + 1 = 0 := fun h => by have := HD0.out h; subst this; have := H40.out; rw [this] at h1; exact absurd rfl h1
                have HKK := Lib.hid hkk
                clear hkk
                by_cases h9 : s[k].toNat = 9
                · have hq9 : ((s[k].toNat : Int) != 9) = false := by rw [h9]; rfl
                  rw [com_in _ _ _ _ h1 h2 h3 (by unfold inB; rw [h9]; rfl)] at hR
                  have HR := Lib.hid hR
                  clear hR
                  go_wp2_with fail
                  go_roundg (s.size - (k + 1))
                  case rel => exact ⟨k + 1, deep, rfl, by go_num, by omega, rfl, hd8, HKK.out, rfl, HR.out⟩
                  case measure => have := HG.out; omega
                · have hq9 : ((s[k].toNat : Int) != 9) = true := by rw [bne_iff_ne]; omega
                  have hP := plain_text s[k].toNat wr
                  have hin : inB s[k].toNat = plainB s[k].toNat := by unfold inB; rw [show (s[k].toNat == 9) = false by rw [beq_eq_false_iff_ne]; exact h9]; rfl
                  cases hp : plainB s[k].toNat with
                  | true =>
                    rw [hp] at hP hin
                    rw [com_in _ _ _ _ h1 h2 h3 hin] at hR
                    have HR := Lib.hid hR
                    clear hR hp hin
                    go_wp2_with fail
                    refine hP.mono ?_
                    rintro e w2 ⟨rfl, hw2⟩
                    rw [hw2]
                    clear hw2 w2 hP
                    go_wp2_with fail
                    go_roundg (s.size - (k + 1))
                    case rel => exact ⟨k + 1, deep, rfl, by go_num, by omega, rfl, hd8, HKK.out, rfl, HR.out⟩
                    case measure => have := HG.out; omega
                  | false =>
                    rw [hp] at hP hin
                    rw [com_bad _ _ _ _ h1 h2 h3 hin] at hR
                    subst hR
                    clear hp hin
                    go_wp2_with fail
                    refine hP.mono ?_
                    rintro e w2 ⟨rfl, hw2⟩
                    rw [hw2]
                    clear hw2 w2 hP
                    go_wp2
                    go_ret2
                    exact ⟨rfl, rfl⟩
        · have hnil : s.data.toList.drop k = [] := List.drop_eq_nil_of_le (by simp; omega)
          have hge : ¬ (k : Int) < (s.size : Int) := by omega
          rw [hnil] at hR
          have hR2 : (0, 4) = R := by rw [← hR]; rfl
          subst hR2
          clear hR
          go_wp2
          go_ret2
          exact ⟨rfl, rfl⟩
    · have hq : ((s[0].toNat : Int) != 40) = true := by
        rw [bne_iff_ne]; intro e; exact h40 (UInt8.toNat_inj.1 (by show s[0].toNat = 40; omega))
      have hR : commentL s.data.toList = (0, 5) := by unfold commentL; rw [hh, if_neg (by intro e; exact h40 (Option.some.inj e))]
      rw [hR]
      clear hR hne hh h40
      go_enter Tryz.func178, Tryz.ntmps178
      go_wp2
      go_ret2
      exact ⟨rfl, rfl⟩

def BlRel (s : ByteArray) (w : World) (R : Nat × Nat) (g : Nat) (v2 : Value) (W : World) : Prop :=
  ∃ k f : Nat, v2 = .int .i64 (k : Int) ∧ k ≤ s.size ∧ g = s.size - k ∧ s.size - k ≤ f ∧ W = w ∧ blGo f (s.data.toList.drop k) k = R
set_option maxHeartbeats 8000000 in
theorem Blank_any (s : ByteArray) (hs : s.size ≤ 1000000000000) (w : World) : Calls Tryz.prog 152 #[.string s] w fun e w' => e = .returned (comV (blankL s.data.toList)) ∧ w' = w := by
  generalize hX : blankL s.data.toList = R
  have HX := Lib.hid hX
  clear hX
  go_enter Tryz.func152, Tryz.ntmps152
  go_wp2_with fail
  go_loopg [2] s.size (fun g v2 W => BlRel s w R g v2 W)
  case atStart => exact ⟨0, s.size, rfl, by omega, by omega, by omega, rfl, by have := HX.out; unfold blankL at this; rw [list_len] at this; rw [List.drop_zero]; exact this⟩
  case round =>
    obtain ⟨k, f, rfl, hk, hg, hf, rfl, hR⟩ := hrel
    have HG := Lib.hid hg
    clear hg
    by_cases hlt : k < s.size
    · have hk0 : (0 : Int) ≤ (k : Int) := by omega
      have hk1 : (k : Int) < (s.size : Int) := by omega
      have hk2 : (k : Int) ≤ (s.size : Int) := by omega
      have hwr : IntKind.i64.wrap ((k : Int) + 1) = (k : Int) + 1 := by rw [IntKind.wrap_i64]; omega
      obtain ⟨f', rfl⟩ : ∃ f', f = f' + 1 := ⟨f - 1, by omega⟩
      have hdc := drop_cons s k hlt
      rw [hdc] at hR
      unfold blGo at hR
      by_cases h1 : s[k].toNat = 32 ∨ s[k].toNat = 9
      · rw [if_pos h1] at hR
        have HR := Lib.hid hR
        clear hR hdc
        rcases h1 with h1 | h1
        · have hq1 : ((s[k].toNat : Int) == 32) = true := by rw [h1]; rfl
          go_wp2_with fail
          go_roundg (s.size - (k + 1))
          case rel => exact ⟨k + 1, f', by go_num, by omega, rfl, by omega, rfl, HR.out⟩
          case measure => have := HG.out; omega
        · have hq1 : ((s[k].toNat : Int) == 32) = false := by rw [h1]; rfl
          have hq2 : ((s[k].toNat : Int) == 9) = true := by rw [h1]; rfl
          go_wp2_with fail
          go_roundg (s.size - (k + 1))
          case rel => exact ⟨k + 1, f', by go_num, by omega, rfl, by omega, rfl, HR.out⟩
          case measure => have := HG.out; omega
      · rw [if_neg h1] at hR
        have hq1 : ((s[k].toNat : Int) == 32) = false := by rw [beq_eq_false_iff_ne]; omega
        have hq2 : ((s[k].toNat : Int) == 9) = false := by rw [beq_eq_false_iff_ne]; omega
        clear h1
        by_cases h4 : s[k].toNat = 40
        · have hq4 : ((s[k].toNat : Int) == 40) = true := by rw [h4]; rfl
          rw [if_pos h4, ← hdc] at hR
          have hC := Comment_any (s.extract k s.size) (by simp; omega) wr
          have e1 : (s.extract k s.size).data.toList = s.data.toList.drop k := by rw [ext_drop]
          rw [e1] at hC
          have hm := comment_many (s.data.toList.drop k)
          rw [List.length_drop, list_len] at hm
          generalize hCL : commentL (s.data.toList.drop k) = C at hC hm hR
          obtain ⟨n, er⟩ := C
          simp only [comV] at hC
          simp only at hm hR
          clear hCL e1 hdc
          by_cases he : er = 0
          · subst he
            rw [if_pos rfl, List.drop_drop] at hR
            have hn := hm.1 rfl
            have hn2 := hm.2
            have hwn : IntKind.i64.wrap ((k : Int) + (n : Int)) = ((k + n : Nat) : Int) := by rw [IntKind.wrap_i64]; omega
            have HR := Lib.hid hR
            clear hR hm
            go_wp2_with fail
            refine hC.mono ?_
            rintro e w2 ⟨rfl, hw2⟩
            rw [hw2]
            clear hw2 w2 hC
            go_wp2_with fail
            go_roundg (s.size - (k + n))
            case rel => exact ⟨k + n, f', rfl, by omega, rfl, by omega, rfl, HR.out⟩
            case measure => have := HG.out; omega
          · have he0 : ((er : Int) != 0) = true := by rw [bne_iff_ne]; omega
            rw [if_neg he] at hR
            subst hR
            clear hm
            go_wp2_with fail
            refine hC.mono ?_
            rintro e w2 ⟨rfl, hw2⟩
            rw [hw2]
            clear hw2 w2 hC
            go_wp2
            go_ret2
            exact ⟨rfl, rfl⟩
        · have hq4 : ((s[k].toNat : Int) == 40) = false := by rw [beq_eq_false_iff_ne]; omega
          rw [if_neg h4] at hR
          subst hR
          clear hdc
          go_wp2
          go_ret2
          exact ⟨rfl, rfl⟩
    · have hnil : s.data.toList.drop k = [] := List.drop_eq_nil_of_le (by simp; omega)
      have hge : ¬ (k : Int) < (s.size : Int) := by omega
      rw [hnil] at hR
      have hR2 : (k, 0) = R := by rw [← hR]; cases f <;> rfl
      subst hR2
      clear hR
      go_wp2
      go_ret2
      exact ⟨rfl, rfl⟩
end Go.Proofs.YtffngbjnbigipaaGreatDoor
