/- The document's comments and white space: the same ends and errors as the plain functions tell, for every text of at most 10^9 bytes. -/
import Derived.Test.YtffngbjnbigipaaGreatDoorBlank
namespace Go.Proofs.YtffngbjnbigipaaGreatDoor
open Go.RowKit Go.Lib
set_option linter.unusedSimpArgs false
set_option linter.unusedVariables false
set_option linter.unnecessarySimpa false
set_option maxRecDepth 100000

/-- what a comment from a place on, so deep, comes to. -/
def ComR (l : List UInt8) (a deep : Nat) (R : Nat × Nat) : Prop :=
  (R.2 = 0 → a < R.1 ∧ R.1 ≤ l.length) ∧ (R.2 ≠ 0 → R.1 = 0) ∧
  comGo (l.drop (a + 1)) deep (a + 1) = (if R.2 = 0 then (if deep = 1 then (R.1, 0) else comGo (l.drop R.1) (deep - 1) R.1) else (0, R.2))
def CmP (l : List UInt8) (a deep : Nat) (e : Ending) : Prop := ∃ R : Nat × Nat, e = .returned (comV R) ∧ ComR l a deep R
theorem ComR.err {l : List UInt8} {a deep e : Nat} (he : e ≠ 0) (h : comGo (l.drop (a + 1)) deep (a + 1) = (0, e)) : ComR l a deep (0, e) :=
  ⟨fun h0 => absurd h0 he, fun _ => rfl, by rw [if_neg he]; exact h⟩
theorem comment_deep (s : ByteArray) (a : Nat) (w : World) : Calls Tryz.prog 187 #[.string s, .int .i64 (a : Int), .int .i64 9] w fun e w' => e = .returned (comV (0, 3)) ∧ w' = w := by
  go_enter Tryz.func187, Tryz.ntmps187
  go_wp2
  go_ret2
  exact ⟨rfl, rfl⟩
def CmRel (s : ByteArray) (a : Nat) (G : Nat × Nat) (deep : Nat) (w : World) (g : Nat) (v1 : Value) (W : World) : Prop :=
  ∃ p : Nat, v1 = .int .i64 (p : Int) ∧ a < p ∧ p ≤ s.size ∧ g = s.size - p ∧ W = w ∧ comGo (s.data.toList.drop p) deep p = G
set_option maxHeartbeats 8000000 in
theorem comment_ref (s : ByteArray) (hs : s.size ≤ 1000000000) : ∀ (n a deep : Nat) (w : World), s.size - a ≤ n → a < s.size → 1 ≤ deep → deep ≤ 8 →
    Calls Tryz.prog 187 #[.string s, .int .i64 (a : Int), .int .i64 (deep : Int)] w fun e w' => CmP s.data.toList a deep e ∧ w' = w
  | 0, a, deep, w, hn, ha, _, _ => by omega
  | n + 1, a, deep, w, hn, ha, hd1, hd8 => by
    have IH := Lib.hid (comment_ref s hs n)
    generalize hG : comGo (s.data.toList.drop (a + 1)) deep (a + 1) = G
    have HG0 := Lib.hid hG
    have hk0 : (0 : Int) ≤ (a : Int) := by omega
    have hk1 : (a : Int) < (s.size : Int) := by omega
    have hwa : IntKind.i64.wrap ((a : Int) + 1) = ((a + 1 : Nat) : Int) := by rw [IntKind.wrap_i64]; omega
    have hd9 : ¬ (8 : Int) < (deep : Int) := by omega
    clear hG
    go_enter Tryz.func187, Tryz.ntmps187
    go_wp2_with fail
    go_loopg [1] (s.size - (a + 1)) (fun g v1 W => CmRel s a G deep w g v1 W)
    case atStart => exact ⟨a + 1, rfl, by omega, by omega, rfl, rfl, HG0.out⟩
    case round =>
      obtain ⟨p, rfl, hap, hp, hg, rfl, hR⟩ := hrel
      have HG := Lib.hid hg
      have hp0 : (0 : Int) ≤ (p : Int) := by omega
      clear hg hk0 hk1 hwa
      by_cases hlt : p < s.size
      · have hp1 : (p : Int) < (s.size : Int) := by omega
        have hwr : IntKind.i64.wrap ((p : Int) + 1) = ((p + 1 : Nat) : Int) := by rw [IntKind.wrap_i64]; omega
        rw [drop_cons s p hlt] at hR
        by_cases h41 : s[p].toNat = 41
        · have hq : ((s[p].toNat : Int) == 41) = true := by rw [h41]; rfl
          rw [com_close _ _ _ _ h41] at hR
          have HR := Lib.hid hR
          clear hR h41
          go_wp2
          go_ret2
          exact ⟨⟨(p + 1, 0), rfl, fun _ => ⟨by show a < p + 1; omega, by rw [list_len]; show p + 1 ≤ s.size; omega⟩, fun h => absurd rfl h, by rw [HG0.out, ← HR.out]; rfl⟩, rfl⟩
        · have hq1 : ((s[p].toNat : Int) == 41) = false := by rw [beq_eq_false_iff_ne]; omega
          by_cases h40 : s[p].toNat = 40
          · have hq2 : ((s[p].toNat : Int) == 40) = true := by rw [h40]; rfl
            have hwd : IntKind.i64.wrap ((deep : Int) + 1) = ((deep + 1 : Nat) : Int) := by rw [IntKind.wrap_i64]; omega
            rw [com_open _ _ _ _ h40] at hR
            by_cases h8 : 8 ≤ deep
            · obtain rfl : deep = 8 := by omega
              rw [if_pos h8] at hR
              have HR := Lib.hid hR
              clear hR h40 h41
              go_wp2_with fail
              refine (comment_deep s p _).mono ?_
              rintro e w2 ⟨rfl, hw2⟩
              rw [hw2]
              simp only [comV]
              go_wp2
              go_ret2
              exact ⟨⟨(0, 3), rfl, .err (by decide) (by rw [HG0.out, ← HR.out])⟩, rfl⟩
            · rw [if_neg h8] at hR
              have hC := IH.out p (deep + 1) wr (by omega) hlt (by omega) (by omega)
              have HC := Lib.hid hC
              have HR := Lib.hid hR
              clear hR h40 h41 hC
              go_wp2_with fail
              refine HC.out.mono ?_
              rintro e w2 ⟨⟨R, rfl, hRR⟩, hw2⟩
              rw [hw2]
              obtain ⟨m, er⟩ := R
              obtain ⟨r1, r2, r3⟩ := hRR
              simp only at r1 r2 r3
              by_cases he : er = 0
              · subst he
                obtain ⟨r1a, r1b⟩ := r1 rfl
                rw [list_len] at r1b
                rw [if_pos rfl, if_neg (by omega), show deep + 1 - 1 = deep by omega] at r3
                have HR3 := Lib.hid r3
                clear r1 r2 r3
                simp only [comV]
                go_wp2_with fail
                go_roundg (s.size - m)
                case rel => exact ⟨m, rfl, by omega, r1b, rfl, rfl, by rw [← HR3.out]; exact HR.out⟩
                case measure => have := HG.out; omega
              · have he0 : ((er : Int) != 0) = true := by rw [bne_iff_ne]; omega
                rw [if_neg he] at r3
                have HR3 := Lib.hid r3
                have HE := Lib.hid he
                clear r1 r2 r3 he
                simp only [comV]
                go_wp2
                go_ret2
                exact ⟨⟨(0, er), rfl, .err HE.out (by rw [HG0.out, ← HR.out]; exact HR3.out)⟩, rfl⟩
          · have hq2 : ((s[p].toNat : Int) == 40) = false := by rw [beq_eq_false_iff_ne]; omega
            by_cases h92 : s[p].toNat = 92
            · have hq3 : ((s[p].toNat : Int) == 92) = true := by rw [h92]; rfl
              by_cases hlt2 : p + 1 < s.size
              · have hp2 : ¬ (s.size : Int) ≤ ((p + 1 : Nat) : Int) := by omega
                have hp3 : (0 : Int) ≤ ((p + 1 : Nat) : Int) := by omega
                have hp4 : ((p + 1 : Nat) : Int) < (s.size : Int) := by omega
                have hwr2 : IntKind.i64.wrap (((p + 1 : Nat) : Int) + 1) = ((p + 2 : Nat) : Int) := by rw [IntKind.wrap_i64]; omega
                rw [drop_cons s (p + 1) hlt2] at hR
                have hP := plain_ref s[p + 1].toNat wr
                cases hb : plainB s[p + 1].toNat with
                | true =>
                  rw [hb] at hP
                  rw [com_back _ _ _ _ _ h92 hb] at hR
                  have HR := Lib.hid hR
                  have HP := Lib.hid hP
                  clear hR hP hb h92 h40 h41
                  go_wp2_with fail
                  refine HP.out.mono ?_
                  rintro e w2 ⟨rfl, hw2⟩
                  rw [hw2]
                  clear hw2 w2
                  go_wp2_with fail
                  go_roundg (s.size - (p + 2))
                  case rel => exact ⟨p + 2, rfl, by omega, by omega, rfl, rfl, HR.out⟩
                  case measure => have := HG.out; omega
                | false =>
                  rw [hb] at hP
                  rw [com_back_bad _ _ _ _ _ h92 hb] at hR
                  have HR := Lib.hid hR
                  have HP := Lib.hid hP
                  clear hR hP hb h92 h40 h41
                  go_wp2_with fail
                  refine HP.out.mono ?_
                  rintro e w2 ⟨rfl, hw2⟩
                  rw [hw2]
                  clear hw2 w2
                  go_wp2
                  go_ret2
                  exact ⟨⟨(0, 5), rfl, .err (by decide) (by rw [HG0.out, ← HR.out])⟩, rfl⟩
              · have hp2 : (s.size : Int) ≤ ((p + 1 : Nat) : Int) := by omega
                have hnil : s.data.toList.drop (p + 1) = [] := List.drop_eq_nil_of_le (by simp; omega)
                rw [hnil, com_back_end _ _ _ h92] at hR
                have HR := Lib.hid hR
                clear hR hnil h92 h40 h41
                go_wp2
                go_ret2
                exact ⟨⟨(0, 4), rfl, .err (by decide) (by rw [HG0.out, ← HR.out])⟩, rfl⟩
            · have hq3 : ((s[p].toNat : Int) == 92) = false := by rw [beq_eq_false_iff_ne]; omega
              have hP := plain_ref s[p].toNat wr
              cases hb : plainB s[p].toNat with
              | true =>
                rw [hb] at hP
                rw [com_in _ _ _ _ h40 h41 h92 (by unfold inB; rw [hb]; simp)] at hR
                have HR := Lib.hid hR
                have HP := Lib.hid hP
                clear hR hP hb h92 h40 h41
                go_wp2_with fail
                refine HP.out.mono ?_
                rintro e w2 ⟨rfl, hw2⟩
                rw [hw2]
                clear hw2 w2
                go_wp2_with fail
                go_roundg (s.size - (p + 1))
                case rel => exact ⟨p + 1, rfl, by omega, by omega, rfl, rfl, HR.out⟩
                case measure => have := HG.out; omega
              | false =>
                rw [hb] at hP
                have HP := Lib.hid hP
                by_cases h9 : s[p].toNat = 9
                · have hq9 : ((s[p].toNat : Int) != 9) = false := by rw [h9]; rfl
                  rw [com_in _ _ _ _ h40 h41 h92 (by unfold inB; rw [h9]; rfl)] at hR
                  have HR := Lib.hid hR
                  clear hR hP hb h92 h40 h41 h9
                  go_wp2_with fail
                  refine HP.out.mono ?_
                  rintro e w2 ⟨rfl, hw2⟩
                  rw [hw2]
                  clear hw2 w2
                  go_wp2_with fail
                  go_roundg (s.size - (p + 1))
                  case rel => exact ⟨p + 1, rfl, by omega, by omega, rfl, rfl, HR.out⟩
                  case measure => have := HG.out; omega
                · have hq9 : ((s[p].toNat : Int) != 9) = true := by rw [bne_iff_ne]; omega
                  rw [com_bad _ _ _ _ h40 h41 h92 (by unfold inB; rw [hb, show (s[p].toNat == 9) = false by rw [beq_eq_false_iff_ne]; exact h9]; rfl)] at hR
                  have HR := Lib.hid hR
                  clear hR hP hb h92 h40 h41 h9
                  go_wp2_with fail
                  refine HP.out.mono ?_
                  rintro e w2 ⟨rfl, hw2⟩
                  rw [hw2]
                  clear hw2 w2
                  go_wp2
                  go_ret2
                  exact ⟨⟨(0, 5), rfl, .err (by decide) (by rw [HG0.out, ← HR.out])⟩, rfl⟩
      · have hge : ¬ (p : Int) < (s.size : Int) := by omega
        have hnil : s.data.toList.drop p = [] := List.drop_eq_nil_of_le (by simp; omega)
        rw [hnil] at hR
        have HR := Lib.hid hR
        clear hR hnil
        go_wp2
        go_ret2
        exact ⟨⟨(0, 4), rfl, .err (by decide) (by rw [HG0.out, ← HR.out]; rfl)⟩, rfl⟩
theorem Comment_ref (s : ByteArray) (hs : s.size ≤ 1000000000) (w : World) : Calls Tryz.prog 182 #[.string s] w fun e w' => e = .returned (comV (commentL s.data.toList)) ∧ w' = w := by
  by_cases hlt : 0 < s.size
  · have hz : ((s.size : Int) == 0) = false := by rw [beq_eq_false_iff_ne]; omega
    have hp1 : (0 : Int) < (s.size : Int) := by omega
    have hl := drop_cons s 0 hlt
    rw [List.drop_zero] at hl
    by_cases h40 : s[0] = 40
    · have hq : ((s[0].toNat : Int) != 40) = false := by rw [h40]; rfl
      have hR : commentL s.data.toList = comGo (s.data.toList.drop 1) 1 1 := by
        unfold commentL
        rw [hl, List.head?_cons, if_pos (by rw [h40]), com_open _ _ _ _ (by rw [h40]; rfl)]
        simp
      have HC := Lib.hid (comment_ref s hs s.size 0 1 w (by omega) hlt (by omega) (by omega))
      have HR := Lib.hid hR
      clear hR hl h40
      go_enter Tryz.func182, Tryz.ntmps182
      go_wp2_with fail
      refine HC.out.mono ?_
      rintro e w2 ⟨⟨R, rfl, h1, h2, h3⟩, hw2⟩
      rw [hw2]
      obtain ⟨m, er⟩ := R
      have HX : Hid (commentL s.data.toList = (m, er)) := by
        refine Lib.hid ?_
        rw [HR.out, h3]
        by_cases he : er = 0
        · subst he; simp
        · have := h2 he
          simp only at this
          rw [if_neg he, this]
      clear h1 h2 h3
      simp only [comV]
      go_wp2
      go_ret2
      rw [HX.out]
      exact ⟨rfl, rfl⟩
    · have hq : ((s[0].toNat : Int) != 40) = true := by
        rw [bne_iff_ne]; intro e; exact h40 (UInt8.toNat_inj.1 (by show s[0].toNat = 40; omega))
      have hR : commentL s.data.toList = (0, 5) := by
        unfold commentL; rw [hl, List.head?_cons, if_neg (by intro e; exact h40 (Option.some.inj e))]
      rw [hR]
      clear hR hl h40
      go_enter Tryz.func182, Tryz.ntmps182
      go_wp2
      go_ret2
      exact ⟨rfl, rfl⟩
  · have hsz : s.size = 0 := by omega
    have hz : ((s.size : Int) == 0) = true := by rw [hsz]; rfl
    have hnil : s.data.toList = [] := List.eq_nil_of_length_eq_zero (by rw [list_len]; exact hsz)
    rw [hnil]
    clear hnil hsz
    go_enter Tryz.func182, Tryz.ntmps182
    go_wp2
    go_ret2
    exact ⟨rfl, rfl⟩
set_option maxHeartbeats 8000000 in
theorem Blank_ref (s : ByteArray) (hs : s.size ≤ 1000000000) (w : World) : Calls Tryz.prog 158 #[.string s] w fun e w' => e = .returned (comV (blankL s.data.toList)) ∧ w' = w := by
  generalize hX : blankL s.data.toList = R
  have HX := Lib.hid hX
  clear hX
  go_enter Tryz.func158, Tryz.ntmps158
  go_wp2_with fail
  go_loopg [4] s.size (fun g v4 W => BlRel s w R g v4 W)
  case atStart => exact ⟨0, s.size, rfl, by omega, by omega, by omega, rfl, by have := HX.out; unfold blankL at this; rw [list_len] at this; rw [List.drop_zero]; exact this⟩
  case round =>
    obtain ⟨k, f, rfl, hk, hg, hf, rfl, hR⟩ := hrel
    have HG := Lib.hid hg
    clear hg
    by_cases hlt : k < s.size
    · have hk0 : (0 : Int) ≤ (k : Int) := by omega
      have hk1 : (k : Int) < (s.size : Int) := by omega
      have hk2 : (k : Int) ≤ (s.size : Int) := by omega
      have hwr : IntKind.i64.wrap ((k : Int) + 1) = (k : Int) + 1 := by rw [IntKind.wrap_i64]; omega
      obtain ⟨f', rfl⟩ : ∃ f', f = f' + 1 := ⟨f - 1, by omega⟩
      have hdc := drop_cons s k hlt
      rw [hdc] at hR
      unfold blGo at hR
      by_cases h1 : s[k].toNat = 32 ∨ s[k].toNat = 9
      · rw [if_pos h1] at hR
        have HR := Lib.hid hR
        clear hR hdc
        rcases h1 with h1 | h1
        · have hq1 : ((s[k].toNat : Int) == 32) = true := by rw [h1]; rfl
          go_wp2_with fail
          go_roundg (s.size - (k + 1))
          case rel => exact ⟨k + 1, f', by go_num, by omega, rfl, by omega, rfl, HR.out⟩
          case measure => have := HG.out; omega
        · have hq1 : ((s[k].toNat : Int) == 32) = false := by rw [h1]; rfl
          have hq2 : ((s[k].toNat : Int) == 9) = true := by rw [h1]; rfl
          go_wp2_with fail
          go_roundg (s.size - (k + 1))
          case rel => exact ⟨k + 1, f', by go_num, by omega, rfl, by omega, rfl, HR.out⟩
          case measure => have := HG.out; omega
      · rw [if_neg h1] at hR
        have hq1 : ((s[k].toNat : Int) == 32) = false := by rw [beq_eq_false_iff_ne]; omega
        have hq2 : ((s[k].toNat : Int) == 9) = false := by rw [beq_eq_false_iff_ne]; omega
        clear h1
        by_cases h4 : s[k].toNat = 40
        · have hq4 : ((s[k].toNat : Int) != 40) = false := by rw [h4]; rfl
          rw [if_pos h4, ← hdc] at hR
          have hC := Comment_ref (s.extract k s.size) (by simp; omega) wr
          have e1 : (s.extract k s.size).data.toList = s.data.toList.drop k := by rw [ext_drop]
          rw [e1] at hC
          have hm := comment_many (s.data.toList.drop k)
          rw [List.length_drop, list_len] at hm
          generalize hCL : commentL (s.data.toList.drop k) = C at hC hm hR
          obtain ⟨n, er⟩ := C
          simp only [comV] at hC
          simp only at hm hR
          clear hCL e1 hdc
          by_cases he : er = 0
          · subst he
            rw [if_pos rfl, List.drop_drop] at hR
            have hn := hm.1 rfl
            have hn2 := hm.2
            have hwn : IntKind.i64.wrap ((k : Int) + (n : Int)) = ((k + n : Nat) : Int) := by rw [IntKind.wrap_i64]; omega
            have HR := Lib.hid hR
            clear hR hm
            go_wp2_with fail
            refine hC.mono ?_
            rintro e w2 ⟨rfl, hw2⟩
            rw [hw2]
            clear hw2 w2 hC
            go_wp2_with fail
            go_roundg (s.size - (k + n))
            case rel => exact ⟨k + n, f', rfl, by omega, rfl, by omega, rfl, HR.out⟩
            case measure => have := HG.out; omega
          · have he0 : ((er : Int) != 0) = true := by rw [bne_iff_ne]; omega
            rw [if_neg he] at hR
            subst hR
            clear hm
            go_wp2_with fail
            refine hC.mono ?_
            rintro e w2 ⟨rfl, hw2⟩
            rw [hw2]
            clear hw2 w2 hC
            go_wp2
            go_ret2
            exact ⟨rfl, rfl⟩
        · have hq4 : ((s[k].toNat : Int) != 40) = true := by rw [bne_iff_ne]; omega
          rw [if_neg h4] at hR
          subst hR
          clear hdc
          go_wp2
          go_ret2
          exact ⟨rfl, rfl⟩
    · have hnil : s.data.toList.drop k = [] := List.drop_eq_nil_of_le (by simp; omega)
      have hge : ¬ (k : Int) < (s.size : Int) := by omega
      rw [hnil] at hR
      have hR2 : (k, 0) = R := by rw [← hR]; cases f <;> rfl
      subst hR2
      clear hR
      go_wp2
      go_ret2
      exact ⟨rfl, rfl⟩
end Go.Proofs.YtffngbjnbigipaaGreatDoor
