/- Several texts joined into one (a claim has a limit of files). -/
import Derived.Test.YtffngbjnbigipaaGreatDoorBlank
import Derived.Test.YtffngbjnbigipaaGreatDoorRWord
/- The document's comments and white space: the same ends and errors as the plain functions tell, for every text of at most 10^9 bytes. -/
namespace Go.Proofs.YtffngbjnbigipaaGreatDoor
open Go.RowKit Go.Lib
set_option linter.unusedSimpArgs false
set_option linter.unusedVariables false
set_option linter.unnecessarySimpa false
set_option maxRecDepth 100000

/-- what a comment from a place on, so deep, comes to. -/
def ComR (l : List UInt8) (a deep : Nat) (R : Nat × Nat) : Prop :=
  (R.2 = 0 → a < R.1 ∧ R.1 ≤ l.length) ∧ (R.2 ≠ 0 → R.1 = 0) ∧
  comGo (l.drop (a + 1)) deep (a + 1) = (if R.2 = 0 then (if deep = 1 then (R.1, 0) else comGo (l.drop R.1) (deep - 1) R.1) else (0, R.2))
def CmP (l : List UInt8) (a deep : Nat) (e : Ending) : Prop := ∃ R : Nat × Nat, e = .returned (comV R) ∧ ComR l a deep R
theorem ComR.err {l : List UInt8} {a deep e : Nat} (he : e ≠ 0) (h : comGo (l.drop (a + 1)) deep (a + 1) = (0, e)) : ComR l a deep (0, e) :=
  ⟨fun h0 => absurd h0 he, fun _ => rfl, by rw [if_neg he]; exact h⟩
theorem comment_deep (s : ByteArray) (a : Nat) (w : World) : Calls Tryz.prog 187 #[.string s, .int .i64 (a : Int), .int .i64 9] w fun e w' => e = .returned (comV (0, 3)) ∧ w' = w := by
  go_enter Tryz.func187, Tryz.ntmps187
  go_wp2
  go_ret2
  exact ⟨rfl, rfl⟩
def CmRel (s : ByteArray) (a : Nat) (G : Nat × Nat) (deep : Nat) (w : World) (g : Nat) (v1 : Value) (W : World) : Prop :=
  ∃ p : Nat, v1 = .int .i64 (p : Int) ∧ a < p ∧ p ≤ s.size ∧ g = s.size - p ∧ W = w ∧ comGo (s.data.toList.drop p) deep p = G
set_option maxHeartbeats 8000000 in
theorem comment_ref (s : ByteArray) (hs : s.size ≤ 1000000000) : ∀ (n a deep : Nat) (w : World), s.size - a ≤ n → a < s.size → 1 ≤ deep → deep ≤ 8 →
    Calls Tryz.prog 187 #[.string s, .int .i64 (a : Int), .int .i64 (deep : Int)] w fun e w' => CmP s.data.toList a deep e ∧ w' = w
  | 0, a, deep, w, hn, ha, _, _ => by omega
  | n + 1, a, deep, w, hn, ha, hd1, hd8 => by
    have IH := Lib.hid (comment_ref s hs n)
    generalize hG : comGo (s.data.toList.drop (a + 1)) deep (a + 1) = G
    have HG0 := Lib.hid hG
    have hk0 : (0 : Int) ≤ (a : Int) := by omega
    have hk1 : (a : Int) < (s.size : Int) := by omega
    have hwa : IntKind.i64.wrap ((a : Int) + 1) = ((a + 1 : Nat) : Int) := by rw [IntKind.wrap_i64]; omega
    have hd9 : ¬ (8 : Int) < (deep : Int) := by omega
    clear hG
    go_enter Tryz.func187, Tryz.ntmps187
    go_wp2_with fail
    go_loopg [1] (s.size - (a + 1)) (fun g v1 W => CmRel s a G deep w g v1 W)
    case atStart => exact ⟨a + 1, rfl, by omega, by omega, rfl, rfl, HG0.out⟩
    case round =>
      obtain ⟨p, rfl, hap, hp, hg, rfl, hR⟩ := hrel
      have HG := Lib.hid hg
      have hp0 : (0 : Int) ≤ (p : Int) := by omega
      clear hg hk0 hk1 hwa
      by_cases hlt : p < s.size
      · have hp1 : (p : Int) < (s.size : Int) := by omega
        have hwr : IntKind.i64.wrap ((p : Int) + 1) = ((p + 1 : Nat) : Int) := by rw [IntKind.wrap_i64]; omega
        rw [drop_cons s p hlt] at hR
        by_cases h41 : s[p].toNat = 41
        · have hq : ((s[p].toNat : Int) == 41) = true := by rw [h41]; rfl
          rw [com_close _ _ _ _ h41] at hR
          have HR := Lib.hid hR
          clear hR h41
          go_wp2
          go_ret2
          exact ⟨⟨(p + 1, 0), rfl, fun _ => ⟨by show a < p + 1; omega, by rw [list_len]; show p + 1 ≤ s.size; omega⟩, fun h => absurd rfl h, by rw [HG0.out, ← HR.out]; rfl⟩, rfl⟩
        · have hq1 : ((s[p].toNat : Int) == 41) = false := by rw [beq_eq_false_iff_ne]; omega
          by_cases h40 : s[p].toNat = 40
          · have hq2 : ((s[p].toNat : Int) == 40) = true := by rw [h40]; rfl
            have hwd : IntKind.i64.wrap ((deep : Int) + 1) = ((deep + 1 : Nat) : Int) := by rw [IntKind.wrap_i64]; omega
            rw [com_open _ _ _ _ h40] at hR
            by_cases h8 : 8 ≤ deep
            · obtain rfl : deep = 8 := by omega
              rw [if_pos h8] at hR
              have HR := Lib.hid hR
              clear hR h40 h41
              go_wp2_with fail
              refine (comment_deep s p _).mono ?_
              rintro e w2 ⟨rfl, hw2⟩
              rw [hw2]
              simp only [comV]
              go_wp2
              go_ret2
              exact ⟨⟨(0, 3), rfl, .err (by decide) (by rw [HG0.out, ← HR.out])⟩, rfl⟩
            · rw [if_neg h8] at hR
              have hC := IH.out p (deep + 1) wr (by omega) hlt (by omega) (by omega)
              have HC := Lib.hid hC
              have HR := Lib.hid hR
              clear hR h40 h41 hC
              go_wp2_with fail
              refine HC.out.mono ?_
              rintro e w2 ⟨⟨R, rfl, hRR⟩, hw2⟩
              rw [hw2]
              obtain ⟨m, er⟩ := R
              obtain ⟨r1, r2, r3⟩ := hRR
              simp only at r1 r2 r3
              by_cases he : er = 0
              · subst he
                obtain ⟨r1a, r1b⟩ := r1 rfl
                rw [list_len] at r1b
                rw [if_pos rfl, if_neg (by omega), show deep + 1 - 1 = deep by omega] at r3
                have HR3 := Lib.hid r3
                clear r1 r2 r3
                simp only [comV]
                go_wp2_with fail
                go_roundg (s.size - m)
                case rel => exact ⟨m, rfl, by omega, r1b, rfl, rfl, by rw [← HR3.out]; exact HR.out⟩
                case measure => have := HG.out; omega
              · have he0 : ((er : Int) != 0) = true := by rw [bne_iff_ne]; omega
                rw [if_neg he] at r3
                have HR3 := Lib.hid r3
                have HE := Lib.hid he
                clear r1 r2 r3 he
                simp only [comV]
                go_wp2
                go_ret2
                exact ⟨⟨(0, er), rfl, .err HE.out (by rw [HG0.out, ← HR.out]; exact HR3.out)⟩, rfl⟩
          · have hq2 : ((s[p].toNat : Int) == 40) = false := by rw [beq_eq_false_iff_ne]; omega
            by_cases h92 : s[p].toNat = 92
            · have hq3 : ((s[p].toNat : Int) == 92) = true := by rw [h92]; rfl
              by_cases hlt2 : p + 1 < s.size
              · have hp2 : ¬ (s.size : Int) ≤ ((p + 1 : Nat) : Int) := by omega
                have hp3 : (0 : Int) ≤ ((p + 1 : Nat) : Int) := by omega
                have hp4 : ((p + 1 : Nat) : Int) < (s.size : Int) := by omega
                have hwr2 : IntKind.i64.wrap (((p + 1 : Nat) : Int) + 1) = ((p + 2 : Nat) : Int) := by rw [IntKind.wrap_i64]; omega
                rw [drop_cons s (p + 1) hlt2] at hR
                have hP := plain_ref s[p + 1].toNat wr
                cases hb : plainB s[p + 1].toNat with
                | true =>
                  rw [hb] at hP
                  rw [com_back _ _ _ _ _ h92 hb] at hR
                  have HR := Lib.hid hR
                  have HP := Lib.hid hP
                  clear hR hP hb h92 h40 h41
                  go_wp2_with fail
                  refine HP.out.mono ?_
                  rintro e w2 ⟨rfl, hw2⟩
                  rw [hw2]
                  clear hw2 w2
                  go_wp2_with fail
                  go_roundg (s.size - (p + 2))
                  case rel => exact ⟨p + 2, rfl, by omega, by omega, rfl, rfl, HR.out⟩
                  case measure => have := HG.out; omega
                | false =>
                  rw [hb] at hP
                  rw [com_back_bad _ _ _ _ _ h92 hb] at hR
                  have HR := Lib.hid hR
                  have HP := Lib.hid hP
                  clear hR hP hb h92 h40 h41
                  go_wp2_with fail
                  refine HP.out.mono ?_
                  rintro e w2 ⟨rfl, hw2⟩
                  rw [hw2]
                  clear hw2 w2
                  go_wp2
                  go_ret2
                  exact ⟨⟨(0, 5), rfl, .err (by decide) (by rw [HG0.out, ← HR.out])⟩, rfl⟩
              · have hp2 : (s.size : Int) ≤ ((p + 1 : Nat) : Int) := by omega
                have hnil : s.data.toList.drop (p + 1) = [] := List.drop_eq_nil_of_le (by simp; omega)
                rw [hnil, com_back_end _ _ _ h92] at hR
                have HR := Lib.hid hR
                clear hR hnil h92 h40 h41
                go_wp2
                go_ret2
                exact ⟨⟨(0, 4), rfl, .err (by decide) (by rw [HG0.out, ← HR.out])⟩, rfl⟩
            · have hq3 : ((s[p].toNat : Int) == 92) = false := by rw [beq_eq_false_iff_ne]; omega
              have hP := plain_ref s[p].toNat wr
              cases hb : plainB s[p].toNat with
              | true =>
                rw [hb] at hP
                rw [com_in _ _ _ _ h40 h41 h92 (by unfold inB; rw [hb]; simp)] at hR
                have HR := Lib.hid hR
                have HP := Lib.hid hP
                clear hR hP hb h92 h40 h41
                go_wp2_with fail
                refine HP.out.mono ?_
                rintro e w2 ⟨rfl, hw2⟩
                rw [hw2]
                clear hw2 w2
                go_wp2_with fail
                go_roundg (s.size - (p + 1))
                case rel => exact ⟨p + 1, rfl, by omega, by omega, rfl, rfl, HR.out⟩
                case measure => have := HG.out; omega
              | false =>
                rw [hb] at hP
                have HP := Lib.hid hP
                by_cases h9 : s[p].toNat = 9
                · have hq9 : ((s[p].toNat : Int) != 9) = false := by rw [h9]; rfl
                  rw [com_in _ _ _ _ h40 h41 h92 (by unfold inB; rw [h9]; rfl)] at hR
                  have HR := Lib.hid hR
                  clear hR hP hb h92 h40 h41 h9
                  go_wp2_with fail
                  refine HP.out.mono ?_
                  rintro e w2 ⟨rfl, hw2⟩
                  rw [hw2]
                  clear hw2 w2
                  go_wp2_with fail
                  go_roundg (s.size - (p + 1))
                  case rel => exact ⟨p + 1, rfl, by omega, by omega, rfl, rfl, HR.out⟩
                  case measure => have := HG.out; omega
                · have hq9 : ((s[p].toNat : Int) != 9) = true := by rw [bne_iff_ne]; omega
                  rw [com_bad _ _ _ _ h40 h41 h92 (by unfold inB; rw [hb, show (s[p].toNat == 9) = false by rw [beq_eq_false_iff_ne]; exact h9]; rfl)] at hR
                  have HR := Lib.hid hR
                  clear hR hP hb h92 h40 h41 h9
                  go_wp2_with fail
                  refine HP.out.mono ?_
                  rintro e w2 ⟨rfl, hw2⟩
                  rw [hw2]
                  clear hw2 w2
                  go_wp2
                  go_ret2
                  exact ⟨⟨(0, 5), rfl, .err (by decide) (by rw [HG0.out, ← HR.out])⟩, rfl⟩
      · have hge : ¬ (p : Int) < (s.size : Int) := by omega
        have hnil : s.data.toList.drop p = [] := List.drop_eq_nil_of_le (by simp; omega)
        rw [hnil] at hR
        have HR := Lib.hid hR
        clear hR hnil
        go_wp2
        go_ret2
        exact ⟨⟨(0, 4), rfl, .err (by decide) (by rw [HG0.out, ← HR.out]; rfl)⟩, rfl⟩
theorem Comment_ref (s : ByteArray) (hs : s.size ≤ 1000000000) (w : World) : Calls Tryz.prog 182 #[.string s] w fun e w' => e = .returned (comV (commentL s.data.toList)) ∧ w' = w := by
  by_cases hlt : 0 < s.size
  · have hz : ((s.size : Int) == 0) = false := by rw [beq_eq_false_iff_ne]; omega
    have hp1 : (0 : Int) < (s.size : Int) := by omega
    have hl := drop_cons s 0 hlt
    rw [List.drop_zero] at hl
    by_cases h40 : s[0] = 40
    · have hq : ((s[0].toNat : Int) != 40) = false := by rw [h40]; rfl
      have hR : commentL s.data.toList = comGo (s.data.toList.drop 1) 1 1 := by
        unfold commentL
        rw [hl, List.head?_cons, if_pos (by rw [h40]), com_open _ _ _ _ (by rw [h40]; rfl)]
        simp
      have HC := Lib.hid (comment_ref s hs s.size 0 1 w (by omega) hlt (by omega) (by omega))
      have HR := Lib.hid hR
      clear hR hl h40
      go_enter Tryz.func182, Tryz.ntmps182
      go_wp2_with fail
      refine HC.out.mono ?_
      rintro e w2 ⟨⟨R, rfl, h1, h2, h3⟩, hw2⟩
      rw [hw2]
      obtain ⟨m, er⟩ := R
      have HX : Hid (commentL s.data.toList = (m, er)) := by
        refine Lib.hid ?_
        rw [HR.out, h3]
        by_cases he : er = 0
        · subst he; simp
        · have := h2 he
          simp only at this
          rw [if_neg he, this]
      clear h1 h2 h3
      simp only [comV]
      go_wp2
      go_ret2
      rw [HX.out]
      exact ⟨rfl, rfl⟩
    · have hq : ((s[0].toNat : Int) != 40) = true := by
        rw [bne_iff_ne]; intro e; exact h40 (UInt8.toNat_inj.1 (by show s[0].toNat = 40; omega))
      have hR : commentL s.data.toList = (0, 5) := by
        unfold commentL; rw [hl, List.head?_cons, if_neg (by intro e; exact h40 (Option.some.inj e))]
      rw [hR]
      clear hR hl h40
      go_enter Tryz.func182, Tryz.ntmps182
      go_wp2
      go_ret2
      exact ⟨rfl, rfl⟩
  · have hsz : s.size = 0 := by omega
    have hz : ((s.size : Int) == 0) = true := by rw [hsz]; rfl
    have hnil : s.data.toList = [] := List.eq_nil_of_length_eq_zero (by rw [list_len]; exact hsz)
    rw [hnil]
    clear hnil hsz
    go_enter Tryz.func182, Tryz.ntmps182
    go_wp2
    go_ret2
    exact ⟨rfl, rfl⟩
set_option maxHeartbeats 8000000 in
theorem Blank_ref (s : ByteArray) (hs : s.size ≤ 1000000000) (w : World) : Calls Tryz.prog 158 #[.string s] w fun e w' => e = .returned (comV (blankL s.data.toList)) ∧ w' = w := by
  generalize hX : blankL s.data.toList = R
  have HX := Lib.hid hX
  clear hX
  go_enter Tryz.func158, Tryz.ntmps158
  go_wp2_with fail
  go_loopg [4] s.size (fun g v4 W => BlRel s w R g v4 W)
  case atStart => exact ⟨0, s.size, rfl, by omega, by omega, by omega, rfl, by have := HX.out; unfold blankL at this; rw [list_len] at this; rw [List.drop_zero]; exact this⟩
  case round =>
    obtain ⟨k, f, rfl, hk, hg, hf, rfl, hR⟩ := hrel
    have HG := Lib.hid hg
    clear hg
    by_cases hlt : k < s.size
    · have hk0 : (0 : Int) ≤ (k : Int) := by omega
      have hk1 : (k : Int) < (s.size : Int) := by omega
      have hk2 : (k : Int) ≤ (s.size : Int) := by omega
      have hwr : IntKind.i64.wrap ((k : Int) + 1) = (k : Int) + 1 := by rw [IntKind.wrap_i64]; omega
      obtain ⟨f', rfl⟩ : ∃ f', f = f' + 1 := ⟨f - 1, by omega⟩
      have hdc := drop_cons s k hlt
      rw [hdc] at hR
      unfold blGo at hR
      by_cases h1 : s[k].toNat = 32 ∨ s[k].toNat = 9
      · rw [if_pos h1] at hR
        have HR := Lib.hid hR
        clear hR hdc
        rcases h1 with h1 | h1
        · have hq1 : ((s[k].toNat : Int) == 32) = true := by rw [h1]; rfl
          go_wp2_with fail
          go_roundg (s.size - (k + 1))
          case rel => exact ⟨k + 1, f', by go_num, by omega, rfl, by omega, rfl, HR.out⟩
          case measure => have := HG.out; omega
        · have hq1 : ((s[k].toNat : Int) == 32) = false := by rw [h1]; rfl
          have hq2 : ((s[k].toNat : Int) == 9) = true := by rw [h1]; rfl
          go_wp2_with fail
          go_roundg (s.size - (k + 1))
          case rel => exact ⟨k + 1, f', by go_num, by omega, rfl, by omega, rfl, HR.out⟩
          case measure => have := HG.out; omega
      · rw [if_neg h1] at hR
        have hq1 : ((s[k].toNat : Int) == 32) = false := by rw [beq_eq_false_iff_ne]; omega
        have hq2 : ((s[k].toNat : Int) == 9) = false := by rw [beq_eq_false_iff_ne]; omega
        clear h1
        by_cases h4 : s[k].toNat = 40
        · have hq4 : ((s[k].toNat : Int) != 40) = false := by rw [h4]; rfl
          rw [if_pos h4, ← hdc] at hR
          have hC := Comment_ref (s.extract k s.size) (by simp; omega) wr
          have e1 : (s.extract k s.size).data.toList = s.data.toList.drop k := by rw [ext_drop]
          rw [e1] at hC
          have hm := comment_many (s.data.toList.drop k)
          rw [List.length_drop, list_len] at hm
          generalize hCL : commentL (s.data.toList.drop k) = C at hC hm hR
          obtain ⟨n, er⟩ := C
          simp only [comV] at hC
          simp only at hm hR
          clear hCL e1 hdc
          by_cases he : er = 0
          · subst he
            rw [if_pos rfl, List.drop_drop] at hR
            have hn := hm.1 rfl
            have hn2 := hm.2
            have hwn : IntKind.i64.wrap ((k : Int) + (n : Int)) = ((k + n : Nat) : Int) := by rw [IntKind.wrap_i64]; omega
            have HR := Lib.hid hR
            clear hR hm
            go_wp2_with fail
            refine hC.mono ?_
            rintro e w2 ⟨rfl, hw2⟩
            rw [hw2]
            clear hw2 w2 hC
            go_wp2_with fail
            go_roundg (s.size - (k + n))
            case rel => exact ⟨k + n, f', rfl, by omega, rfl, by omega, rfl, HR.out⟩
            case measure => have := HG.out; omega
          · have he0 : ((er : Int) != 0) = true := by rw [bne_iff_ne]; omega
            rw [if_neg he] at hR
            subst hR
            clear hm
            go_wp2_with fail
            refine hC.mono ?_
            rintro e w2 ⟨rfl, hw2⟩
            rw [hw2]
            clear hw2 w2 hC
            go_wp2
            go_ret2
            exact ⟨rfl, rfl⟩
        · have hq4 : ((s[k].toNat : Int) != 40) = true := by rw [bne_iff_ne]; omega
          rw [if_neg h4] at hR
          subst hR
          clear hdc
          go_wp2
          go_ret2
          exact ⟨rfl, rfl⟩
    · have hnil : s.data.toList.drop k = [] := List.drop_eq_nil_of_le (by simp; omega)
      have hge : ¬ (k : Int) < (s.size : Int) := by omega
      rw [hnil] at hR
      have hR2 : (k, 0) = R := by rw [← hR]; cases f <;> rfl
      subst hR2
      clear hR
      go_wp2
      go_ret2
      exact ⟨rfl, rfl⟩
end Go.Proofs.YtffngbjnbigipaaGreatDoor

/- The document's lists: its functions at, blank, word, domain. -/
namespace Go.Proofs.YtffngbjnbigipaaGreatDoor
open Go.RowKit Go.Lib
set_option linter.unusedSimpArgs false
set_option linter.unusedVariables false
set_option linter.unnecessarySimpa false
set_option maxRecDepth 100000

theorem at_ref (s : ByteArray) (i : Nat) (hi : i ≤ 1000000000) (hs : s.size ≤ 1000000000) (w : World) : Calls Tryz.prog 75 #[.string s, .int .i64 (i : Int)] w fun e w' => e = .returned (.int .u8 (nextB s.data.toList i : Int)) ∧ w' = w := by
  by_cases hlt : i < s.size
  · rw [nextB_yes (get_list s i hlt)]
    have h0 : (0 : Int) ≤ (i : Int) := by omega
    have h1 : (i : Int) < (s.size : Int) := by omega
    go_enter Tryz.func75, Tryz.ntmps75
    go_wp2
    go_ret
    exact ⟨rfl, rfl⟩
  · have : nextB s.data.toList i = 0 := by unfold nextB; rw [get_none s i (by omega)]
    rw [this]
    have h1 : ¬ (i : Int) < (s.size : Int) := by omega
    go_enter Tryz.func75, Tryz.ntmps75
    go_wp2
    go_ret
    exact ⟨rfl, rfl⟩
/-- a place as the document tells it: -1 for none. -/
def endI : Option Nat → Int
  | none => -1
  | some n => (n : Int)
set_option maxHeartbeats 1000000 in
theorem blank_ref2 (s : ByteArray) (i : Nat) (hi : i ≤ s.size) (hs : s.size ≤ 900000000) (w : World) : Calls Tryz.prog 123 #[.string s, .int .i64 (i : Int)] w fun e w' => e = .returned (.int .i64 (endI (blankE s.data.toList i))) ∧ w' = w := by
  have hB := fun W => Blank_ref (s.extract i s.size) (by simp; omega) W
  have e1 : (s.extract i s.size).data.toList = s.data.toList.drop i := by rw [ext_drop]
  rw [e1] at hB
  have hm := blank_many (s.data.toList.drop i)
  rw [List.length_drop, list_len] at hm
  unfold blankE
  generalize blankL (s.data.toList.drop i) = R at hB hm ⊢
  obtain ⟨n, er⟩ := R
  simp only [comV] at hB hm ⊢
  have HB := Lib.hid hB
  have h0 : (0 : Int) ≤ (i : Int) := by omega
  have h1 : (i : Int) ≤ (s.size : Int) := by omega
  have hw : IntKind.i64.wrap ((i : Int) + (n : Int)) = ((i + n : Nat) : Int) := by rw [IntKind.wrap_i64]; omega
  clear hB e1
  by_cases he : er = 0
  · subst he
    rw [if_pos rfl]
    go_enter Tryz.func123, Tryz.ntmps123
    go_wp2_with fail
    refine (HB.out _).mono ?_
    rintro e w2 ⟨rfl, hw2⟩
    rw [hw2]
    clear hw2
    go_wp2
    go_ret
    exact ⟨rfl, rfl⟩
  · have he0 : ((er : Int) != 0) = true := by rw [bne_iff_ne]; omega
    rw [if_neg he]
    clear he
    go_enter Tryz.func123, Tryz.ntmps123
    go_wp2_with fail
    refine (HB.out _).mono ?_
    rintro e w2 ⟨rfl, hw2⟩
    rw [hw2]
    clear hw2
    go_wp2
    go_ret
    exact ⟨rfl, rfl⟩
def WdRel (s : ByteArray) (E : Nat) (w : World) (g : Nat) (v1 : Value) (W : World) : Prop :=
  ∃ j : Nat, v1 = .int .i64 (j : Int) ∧ j ≤ s.size ∧ g = s.size - j ∧ E = j + tw wordB (s.data.toList.drop j) ∧ W = w
set_option maxHeartbeats 2000000 in
theorem word_ref2 (s : ByteArray) (i : Nat) (hi : i ≤ s.size) (hs : s.size ≤ 900000000) (w : World) : Calls Tryz.prog 124 #[.string s, .int .i64 (i : Int)] w fun e w' => e = .returned (.int .i64 (endI (wordE s.data.toList i))) ∧ w' = w := by
  have HA := Lib.hid (fun W => at_ref s i (by omega) (by omega) W)
  have h0 : (0 : Int) ≤ (i : Int) := by omega
  have h1 : (i : Int) ≤ (s.size : Int) := by omega
  unfold wordE
  by_cases h34 : s.data.toList[i]? = some 34
  · rw [if_pos h34]
    rw [nextB_yes h34] at HA
    have hq : (((34 : UInt8).toNat : Int) == 34) = true := rfl
    have hQ := fun W => Quoted_ref (s.extract i s.size) (by simp; omega) W
    have e1 : (s.extract i s.size).data.toList = s.data.toList.drop i := by rw [ext_drop]
    rw [e1] at hQ
    have hm := quoted_many (s.data.toList.drop i)
    rw [List.length_drop, list_len] at hm
    generalize quoted (s.data.toList.drop i) = R at hQ hm ⊢
    obtain ⟨wd, n, er⟩ := R
    simp only [quotV] at hQ hm ⊢
    have HQ := Lib.hid hQ
    have hw : IntKind.i64.wrap ((i : Int) + (n : Int)) = ((i + n : Nat) : Int) := by rw [IntKind.wrap_i64]; omega
    clear hQ e1 h34
    by_cases he : er = 0
    · subst he
      rw [if_pos rfl]
      go_enter Tryz.func124, Tryz.ntmps124
      go_wp2_with fail
      refine (HA.out _).mono ?_
      rintro e w2 ⟨rfl, hw2⟩
      rw [hw2]
      clear hw2
      go_wp2_with fail
      refine (HQ.out _).mono ?_
      rintro e w3 ⟨rfl, hw3⟩
      rw [hw3]
      clear hw3
      go_wp2
      go_ret
      exact ⟨rfl, rfl⟩
    · have he0 : ((er : Int) != 0) = true := by rw [bne_iff_ne]; omega
      rw [if_neg he]
      clear he
      go_enter Tryz.func124, Tryz.ntmps124
      go_wp2_with fail
      refine (HA.out _).mono ?_
      rintro e w2 ⟨rfl, hw2⟩
      rw [hw2]
      clear hw2
      go_wp2_with fail
      refine (HQ.out _).mono ?_
      rintro e w3 ⟨rfl, hw3⟩
      rw [hw3]
      clear hw3
      go_wp2
      go_ret
      exact ⟨rfl, rfl⟩
  · rw [if_neg h34]
    have hq : ((nextB s.data.toList i : Int) == 34) = false := int_ne (nextB_no h34 (by decide))
    generalize nextB s.data.toList i = nb at HA hq
    obtain ⟨E, hE⟩ : ∃ E, E = i + tw wordB (s.data.toList.drop i) := ⟨_, rfl⟩
    rw [← hE]
    have HE := Lib.hid hE
    clear hE h34
    go_enter Tryz.func124, Tryz.ntmps124
    go_wp2_with fail
    refine (HA.out _).mono ?_
    rintro e w2 ⟨rfl, hw2⟩
    rw [hw2]
    clear hw2
    go_wp2_with fail
    go_loopg [1] (s.size - i) (fun g v1 W => WdRel s E w g v1 W)
    case atStart => exact ⟨i, rfl, hi, rfl, HE.out, rfl⟩
    case round =>
      obtain ⟨j, rfl, hj, hg, hE, rfl⟩ := hrel
      have HG := Lib.hid hg
      have hj0 : (0 : Int) ≤ (j : Int) := by omega
      clear hg h0 h1
      by_cases hlt : j < s.size
      · have hj1 : (j : Int) < (s.size : Int) := by omega
        have hw : IntKind.i64.wrap ((j : Int) + 1) = (j : Int) + 1 := by rw [IntKind.wrap_i64]; omega
        rw [drop_cons s j hlt] at hE
        have hL := fun W => Letter_any s[j].toNat W
        by_cases h46 : s[j] = 46
        · have hq6 : ((s[j].toNat : Int) == 46) = true := by rw [h46]; rfl
          rw [tw_yes _ _ _ (by rw [h46]; decide)] at hE
          have HE2 := Lib.hid hE
          clear hE hL h46
          go_wp2_with fail
          go_roundg (s.size - (j + 1))
          case rel => exact ⟨j + 1, by go_num, by omega, rfl, by have := HE2.out; omega, rfl⟩
          case measure => have := HG.out; omega
        · have hq6 : ((s[j].toNat : Int) == 46) = false := u8_ne h46
          have hwb : wordB s[j] = atomB s[j].toNat := by unfold wordB; simp [h46]
          cases hb : atomB s[j].toNat with
          | true =>
            rw [hb] at hL hwb
            rw [tw_yes _ _ _ hwb] at hE
            have HE2 := Lib.hid hE
            have HL := Lib.hid hL
            clear hE hL h46 hwb hb
            go_wp2_with fail
            refine (HL.out _).mono ?_
            rintro e w2 ⟨rfl, hw2⟩
            rw [hw2]
            clear hw2
            go_wp2_with fail
            go_roundg (s.size - (j + 1))
            case rel => exact ⟨j + 1, by go_num, by omega, rfl, by have := HE2.out; omega, rfl⟩
            case measure => have := HG.out; omega
          | false =>
            rw [hb] at hL hwb
            rw [tw_no _ _ _ hwb] at hE
            have hEj : E = j := by omega
            have HL := Lib.hid hL
            have HE2 := Lib.hid hEj
            clear hE hL h46 hwb hb hEj
            go_wp2_with fail
            refine (HL.out _).mono ?_
            rintro e w2 ⟨rfl, hw2⟩
            rw [hw2]
            clear hw2
            go_wp2
            go_ret
            rw [HE2.out]
            exact ⟨rfl, rfl⟩
      · have hge : ¬ (j : Int) < (s.size : Int) := by omega
        have hnil : s.data.toList.drop j = [] := List.drop_eq_nil_of_le (by simp; omega)
        rw [hnil, tw_nil] at hE
        have hEj : E = j := by omega
        have HE2 := Lib.hid hEj
        clear hE hnil hEj
        go_wp2
        go_ret
        rw [HE2.out]
        exact ⟨rfl, rfl⟩
def DmRel (s : ByteArray) (p : UInt8 → Bool) (E : Nat) (w : World) (g : Nat) (v1 : Value) (W : World) : Prop :=
  ∃ j : Nat, v1 = .int .i64 (j : Int) ∧ j ≤ s.size ∧ g = s.size - j ∧ E = j + tw p (s.data.toList.drop j) ∧ W = w
theorem host_dec (c : UInt8) : hostdotB c = decide ((97 ≤ c.toNat ∧ c.toNat ≤ 122) ∨ (65 ≤ c.toNat ∧ c.toNat ≤ 90) ∨ (48 ≤ c.toNat ∧ c.toNat ≤ 57) ∨ c.toNat = 45 ∨ c.toNat = 46) := by
  have h45 : (c == 45) = decide (c.toNat = 45) := by
    rw [Bool.eq_iff_iff]; simp [← UInt8.toNat_inj]
  have h46 : (c == 46) = decide (c.toNat = 46) := by
    rw [Bool.eq_iff_iff]; simp [← UInt8.toNat_inj]
  unfold hostdotB letterB
  rw [h45, h46, Bool.eq_iff_iff]
  simp
  omega
set_option maxHeartbeats 4000000 in
theorem domain_ref2 (s : ByteArray) (i : Nat) (hi : i ≤ s.size) (hs : s.size ≤ 900000000) (w : World) : Calls Tryz.prog 160 #[.string s, .int .i64 (i : Int)] w fun e w' => e = .returned (.int .i64 (endI (domE s.data.toList i))) ∧ w' = w := by
  have HA := Lib.hid (fun W => at_ref s i (by omega) (by omega) W)
  have h0 : (0 : Int) ≤ (i : Int) := by omega
  have h1 : (i : Int) ≤ (s.size : Int) := by omega
  unfold domE
  by_cases h91 : s.data.toList[i]? = some 91
  · rw [if_pos h91]
    rw [nextB_yes h91] at HA
    have hq : (((91 : UInt8).toNat : Int) == 91) = true := rfl
    obtain ⟨E, hE⟩ : ∃ E, E = i + tw notEnd (s.data.toList.drop i) := ⟨_, rfl⟩
    rw [← hE, list_len]
    obtain ⟨R, hR⟩ : ∃ R, R = endI (if E < s.size then some (E + 1) else none) := ⟨_, rfl⟩
    rw [← hR]
    have HE := Lib.hid hE
    have HR := Lib.hid hR
    clear hE h91 hR
    go_enter Tryz.func160, Tryz.ntmps160
    go_wp2_with fail
    refine (HA.out _).mono ?_
    rintro e w2 ⟨rfl, hw2⟩
    rw [hw2]
    clear hw2
    go_wp2_with fail
    go_loopg [1] (s.size - i) (fun g v1 W => DmRel s notEnd E w g v1 W)
    case atStart => exact ⟨i, rfl, hi, rfl, HE.out, rfl⟩
    case round =>
      obtain ⟨j, rfl, hj, hg, hE, rfl⟩ := hrel
      have HG := Lib.hid hg
      have hj0 : (0 : Int) ≤ (j : Int) := by omega
      clear hg h0 h1
      by_cases hlt : j < s.size
      · have hj1 : (j : Int) < (s.size : Int) := by omega
        have hw : IntKind.i64.wrap ((j : Int) + 1) = ((j + 1 : Nat) : Int) := by rw [IntKind.wrap_i64]; omega
        rw [drop_cons s j hlt] at hE
        by_cases h93 : s[j] = 93
        · have hq3 : ((s[j].toNat : Int) != 93) = false := by rw [h93]; rfl
          have hne : ((j : Int) == (s.size : Int)) = false := by rw [beq_eq_false_iff_ne]; omega
          rw [tw_no _ _ _ (by rw [h93]; decide)] at hE
          have hEj : E = j := by omega
          have HE2 := Lib.hid hEj
          clear hE h93 hEj
          go_wp2
          go_ret
          rw [HR.out, HE2.out, if_pos hlt]
          exact ⟨rfl, rfl⟩
        · have hq3 : ((s[j].toNat : Int) != 93) = true := by have := u8_ne h93; simpa [bne] using this
          rw [tw_yes _ _ _ (by unfold notEnd; simpa using h93)] at hE
          have HE2 := Lib.hid hE
          clear hE h93
          go_wp2_with fail
          go_roundg (s.size - (j + 1))
          case rel => exact ⟨j + 1, by go_num, by omega, rfl, by have := HE2.out; omega, rfl⟩
          case measure => have := HG.out; omega
      · have hge : ¬ (j : Int) < (s.size : Int) := by omega
        have heq : ((j : Int) == (s.size : Int)) = true := by rw [beq_iff_eq]; omega
        have hnil : s.data.toList.drop j = [] := List.drop_eq_nil_of_le (by simp; omega)
        rw [hnil, tw_nil] at hE
        have hEj : ¬ E < s.size := by omega
        have HE2 := Lib.hid hEj
        clear hE hnil hEj
        go_wp2
        go_ret
        rw [HR.out, if_neg HE2.out]
        exact ⟨rfl, rfl⟩
  · rw [if_neg h91]
    have hq : ((nextB s.data.toList i : Int) == 91) = false := int_ne (nextB_no h91 (by decide))
    generalize nextB s.data.toList i = nb at HA hq
    obtain ⟨E, hE⟩ : ∃ E, E = i + tw hostdotB (s.data.toList.drop i) := ⟨_, rfl⟩
    have hEi : (if tw hostdotB (s.data.toList.drop i) = 0 then none else some (i + tw hostdotB (s.data.toList.drop i))) = if E = i then none else some E := by
      rw [← hE]
      by_cases hz : tw hostdotB (s.data.toList.drop i) = 0
      · rw [if_pos hz, if_pos (by omega)]
      · rw [if_neg hz, if_neg (by omega)]
    rw [hEi]
    obtain ⟨R, hR⟩ : ∃ R, R = endI (if E = i then none else some E) := ⟨_, rfl⟩
    rw [← hR]
    have HE := Lib.hid hE
    have HR := Lib.hid hR
    clear hE h91 hEi hR
    go_enter Tryz.func160, Tryz.ntmps160
    go_wp2_with fail
    refine (HA.out _).mono ?_
    rintro e w2 ⟨rfl, hw2⟩
    rw [hw2]
    clear hw2
    go_wp2_with fail
    go_loopg [1, 6] (s.size - i) (fun g v1 v6 W => DmRel s hostdotB E w g v1 W)
    case atStart => exact ⟨i, rfl, hi, rfl, HE.out, rfl⟩
    case round =>
      obtain ⟨j, rfl, hj, hg, hE, rfl⟩ := hrel
      have HG := Lib.hid hg
      have hj0 : (0 : Int) ≤ (j : Int) := by omega
      clear hg h0 h1
      by_cases hlt : j < s.size
      · have hj1 : (j : Int) < (s.size : Int) := by omega
        have hw : IntKind.i64.wrap ((j : Int) + 1) = ((j + 1 : Nat) : Int) := by rw [IntKind.wrap_i64]; omega
        rw [drop_cons s j hlt] at hE
        have HE2 := Lib.hid hE
        have hHD := host_dec s[j]
        generalize hHB : hostdotB s[j] = hb at hHD
        have HD := Lib.hid hHD
        have HHB := Lib.hid hHB
        clear hE hHD hHB
        go_upto_region 10 with (fail)
        go_cut [67] from 30 to 69 (fun v67 wc => v67 = .bool (!hb) ∧ wc = wr)
        case first =>
          have HX := HD
          by_cases e5 : s[j].toNat = 45
          · have q5 : ((s[j].toNat : Int) == 45) = true := by rw [e5]; rfl
            have HV := Lib.hid (show (!hb) = false by rw [HX.out]; simp; omega)
            have a1 : ¬ (97 : Int) ≤ (s[j].toNat : Int) := by omega
            have a2 : ¬ (65 : Int) ≤ (s[j].toNat : Int) := by omega
            have a3 : ¬ (48 : Int) ≤ (s[j].toNat : Int) := by omega
            clear e5
            go_wp2_with fail
            go_meet
            case rel => exact ⟨by rw [HV.out], rfl⟩
          · have q5 : ((s[j].toNat : Int) == 45) = false := by rw [beq_eq_false_iff_ne]; omega
            by_cases e6 : s[j].toNat = 46
            · have q6 : ((s[j].toNat : Int) == 46) = true := by rw [e6]; rfl
              have HV := Lib.hid (show (!hb) = false by rw [HX.out]; simp; omega)
              have a1 : ¬ (97 : Int) ≤ (s[j].toNat : Int) := by omega
              have a2 : ¬ (65 : Int) ≤ (s[j].toNat : Int) := by omega
              have a3 : ¬ (48 : Int) ≤ (s[j].toNat : Int) := by omega
              clear e5 e6
              go_wp2_with fail
              go_meet
              case rel => exact ⟨by rw [HV.out], rfl⟩
            · have q6 : ((s[j].toNat : Int) == 46) = false := by rw [beq_eq_false_iff_ne]; omega
              have HE5 := Lib.hid e5
              have HE6 := Lib.hid e6
              clear e5 e6
              go_wp2_with fail
              all_goals
                go_meet
                case rel =>
                  have e5 := HE5.out
                  have e6 := HE6.out
                  refine ⟨congrArg Value.bool ?_, rfl⟩
                  rw [HX.out, Bool.eq_iff_iff]
                  simp only [Bool.and_eq_true, Bool.not_eq_true', decide_eq_false_iff_not, decide_eq_true_eq, Bool.not_eq_true, true_iff, false_iff, Bool.false_eq_true, Bool.not_eq_false]
                  omega
        case rest =>
          obtain ⟨rfl, hwc⟩ := hcut
          rw [hwc]
          clear hwc
          cases hb with
          | true =>
            go_wp2_with fail
            go_roundg (s.size - (j + 1))
            case rel => exact ⟨j + 1, by go_num, by omega, rfl, by have := HE2.out; rw [tw_yes _ _ _ HHB.out] at this; omega, rfl⟩
            case measure => have := HG.out; omega
          | false =>
            have hEj : E = j := by have := HE2.out; rw [tw_no _ _ _ HHB.out] at this; omega
            have HEJ := Lib.hid hEj
            clear hEj
            by_cases hji : j = i
            · have hq2 : ((j : Int) == (i : Int)) = true := by rw [hji]; simp
              have HJI := Lib.hid hji
              clear hji
              go_wp2
              go_ret
              rw [HR.out, HEJ.out, if_pos HJI.out]
              exact ⟨rfl, rfl⟩
            · have hq2 : ((j : Int) == (i : Int)) = false := by rw [beq_eq_false_iff_ne]; omega
              have HJI := Lib.hid hji
              clear hji
              go_wp2
              go_ret
              rw [HR.out, HEJ.out, if_neg HJI.out]
              exact ⟨rfl, rfl⟩
      · have hge : ¬ (j : Int) < (s.size : Int) := by omega
        have hnil : s.data.toList.drop j = [] := List.drop_eq_nil_of_le (by simp; omega)
        rw [hnil, tw_nil] at hE
        have hEj : E = j := by omega
        have HEJ := Lib.hid hEj
        clear hE hnil hEj
        by_cases hji : j = i
        · have hq2 : ((j : Int) == (i : Int)) = true := by rw [hji]; simp
          have HJI := Lib.hid hji
          clear hji
          go_wp2
          go_ret
          rw [HR.out, HEJ.out, if_pos HJI.out]
          exact ⟨rfl, rfl⟩
        · have hq2 : ((j : Int) == (i : Int)) = false := by rw [beq_eq_false_iff_ne]; omega
          have HJI := Lib.hid hji
          clear hji
          go_wp2
          go_ret
          rw [HR.out, HEJ.out, if_neg HJI.out]
          exact ⟨rfl, rfl⟩
end Go.Proofs.YtffngbjnbigipaaGreatDoor
