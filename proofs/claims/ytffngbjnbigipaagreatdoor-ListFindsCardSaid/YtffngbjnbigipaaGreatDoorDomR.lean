/- The document's Domain: the same answers as addr.domain's, for texts of at most 10^9 bytes. -/
import Derived.Test.YtffngbjnbigipaaGreatDoorLit
namespace Go.Proofs.YtffngbjnbigipaaGreatDoor
open Go.RowKit Go.Lib
set_option linter.unusedSimpArgs false
set_option linter.unusedVariables false
set_option linter.unnecessarySimpa false
set_option maxRecDepth 100000

def curL (s : ByteArray) (f i : Nat) : List UInt8 := (s.data.toList.drop f).take (i - f)
theorem cur_len (s : ByteArray) (f i : Nat) (hi : i ≤ s.size) : (curL s f i).length = i - f := by
  unfold curL; rw [List.length_take, List.length_drop, list_len]; omega
theorem cur_self (s : ByteArray) (f : Nat) : curL s f f = [] := by unfold curL; simp
theorem cur_snoc (s : ByteArray) (f i : Nat) (hfi : f ≤ i) (hi : i < s.size) : curL s f (i + 1) = curL s f i ++ [s[i]] := by
  unfold curL
  have h := drop_at s f i hfi hi
  have h2 : i - f < (s.data.toList.drop f).length := (List.getElem?_eq_some_iff.1 h).1
  rw [show i + 1 - f = (i - f) + 1 by omega, List.take_succ_eq_append_getElem h2]
  have : (s.data.toList.drop f)[i - f] = s[i] := by
    have h3 := List.getElem?_eq_getElem h2
    rw [h3] at h
    exact Option.some.inj h
  rw [this]
theorem cur_head (s : ByteArray) (f i : Nat) (hfi : f < i) (hi : i ≤ s.size) : (curL s f i).head? = some (s[f]'(by omega)) := by
  unfold curL
  rw [drop_cons s f (by omega), show i - f = (i - f - 1) + 1 by omega, List.take_succ_cons]
  rfl
theorem cur_last (s : ByteArray) (f i : Nat) (hfi : f < i) (hi : i ≤ s.size) : (curL s f i).getLast? = some (s[i - 1]'(by omega)) := by
  have := cur_snoc s f (i - 1) (by omega) (by omega)
  rw [show i - 1 + 1 = i by omega] at this
  rw [this]; simp
theorem edge_cur (s : ByteArray) (f i : Nat) (hfi : f < i) (hi : i ≤ s.size) : edgeB (curL s f i) = (!(s[f]'(by omega) == 45) && !(s[i - 1]'(by omega) == 45)) := by
  unfold edgeB
  rw [cur_head s f i hfi hi, cur_last s f i hfi hi]
  have hne : (curL s f i).isEmpty = false := by
    cases h : curL s f i with
    | nil => have := cur_len s f i hi; rw [h] at this; simp at this; omega
    | cons a b => rfl
  rw [hne]
  rfl
theorem go_dot (cur xs : List UInt8) (x : UInt8) (long : Bool) (h : x.toNat = 46) : domGo cur (x :: xs) long = if edgeB cur then domGo [] xs (long || decide (63 < cur.length)) else 5 := by
  conv => lhs; unfold domGo
  rw [if_pos h]
theorem go_host (cur xs : List UInt8) (x : UInt8) (long : Bool) (h : ¬ x.toNat = 46) : domGo cur (x :: xs) long = if hostB x then domGo (cur ++ [x]) xs long else 5 := by
  conv => lhs; unfold domGo
  rw [if_neg h]
theorem go_end (cur : List UInt8) (long : Bool) : domGo cur [] long = if edgeB cur then (if long || decide (63 < cur.length) then 3 else 0) else 5 := by
  unfold domGo; rfl
def DomRel (s : ByteArray) (w : World) (R : Nat) (g : Nat) (v3 v4 v5 : Value) (W : World) : Prop :=
  ∃ (f i : Nat) (long : Bool), v3 = .bool long ∧ v4 = .int .i64 (f : Int) ∧ v5 = .int .i64 (i : Int) ∧ g = s.size + 2 - i ∧ W = w ∧
    ((f ≤ i ∧ i ≤ s.size ∧ domGo (curL s f i) (s.data.toList.drop i) long = R) ∨ (i = s.size + 1 ∧ R = if long then 3 else 0))
theorem byte_ne {a b : UInt8} {n : Int} (hb : (b.toNat : Int) = n) (h : a ≠ b) : ((a.toNat : Int) == n) = false := by
  rw [beq_eq_false_iff_ne]; intro e; exact h (UInt8.toNat_inj.1 (by omega))

set_option maxHeartbeats 16000000 in
theorem Domain_ref (s : ByteArray) (hs : s.size ≤ 1000000000) (w : World) : Calls Tryz.prog 100 #[.string s] w fun e w' => e = .returned (.int .i64 (domL s.data.toList : Int)) ∧ Below w.heap.size w w' := by
  by_cases hp : s.data.toList.head? = some 91
  · have hd : domL s.data.toList = if litL s.data.toList then 0 else 5 := by unfold domL; rw [if_pos hp]
    have HL := Lib.hid (literal_ref s hs w)
    rw [hd]
    have hpos : 0 < s.size := by
      rcases Nat.eq_zero_or_pos s.size with h | h
      · rw [size_zero h] at hp; cases hp
      · exact h
    have hpos0 : (0 : Int) < (s.size : Int) := by omega
    rw [head_eq s hpos] at hp
    have h91 : s[0] = 91 := Option.some.inj hp
    have q91 : ((s[0].toNat : Int) == 91) = true := by rw [h91]; rfl
    generalize litL s.data.toList = Q at HL
    clear hp hd h91
    go_enter Tryz.func100, Tryz.ntmps100
    go_wp2_with fail
    refine HL.out.mono ?_
    rintro e w2 ⟨rfl, hb⟩
    cases Q with
    | true =>
      go_wp2
      go_ret
      exact ⟨rfl, hb⟩
    | false =>
      go_wp2
      go_ret
      exact ⟨rfl, hb⟩
  · have hd : domL s.data.toList = domP s.data.toList := by unfold domL; rw [if_neg hp]
    rw [hd, ← domGo_domP, list_len]
    generalize hR : domGo [] s.data.toList (decide (255 < s.size)) = R
    have HR := Lib.hid hR
    clear hR hd
    have h255 : decide ((255 : Int) < (s.size : Int)) = decide (255 < s.size) := by
      by_cases h : 255 < s.size
      · rw [decide_eq_true h, decide_eq_true (by omega)]
      · rw [decide_eq_false h, decide_eq_false (by omega)]
    have HH := Lib.hid h255
    have hcond : ∃ b : Bool, b = true := ⟨true, rfl⟩
    clear h255 hcond
    have hfirst : s.size = 0 ∨ (0 < s.size ∧ ∀ h : 0 < s.size, s[0] ≠ 91) := by
      rcases Nat.eq_zero_or_pos s.size with h | h
      · exact .inl h
      · refine .inr ⟨h, fun h2 e => hp ?_⟩
        rw [head_eq s h2, e]
    clear hp
    rcases hfirst with h | ⟨h, hn⟩
    · have hs0 := size_zero h
      subst hs0
      have hR : 5 = R := by rw [← HR.out]; rfl
      subst hR
      clear HR HH h
      go_enter Tryz.func100, Tryz.ntmps100
      go_wp2_with fail
      go_loopg [4, 5] 0 (fun g v4 v5 W => v4 = .int .i64 0 ∧ v5 = .int .i64 0 ∧ W = w ∧ g = 0)
      case atStart => exact ⟨rfl, rfl, rfl, rfl⟩
      case round =>
        obtain ⟨rfl, rfl, rfl, hg⟩ := hrel
        go_wp2
        go_ret
        exact ⟨rfl, Below.refl _ _⟩
    have h0 : (0 : Int) < (s.size : Int) := by omega
    have q91 : ((s[0].toNat : Int) == 91) = false := byte_ne rfl (hn h)
    clear hn
    go_enter Tryz.func100, Tryz.ntmps100
    go_wp2_with fail
    go_loopg [3, 4, 5] (s.size + 2) (fun g v3 v4 v5 W => DomRel s w R g v3 v4 v5 W)
    case atStart => exact ⟨0, 0, decide (255 < s.size), by first | rfl | (rw [← HH.out]) | simp, rfl, rfl, by omega, rfl, .inl ⟨Nat.le_refl _, Nat.zero_le _, by rw [cur_self, List.drop_zero]; exact HR.out⟩⟩
    case round =>
      obtain ⟨f, i, long, rfl, rfl, rfl, hg, rfl, hcase⟩ := hrel
      have HG := Lib.hid hg
      clear hg
      rcases hcase with ⟨hfi, hi, hE⟩ | ⟨hi, hE⟩
      · have hle : (i : Int) ≤ (s.size : Int) := by omega
        have hwr : IntKind.i64.wrap ((i : Int) + 1) = (i : Int) + 1 := by rw [IntKind.wrap_i64]; omega
        by_cases hlt : i < s.size
        · have hi0 : (0 : Int) ≤ (i : Int) := by omega
          have hi1 : (i : Int) < (s.size : Int) := by omega
          rw [drop_cons s i hlt] at hE
          by_cases h46 : s[i].toNat = 46
          · have q46 : ((s[i].toNat : Int) != 46) = false := by rw [h46]; rfl
            rw [go_dot _ _ _ _ h46] at hE
            clear h46
            rcases Nat.lt_or_ge f i with hfi2 | hfi2
            · have hq0 : ((i : Int) == (f : Int)) = false := by rw [beq_eq_false_iff_ne]; omega
              have hf0 : (0 : Int) ≤ (f : Int) := by omega
              have hf1 : (f : Int) < (s.size : Int) := by omega
              have hfs : f < s.size := by omega
              have hws : IntKind.i64.wrap ((i : Int) - 1) = ((i - 1 : Nat) : Int) := by rw [IntKind.wrap_i64]; omega
              have hp0 : (0 : Int) ≤ ((i - 1 : Nat) : Int) := by omega
              have hp1 : ((i - 1 : Nat) : Int) < (s.size : Int) := by omega
              have hps : i - 1 < s.size := by omega
              rw [edge_cur s f i hfi2 hi, cur_len s f i hi] at hE
              by_cases h45 : s[f] = 45
              · have q45 : ((s[f].toNat : Int) == 45) = true := by rw [h45]; rfl
                have hR : 5 = R := by rw [← hE, h45]; rfl
                subst hR
                clear h45 hE
                go_wp2
                go_ret
                exact ⟨rfl, Below.refl _ _⟩
              · have q45 : ((s[f].toNat : Int) == 45) = false := byte_ne rfl h45
                have b45 : (s[f] == 45) = false := by rw [beq_eq_false_iff_ne]; exact h45
                by_cases l45 : s[i - 1] = 45
                · have r45 : ((s[i - 1].toNat : Int) == 45) = true := by rw [l45]; rfl
                  have hR : 5 = R := by rw [← hE, l45, b45]; rfl
                  subst hR
                  clear h45 hE l45
                  go_wp2
                  go_ret
                  exact ⟨rfl, Below.refl _ _⟩
                · have r45 : ((s[i - 1].toNat : Int) == 45) = false := byte_ne rfl l45
                  have c45 : (s[i - 1] == 45) = false := by rw [beq_eq_false_iff_ne]; exact l45
                  rw [b45, c45] at hE
                  simp only [Bool.not_false, Bool.and_self, if_true] at hE
                  have hwd : IntKind.i64.wrap ((i : Int) - (f : Int)) = ((i - f : Nat) : Int) := by rw [IntKind.wrap_i64]; omega
                  clear h45 l45 b45 c45
                  by_cases h6 : 63 < i - f
                  · have h63 : (63 : Int) < ((i - f : Nat) : Int) := by omega
                    rw [decide_eq_true h6] at hE
                    simp only [Bool.or_true] at hE
                    have HE := Lib.hid hE
                    clear hE
                    go_wp2_with fail
                    go_roundg (s.size + 2 - (i + 1))
                    case rel => exact ⟨i + 1, i + 1, true, rfl, by go_num, by go_num, rfl, rfl, .inl ⟨Nat.le_refl _, by omega, by rw [cur_self]; exact HE.out⟩⟩
                    case measure => have := HG.out; omega
                  · have h63 : ¬ (63 : Int) < ((i - f : Nat) : Int) := by omega
                    rw [decide_eq_false h6] at hE
                    simp only [Bool.or_false] at hE
                    have HE := Lib.hid hE
                    clear hE
                    go_wp2_with fail
                    go_roundg (s.size + 2 - (i + 1))
                    case rel => exact ⟨i + 1, i + 1, long, rfl, by go_num, by go_num, rfl, rfl, .inl ⟨Nat.le_refl _, by omega, by rw [cur_self]; exact HE.out⟩⟩
                    case measure => have := HG.out; omega
            · have hfe : f = i := by omega
              subst hfe
              have hR : 5 = R := by rw [← hE, cur_self]; rfl
              subst hR
              clear hE
              go_wp2
              go_ret
              exact ⟨rfl, Below.refl _ _⟩
          · have q46 : ((s[i].toNat : Int) != 46) = true := by rw [bne_iff_ne]; omega
            rw [go_host _ _ _ _ h46] at hE
            have hL := letter_ref s[i].toNat wr
            have hho : hostB s[i] = (letterB s[i].toNat || s[i] == 45) := rfl
            cases hlet : letterB s[i].toNat with
            | true =>
              rw [hlet] at hL hho
              rw [hho, Bool.true_or, if_pos rfl, ← cur_snoc s f i hfi hlt] at hE
              have HE := Lib.hid hE
              clear hE hho hlet h46
              go_wp2_with fail
              refine hL.mono ?_
              rintro e w2 ⟨rfl, hw2⟩
              rw [hw2]
              clear hw2 w2 hL
              go_wp2_with fail
              go_roundg (s.size + 2 - (i + 1))
              case rel => exact ⟨f, i + 1, long, rfl, rfl, by go_num, rfl, rfl, .inl ⟨by omega, by omega, HE.out⟩⟩
              case measure => have := HG.out; omega
            | false =>
              rw [hlet] at hL hho
              rw [hho, Bool.false_or] at hE
              by_cases h45 : s[i] = 45
              · have q45 : ((s[i].toNat : Int) != 45) = false := by rw [h45]; rfl
                rw [if_pos (by rw [h45]; rfl), ← cur_snoc s f i hfi hlt] at hE
                have HE := Lib.hid hE
                clear hE hho hlet h46 h45
                go_wp2_with fail
                refine hL.mono ?_
                rintro e w2 ⟨rfl, hw2⟩
                rw [hw2]
                clear hw2 w2 hL
                go_wp2_with fail
                go_roundg (s.size + 2 - (i + 1))
                case rel => exact ⟨f, i + 1, long, rfl, rfl, by go_num, rfl, rfl, .inl ⟨by omega, by omega, HE.out⟩⟩
                case measure => have := HG.out; omega
              · have q45 : ((s[i].toNat : Int) != 45) = true := by
                  rw [bne_iff_ne]; intro e; exact h45 (UInt8.toNat_inj.1 (by show s[i].toNat = 45; omega))
                rw [if_neg (by simpa using h45)] at hE
                subst hE
                clear hho hlet h46 h45
                go_wp2_with fail
                refine hL.mono ?_
                rintro e w2 ⟨rfl, hw2⟩
                rw [hw2]
                clear hw2 w2 hL
                go_wp2
                go_ret
                exact ⟨rfl, Below.refl _ _⟩
        · have hge : ¬ (i : Int) < (s.size : Int) := by omega
          have hnil : s.data.toList.drop i = [] := List.drop_eq_nil_of_le (by rw [list_len]; omega)
          rw [hnil, go_end] at hE
          clear hnil
          rcases Nat.lt_or_ge f i with hfi2 | hfi2
          · have hq0 : ((i : Int) == (f : Int)) = false := by rw [beq_eq_false_iff_ne]; omega
            have hf0 : (0 : Int) ≤ (f : Int) := by omega
            have hf1 : (f : Int) < (s.size : Int) := by omega
            have hfs : f < s.size := by omega
            have hws : IntKind.i64.wrap ((i : Int) - 1) = ((i - 1 : Nat) : Int) := by rw [IntKind.wrap_i64]; omega
            have hp0 : (0 : Int) ≤ ((i - 1 : Nat) : Int) := by omega
            have hp1 : ((i - 1 : Nat) : Int) < (s.size : Int) := by omega
            have hps : i - 1 < s.size := by omega
            rw [edge_cur s f i hfi2 hi, cur_len s f i hi] at hE
            by_cases h45 : s[f] = 45
            · have q45 : ((s[f].toNat : Int) == 45) = true := by rw [h45]; rfl
              have hR : 5 = R := by rw [← hE, h45]; rfl
              subst hR
              clear h45 hE
              go_wp2
              go_ret
              exact ⟨rfl, Below.refl _ _⟩
            · have q45 : ((s[f].toNat : Int) == 45) = false := byte_ne rfl h45
              have b45 : (s[f] == 45) = false := by rw [beq_eq_false_iff_ne]; exact h45
              by_cases l45 : s[i - 1] = 45
              · have r45 : ((s[i - 1].toNat : Int) == 45) = true := by rw [l45]; rfl
                have hR : 5 = R := by rw [← hE, l45, b45]; rfl
                subst hR
                clear h45 hE l45
                go_wp2
                go_ret
                exact ⟨rfl, Below.refl _ _⟩
              · have r45 : ((s[i - 1].toNat : Int) == 45) = false := byte_ne rfl l45
                have c45 : (s[i - 1] == 45) = false := by rw [beq_eq_false_iff_ne]; exact l45
                rw [b45, c45] at hE
                simp only [Bool.not_false, Bool.and_self, if_true] at hE
                have hwd : IntKind.i64.wrap ((i : Int) - (f : Int)) = ((i - f : Nat) : Int) := by rw [IntKind.wrap_i64]; omega
                clear h45 l45 b45 c45
                by_cases h6 : 63 < i - f
                · have h63 : (63 : Int) < ((i - f : Nat) : Int) := by omega
                  rw [decide_eq_true h6] at hE
                  simp only [Bool.or_true] at hE
                  have HE := Lib.hid hE
                  clear hE
                  go_wp2_with fail
                  go_roundg (s.size + 2 - (i + 1))
                  case rel => exact ⟨i + 1, i + 1, true, rfl, by go_num, by go_num, rfl, rfl, .inr ⟨by omega, by rw [← HE.out]; rfl⟩⟩
                  case measure => have := HG.out; omega
                · have h63 : ¬ (63 : Int) < ((i - f : Nat) : Int) := by omega
                  rw [decide_eq_false h6] at hE
                  simp only [Bool.or_false] at hE
                  have HE := Lib.hid hE
                  clear hE
                  go_wp2_with fail
                  go_roundg (s.size + 2 - (i + 1))
                  case rel => exact ⟨i + 1, i + 1, long, rfl, by go_num, by go_num, rfl, rfl, .inr ⟨by omega, by rw [← HE.out]⟩⟩
                  case measure => have := HG.out; omega
          · have hfe : f = i := by omega
            subst hfe
            have hR : 5 = R := by rw [← hE, cur_self]; rfl
            subst hR
            clear hE
            go_wp2
            go_ret
            exact ⟨rfl, Below.refl _ _⟩
      · have hgt : ¬ (i : Int) ≤ (s.size : Int) := by omega
        cases long with
        | true =>
          rw [if_pos rfl] at hE
          subst hE
          go_wp2
          go_ret
          exact ⟨rfl, Below.refl _ _⟩
        | false =>
          rw [if_neg (by simp)] at hE
          subst hE
          go_wp2
          go_ret
          exact ⟨rfl, Below.refl _ _⟩
end Go.Proofs.YtffngbjnbigipaaGreatDoor
