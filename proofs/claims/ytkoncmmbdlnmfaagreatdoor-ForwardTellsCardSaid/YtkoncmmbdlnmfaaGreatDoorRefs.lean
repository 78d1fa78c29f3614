/- The document's Split and Quoted, for texts of at most 10^12 bytes. -/
import Derived.Test.YtkoncmmbdlnmfaaGreatDoorNumb
namespace Go.Proofs.YtkoncmmbdlnmfaaGreatDoor
open Go.RowKit Go.Lib
set_option linter.unusedSimpArgs false
set_option linter.unusedVariables false
set_option linter.unnecessarySimpa false
set_option maxRecDepth 100000

theorem ext_mid (s : ByteArray) (a b : Nat) : (s.extract a b) = ⟨((s.data.toList.drop a).take (b - a)).toArray⟩ := by
  cases s
  rw [ByteArray.extract_mk]
def SplR (s : ByteArray) (c : UInt8) (w : World) (g : Nat) (v5 v6 v7 : Value) (W : World) : Prop :=
  ∃ (done : List (List UInt8)) (f i : Nat), v6 = .int .i64 (f : Int) ∧ v7 = .int .i64 (i : Int) ∧ f ≤ i ∧ i ≤ s.size ∧ g = s.size - i ∧ done.length ≤ f ∧ pieces c s.data.toList = done ++ pieces c (s.data.toList.drop f) ∧
    (∀ j, j < i - f → (s.data.toList.drop f)[j]? ≠ some c) ∧ W.ownsRow w.heap.size 9 1 v5 done.length (done.map strV) ∧ Below w.heap.size w W ∧ w.heap.size ≤ W.heap.size
theorem drop_at (s : ByteArray) (f i : Nat) (hfi : f ≤ i) (hi : i < s.size) : (s.data.toList.drop f)[i - f]? = some s[i] := by
  rw [List.getElem?_drop, show f + (i - f) = i by omega]
  have h : i < s.data.toList.length := by rw [list_len]; exact hi
  rw [List.getElem?_eq_getElem h]
  rfl

set_option maxHeartbeats 8000000 in
theorem Split_ref (s : ByteArray) (c : UInt8) (hs : s.size ≤ 1000000000000) (w : World) : Calls Tryz.prog 220 #[.string s, .int .u8 (c.toNat : Int)] w fun e w' =>
    ∃ v, e = .returned v ∧ Row w' v ((pieces c s.data.toList).map strV) ∧ Below w.heap.size w w' := by
  go_enter Tryz.func220, Tryz.ntmps220
  go_wp2_with fail
  go_loopg [5, 6, 7] s.size (fun g v5 v6 v7 W => SplR s c w g v5 v6 v7 W)
  case atStart => exact ⟨[], 0, 0, rfl, rfl, by omega, by omega, by omega, by simp, by simp, by simp, by simp [World.ownsRow], Below.refl _ _, Nat.le_refl _⟩
  case round =>
    obtain ⟨done, f, i, rfl, rfl, hfi, hi, hg, hl, hp, hno, hown, hb, hbs⟩ := hrel
    have HG := Lib.hid hg
    have HP := Lib.hid hp
    have HN := Lib.hid hno
    clear hg hp hno
    have hf0 : (0 : Int) ≤ (f : Int) := by omega
    have hf1 : (f : Int) ≤ (s.size : Int) := by omega
    by_cases hlt : i < s.size
    · have hi0 : (0 : Int) ≤ (i : Int) := by omega
      have hi1 : (i : Int) < (s.size : Int) := by omega
      have hi2 : (i : Int) ≤ (s.size : Int) := by omega
      have hfi0 : (f : Int) ≤ (i : Int) := by omega
      have hwr : IntKind.i64.wrap ((i : Int) + 1) = (i : Int) + 1 := by rw [IntKind.wrap_i64]; omega
      by_cases hc : s[i] = c
      · have hq : ((s[i].toNat : Int) == (c.toNat : Int)) = true := by rw [hc]; simp
        have HT := Lib.hid (pieces_take c (s.data.toList.drop f) (i - f) (by rw [drop_at s f i hfi hlt, hc]) HN.out)
        clear hc
        go_wp2_with (at_builtin; refine app_str rfl _ _ rfl w.heap.size _ _ _ rfl (World.ownsRow.alloc (w := wr) hown _) ⟨wr.heap.size, 0, none⟩ 1 (.string (s.extract f i)) rfl (new_cell _ _ _) rfl (by omega) (by rw [World.size_alloc]; exact Nat.le_succ_of_le hbs) ?_; intro g' cap w' hown' hgr)
        go_roundg (s.size - (i + 1))
        case rel =>
          refine ⟨done ++ [(s.data.toList.drop f).take (i - f)], i + 1, i + 1, by go_num, by go_num, Nat.le_refl _, by omega, rfl, by rw [List.length_append]; simp only [List.length_cons, List.length_nil]; omega, ?_, ?_, ?_, ?_, ?_⟩
          · rw [HP.out, HT.out, List.drop_drop, List.append_assoc, show f + (i - f + 1) = i + 1 by omega]; rfl
          · intro j hj; omega
          · have := hown'
            rw [ext_mid] at this
            rw [List.length_append, List.map_append]
            exact this
          · exact (hb.alloc hbs _).grown hgr (by rw [World.size_alloc]; exact Nat.le_succ_of_le hbs) (own_base hown)
          · have := hgr.size
            rw [World.size_alloc] at this
            exact Nat.le_trans hbs (Nat.le_trans (Nat.le_succ _) this)
        case measure => have := HG.out; omega
      · have hq : ((s[i].toNat : Int) == (c.toNat : Int)) = false := by
          rw [beq_eq_false_iff_ne]
          intro e
          exact hc (UInt8.toNat_inj.1 (by omega))
        have HC := Lib.hid hc
        clear hc
        go_wp2_with fail
        go_roundg (s.size - (i + 1))
        case rel =>
          refine ⟨done, f, i + 1, rfl, by go_num, by omega, by omega, rfl, hl, HP.out, ?_, hown, hb, hbs⟩
          intro j hj
          rcases Nat.lt_or_ge j (i - f) with h | h
          · exact HN.out j h
          · rw [show j = i - f by omega, drop_at s f i hfi hlt]
            simpa using HC.out
        case measure => have := HG.out; omega
    · have hge : ¬ (i : Int) < (s.size : Int) := by omega
      have HT := Lib.hid (pieces_one c (s.data.toList.drop f) (fun k hk => by
        rcases Nat.lt_or_ge k (i - f) with h | h
        · exact HN.out k h hk
        · have : k < (s.data.toList.drop f).length := (List.getElem?_eq_some_iff.1 hk).1
          rw [List.length_drop, list_len] at this
          omega))
      go_wp2_with (at_builtin; refine app_str rfl _ _ rfl w.heap.size _ _ _ rfl (World.ownsRow.alloc (w := wr) hown _) ⟨wr.heap.size, 0, none⟩ 1 (.string (s.extract f s.size)) rfl (new_cell _ _ _) rfl (by omega) (by rw [World.size_alloc]; exact Nat.le_succ_of_le hbs) ?_; intro g' cap w' hown' hgr)
      go_ret
      refine ⟨_, rfl, ?_, ?_⟩
      · rw [HP.out, HT.out, List.map_append]
        have := hown'
        rw [ext_drop] at this
        exact Row.of_owns this
      · exact (hb.alloc hbs _).grown hgr (by rw [World.size_alloc]; exact Nat.le_succ_of_le hbs) (own_base hown)

theorem cat_bytes (X Y : List UInt8) : (⟨X.toArray⟩ : ByteArray) ++ ⟨Y.toArray⟩ = ⟨(X ++ Y).toArray⟩ := by
  apply ByteArray.ext
  simp
theorem add_texts (X Y : List UInt8) (hX : X.length ≤ 2000000000000) (hY : Y.length ≤ 2000000000000) : Op.stringOp .add ⟨X.toArray⟩ ⟨Y.toArray⟩ = pure (.string ⟨(X ++ Y).toArray⟩) := by
  have e1 : (⟨X.toArray⟩ : ByteArray).size = X.length := rfl
  have e2 : (⟨Y.toArray⟩ : ByteArray).size = Y.length := rfl
  have hm : IntKind.i64.max = 9223372036854775807 := rfl
  have hn : ¬ ((((⟨X.toArray⟩ : ByteArray).size + (⟨Y.toArray⟩ : ByteArray).size : Nat) : Int) > IntKind.i64.max) := by rw [e1, e2, hm]; omega
  unfold Op.stringOp
  simp only [hn, if_false, cat_bytes]
theorem ext_one (s : ByteArray) (k : Nat) (h : k < s.size) : s.extract k (k + 1) = ⟨[s[k]].toArray⟩ := by
  rw [ext_mid, drop_cons s k h, show k + 1 - k = 1 by omega]
  rfl
def QuoRelR (s : ByteArray) (w : World) (R : List UInt8 × Nat × Nat) (g : Nat) (v5 v6 : Value) (W : World) : Prop :=
  ∃ (k : Nat) (out : List UInt8), v6 = .int .i64 (k : Int) ∧ k ≤ s.size ∧ g = s.size + 1 - k ∧ out.length ≤ k ∧ v5 = .string ⟨out.toArray⟩ ∧ quotGo (s.data.toList.drop k) out k = R ∧ W = w
set_option maxHeartbeats 8000000 in
theorem Quoted_ref (s : ByteArray) (hs : s.size ≤ 1000000000000) (w : World) : Calls Tryz.prog 150 #[.string s] w fun e w' => e = .returned (quotV (quoted s.data.toList)) ∧ w' = w := by
  by_cases hne : s = ⟨#[]⟩
  · subst hne
    go_enter Tryz.func150, Tryz.ntmps150
    go_wp2
    go_ret3
    exact ⟨rfl, rfl⟩
  · have hpos := text_len hne
    have hpos0 : (0 : Int) < (s.size : Int) := by omega
    have hsz0 : ((s.size : Int) == 0) = false := by rw [beq_eq_false_iff_ne]; omega
    have hl := drop_cons s 0 hpos
    rw [List.drop_zero] at hl
    by_cases h34 : s[0].toNat = 34
    · have hq : ((s[0].toNat : Int) != 34) = false := by rw [h34]; rfl
      have hR : quoted s.data.toList = quotGo (s.data.toList.drop 1) [] 1 := by
        rw [hl]; simp [quoted, h34]
      rw [hR]
      generalize hX : quotGo (s.data.toList.drop 1) [] 1 = R
      have HX := Lib.hid hX
      clear hX hl hR hne
      go_enter Tryz.func150, Tryz.ntmps150
      go_wp2_with fail
      go_loopg [5, 6] s.size (fun g v5 v6 W => QuoRelR s w R g v5 v6 W)
      case atStart => exact ⟨1, [], rfl, by omega, by omega, by simp, rfl, HX.out, rfl⟩
      case round =>
        obtain ⟨k, out, rfl, hk, hg, hol, rfl, hR, rfl⟩ := hrel
        have HG := Lib.hid hg
        clear hg
        by_cases hlt : k < s.size
        · have hk0 : (0 : Int) ≤ (k : Int) := by omega
          have hk1 : (k : Int) < (s.size : Int) := by omega
          have hk2 : (k : Int) ≤ (s.size : Int) := by omega
          have hk3 : (k : Int) + 1 ≤ (s.size : Int) := by omega
          have hk4 : (k : Int) ≤ (k : Int) + 1 := by omega
          have hwr : IntKind.i64.wrap ((k : Int) + 1) = (k : Int) + 1 := by rw [IntKind.wrap_i64]; omega
          rw [drop_cons s k hlt] at hR
          by_cases h1 : s[k].toNat = 34
          · have hq1 : ((s[k].toNat : Int) == 34) = true := by rw [h1]; rfl
            rw [quot_end _ _ _ _ h1] at hR
            subst hR
            go_wp2
            go_ret3
            exact ⟨rfl, rfl⟩
          · have hq1 : ((s[k].toNat : Int) == 34) = false := by rw [beq_eq_false_iff_ne]; omega
            by_cases h2 : s[k].toNat = 92
            · have hq2 : ((s[k].toNat : Int) == 92) = true := by rw [h2]; rfl
              by_cases hlt2 : k + 1 < s.size
              · rw [drop_cons s (k + 1) hlt2] at hR
                have hwrN : IntKind.i64.wrap ((k : Int) + 1) = ((k + 1 : Nat) : Int) := by rw [IntKind.wrap_i64]; omega
                clear hwr hk3 hk4
                have hm0 : (0 : Int) ≤ ((k + 1 : Nat) : Int) := by omega
                have hm1 : ((k + 1 : Nat) : Int) < (s.size : Int) := by omega
                have hP := plain_ref s[k + 1].toNat wr
                have hx1 := ext_one s (k + 1) hlt2
                cases hp : plainB s[k + 1].toNat with
                | true =>
                  rw [hp] at hP
                  rw [quot_back _ _ _ _ _ h2 hp] at hR
                  generalize hd : s[k + 1] = d at hP hR hx1
                  have HR := Lib.hid hR
                  have hadd := add_texts out [d] (by omega) (by simp)
                  clear hR hp
                  generalize hm : k + 1 = m at *
                  have HMM := Lib.hid hm
                  clear hm
                  have hm2 : (m : Int) ≤ (s.size : Int) := by omega
                  have hm3 : (m : Int) + 1 ≤ (s.size : Int) := by omega
                  have hm4 : (m : Int) ≤ (m : Int) + 1 := by omega
                  have hm5 : (0 : Int) ≤ (m : Int) + 1 := by omega
                  have hwr2 : IntKind.i64.wrap ((m : Int) + 1) = (m : Int) + 1 := by rw [IntKind.wrap_i64]; omega
                  go_wp2_with fail
                  refine hP.mono ?_
                  rintro e w2 ⟨rfl, hw2⟩
                  rw [hw2]
                  clear hw2 w2 hP
                  go_wp2_with fail
                  go_roundg (s.size + 1 - (m + 1))
                  case rel => exact ⟨m + 1, out ++ [d], by go_num, by omega, rfl, by rw [List.length_append]; have := HMM.out; simp; omega, rfl, by have h2 := HR.out; rw [show k + 2 = m + 1 by have := HMM.out; omega] at h2; exact h2, rfl⟩
                  case measure => have := HG.out; have := HMM.out; omega
                | false =>
                  rw [hp] at hP
                  rw [quot_back_bad _ _ _ _ _ h2 hp] at hR
                  subst hR
                  clear hp
                  go_wp2_with fail
                  refine hP.mono ?_
                  rintro e w2 ⟨rfl, hw2⟩
                  rw [hw2]
                  clear hw2 w2 hP
                  go_wp2
                  go_ret3
                  exact ⟨rfl, rfl⟩
              · have hnil : s.data.toList.drop (k + 1) = [] := List.drop_eq_nil_of_le (by simp; omega)
                have hge2 : (s.size : Int) ≤ (k : Int) + 1 := by omega
                rw [hnil, quot_back_end _ _ _ h2] at hR
                subst hR
                go_wp2
                go_ret3
                exact ⟨rfl, rfl⟩
            · have hq2 : ((s[k].toNat : Int) == 92) = false := by rw [beq_eq_false_iff_ne]; omega
              have hP := plain_ref s[k].toNat wr
              cases hp : plainB s[k].toNat with
              | true =>
                rw [hp] at hP
                rw [quot_plain _ _ _ _ h1 h2 hp] at hR
                have HR := Lib.hid hR
                have hx1 := ext_one s k hlt
                have hadd := add_texts out [s[k]] (by omega) (by simp)
                clear hR hp
                go_wp2_with fail
                refine hP.mono ?_
                rintro e w2 ⟨rfl, hw2⟩
                rw [hw2]
                clear hw2 w2 hP
                go_wp2_with fail
                go_roundg (s.size + 1 - (k + 1))
                case rel => exact ⟨k + 1, out ++ [s[k]], by go_num, by omega, rfl, by rw [List.length_append]; simp; omega, rfl, HR.out, rfl⟩
                case measure => have := HG.out; omega
              | false =>
                rw [hp] at hP
                rw [quot_bad _ _ _ _ h1 h2 hp] at hR
                subst hR
                clear hp
                go_wp2_with fail
                refine hP.mono ?_
                rintro e w2 ⟨rfl, hw2⟩
                rw [hw2]
                clear hw2 w2 hP
                go_wp2
                go_ret3
                exact ⟨rfl, rfl⟩
        · have hnil : s.data.toList.drop k = [] := List.drop_eq_nil_of_le (by simp; omega)
          have hge : ¬ (k : Int) < (s.size : Int) := by omega
          rw [hnil] at hR
          have hR2 : ([], 0, 4) = R := by rw [← hR]; rfl
          subst hR2
          clear hR
          go_wp2
          go_ret3
          exact ⟨rfl, rfl⟩
    · have hq : ((s[0].toNat : Int) != 34) = true := by rw [bne_iff_ne]; omega
      have hR : quoted s.data.toList = ([], 0, 5) := by rw [hl]; simp [quoted, h34]
      rw [hR]
      clear hl hR hne
      go_enter Tryz.func150, Tryz.ntmps150
      go_wp2
      go_ret3
      exact ⟨rfl, rfl⟩
end Go.Proofs.YtkoncmmbdlnmfaaGreatDoor
