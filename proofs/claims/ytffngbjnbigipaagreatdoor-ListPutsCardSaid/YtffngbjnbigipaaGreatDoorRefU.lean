/- Several texts joined into one (a claim has a limit of files). -/
import Derived.Test.YtffngbjnbigipaaGreatDoorRefs
import Derived.Test.YtffngbjnbigipaaGreatDoorParS
import Derived.Test.YtffngbjnbigipaaGreatDoorTxt
import Derived.Test.YtffngbjnbigipaaGreatDoorCmp
import Derived.Test.YtffngbjnbigipaaGreatDoorReader
import Derived.Test.YtffngbjnbigipaaGreatDoorQuot
import Derived.Test.YtffngbjnbigipaaGreatDoorCom
/- The document's functions on bytes and addresses: Plain, order, May. -/
namespace Go.Proofs.YtffngbjnbigipaaGreatDoor
open Go.RowKit Go.Lib
set_option linter.unusedSimpArgs false
set_option linter.unusedVariables false
set_option linter.unnecessarySimpa false
set_option maxRecDepth 100000

def PrRel (s : ByteArray) (w : World) (g : Nat) (v3 : Value) (W : World) : Prop :=
  ∃ i : Nat, v3 = .int .i64 (i : Int) ∧ i ≤ s.size ∧ g = s.size - i ∧ W = w ∧ plainL (s.data.toList.take i) = true
set_option maxHeartbeats 2000000 in
theorem Plain_ref (s : ByteArray) (hs : s.size ≤ 1000000000000) (w : World) : Calls Tryz.prog 99 #[.string s] w fun e w' => e = .returned (.bool (plainL s.data.toList)) ∧ w' = w := by
  have HBAD := Lib.hid (plain_not s)
  have HALL := Lib.hid (show plainL (s.data.toList.take s.size) = true → plainL s.data.toList = true by rw [take_all]; exact id)
  have HST := Lib.hid (fun (i : Nat) (h : i < s.size) (hp : plainB s[i].toNat = true) (ha : plainL (s.data.toList.take i) = true) => show plainL (s.data.toList.take (i + 1)) = true by
    rw [take_snoc s i h]
    unfold plainL at ha ⊢
    rw [List.all_append, ha]
    simp [hp])
  generalize plainL s.data.toList = R at HBAD HALL
  go_enter Tryz.func99, Tryz.ntmps99
  go_wp2_with fail
  go_loopg [3] s.size (fun g v3 W => PrRel s w g v3 W)
  case atStart => exact ⟨0, rfl, by omega, by omega, rfl, by simp [plainL]⟩
  case round =>
    obtain ⟨i, rfl, hi, hg, rfl, hall⟩ := hrel
    have HG := Lib.hid hg
    have HL := Lib.hid hall
    clear hg hall
    by_cases hlt : i < s.size
    · have h0 : (0 : Int) ≤ (i : Int) := by omega
      have h1 : (i : Int) < (s.size : Int) := by omega
      have hw : IntKind.i64.wrap ((i : Int) + 1) = ((i + 1 : Nat) : Int) := by rw [IntKind.wrap_i64]; omega
      have HP := Lib.hid (fun W => plain_ref s[i].toNat W)
      cases hp : plainB s[i].toNat with
      | true =>
        rw [hp] at HP
        have HN := Lib.hid (HST.out i hlt hp HL.out)
        clear hp
        go_wp2_with fail
        refine (HP.out _).mono ?_
        rintro e w2 ⟨rfl, hw2⟩
        rw [hw2]
        clear hw2
        go_wp2_with fail
        go_roundg (s.size - (i + 1))
        case rel => exact ⟨i + 1, by go_num, by omega, rfl, rfl, HN.out⟩
        case measure => have := HG.out; omega
      | false =>
        rw [hp] at HP
        have hR := HBAD.out i hlt hp
        subst hR
        clear hp
        go_wp2_with fail
        refine (HP.out _).mono ?_
        rintro e w2 ⟨rfl, hw2⟩
        rw [hw2]
        clear hw2
        go_wp2
        go_ret
        exact ⟨rfl, rfl⟩
    · have h1 : ¬ (i : Int) < (s.size : Int) := by omega
      obtain rfl : i = s.size := by omega
      have hR := HALL.out HL.out
      subst hR
      go_wp2
      go_ret
      exact ⟨rfl, rfl⟩
theorem cmp_cons (a b : UInt8) (x y : List UInt8) : cmpL (a :: x) (b :: y) = if a < b then -1 else if a = b then cmpL x y else 1 := by
  unfold cmpL
  rw [less_cons]
  by_cases h1 : a < b
  · simp [h1]
  · by_cases h2 : a = b
    · subst h2
      simp [h1]
    · simp [h1, h2]
theorem cmp_nil_cons (b : UInt8) (y : List UInt8) : cmpL [] (b :: y) = -1 := rfl
theorem cmp_cons_nil (a : UInt8) (x : List UInt8) : cmpL (a :: x) [] = 1 := rfl
def OdRel (s t : ByteArray) (R : Int) (w : World) (g : Nat) (v5 : Value) (W : World) : Prop :=
  ∃ i : Nat, v5 = .int .i64 (i : Int) ∧ i ≤ s.size ∧ i ≤ t.size ∧ g = s.size - i ∧ Below w.heap.size w W ∧ R = cmpL (s.data.toList.drop i) (t.data.toList.drop i)
set_option maxHeartbeats 4000000 in
theorem order_ref (s t : ByteArray) (hs : s.size ≤ 1000000000000) (ht : t.size ≤ 1000000000000) (w : World) : Calls Tryz.prog 102 #[.string s, .string t] w fun e w' => e = .returned (.int .i64 (cmpL s.data.toList t.data.toList)) ∧ Below w.heap.size w w' := by
  have hR : cmpL s.data.toList t.data.toList = cmpL (s.data.toList.drop 0) (t.data.toList.drop 0) := rfl
  generalize cmpL s.data.toList t.data.toList = R at hR ⊢
  have HR := Lib.hid hR
  clear hR
  go_enter Tryz.func102, Tryz.ntmps102
  go_wp2_with fail
  go_loopg [5] s.size (fun g v5 W => OdRel s t R w g v5 W)
  case atStart => exact ⟨0, rfl, by omega, by omega, by omega, Below.refl _ _, HR.out⟩
  case round =>
    obtain ⟨i, rfl, hi, hit, hg, hb, hE⟩ := hrel
    have HB := Lib.hid hb
    clear hb
    have HG := Lib.hid hg
    have h0 : (0 : Int) ≤ (i : Int) := by omega
    clear hg
    by_cases hlt : i < s.size
    · have h1 : (i : Int) < (s.size : Int) := by omega
      by_cases hlu : i < t.size
      · have h2 : (i : Int) < (t.size : Int) := by omega
        have hw : IntKind.i64.wrap ((i : Int) + 1) = ((i + 1 : Nat) : Int) := by rw [IntKind.wrap_i64]; omega
        rw [drop_cons s i hlt, drop_cons t i hlu, cmp_cons] at hE
        by_cases he : s[i] = t[i]
        · rw [if_neg (by rw [he]; exact UInt8.lt_irrefl _), if_pos he] at hE
          have hq : ((s[i].toNat : Int) != (t[i].toNat : Int)) = false := by rw [he]; simp
          have HE := Lib.hid hE
          clear hE he
          go_wp2_with fail
          go_quiet (fail)
          go_wp2_with fail
          go_roundg (s.size - (i + 1))
          case rel => exact ⟨i + 1, by go_num, by omega, by omega, rfl, HB.out.trans ((drewN_below _ _).mono HB.out.size), HE.out⟩
          case measure => have := HG.out; omega
        · have hq : ((s[i].toNat : Int) != (t[i].toNat : Int)) = true := by
            rw [bne_iff_ne]
            intro h
            exact he (UInt8.toNat_inj.1 (by omega))
          by_cases hl : s[i] < t[i]
          · rw [if_pos hl] at hE
            have hll : (s[i].toNat : Int) < (t[i].toNat : Int) := by have := UInt8.lt_iff_toNat_lt.1 hl; omega
            have HE := Lib.hid hE
            clear hE he hl
            go_wp2_with fail
            go_quiet (fail)
            go_wp2_with fail
            go_quiet (fail)
            go_wp2
            go_ret
            rw [HE.out]
            exact ⟨rfl, HB.out.trans (((drewN_below _ _).mono HB.out.size).trans ((drewN_below _ _).mono (Nat.le_trans HB.out.size (drewN_below _ _).size)))⟩
          · rw [if_neg hl, if_neg he] at hE
            have hll : ¬ (s[i].toNat : Int) < (t[i].toNat : Int) := by
              intro h
              exact hl (UInt8.lt_iff_toNat_lt.2 (by omega))
            have HE := Lib.hid hE
            clear hE he hl
            go_wp2_with fail
            go_quiet (fail)
            go_wp2_with fail
            go_quiet (fail)
            go_wp2
            go_ret
            rw [HE.out]
            exact ⟨rfl, HB.out.trans (((drewN_below _ _).mono HB.out.size).trans ((drewN_below _ _).mono (Nat.le_trans HB.out.size (drewN_below _ _).size)))⟩
      · have h2 : ¬ (i : Int) < (t.size : Int) := by omega
        have hq1 : ¬ (s.size : Int) < (t.size : Int) := by omega
        have hq2 : (t.size : Int) < (s.size : Int) := by omega
        have hnil : t.data.toList.drop i = [] := List.drop_eq_nil_of_le (by simp; omega)
        rw [drop_cons s i hlt, hnil, cmp_cons_nil] at hE
        have HE := Lib.hid hE
        clear hE hnil
        go_wp2
        go_ret
        rw [HE.out]
        exact ⟨rfl, HB.out⟩
    · have h1 : ¬ (i : Int) < (s.size : Int) := by omega
      have hnil : s.data.toList.drop i = [] := List.drop_eq_nil_of_le (by simp; omega)
      by_cases hlu : i < t.size
      · have hq1 : (s.size : Int) < (t.size : Int) := by omega
        rw [hnil, drop_cons t i hlu, cmp_nil_cons] at hE
        have HE := Lib.hid hE
        clear hE hnil
        go_wp2
        go_ret
        rw [HE.out]
        exact ⟨rfl, HB.out⟩
      · have hq1 : ¬ (s.size : Int) < (t.size : Int) := by omega
        have hq2 : ¬ (t.size : Int) < (s.size : Int) := by omega
        have hnil2 : t.data.toList.drop i = [] := List.drop_eq_nil_of_le (by simp; omega)
        rw [hnil, hnil2] at hE
        have hE2 : R = 0 := hE
        have HE := Lib.hid hE2
        clear hE hnil hnil2 hE2
        go_wp2
        go_ret
        rw [HE.out]
        exact ⟨rfl, HB.out⟩
end Go.Proofs.YtffngbjnbigipaaGreatDoor

/- The document's functions on addresses: May. -/
namespace Go.Proofs.YtffngbjnbigipaaGreatDoor
open Go.RowKit Go.Lib
set_option linter.unusedSimpArgs false
set_option linter.unusedVariables false
set_option linter.unnecessarySimpa false
set_option maxRecDepth 100000

set_option maxHeartbeats 8000000 in
theorem May_ref (a : List UInt8 × List UInt8) (h1 : a.1.length ≤ 1000000000) (h2 : a.2.length ≤ 1000000000) (w : World) : Calls Tryz.prog 55 #[addrV a] w fun e w' => e = .returned (.bool (mayL a)) ∧ Below w.heap.size w w' := by
  obtain ⟨x, y⟩ := a
  simp only [mayL, addrV] at *
  have e1 : (⟨y.toArray⟩ : ByteArray).data.toList = y := rfl
  have e2 : (⟨x.toArray⟩ : ByteArray).data.toList = x := rfl
  have e3 : (⟨x.toArray⟩ : ByteArray).size = x.length := rfl
  have HP := Lib.hid (fun W => Plain_ref ⟨x.toArray⟩ (by show x.length ≤ _; omega) W)
  have HD := Lib.hid (fun W => Domain_ref ⟨y.toArray⟩ (by show y.length ≤ _; omega) W)
  rw [e1] at HD
  rw [e2] at HP
  have ht1 := Two.made w (.string ⟨x.toArray⟩) (.string ⟨y.toArray⟩) 33
  have hb1 := alloc_below w (.cells #[.string ⟨x.toArray⟩, .string ⟨y.toArray⟩] 33)
  generalize hw1 : w.alloc (.cells #[.string ⟨x.toArray⟩, .string ⟨y.toArray⟩] 33) = w1 at ht1 hb1
  generalize (⟨x.toArray⟩ : ByteArray) = X at *
  generalize (⟨y.toArray⟩ : ByteArray) = Y at *
  obtain ⟨-, c0, c1, f0, f1⟩ := ht1
  have hne : (!x.isEmpty) = decide (1 ≤ x.length) := by cases x <;> simp
  rw [hne]
  generalize plainL x = P at HP ⊢
  have HD2 : ∃ n : Nat, n = domL y := ⟨_, rfl⟩
  obtain ⟨n, hn⟩ := HD2
  rw [← hn] at HD ⊢
  clear e1 e2 hne hn
  have hb2 := hb1
  by_cases ha : 1 ≤ x.length
  · have ha1 : (1 : Int) ≤ (X.size : Int) := by omega
    by_cases hb : x.length ≤ 64
    · have hb64 : (X.size : Int) ≤ 64 := by omega
      rw [decide_eq_true ha, decide_eq_true hb]
      clear ha hb e3 hb2
      cases P with
      | true =>
        by_cases hz : n = 0
        · have hq : ((n : Int) == 0) = true := by rw [hz]; rfl
          rw [decide_eq_true hz]
          have HZ := Lib.hid hz
          clear hz
          go_enter Tryz.func55, Tryz.ntmps55
          go_wp2_with fail
          refine (HP.out _).mono ?_
          rintro e w2 ⟨rfl, hw2⟩
          rw [hw2]
          clear hw2
          go_wp2_with fail
          refine (HD.out _).mono ?_
          rintro e w3 ⟨rfl, hb3⟩
          go_wp2
          go_ret
          exact ⟨rfl, hb1.trans (hb3.mono hb1.size)⟩
        · have hq : ((n : Int) == 0) = false := by rw [beq_eq_false_iff_ne]; omega
          rw [decide_eq_false hz]
          have HZ := Lib.hid hz
          clear hz
          go_enter Tryz.func55, Tryz.ntmps55
          go_wp2_with fail
          refine (HP.out _).mono ?_
          rintro e w2 ⟨rfl, hw2⟩
          rw [hw2]
          clear hw2
          go_wp2_with fail
          refine (HD.out _).mono ?_
          rintro e w3 ⟨rfl, hb3⟩
          go_wp2
          go_ret
          exact ⟨rfl, hb1.trans (hb3.mono hb1.size)⟩
      | false =>
        go_enter Tryz.func55, Tryz.ntmps55
        go_wp2_with fail
        refine (HP.out _).mono ?_
        rintro e w2 ⟨rfl, hw2⟩
        rw [hw2]
        clear hw2
        go_wp2
        go_ret
        exact ⟨by simp, hb1⟩
    · have hb64 : ¬ (X.size : Int) ≤ 64 := by omega
      rw [decide_eq_false hb]
      clear ha hb e3 hb2
      go_enter Tryz.func55, Tryz.ntmps55
      go_wp2
      go_ret
      first
        | exact ⟨by simp, hb1⟩
        | exact ⟨by simp [hb64], hb1⟩
  · have ha1 : ¬ (1 : Int) ≤ (X.size : Int) := by omega
    rw [decide_eq_false ha]
    clear ha e3 hb2
    go_enter Tryz.func55, Tryz.ntmps55
    go_wp2
    go_ret
    first
      | exact ⟨by simp, hb1⟩
      | exact ⟨by simp [ha1], hb1⟩
end Go.Proofs.YtffngbjnbigipaaGreatDoor

/- The document's Quote, of plain bytes. -/
namespace Go.Proofs.YtffngbjnbigipaaGreatDoor
open Go.RowKit Go.Lib
set_option linter.unusedSimpArgs false
set_option linter.unusedVariables false
set_option linter.unnecessarySimpa false
set_option maxRecDepth 100000

def QrRel (s : ByteArray) (w : World) (g : Nat) (v4 v5 : Value) (W : World) : Prop :=
  ∃ k : Nat, v5 = .int .i64 (k : Int) ∧ k ≤ s.size ∧ g = s.size - k ∧ v4 = .string ⟨(34 :: escL (s.data.toList.take k)).toArray⟩ ∧ W = w
set_option maxHeartbeats 4000000 in
theorem Quote_ref (s : ByteArray) (hs : s.size ≤ 900000000) (hp : plainL s.data.toList = true) (w : World) : Calls Tryz.prog 104 #[.string s] w fun e w' => e = .returned (.tuple #[.string ⟨(quoteL s.data.toList).toArray⟩, .int .i64 0]) ∧ w' = w := by
  have HP := Lib.hid (Plain_ref s (by omega) w)
  rw [hp] at HP
  clear hp
  go_enter Tryz.func104, Tryz.ntmps104
  go_wp2_with fail
  refine HP.out.mono ?_
  rintro e w1 ⟨rfl, hw1⟩
  rw [hw1]
  clear hw1
  go_wp2_with fail
  go_loopg [4, 5] s.size (fun g v4 v5 W => QrRel s w g v4 v5 W)
  case atStart => exact ⟨0, rfl, by omega, by omega, by simp [escL], rfl⟩
  case round =>
    obtain ⟨k, rfl, hk, hg, rfl, rfl⟩ := hrel
    have HG := Lib.hid hg
    have hel := esc_len (s.data.toList.take k)
    rw [List.length_take, list_len] at hel
    clear hg
    by_cases hlt : k < s.size
    · have hk0 : (0 : Int) ≤ (k : Int) := by omega
      have hk1 : (k : Int) < (s.size : Int) := by omega
      have hk2 : (k : Int) ≤ (s.size : Int) := by omega
      have hk3 : (k : Int) + 1 ≤ (s.size : Int) := by omega
      have hk4 : (k : Int) ≤ (k : Int) + 1 := by omega
      have hwr : IntKind.i64.wrap ((k : Int) + 1) = (k : Int) + 1 := by rw [IntKind.wrap_i64]; omega
      have hts := take_snoc s k hlt
      have hes := esc_snoc (s.data.toList.take k) s[k]
      rw [← hts] at hes
      have hx1 := ext_one s k hlt
      have hx2 : s.extract k ((k : Int) + 1).toNat = ⟨[s[k]].toArray⟩ := by rw [← hx1]; congr 1
      have hb : s[k] = 34 ∨ s[k] = 92 ∨ (s[k] ≠ 34 ∧ s[k] ≠ 92) := by
        by_cases h1 : s[k] = 34
        · exact .inl h1
        · by_cases h2 : s[k] = 92
          · exact .inr (.inl h2)
          · exact .inr (.inr ⟨h1, h2⟩)
      generalize escL (s.data.toList.take k) = E at hel hes ⊢
      have hla : (34 :: E).length ≤ 2000000000 := by simp; omega
      obtain ⟨Z0, hZ0⟩ : ∃ Z : ByteArray, Z = ⟨(34 :: E).toArray⟩ := ⟨_, rfl⟩
      rw [← hZ0]
      have hs0 : Z0.size ≤ 2000000000 := by rw [hZ0]; exact hla
      obtain ⟨D, hD⟩ : ∃ D, D = s.extract k (k + 1) := ⟨_, rfl⟩
      have hD1 : D = ⟨[s[k]].toArray⟩ := by rw [hD, hx1]
      have hDs : D.size = 1 := by rw [hD1]; rfl
      have hDe := hD.symm
      rcases hb with h | h | ⟨h, h'⟩
      · have hq : ((s[k].toNat : Int) == 34) = true := by rw [h]; rfl
        have he2 : escB s[k] = [92, s[k]] := by unfold escB; rw [if_pos (by rw [h]; decide)]
        rw [he2] at hes
        obtain ⟨Z1, hZ1⟩ : ∃ Z : ByteArray, Z = Z0 ++ ⟨#[92]⟩ := ⟨_, rfl⟩
        have hs1 : Z1.size = Z0.size + 1 := by rw [hZ1, ByteArray.size_append]; rfl
        have ha1 : ∀ w, (Op.stringOp .add Z0 ⟨#[92]⟩).run Tryz.prog w = .ok (.string Z1) w := fun w => by rw [hZ1]; exact run_string_add_sum w _ _ (by have h1 : (⟨#[92]⟩ : ByteArray).size = 1 := rfl; omega)
        obtain ⟨Z2, hZ2⟩ : ∃ Z : ByteArray, Z = Z1 ++ D := ⟨_, rfl⟩
        have ha2 : ∀ w, (Op.stringOp .add Z1 D).run Tryz.prog w = .ok (.string Z2) w := fun w => by rw [hZ2]; exact run_string_add_sum w _ _ (by omega)
        have HF := Lib.hid (show Z2 = ⟨(34 :: escL (s.data.toList.take (k + 1))).toArray⟩ by rw [hZ2, hZ1, hZ0, hD1, hes]; apply ByteArray.ext; simp)
        clear hes he2 h hts hla hel hZ0 hZ1 hZ2 hs0 hs1 hD hD1 hDs hx1 hx2
        go_wp2_with fail
        go_roundg (s.size - (k + 1))
        case rel => exact ⟨k + 1, by go_num, by omega, rfl, by rw [HF.out], rfl⟩
        case measure => have := HG.out; omega
      · have hq : ((s[k].toNat : Int) == 34) = false := by rw [h]; rfl
        have hq2 : ((s[k].toNat : Int) == 92) = true := by rw [h]; rfl
        have he2 : escB s[k] = [92, s[k]] := by unfold escB; rw [if_pos (by rw [h]; decide)]
        rw [he2] at hes
        obtain ⟨Z1, hZ1⟩ : ∃ Z : ByteArray, Z = Z0 ++ ⟨#[92]⟩ := ⟨_, rfl⟩
        have hs1 : Z1.size = Z0.size + 1 := by rw [hZ1, ByteArray.size_append]; rfl
        have ha1 : ∀ w, (Op.stringOp .add Z0 ⟨#[92]⟩).run Tryz.prog w = .ok (.string Z1) w := fun w => by rw [hZ1]; exact run_string_add_sum w _ _ (by have h1 : (⟨#[92]⟩ : ByteArray).size = 1 := rfl; omega)
        obtain ⟨Z2, hZ2⟩ : ∃ Z : ByteArray, Z = Z1 ++ D := ⟨_, rfl⟩
        have ha2 : ∀ w, (Op.stringOp .add Z1 D).run Tryz.prog w = .ok (.string Z2) w := fun w => by rw [hZ2]; exact run_string_add_sum w _ _ (by omega)
        have HF := Lib.hid (show Z2 = ⟨(34 :: escL (s.data.toList.take (k + 1))).toArray⟩ by rw [hZ2, hZ1, hZ0, hD1, hes]; apply ByteArray.ext; simp)
        clear hes he2 h hts hla hel hZ0 hZ1 hZ2 hs0 hs1 hD hD1 hDs hx1 hx2
        go_wp2_with fail
        go_roundg (s.size - (k + 1))
        case rel => exact ⟨k + 1, by go_num, by omega, rfl, by rw [HF.out], rfl⟩
        case measure => have := HG.out; omega
      · have hq : ((s[k].toNat : Int) == 34) = false := by have : s[k].toNat ≠ 34 := fun e => h (UInt8.toNat_inj.1 e); rw [beq_eq_false_iff_ne]; omega
        have hq2 : ((s[k].toNat : Int) == 92) = false := by have : s[k].toNat ≠ 92 := fun e => h' (UInt8.toNat_inj.1 e); rw [beq_eq_false_iff_ne]; omega
        have he2 : escB s[k] = [s[k]] := by
          unfold escB
          rw [if_neg]
          rintro (e | e)
          · exact h (UInt8.toNat_inj.1 e)
          · exact h' (UInt8.toNat_inj.1 e)
        rw [he2] at hes
        obtain ⟨Z2, hZ2⟩ : ∃ Z : ByteArray, Z = Z0 ++ D := ⟨_, rfl⟩
        have ha2 : ∀ w, (Op.stringOp .add Z0 D).run Tryz.prog w = .ok (.string Z2) w := fun w => by rw [hZ2]; exact run_string_add_sum w _ _ (by omega)
        have HF := Lib.hid (show Z2 = ⟨(34 :: escL (s.data.toList.take (k + 1))).toArray⟩ by rw [hZ2, hZ0, hD1, hes]; apply ByteArray.ext; simp)
        clear hes he2 h h' hts hla hel hZ0 hZ2 hs0 hD hD1 hDs hx1 hx2
        go_wp2_with fail
        go_roundg (s.size - (k + 1))
        case rel => exact ⟨k + 1, by go_num, by omega, rfl, by rw [HF.out], rfl⟩
        case measure => have := HG.out; omega
    · have hge : ¬ (k : Int) < (s.size : Int) := by omega
      obtain rfl : k = s.size := by omega
      rw [take_all] at hel ⊢
      obtain ⟨Z0, hZ0⟩ : ∃ Z : ByteArray, Z = ⟨(34 :: escL s.data.toList).toArray⟩ := ⟨_, rfl⟩
      rw [← hZ0]
      have hs0 : Z0.size ≤ 2000000000 := by rw [hZ0]; show (34 :: escL s.data.toList).length ≤ _; simp; omega
      obtain ⟨Z1, hZ1⟩ : ∃ Z : ByteArray, Z = Z0 ++ ⟨#[34]⟩ := ⟨_, rfl⟩
      have ha1 : ∀ w, (Op.stringOp .add Z0 ⟨#[34]⟩).run Tryz.prog w = .ok (.string Z1) w := fun w => by rw [hZ1]; exact run_string_add_sum w _ _ (by have h1 : (⟨#[34]⟩ : ByteArray).size = 1 := rfl; omega)
      have HF := Lib.hid (show Z1 = ⟨(quoteL s.data.toList).toArray⟩ by rw [hZ1, hZ0]; unfold quoteL; apply ByteArray.ext; simp)
      clear hZ0 hZ1 hs0 hel
      go_wp2
      go_ret2
      rw [← HF.out]
      exact ⟨rfl, rfl⟩
end Go.Proofs.YtffngbjnbigipaaGreatDoor

/- The document's Text of any address. -/
namespace Go.Proofs.YtffngbjnbigipaaGreatDoor
open Go.RowKit Go.Lib
set_option linter.unusedSimpArgs false
set_option linter.unusedVariables false
set_option linter.unnecessarySimpa false
set_option maxRecDepth 100000

set_option maxHeartbeats 4000000 in
theorem Text_ref (a : List UInt8 × List UInt8) (h1 : a.1.length ≤ 900000000) (h2 : a.2.length ≤ 900000000) (w : World) : Calls Tryz.prog 57 #[addrV a] w fun e w' => e = .returned (.string ⟨(textL a).toArray⟩) ∧ Below w.heap.size w w' := by
  have HM := Lib.hid (fun W => May_ref a (by omega) (by omega) W)
  obtain ⟨x, y⟩ := a
  simp only [addrV] at h1 h2 HM ⊢
  obtain ⟨R, hR⟩ : ∃ R : ByteArray, R = ⟨(textL (x, y)).toArray⟩ := ⟨_, rfl⟩
  rw [← hR]
  have e2 : (⟨x.toArray⟩ : ByteArray).data.toList = x := rfl
  have HDA := Lib.hid (fun W => DotAtom_ref ⟨x.toArray⟩ (by show x.length ≤ _; omega) W)
  rw [e2] at HDA
  have ht1 := Two.made w (.string ⟨x.toArray⟩) (.string ⟨y.toArray⟩) 33
  have hb1 := alloc_below w (.cells #[.string ⟨x.toArray⟩, .string ⟨y.toArray⟩] 33)
  unfold textL at hR
  simp only at hR
  cases hm : mayL (x, y) with
  | false =>
    rw [hm] at hR HM
    simp only [Bool.false_eq_true, if_false] at hR
    have HR := Lib.hid hR
    generalize hw1 : w.alloc (.cells #[.string ⟨x.toArray⟩, .string ⟨y.toArray⟩] 33) = w1 at ht1 hb1
    generalize (⟨x.toArray⟩ : ByteArray) = X at *
    generalize (⟨y.toArray⟩ : ByteArray) = Y at *
    obtain ⟨-, c0, c1, f0, f1⟩ := ht1
    clear hR hm HDA e2
    go_enter Tryz.func57, Tryz.ntmps57
    go_wp2_with fail
    refine (HM.out _).mono ?_
    rintro e w2 ⟨rfl, hb2⟩
    go_wp2
    go_ret
    rw [HR.out]
    exact ⟨rfl, hb1.trans (hb2.mono hb1.size)⟩
  | true =>
    have hpl : plainL x = true := by
      unfold mayL at hm
      simp only [Bool.and_eq_true] at hm
      exact hm.1.2
    have HQ := Lib.hid (fun W => Quote_ref ⟨x.toArray⟩ (by show x.length ≤ _; omega) hpl W)
    rw [e2] at HQ
    rw [hm] at hR HM
    simp only [if_true] at hR
    cases hd : dotGo x true with
    | true =>
      rw [hd] at hR HDA
      simp only [if_true] at hR
      have hq : ∃ Z1 : ByteArray, Z1 = ⟨x.toArray⟩ ++ ⟨#[64]⟩ := ⟨_, rfl⟩
      obtain ⟨Z1, hZ1⟩ := hq
      have hz1 : Z1.size = x.length + 1 := by rw [hZ1, ByteArray.size_append]; rfl
      have hR2 : R = Z1 ++ ⟨y.toArray⟩ := by rw [hR, hZ1]; apply ByteArray.ext; simp
      have ha1 : ∀ w, (Op.stringOp .add ⟨x.toArray⟩ ⟨#[64]⟩).run Tryz.prog w = .ok (.string Z1) w := fun w => by rw [hZ1]; exact run_string_add_sum w _ _ (by show x.length + 1 ≤ _; omega)
      have ha2 : ∀ w, (Op.stringOp .add Z1 ⟨y.toArray⟩).run Tryz.prog w = .ok (.string R) w := fun w => by rw [hR2]; exact run_string_add_sum w _ _ (by rw [hz1]; show x.length + 1 + y.length ≤ _; omega)
      clear hR hR2 hZ1 hz1 hm hd e2 HQ hpl
      generalize hw1 : w.alloc (.cells #[.string ⟨x.toArray⟩, .string ⟨y.toArray⟩] 33) = w1 at ht1 hb1
      generalize (⟨x.toArray⟩ : ByteArray) = X at *
      generalize (⟨y.toArray⟩ : ByteArray) = Y at *
      obtain ⟨-, c0, c1, f0, f1⟩ := Two.below ht1 (Below.refl _ _)
      have T1 := Lib.hid ht1
      clear ht1
      go_enter Tryz.func57, Tryz.ntmps57
      go_wp2_with fail
      refine (HM.out _).mono ?_
      rintro e w2 ⟨rfl, hb2⟩
      clear c0 c1 f0 f1
      obtain ⟨-, c0, c1, f0, f1⟩ := T1.out.below hb2
      go_wp2_with fail
      refine (HDA.out _).mono ?_
      rintro e w3 ⟨rfl, hw3⟩
      rw [hw3]
      clear hw3
      go_wp2
      go_ret
      exact ⟨rfl, hb1.trans (hb2.mono hb1.size)⟩
    | false =>
      rw [hd] at hR HDA
      simp only [Bool.false_eq_true, if_false] at hR
      have hql : (quoteL x).length ≤ 2000000000 := by unfold quoteL; have := esc_len x; simp; omega
      have hq : ∃ Z0 : ByteArray, Z0 = ⟨(quoteL x).toArray⟩ := ⟨_, rfl⟩
      obtain ⟨Z0, hZ0⟩ := hq
      rw [← hZ0] at HQ
      have hz0 : Z0.size = (quoteL x).length := by rw [hZ0]; rfl
      have hq : ∃ Z1 : ByteArray, Z1 = Z0 ++ ⟨#[64]⟩ := ⟨_, rfl⟩
      obtain ⟨Z1, hZ1⟩ := hq
      have hz1 : Z1.size = (quoteL x).length + 1 := by rw [hZ1, ByteArray.size_append, hz0]; rfl
      have hR2 : R = Z1 ++ ⟨y.toArray⟩ := by rw [hR, hZ1, hZ0]; apply ByteArray.ext; simp
      have ha1 : ∀ w, (Op.stringOp .add Z0 ⟨#[64]⟩).run Tryz.prog w = .ok (.string Z1) w := fun w => by rw [hZ1]; exact run_string_add_sum w _ _ (by rw [hz0]; have h1 : (⟨#[64]⟩ : ByteArray).size = 1 := rfl; omega)
      have ha2 : ∀ w, (Op.stringOp .add Z1 ⟨y.toArray⟩).run Tryz.prog w = .ok (.string R) w := fun w => by rw [hR2]; exact run_string_add_sum w _ _ (by rw [hz1]; have h1 : (⟨y.toArray⟩ : ByteArray).size = y.length := rfl; omega)
      clear hR hR2 hZ1 hz1 hm hd e2 hpl hZ0 hz0 hql
      generalize hw1 : w.alloc (.cells #[.string ⟨x.toArray⟩, .string ⟨y.toArray⟩] 33) = w1 at ht1 hb1
      generalize (⟨x.toArray⟩ : ByteArray) = X at *
      generalize (⟨y.toArray⟩ : ByteArray) = Y at *
      obtain ⟨-, c0, c1, f0, f1⟩ := Two.below ht1 (Below.refl _ _)
      have T1 := Lib.hid ht1
      clear ht1
      go_enter Tryz.func57, Tryz.ntmps57
      go_wp2_with fail
      refine (HM.out _).mono ?_
      rintro e w2 ⟨rfl, hb2⟩
      clear c0 c1 f0 f1
      obtain ⟨-, c0, c1, f0, f1⟩ := T1.out.below hb2
      go_wp2_with fail
      refine (HDA.out _).mono ?_
      rintro e w3 ⟨rfl, hw3⟩
      rw [hw3]
      clear hw3
      go_wp2_with fail
      refine (HQ.out _).mono ?_
      rintro e w4 ⟨rfl, hw4⟩
      rw [hw4]
      clear hw4
      go_wp2
      go_ret
      exact ⟨rfl, hb1.trans (hb2.mono hb1.size)⟩
end Go.Proofs.YtffngbjnbigipaaGreatDoor

/- The document's Lower. -/
namespace Go.Proofs.YtffngbjnbigipaaGreatDoor
open Go.RowKit Go.Lib
set_option linter.unusedSimpArgs false
set_option linter.unusedVariables false
set_option linter.unnecessarySimpa false
set_option maxRecDepth 100000

def LoRel (s : ByteArray) (w : World) (g : Nat) (v3 v4 : Value) (W : World) : Prop :=
  ∃ k : Nat, v4 = .int .i64 (k : Int) ∧ k ≤ s.size ∧ g = s.size - k ∧ W.ownsRow w.heap.size 5 1 v3 k ((lowL (s.data.toList.take k)).map byteV) ∧ Below w.heap.size w W ∧ w.heap.size ≤ W.heap.size
set_option maxHeartbeats 8000000 in
theorem Lower_ref (s : ByteArray) (hs : s.size ≤ 1000000000000) (w : World) : Calls Tryz.prog 145 #[.string s] w fun e w' => e = .returned (.string ⟨(lowL s.data.toList).toArray⟩) ∧ Below w.heap.size w w' := by
  go_enter Tryz.func145, Tryz.ntmps145
  go_wp2_with fail
  go_loopg [3, 4, 5] s.size (fun g v3 v4 v5 W => LoRel s w g v3 v4 W)
  case atStart => exact ⟨0, rfl, by omega, by omega, by simp [World.ownsRow, lowL], Below.refl _ _, Nat.le_refl _⟩
  case round =>
    obtain ⟨k, rfl, hk, hg, hown, hb, hbs⟩ := hrel
    have HG := Lib.hid hg
    clear hg
    by_cases hlt : k < s.size
    · have hk0 : (0 : Int) ≤ (k : Int) := by omega
      have hk1 : (k : Int) < (s.size : Int) := by omega
      have hwr : IntKind.i64.wrap ((k : Int) + 1) = (k : Int) + 1 := by rw [IntKind.wrap_i64]; omega
      have hst : (lowL (s.data.toList.take (k + 1))).map byteV = (lowL (s.data.toList.take k)).map byteV ++ [byteV (lowB s[k])] := by
        rw [take_snoc s k hlt]; simp [lowL]
      have HST := Lib.hid hst
      clear hst
      by_cases h1 : 65 ≤ s[k].toNat ∧ s[k].toNat ≤ 90
      · have h65 : (65 : Int) ≤ (s[k].toNat : Int) := by omega
        have h90 : (s[k].toNat : Int) ≤ 90 := by omega
        have hlow : ((lowB s[k]).toNat : Int) = (s[k].toNat : Int) + 32 := by
          unfold lowB
          rw [if_pos h1]
          have : (s[k] + 32).toNat = (s[k].toNat + 32) % 256 := UInt8.toNat_add _ _
          omega
        have hw32 : IntKind.u8.wrap ((s[k].toNat : Int) + 32) = ((lowB s[k]).toNat : Int) := by rw [IntKind.wrap_u8, hlow]; omega
        generalize lowB s[k] = d at hlow hw32 HST
        clear hlow h1
        go_wp2_with (at_builtin; refine app_byte rfl _ _ rfl w.heap.size _ _ _ rfl (World.ownsRow.alloc (w := wr) hown _) ⟨wr.heap.size, 0, none⟩ 1 (byteV d) rfl (new_cell _ _ _) rfl (by omega) (by rw [World.size_alloc]; exact Nat.le_succ_of_le hbs) ?_; intro g' cap w' hown' hgr)
        go_roundg (s.size - (k + 1))
        case rel =>
          refine ⟨k + 1, rfl, by omega, rfl, ?_, ?_, ?_⟩
          · rw [HST.out]; exact hown'
          · exact (hb.alloc hbs _).grown hgr (by rw [World.size_alloc]; exact Nat.le_succ_of_le hbs) (own_base5 hown)
          · have := hgr.size
            rw [World.size_alloc] at this
            exact Nat.le_trans hbs (Nat.le_trans (Nat.le_succ _) this)
        case measure => have := HG.out; omega
      · have hlow : lowB s[k] = s[k] := by unfold lowB; rw [if_neg h1]
        rw [hlow] at HST
        clear hlow
        by_cases h2 : 65 ≤ s[k].toNat
        · have h65 : (65 : Int) ≤ (s[k].toNat : Int) := by omega
          have h90 : ¬ (s[k].toNat : Int) ≤ 90 := by omega
          clear h1
          go_wp2_with (at_builtin; refine app_byte rfl _ _ rfl w.heap.size _ _ _ rfl (World.ownsRow.alloc (w := wr) hown _) ⟨wr.heap.size, 0, none⟩ 1 (byteV s[k]) rfl (new_cell _ _ _) rfl (by omega) (by rw [World.size_alloc]; exact Nat.le_succ_of_le hbs) ?_; intro g' cap w' hown' hgr)
          go_roundg (s.size - (k + 1))
          case rel =>
            refine ⟨k + 1, rfl, by omega, rfl, ?_, ?_, ?_⟩
            · rw [HST.out]; exact hown'
            · exact (hb.alloc hbs _).grown hgr (by rw [World.size_alloc]; exact Nat.le_succ_of_le hbs) (own_base5 hown)
            · have := hgr.size
              rw [World.size_alloc] at this
              exact Nat.le_trans hbs (Nat.le_trans (Nat.le_succ _) this)
          case measure => have := HG.out; omega
        · have h65 : ¬ (65 : Int) ≤ (s[k].toNat : Int) := by omega
          clear h1
          go_wp2_with (at_builtin; refine app_byte rfl _ _ rfl w.heap.size _ _ _ rfl (World.ownsRow.alloc (w := wr) hown _) ⟨wr.heap.size, 0, none⟩ 1 (byteV s[k]) rfl (new_cell _ _ _) rfl (by omega) (by rw [World.size_alloc]; exact Nat.le_succ_of_le hbs) ?_; intro g' cap w' hown' hgr)
          go_roundg (s.size - (k + 1))
          case rel =>
            refine ⟨k + 1, rfl, by omega, rfl, ?_, ?_, ?_⟩
            · rw [HST.out]; exact hown'
            · exact (hb.alloc hbs _).grown hgr (by rw [World.size_alloc]; exact Nat.le_succ_of_le hbs) (own_base5 hown)
            · have := hgr.size
              rw [World.size_alloc] at this
              exact Nat.le_trans hbs (Nat.le_trans (Nat.le_succ _) this)
          case measure => have := HG.out; omega
    · have hge : ¬ (k : Int) < (s.size : Int) := by omega
      obtain rfl : k = s.size := by omega
      rw [take_all] at hown
      obtain ⟨q, cp, rfl⟩ := own_form hown
      have hcv := conv_own (l := lowL s.data.toList) (by unfold lowL; rw [List.length_map, list_len]) hown
      go_wp2
      go_ret
      exact ⟨rfl, hb⟩
end Go.Proofs.YtffngbjnbigipaaGreatDoor

/- The document's Normal. -/
namespace Go.Proofs.YtffngbjnbigipaaGreatDoor
open Go.RowKit Go.Lib
set_option linter.unusedSimpArgs false
set_option linter.unusedVariables false
set_option linter.unnecessarySimpa false
set_option maxRecDepth 100000

theorem pm_text (l : List UInt8) : (l == pmL) = decide ((⟨l.toArray⟩ : ByteArray).toList = [112, 111, 115, 116, 109, 97, 115, 116, 101, 114]) := by
  rw [ByteArray.toList_eq]
  show (l == pmL) = decide (l = pmL)
  rw [Bool.eq_iff_iff]
  simp
theorem pm_if (Q : Bool) (x : List UInt8) : (⟨(if Q = true then pmL else x).toArray⟩ : ByteArray) = if Q = true then ⟨#[112, 111, 115, 116, 109, 97, 115, 116, 101, 114]⟩ else ⟨x.toArray⟩ := by cases Q <;> rfl
set_option maxHeartbeats 1000000 in
theorem Normal_ref (a : List UInt8 × List UInt8) (h1 : a.1.length ≤ 1000000000) (h2 : a.2.length ≤ 1000000000) (w : World) : Calls Tryz.prog 101 #[addrV a] w fun e w' => e = .returned (addrV (normL a)) ∧ Below w.heap.size w w' := by
  obtain ⟨x, y⟩ := a
  simp only [normL, addrV] at *
  have e1 : (⟨y.toArray⟩ : ByteArray).data.toList = y := rfl
  have e2 : (⟨x.toArray⟩ : ByteArray).data.toList = x := rfl
  have HX := Lib.hid (fun W => Lower_ref ⟨x.toArray⟩ (by show x.length ≤ _; omega) W)
  have HY := Lib.hid (fun W => Lower_ref ⟨y.toArray⟩ (by show y.length ≤ _; omega) W)
  rw [e1] at HY
  rw [e2] at HX
  generalize lowL x = lx at HX ⊢
  generalize lowL y = ly at HY ⊢
  have ht1 := Two.made w (.string ⟨x.toArray⟩) (.string ⟨y.toArray⟩) 33
  generalize hw1 : w.alloc (.cells #[.string ⟨x.toArray⟩, .string ⟨y.toArray⟩] 33) = w1 at ht1
  have hb1 : Below w.heap.size w w1 := by rw [← hw1]; exact alloc_below w _
  have hs1 : w1.heap.size = w.heap.size + 1 := by rw [← hw1]; exact World.size_alloc _ _
  have ht2 := Two.made w1 (.string ⟨#[]⟩) (.string ⟨#[]⟩) 33
  have hb2' := alloc_below w1 (.cells #[.string ⟨#[]⟩, .string ⟨#[]⟩] 33)
  generalize hw2 : w1.alloc (.cells #[.string ⟨#[]⟩, .string ⟨#[]⟩] 33) = w2 at ht2 hb2'
  rw [hs1] at ht2
  have ht1 := ht1.below hb2'
  have hb2 : Below w.heap.size w w2 := hb1.trans (hb2'.mono hb1.size)
  clear hb1 hb2' e1 e2
  rw [pm_if, pm_text]
  generalize (⟨x.toArray⟩ : ByteArray) = X at *
  generalize (⟨y.toArray⟩ : ByteArray) = Y at *
  generalize (⟨lx.toArray⟩ : ByteArray) = LX at *
  generalize (⟨ly.toArray⟩ : ByteArray) = LY at *
  obtain ⟨l1, c0, c1, f0, f1⟩ := ht1
  have T2 := Lib.hid ht2
  clear ht2
  by_cases hp : LX.toList = [112, 111, 115, 116, 109, 97, 115, 116, 101, 114]
  rotate_left
  · rw [decide_eq_false hp]
    have hq : (LX.toList == [112, 111, 115, 116, 109, 97, 115, 116, 101, 114]) = false := by simpa using hp
    go_enter Tryz.func101, Tryz.ntmps101
    go_wp2_with fail
    refine (HX.out w2).mono ?_
    rintro e w3 ⟨rfl, hb3⟩
    have U1 := Two.below ⟨l1, c0, c1, f0, f1⟩ hb3
    have V1 := T2.out.below hb3
    clear l1 c0 c1 f0 f1 T2
    have hbw3 := hb2.trans (hb3.mono hb2.size)
    obtain ⟨-, c0, c1, f0, f1⟩ := U1
    go_wp2_with fail
    refine (HY.out w3).mono ?_
    rintro e w5 ⟨rfl, hb5⟩
    have U5 := Two.below ⟨(by have := hbw3.size; have := hb2.size; exact World.block_lt_of_cell? w3 _ c0), c0, c1, f0, f1⟩ hb5
    have V5 := V1.below hb5
    have hbw5 := hbw3.trans (hb5.mono hbw3.size)
    have U6 := U5.set1 (.string LY)
    have V6 := V5.far (C := w.heap.size) (o := 1) (v := .string LY) (by omega)
    have hbw6 := hbw5.setCell (p := ⟨w.heap.size, 1, none⟩) (Nat.le_refl _) (.string LY)
    clear c0 c1 f0 f1
    obtain ⟨-, c0, c1, f0, f1⟩ := U5
    obtain ⟨-, n0, n1, o0, o1⟩ := U6
    obtain ⟨-, k0, k1, m0, m1⟩ := V6
    go_wp2
    refine bodyPost_ret (v := .agg #[.string X, .string LY]) (by simp [results, Tryz.results101, go_sem, set_same _ _ _ _ k0, set_first _ _ _ _ _ _ k0 k1]) rfl ⟨rfl, ?_⟩
    exact (hbw6.setCell (p := ⟨w.heap.size + 1, 0, none⟩) (Nat.le_succ _) _).setCell (p := ⟨w.heap.size + 1, 1, none⟩) (Nat.le_succ _) _
  · rw [decide_eq_true hp]
    have hq : (LX.toList == [112, 111, 115, 116, 109, 97, 115, 116, 101, 114]) = true := by simpa using hp
    go_enter Tryz.func101, Tryz.ntmps101
    go_wp2_with fail
    refine (HX.out w2).mono ?_
    rintro e w3 ⟨rfl, hb3⟩
    have U1 := Two.below ⟨l1, c0, c1, f0, f1⟩ hb3
    have V1 := T2.out.below hb3
    clear l1 c0 c1 f0 f1 T2
    have hbw3 := hb2.trans (hb3.mono hb2.size)
    have U2 := U1.set0 (.string ⟨#[112, 111, 115, 116, 109, 97, 115, 116, 101, 114]⟩)
    have V2 := V1.far (C := w.heap.size) (o := 0) (v := .string ⟨#[112, 111, 115, 116, 109, 97, 115, 116, 101, 114]⟩) (by omega)
    have hbw4 := hbw3.setCell (p := ⟨w.heap.size, 0, none⟩) (Nat.le_refl _) (.string ⟨#[112, 111, 115, 116, 109, 97, 115, 116, 101, 114]⟩)
    obtain ⟨-, c0, c1, f0, f1⟩ := U1
    have UH := Lib.hid U2
    obtain ⟨-, d0, d1, g0, g1⟩ := U2
    go_wp2_with fail
    refine (HY.out _).mono ?_
    rintro e w5 ⟨rfl, hb5⟩
    have U5 := UH.out.below hb5
    have V5 := V2.below hb5
    have hbw5 := hbw4.trans (hb5.mono hbw4.size)
    have U6 := U5.set1 (.string LY)
    have V6 := V5.far (C := w.heap.size) (o := 1) (v := .string LY) (by omega)
    have hbw6 := hbw5.setCell (p := ⟨w.heap.size, 1, none⟩) (Nat.le_refl _) (.string LY)
    clear c0 c1 f0 f1 d0 d1 g0 g1
    obtain ⟨-, c0, c1, f0, f1⟩ := U5
    obtain ⟨-, n0, n1, o0, o1⟩ := U6
    obtain ⟨-, k0, k1, m0, m1⟩ := V6
    go_wp2
    refine bodyPost_ret (v := .agg #[.string ⟨#[112, 111, 115, 116, 109, 97, 115, 116, 101, 114]⟩, .string LY]) (by simp [results, Tryz.results101, go_sem, set_same _ _ _ _ k0, set_first _ _ _ _ _ _ k0 k1]) rfl ⟨rfl, ?_⟩
    exact (hbw6.setCell (p := ⟨w.heap.size + 1, 0, none⟩) (Nat.le_succ _) _).setCell (p := ⟨w.heap.size + 1, 1, none⟩) (Nat.le_succ _) _
end Go.Proofs.YtffngbjnbigipaaGreatDoor

/- The document's Compare. -/
namespace Go.Proofs.YtffngbjnbigipaaGreatDoor
open Go.RowKit Go.Lib
set_option linter.unusedSimpArgs false
set_option linter.unusedVariables false
set_option linter.unnecessarySimpa false
set_option maxRecDepth 100000

theorem NormalR_S (X Y : ByteArray) (hx : X.size ≤ 1000000000) (hy : Y.size ≤ 1000000000) (w : World) : Calls Tryz.prog 101 #[.agg #[.string X, .string Y]] w fun e w' => e = .returned (.agg #[.string (nS X), .string (lS Y)]) ∧ Below w.heap.size w w' := by
  have h := Normal_ref (X.data.toList, Y.data.toList) (by rw [list_len]; exact hx) (by rw [list_len]; exact hy) w
  simp only [addrV, normL, back_text] at h
  exact h
set_option maxHeartbeats 8000000 in
theorem Compare_ref (X Y X' Y' : ByteArray) (h1 : X.size ≤ 1000000000) (h2 : Y.size ≤ 1000000000) (h3 : X'.size ≤ 1000000000) (h4 : Y'.size ≤ 1000000000) (w : World) :
    Calls Tryz.prog 56 #[.agg #[.string X, .string Y], .agg #[.string X', .string Y']] w fun e w' => e = .returned (.int .i64 (ordS X Y X' Y')) ∧ Below w.heap.size w w' := by
  have hsn : ∀ A : ByteArray, A.size ≤ 1000000000 → (nS A).size ≤ 1000000000 := fun A hA => by
    unfold nS
    show (if (lowL A.data.toList == pmL) = true then pmL else A.data.toList).length ≤ _
    split
    · decide
    · rw [list_len]; exact hA
  have hsl : ∀ A : ByteArray, A.size ≤ 1000000000 → (lS A).size ≤ 1000000000 := fun A hA => by
    show (lowL A.data.toList).length ≤ _
    unfold lowL
    rw [List.length_map, list_len]; exact hA
  have HN1 := Lib.hid (fun W => NormalR_S X Y h1 h2 W)
  have HN2 := Lib.hid (fun W => NormalR_S X' Y' h3 h4 W)
  have HC1 := Lib.hid (fun W => order_ref (lS Y) (lS Y') (by have := hsl Y h2; omega) (by have := hsl Y' h4; omega) W)
  have HC2 := Lib.hid (fun W => order_ref (nS X) (nS X') (by have := hsn X h1; omega) (by have := hsn X' h3; omega) W)
  rw [ordS_eq]
  generalize cmpL (lS Y).data.toList (lS Y').data.toList = C1 at HC1 ⊢
  generalize cmpL (nS X).data.toList (nS X').data.toList = C2 at HC2 ⊢
  clear hsn hsl
  obtain ⟨R, hR⟩ : ∃ R, R = if C1 = 0 then C2 else C1 := ⟨_, rfl⟩
  rw [← hR]
  have HR := Lib.hid hR
  clear hR
  generalize nS X = NX at HN1 HC2
  generalize lS Y = LY at HN1 HC1
  generalize nS X' = NX' at HN2 HC2
  generalize lS Y' = LY' at HN2 HC1
  have ht1 := Two.made w (.string X) (.string Y) 33
  have hb1 := alloc_below w (.cells #[.string X, .string Y] 33)
  have hs1 : (w.alloc (.cells #[.string X, .string Y] 33)).heap.size = w.heap.size + 1 := World.size_alloc _ _
  generalize hw1 : w.alloc (.cells #[.string X, .string Y] 33) = w1 at ht1 hb1 hs1
  have ht2 := Two.made w1 (.string X') (.string Y') 33
  have hb2' := alloc_below w1 (.cells #[.string X', .string Y'] 33)
  generalize hw2 : w1.alloc (.cells #[.string X', .string Y'] 33) = w2 at ht2 hb2'
  rw [hs1] at ht2
  have ht1 := ht1.below hb2'
  have hb2 : Below w.heap.size w w2 := hb1.trans (hb2'.mono hb1.size)
  clear hb1 hb2'
  obtain ⟨l1, c0, c1, f0, f1⟩ := ht1
  have T2 := Lib.hid ht2
  clear ht2
  go_enter Tryz.func56, Tryz.ntmps56
  go_wp2_with fail
  refine (HN1.out w2).mono ?_
  rintro e w3 ⟨rfl, hb3⟩
  have U3 := Two.below ⟨l1, c0, c1, f0, f1⟩ hb3
  have V3 := T2.out.below hb3
  have hbw3 := hb2.trans (hb3.mono hb2.size)
  clear l1 c0 c1 f0 f1 T2
  have U4 := Lib.hid (U3.set (.string NX) (.string LY))
  have V4 := Lib.hid (V3.far2 (C := w.heap.size) (u := .string NX) (v := .string LY) (by omega))
  have hbw4 := (hbw3.setCell (p := ⟨w.heap.size, 0, none⟩) (Nat.le_refl _) (.string NX)).setCell (p := ⟨w.heap.size, 1, none⟩) (Nat.le_refl _) (.string LY)
  obtain ⟨-, c0, c1, f0, f1⟩ := U3
  obtain ⟨-, d0, d1, g0, g1⟩ := V4.out
  go_wp2_with fail
  refine (HN2.out _).mono ?_
  rintro e w5 ⟨rfl, hb5⟩
  have U5 := U4.out.below hb5
  have V5 := V4.out.below hb5
  have hbw5 := hbw4.trans (hb5.mono hbw4.size)
  clear c0 c1 f0 f1 d0 d1 g0 g1 U4 V4
  have V6 := Lib.hid (V5.set (.string NX') (.string LY'))
  have U6 := Lib.hid (U5.far2 (C := w.heap.size + 1) (u := .string NX') (v := .string LY') (by omega))
  have hbw6 := (hbw5.setCell (p := ⟨w.heap.size + 1, 0, none⟩) (Nat.le_succ _) (.string NX')).setCell (p := ⟨w.heap.size + 1, 1, none⟩) (Nat.le_succ _) (.string LY')
  obtain ⟨-, c0, c1, f0, f1⟩ := V5
  obtain ⟨-, d0, d1, g0, g1⟩ := U6.out
  obtain ⟨-, k0, k1, m0, m1⟩ := V6.out
  by_cases hz : C1 = 0
  · have hq : (C1 != 0) = false := by rw [hz]; rfl
    have HZ := Lib.hid hz
    clear hz
    go_wp2_with fail
    refine (HC1.out _).mono ?_
    rintro e w7 ⟨rfl, hb7⟩
    have hbw7 := hbw6.trans (hb7.mono hbw6.size)
    have U7 := U6.out.below hb7
    have V7 := V6.out.below hb7
    clear c0 c1 f0 f1 d0 d1 g0 g1 k0 k1 m0 m1
    obtain ⟨-, d0, d1, g0, g1⟩ := U7
    obtain ⟨-, k0, k1, m0, m1⟩ := V7
    go_wp2_with fail
    refine (HC2.out _).mono ?_
    rintro e w8 ⟨rfl, hb8⟩
    go_wp2
    go_ret
    rw [HR.out, if_pos HZ.out]
    exact ⟨rfl, hbw7.trans (hb8.mono hbw7.size)⟩
  · have hq : (C1 != 0) = true := by simpa using hz
    have HZ := Lib.hid hz
    clear hz
    go_wp2_with fail
    refine (HC1.out _).mono ?_
    rintro e w7 ⟨rfl, hb7⟩
    have hbw7 := hbw6.trans (hb7.mono hbw6.size)
    go_wp2
    go_ret
    rw [HR.out, if_neg HZ.out]
    exact ⟨rfl, hbw7⟩
end Go.Proofs.YtffngbjnbigipaaGreatDoor
