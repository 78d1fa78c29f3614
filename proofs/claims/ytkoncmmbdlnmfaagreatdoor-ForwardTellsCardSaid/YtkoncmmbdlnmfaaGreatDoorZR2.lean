/- Several texts joined into one (a claim has a limit of files). -/
import Derived.Test.YtkoncmmbdlnmfaaGreatDoorZR1
import Derived.Test.YtkoncmmbdlnmfaaGreatDoorLinI
import Derived.Deep.DeepCutAuto
import Derived.Test.YtkoncmmbdlnmfaaGreatDoorLinL
import Derived.Test.YtkoncmmbdlnmfaaGreatDoorEK6
import Derived.Test.YtkoncmmbdlnmfaaGreatDoorFull
import Derived.Test.YtkoncmmbdlnmfaaGreatDoorLinT
import Derived.Test.YtkoncmmbdlnmfaaGreatDoorParT
import Derived.Test.YtkoncmmbdlnmfaaGreatDoorTexT
/- The document's said (package 13): what a text's lines say, put together. -/
namespace Go.Proofs.YtkoncmmbdlnmfaaGreatDoor
open Go.RowKit Go.Lib
set_option linter.unusedSimpArgs false
set_option linter.unusedVariables false
set_option linter.unnecessarySimpa false
set_option maxRecDepth 100000

theorem info166 : (Tryz.prog.info? 166).map (fun i => (i.zero, i.size, i.bytes)) = some (some (.agg #[.int .i64 0, .string ⟨#[]⟩, .bool false]), 3, 32) := by kernel_rfl
theorem trimW_head {c : UInt8} (r : List UInt8) (hc : blkB c = false) : ∃ r', trimW (c :: r) = c :: r' := by
  unfold trimW
  have h1 : trimF (c :: r) = c :: r := by unfold trimF; rw [List.dropWhile_cons, if_neg (by rw [hc]; simp)]
  have h2 : ([c] : List UInt8).dropWhile blkB = [c] := by rw [List.dropWhile_cons, if_neg (by rw [hc]; simp)]
  rw [h1, List.reverse_cons]
  unfold trimF
  rw [drop_snoc]
  split
  · rw [h2]; exact ⟨[], rfl⟩
  · rw [List.reverse_append]; exact ⟨_, rfl⟩
theorem trimW_first : ∀ (l : List UInt8) {b : UInt8} {r : List UInt8}, trimW l = b :: r → blkB b = false
  | [], b, r, h => by cases h
  | c :: l, b, r, h => by
    cases hc : blkB c with
    | true => rw [trimW_cons hc] at h; exact trimW_first l h
    | false =>
      obtain ⟨r', h'⟩ := trimW_head l hc
      rw [h'] at h
      injection h with h1 h2
      rw [← h1]; exact hc
theorem trimW_same_head {c b : UInt8} {r r' : List UInt8} (h : trimW (c :: r) = b :: r') : blkB c = !(b == c) := by
  cases hc : blkB c with
  | false =>
    obtain ⟨q, hq⟩ := trimW_head r hc
    rw [hq] at h
    injection h with h1 h2
    rw [h1]; simp
  | true =>
    have hb := trimW_first _ h
    have : (b == c) = false := by
      rw [beq_eq_false_iff_ne]
      rintro rfl
      rw [hc] at hb
      cases hb
    rw [this]; rfl
theorem addr_zero (g j : Nat) : (⟨g, 0, none⟩ : Addr).add j = ⟨g, j, none⟩ := by unfold Addr.add; split <;> simp_all
def LastP (st : List Sd × Bool) (z : Int) : Prop := (st.2 = false ∧ z = -1) ∨ (st.2 = true ∧ st.1 ≠ [] ∧ z = (st.1.length : Int) - 1)
/-- where the reading of lines stands. -/
def AtL (s : ByteArray) (ps : List (List UInt8)) (i f n : Nat) : Prop :=
  (i ≤ s.size ∧ f ≤ i ∧ (∀ k : Nat, f ≤ k → k < i → s.data.toList[k]? ≠ some 10) ∧ ps.drop n = pieces 10 (s.data.toList.drop f)) ∨ (i = s.size + 1 ∧ n = ps.length)
def SdRel13 (s : ByteArray) (ps : List (List UInt8)) (N : Nat) (w : World) (g : Nat) (v3 v4 v5 v6 v7 : Value) (W : World) : Prop :=
  ∃ (i f n : Nat) (st : List Sd × Bool) (z : Int), v7 = .int .i64 (i : Int) ∧ v4 = .int .i64 (f : Int) ∧ v5 = .int .i64 (n : Int) ∧ v6 = .int .i64 z ∧ g = s.size + 1 - i ∧ i ≤ s.size + 1 ∧ n ≤ ps.length ∧ LastP st z ∧ st = logGo (ps.take n) 0 ([], false) ∧
    W.ownsRow w.heap.size 166 3 v3 st.1.length (st.1.flatMap sdC) ∧ Below w.heap.size w W ∧ (∀ y ∈ st.1, y.2.1.length + restL ps n ≤ N) ∧ restL ps n ≤ N ∧ st.1.length ≤ n ∧ AtL s ps i f n
/-- at a line's end: the line, and what comes behind it. -/
theorem at_end {s : ByteArray} {ps : List (List UInt8)} {i f n : Nat} (h1 : f ≤ i) (h2 : i ≤ s.size) (hno : ∀ k : Nat, f ≤ k → k < i → s.data.toList[k]? ≠ some 10) (hp : ps.drop n = pieces 10 (s.data.toList.drop f)) (he : i = s.size ∨ s.data.toList[i]? = some 10) :
    ps[n]? = some ((s.data.toList.drop f).take (i - f)) ∧ AtL s ps (i + 1) (i + 1) (n + 1) := by
  have hl := list_len s
  obtain ⟨j, k1, k2, k3, k4⟩ := piece_at 10 s.data.toList f (by omega)
  have hji : j = i := by
    rcases Nat.lt_trichotomy j i with h | h | h
    · exfalso
      rcases k4 with ⟨hj, -⟩ | ⟨hj, -⟩
      · omega
      · exact hno j k1 h hj
    · exact h
    · exfalso
      rcases he with he | he
      · omega
      · exact k3 i h1 h he
  subst hji
  have hget : ∀ X r, ps.drop n = X :: r → ps[n]? = some X ∧ ps.drop (n + 1) = r ∧ n < ps.length := fun X r h => by
    have hlt : n < ps.length := by
      rcases Nat.lt_or_ge n ps.length with hlt | hge
      · exact hlt
      · rw [List.drop_eq_nil_of_le hge] at h; cases h
    rw [List.drop_eq_getElem_cons hlt] at h
    injection h with ha hb
    exact ⟨by rw [List.getElem?_eq_getElem hlt, ha], hb, hlt⟩
  rcases k4 with ⟨hj, hpp⟩ | ⟨hj, hpp⟩
  · rw [hpp] at hp
    obtain ⟨g1, g2, g3⟩ := hget _ _ hp
    refine ⟨g1, .inr ⟨by omega, ?_⟩⟩
    have := congrArg List.length g2
    rw [List.length_drop, List.length_nil] at this
    omega
  · rw [hpp] at hp
    obtain ⟨g1, g2, g3⟩ := hget _ _ hp
    have hjs : j < s.size := by
      have := (List.getElem?_eq_some_iff.1 hj).1
      omega
    exact ⟨g1, .inl ⟨by omega, Nat.le_refl _, fun k a b => by omega, g2⟩⟩
def crB (l : List UInt8) : Bool := l.getLast? == some 13
theorem cutCR_of (l : List UInt8) : cutCR l = if crB l = true then l.dropLast else l := by
  unfold cutCR crB
  by_cases h : l.getLast? = some 13
  · rw [if_pos h, if_pos (by rw [h]; rfl)]
  · rw [if_neg h, if_neg (by simpa using h)]
set_option maxHeartbeats 16000000 in
theorem said13 (s : ByteArray) (hs : s.size ≤ 100000) (w : World) :
    Calls Tryz.prog 90 #[.string s] w fun e w' => ∃ v, e = .returned v ∧ SdRow w' v (logicalL s.data.toList) ∧ Below w.heap.size w w' := by
  have hL : logicalL s.data.toList = (logGo (pieces 10 s.data.toList) 0 ([], false)).1 := rfl
  have hsum := pieces_sum 10 s.data.toList
  have hpc := pieces_len 10 s.data.toList
  have hstart : AtL s (pieces 10 s.data.toList) 0 0 0 := .inl ⟨Nat.zero_le _, Nat.le_refl _, fun k h1 h2 => by omega, by rw [List.drop_zero, List.drop_zero]⟩
  generalize logicalL s.data.toList = L at hL ⊢
  generalize pieces 10 s.data.toList = ps at hL hsum hpc hstart
  rw [list_len] at hsum hpc
  have HL := Lib.hid hL
  have HST0 := Lib.hid hstart
  have HGB := Lib.hid (fun i (h : i < s.size) => get_byte s h)
  have HX := Lib.hid (fun a b => ext_mid s a b)
  have HLL := Lib.hid (list_len s)
  clear hL hstart
  go_enter Tryz.func90, Tryz.ntmps90
  go_wp2_with fail
  go_loopg [3, 4, 5, 6, 7] (s.size + 1) (fun g v3 v4 v5 v6 v7 W => SdRel13 s ps (s.size + 1) w g v3 v4 v5 v6 v7 W)
  case atStart => exact ⟨0, 0, 0, ([], false), -1, rfl, rfl, rfl, rfl, rfl, Nat.zero_le _, Nat.zero_le _, .inl ⟨rfl, rfl⟩, rfl, World.ownsRow_nil _ _ _ _, Below.refl _ _, (fun y hy => by cases hy), by show restL ps 0 ≤ _; unfold restL; rw [List.drop_zero]; omega, Nat.zero_le _, HST0.out⟩
  case round =>
    obtain ⟨i, f, n, st, z, rfl, rfl, rfl, rfl, hg, hi1, hn, hlast, hst, hown, hb, hbd, hbr, hmany, hat⟩ := hrel
    have HG := Lib.hid hg
    have HST := Lib.hid hst
    have HB := Lib.hid hb
    have HBD := Lib.hid hbd
    have HOWN := Lib.hid hown
    have HLAST := Lib.hid hlast
    clear hg hst hb hbd hown hlast
    have i0 : (0 : Int) ≤ (i : Int) := by omega
    rcases hat with ⟨hi, hfi, hno, hps⟩ | ⟨hi, hnl⟩
    · have ile : (i : Int) ≤ (s.size : Int) := by omega
      have iled : decide ((i : Int) ≤ (s.size : Int)) = true := by rw [decide_eq_true_eq]; exact ile
      have hwi : IntKind.i64.wrap ((i : Int) + 1) = ((i + 1 : Nat) : Int) := by rw [IntKind.wrap_i64]; omega
      have hwn : IntKind.i64.wrap ((n : Int) + 1) = ((n + 1 : Nat) : Int) := by rw [IntKind.wrap_i64]; omega
      by_cases hgo : ∃ h : i < s.size, s[i] ≠ 10
      · obtain ⟨hlt, hne⟩ := hgo
        have ilt : (i : Int) < (s.size : Int) := by omega
        have iltd : decide ((i : Int) < (s.size : Int)) = true := by rw [decide_eq_true_eq]; exact ilt
        have q10 : ((s[i].toNat : Int) != 10) = true := (bt_ne hne).2
        have hno2 : ∀ k : Nat, f ≤ k → k < i + 1 → s.data.toList[k]? ≠ some 10 := fun k a b => by
          by_cases hk : k = i
          · subst hk
            rw [HGB.out k hlt]
            intro e
            injection e with e
            exact hne e
          · exact hno k a (by omega)
        have HNO := Lib.hid hno2
        have HPS := Lib.hid hps
        clear hno hno2 hps hne
        go_wp2_with fail
        go_roundg (s.size + 1 - (i + 1))
        case rel => exact ⟨i + 1, f, n, st, z, by go_num, rfl, rfl, rfl, rfl, by omega, hn, HLAST.out, HST.out, HOWN.out, HB.out, HBD.out, hbr, hmany, .inl ⟨by omega, by omega, HNO.out, HPS.out⟩⟩
        case measure => have := HG.out; omega
      · have hend : i = s.size ∨ s.data.toList[i]? = some 10 := by
          by_cases hlt : i < s.size
          · right
            rw [HGB.out i hlt]
            congr 1
            exact Decidable.byContradiction fun h => hgo ⟨hlt, h⟩
          · exact .inl (by omega)
        obtain ⟨hk, hat2⟩ := at_end hfi hi hno hps hend
        have f0 : (0 : Int) ≤ (f : Int) := by omega
        have f1 : (f : Int) ≤ (i : Int) := by omega
        have hxe := HX.out f i
        obtain ⟨X, hX⟩ : ∃ X, (s.data.toList.drop f).take (i - f) = X := ⟨_, rfl⟩
        rw [hX] at hk hxe
        have HAT := Lib.hid hat2
        have HRA := Lib.hid (restL_at hk)
        have HLA := Lib.hid (log_at hk)
        have hnp : n < ps.length := (List.getElem?_eq_some_iff.1 hk).1
        have HSTP := Lib.hid (log_bound st n X (restL ps (n + 1)) (s.size + 1) (fun y hy => by have := HBD.out y hy; rw [HRA.out] at this; exact this) (by have := HRA.out; omega))
        have HMN := Lib.hid (log_many st n X)
        have hXl : X.length ≤ s.size := by have := HRA.out; omega
        have HLS := Lib.hid (show logStep st n X = if trimW (cutCR X) = [] ∨ (trimW (cutCR X)).head? = some 35 then st
          else if (trimW (cutCR X)).head? = (cutCR X).head? then (st.1 ++ [(n + 1, trimW (cutCR X), false)], true)
          else if st.2 = false then (st.1 ++ [(n + 1, trimW (cutCR X), true)], st.2)
          else (goOn st.1 (trimW (cutCR X)), st.2) from rfl)
        have hCl := Nat.le_trans (cutCR_len X) hXl
        have HCO := Lib.hid (cutCR_of X)
        have hcase : (¬ i < s.size) ∨ ∃ h : i < s.size, ((s[i].toNat : Int) != 10) = false := by
          by_cases hlt : i < s.size
          · right
            refine ⟨hlt, ?_⟩
            have : s[i] = 10 := Decidable.byContradiction fun h => hgo ⟨hlt, h⟩
            rw [this]; rfl
          · exact .inl hlt
        have HXE := Lib.hid hxe
        clear hgo hend hk hat2 hno hps hX hxe
        rcases hcase with hlt | ⟨hlt, q10⟩
        have iltd : decide ((i : Int) < (s.size : Int)) = false := by rw [decide_eq_false_iff_not]; omega
        have ilt : ¬ (i : Int) < (s.size : Int) := by omega
        go_upto_region 12 with (fail)
        rotate_left
        have iltd : decide ((i : Int) < (s.size : Int)) = true := by rw [decide_eq_true_eq]; omega
        have ilt : (i : Int) < (s.size : Int) := by omega
        go_upto_region 12 with (fail)
        all_goals
          rw [HXE.out]
          go_cut [44] (fun v44 wc => v44 = .bool (crB X) ∧ wc = wr)
          case first =>
            by_cases hX0 : X = []
            · subst hX0
              have e0 : (⟨([] : List UInt8).toArray⟩ : ByteArray).size = 0 := rfl
              have e1 : crB [] = false := rfl
              have HE1 := Lib.hid e1
              clear e1
              go_wp2_with fail
              go_meet
              case rel => exact ⟨by rw [HE1.out], rfl⟩
            · obtain ⟨Y, c, rfl⟩ : ∃ Y c, X = Y ++ [c] := ⟨X.dropLast, X.getLast hX0, (List.dropLast_concat_getLast hX0).symm⟩
              have e0 : (⟨(Y ++ [c]).toArray⟩ : ByteArray).size = Y.length + 1 := by show (Y ++ [c]).length = _; simp
              have e1 : (⟨(Y ++ [c]).toArray⟩ : ByteArray)[Y.length]'(by rw [e0]; omega) = c := by show (Y ++ [c])[Y.length]'_ = c; simp
              have e2 : crB (Y ++ [c]) = (((c.toNat : Int)) == 13) := by
                have := byte_eq c 13 (by decide)
                unfold crB
                rw [List.getLast?_append]
                show (some c == some 13) = _
                rw [show ((13 : Int)) = ((13 : Nat) : Int) from rfl, this]
                rfl
              have e3 : (0 : Int) < ((Y.length : Nat) : Int) + 1 := by omega
              have e4 : decide ((0 : Int) < ((Y.length : Nat) : Int) + 1) = true := by rw [decide_eq_true_eq]; exact e3
              have e5 : Y.length ≤ 100000 := by rw [List.length_append] at hXl; omega
              have HE2 := Lib.hid e2
              clear e2 hX0 hXl hCl
              go_wp2_with fail
              go_meet
              case rel => exact ⟨by rw [HE2.out], rfl⟩
          case rest =>
            obtain ⟨rfl, hwc⟩ := hcut
            rw [hwc]
            clear hwc wc
            obtain ⟨q, hq⟩ : ∃ q, crB X = q := ⟨_, rfl⟩
            rw [hq]
            have HQ := Lib.hid hq
            clear hq
            go_upto_if 44 with (fail)
            go_cut [8] (fun v8 wc => v8 = .string ⟨(cutCR X).toArray⟩ ∧ wc = wr)
            case first =>
              cases q with
              | true =>
                have hcr := HQ.out
                have hX0 : X ≠ [] := by rintro rfl; cases hcr
                obtain ⟨Y, c, rfl⟩ : ∃ Y c, X = Y ++ [c] := ⟨X.dropLast, X.getLast hX0, (List.dropLast_concat_getLast hX0).symm⟩
                have e0 : (⟨(Y ++ [c]).toArray⟩ : ByteArray).size = Y.length + 1 := by show (Y ++ [c]).length = _; simp
                have e1 : cutCR (Y ++ [c]) = Y := by rw [HCO.out, if_pos hcr]; simp
                have e2 : (⟨(Y ++ [c]).toArray⟩ : ByteArray).extract 0 Y.length = ⟨Y.toArray⟩ := by
                  rw [ext_mid, mk_listr, List.drop_zero, Nat.sub_zero, List.take_left]
                have e3 : (0 : Int) ≤ ((Y.length : Nat) : Int) := by omega
                have e4 : ((Y.length : Nat) : Int) ≤ ((Y.length : Nat) : Int) + 1 := by omega
                have e5 : Y.length ≤ 100000 := by rw [List.length_append] at hXl; omega
                have HE1 := Lib.hid e1
                have HE2 := Lib.hid e2
                clear e1 e2 hX0 hXl hCl hcr
                go_wp2_with fail
                go_meet
                case rel => exact ⟨by rw [HE1.out, ← HE2.out], rfl⟩
              | false =>
                have e1 : cutCR X = X := by rw [HCO.out, if_neg (by rw [HQ.out]; simp)]
                have HE1 := Lib.hid e1
                clear e1
                go_wp2_with fail
                go_meet
                case rel => exact ⟨by rw [HE1.out], rfl⟩
            case rest =>
              obtain ⟨rfl, hwc⟩ := hcut
              rw [hwc]
              clear hwc wc
              generalize cutCR X = C at HLS hCl ⊢
              have HTR := Lib.hid (fun W => Trim13 ⟨C.toArray⟩ (by show C.length ≤ _; omega) W)
              simp only [mk_listr] at HTR
              have hBl := Nat.le_trans (trimW_len C) hCl
              have hCne : trimW C ≠ [] → C ≠ [] := fun h e => h (by rw [e]; rfl)
              have hbk : ∀ b0 B' c0 C', trimW C = b0 :: B' → C = c0 :: C' → blkB c0 = !(b0 == c0) := fun b0 B' c0 C' e1 e2 => by subst e2; exact trimW_same_head e1
              generalize trimW C = B at HTR HLS hBl hCne hbk
              have HCN := Lib.hid hCne
              have HBK := Lib.hid hbk
              have hbs := HB.out.size
              clear hCne hbk HCO HXE HQ
              go_wp2_with fail
              refine (HTR.out _).mono ?_
              rintro e w3 ⟨rfl, hw3⟩
              rw [hw3]
              clear hw3
              by_cases hB0 : B = []
              · subst hB0
                have hs : logStep st n X = (st.1, st.2) := by rw [HLS.out, if_pos (.inl rfl)]
                have HS := Lib.hid hs
                clear hs
                go_wp2_with fail
                go_roundg (s.size + 1 - (i + 1))
                case rel =>
                  have hs := HS.out
                  refine ⟨i + 1, i + 1, n + 1, (st.1, st.2), z, by go_num, by go_num, by go_num, rfl, rfl, by omega, by omega, HLAST.out, by rw [HLA.out, ← HST.out]; exact hs.symm, HOWN.out, HB.out, by have := HSTP.out; rw [hs] at this; exact this, by have := HRA.out; omega, by have := HMN.out; rw [hs] at this; omega, HAT.out⟩
                case measure => have := HG.out; omega
              · obtain ⟨b0, B', rfl⟩ := List.exists_cons_of_ne_nil hB0
                obtain ⟨c0, C', rfl⟩ := List.exists_cons_of_ne_nil (HCN.out hB0)
                have hsB : (⟨(b0 :: B').toArray⟩ : ByteArray).size = B'.length + 1 := rfl
                have hsC : (⟨(c0 :: C').toArray⟩ : ByteArray).size = C'.length + 1 := rfl
                have hB1 : (⟨(b0 :: B').toArray⟩ : ByteArray)[0]'(by rw [hsB]; omega) = b0 := rfl
                have hC1 : (⟨(c0 :: C').toArray⟩ : ByteArray)[0]'(by rw [hsC]; omega) = c0 := rfl
                have hblk := HBK.out b0 B' c0 C' rfl rfl
                have hbl0 := fun W => blank13 c0 W
                rw [hblk] at hbl0
                clear hblk
                by_cases h35 : b0 = 35
                · subst h35
                  have hs : logStep st n X = (st.1, st.2) := by rw [HLS.out, if_pos (.inr rfl)]
                  have HS := Lib.hid hs
                  clear hs hbl0
                  go_wp2_with fail
                  go_roundg (s.size + 1 - (i + 1))
                  case rel =>
                    have hs := HS.out
                    refine ⟨i + 1, i + 1, n + 1, (st.1, st.2), z, by go_num, by go_num, by go_num, rfl, rfl, by omega, by omega, HLAST.out, by rw [HLA.out, ← HST.out]; exact hs.symm, HOWN.out, HB.out, by have := HSTP.out; rw [hs] at this; exact this, by have := HRA.out; omega, by have := HMN.out; rw [hs] at this; omega, HAT.out⟩
                  case measure => have := HG.out; omega
                · have n35 : ((b0.toNat : Int) == 35) = false := (bt_ne h35).1
                  have HLS2 := HLS.out
                  rw [if_neg (by simp [h35])] at HLS2
                  obtain ⟨pv, cv, hv3⟩ := own_slice HOWN.out
                  by_cases hbc : b0 = c0
                  · subst hbc
                    rw [if_pos (by simp)] at HLS2
                    have HS := Lib.hid HLS2
                    rw [show (!(b0 == b0)) = false by simp] at hbl0
                    have HBL := Lib.hid hbl0
                    clear HLS2 hbl0
                    subst hv3
                    go_wp2_with fail
                    refine (HBL.out _).mono ?_
                    rintro e w4 ⟨rfl, hw4⟩
                    rw [hw4]
                    clear hw4
                    go_wp2_with (first | (at_builtin; refine app_gen rfl _ _ 161 166 3 32 (.agg #[.int .i64 0, .string ⟨#[]⟩, .bool false]) Tryz.underlying161 info166 rfl (by decide) (by decide) rfl w.heap.size _ _ _ rfl (World.ownsRow.alloc (w := wr) HOWN.out _) wr.heap.size 1 [.int .i64 ((n : Int) + 1), .string ⟨(b0 :: B').toArray⟩, .bool false] rfl rfl (fun j u h => cells3 wr _ _ _ 166 j u h) (by intro u hu; simp at hu; rcases hu with rfl | rfl | rfl <;> rfl) (by omega) (by rw [World.size_alloc]; exact Nat.le_succ_of_le hbs) ?_; intro g' cap' w4 hown4 hgr hat) | fail)
                    go_roundg (s.size + 1 - (i + 1))
                    case rel =>
                      have hs := HS.out
                      refine ⟨i + 1, i + 1, n + 1, (st.1 ++ [(n + 1, b0 :: B', false)], true), (st.1.length : Int), by go_num, by go_num, by go_num, rfl, rfl, by omega, by omega, .inr ⟨rfl, by simp, by rw [List.length_append, List.length_singleton]; omega⟩, by rw [HLA.out, ← HST.out]; exact hs.symm, by rw [List.length_append, flat_snoc]; exact hown4, (HB.out.alloc hbs _).grown hgr (by rw [World.size_alloc]; exact Nat.le_succ_of_le hbs) (own_ge HOWN.out), by have := HSTP.out; rw [hs] at this; exact this, by have := HRA.out; omega, by have := HMN.out; rw [hs] at this; omega, HAT.out⟩
                    case measure => have := HG.out; omega
                  · rw [if_neg (by simp [hbc])] at HLS2
                    rw [show (!(b0 == c0)) = true by simp [hbc]] at hbl0
                    have HBL := Lib.hid hbl0
                    clear hbl0
                    cases hst2 : st.2 with
                    | false =>
                      rw [if_pos hst2, hst2] at HLS2
                      have HS := Lib.hid HLS2
                      obtain rfl : z = -1 := by
                        rcases HLAST.out with ⟨-, h⟩ | ⟨h, -⟩
                        · exact h
                        · rw [hst2] at h; cases h
                      clear HLS2
                      subst hv3
                      go_wp2_with fail
                      refine (HBL.out _).mono ?_
                      rintro e w4 ⟨rfl, hw4⟩
                      rw [hw4]
                      clear hw4
                      go_wp2_with (first | (at_builtin; refine app_gen rfl _ _ 161 166 3 32 (.agg #[.int .i64 0, .string ⟨#[]⟩, .bool false]) Tryz.underlying161 info166 rfl (by decide) (by decide) rfl w.heap.size _ _ _ rfl (World.ownsRow.alloc (w := wr) HOWN.out _) wr.heap.size 1 [.int .i64 ((n : Int) + 1), .string ⟨(b0 :: B').toArray⟩, .bool true] rfl rfl (fun j u h => cells3 wr _ _ _ 166 j u h) (by intro u hu; simp at hu; rcases hu with rfl | rfl | rfl <;> rfl) (by omega) (by rw [World.size_alloc]; exact Nat.le_succ_of_le hbs) ?_; intro g' cap' w4 hown4 hgr hat) | fail)
                      go_roundg (s.size + 1 - (i + 1))
                      case rel =>
                        have hs := HS.out
                        refine ⟨i + 1, i + 1, n + 1, (st.1 ++ [(n + 1, b0 :: B', true)], false), -1, by go_num, by go_num, by go_num, rfl, rfl, by omega, by omega, .inl ⟨rfl, rfl⟩, by rw [HLA.out, ← HST.out]; exact hs.symm, by rw [List.length_append, flat_snoc]; exact hown4, (HB.out.alloc hbs _).grown hgr (by rw [World.size_alloc]; exact Nat.le_succ_of_le hbs) (own_ge HOWN.out), by have := HSTP.out; rw [hs] at this; exact this, by have := HRA.out; omega, by have := HMN.out; rw [hs] at this; omega, HAT.out⟩
                      case measure => have := HG.out; omega
                    | true =>
                      rw [if_neg (by rw [hst2]; simp), hst2] at HLS2
                      have HS := Lib.hid HLS2
                      obtain ⟨hne, hz⟩ : st.1 ≠ [] ∧ z = (st.1.length : Int) - 1 := by
                        rcases HLAST.out with ⟨h, -⟩ | ⟨-, h1, h2⟩
                        · rw [hst2] at h; cases h
                        · exact ⟨h1, h2⟩
                      clear HLS2 hv3
                      obtain ⟨init, x, hix⟩ : ∃ init x, st.1 = init ++ [x] := ⟨st.1.dropLast, st.1.getLast hne, (List.dropLast_concat_getLast hne).symm⟩
                      have hcl := goOn_cells hix (b0 :: B')
                      have hgl : (goOn st.1 (b0 :: B')).length = st.1.length := by rw [goOn_some init hix, hix]; simp
                      have hgn : goOn st.1 (b0 :: B') ≠ [] := fun e => by rw [e] at hgl; exact hne (List.eq_nil_of_length_eq_zero hgl.symm)
                      have hil : st.1.length = init.length + 1 := by rw [hix]; simp
                      obtain rfl : z = (init.length : Int) := by omega
                      have hown3 := HOWN.out
                      rw [hil] at hown3
                      obtain ⟨g, cap3, hv3, hgB, hglt⟩ := hown3.form (by omega)
                      subst hv3
                      have hxl : x.2.1.length ≤ s.size + 1 := by
                        have := HBD.out x (by rw [hix]; simp)
                        omega
                      have hadd := fun j => addr_zero g j
                      have hcx : wr.cell? ⟨g, init.length * 3 + 1, none⟩ = some (.string ⟨x.2.1.toArray⟩) := by
                        have h1 := flat_get (k := 3) (C := sdC) (fun _ => rfl) st.1 init.length 1 x (by rw [hix]; simp) (by omega)
                        have := World.ownsRow.cells hown3 (g := g) rfl (init.length * 3 + 1) (.string ⟨x.2.1.toArray⟩) (by rw [h1]; rfl)
                        rwa [hadd] at this
                      have hfx := own_free hown3 (init.length * 3 + 1)
                      have hset := own_set hown3 (init.length * 3 + 1) (.string ⟨(x.2.1 ++ 32 :: b0 :: B').toArray⟩)
                      rw [← hcl] at hset
                      have HSET := Lib.hid hset
                      have hB2 : B'.length + 1 ≤ 100000 := by
                        have := hBl
                        rw [List.length_cons] at this
                        omega
                      have hxl2 : x.2.1.length ≤ 100001 := by omega
                      have hz1 : ∀ W, (Op.stringOp .add (⟨x.2.1.toArray⟩ : ByteArray) ⟨#[32]⟩).run Tryz.prog W = .ok (.string ⟨(x.2.1 ++ [32]).toArray⟩) W := fun W => run_string_add_lists W x.2.1 [32] (by omega) (by decide)
                      have hz2 : ∀ W, (Op.stringOp .add (⟨(x.2.1 ++ [32]).toArray⟩ : ByteArray) ⟨(b0 :: B').toArray⟩).run Tryz.prog W = .ok (.string ⟨((x.2.1 ++ [32]) ++ (b0 :: B')).toArray⟩) W := fun W => run_string_add_lists W (x.2.1 ++ [32]) (b0 :: B') (by rw [List.length_append, List.length_singleton]; omega) (by rw [List.length_cons]; omega)
                      rw [show (x.2.1 ++ [32]) ++ (b0 :: B') = x.2.1 ++ 32 :: b0 :: B' by simp] at hz2
                      obtain ⟨Z1, hZ1⟩ : ∃ Z1 : ByteArray, ⟨(x.2.1 ++ [32]).toArray⟩ = Z1 := ⟨_, rfl⟩
                      obtain ⟨Z2, hZ2⟩ : ∃ Z2 : ByteArray, ⟨(x.2.1 ++ 32 :: b0 :: B').toArray⟩ = Z2 := ⟨_, rfl⟩
                      rw [hZ1] at hz1 hz2
                      rw [hZ2] at hz2 HSET
                      have hl0 : (0 : Int) ≤ (init.length : Int) := Int.natCast_nonneg _
                      have hl2 : (init.length : Int) < (init.length : Int) + 1 := Int.lt_succ _
                      have hl1 : (init.length : Int) < ((init.length + 1 : Nat) : Int) := Int.lt_succ _
                      have hln : ¬ (init.length : Int) < 0 := by omega
                      have HGL := Lib.hid (hgl.trans hil)
                      have HGN := Lib.hid hgn
                      have HHB := Lib.hid hgB
                      clear hcl hgl hix hset hown3 hadd hxl hil hne hz hgn hZ1 hZ2
                      go_wp2_with fail
                      refine (HBL.out _).mono ?_
                      rintro e w4 ⟨rfl, hw4⟩
                      rw [hw4]
                      clear hw4
                      go_wp2_with fail
                      go_roundg (s.size + 1 - (i + 1))
                      case rel =>
                        have hs := HS.out
                        refine ⟨i + 1, i + 1, n + 1, (goOn st.1 (b0 :: B'), true), (init.length : Int), by go_num, by go_num, by go_num, rfl, rfl, by omega, by omega, .inr ⟨rfl, HGN.out, by show _ = ((goOn st.1 (b0 :: B')).length : Int) - 1; rw [HGL.out]; omega⟩, by rw [HLA.out, ← HST.out]; exact hs.symm, by show World.ownsRow _ _ _ _ _ (goOn st.1 (b0 :: B')).length _; rw [HGL.out]; exact HSET.out, HB.out.setCell (p := ⟨g, init.length * 3 + 1, none⟩) HHB.out _, by have := HSTP.out; rw [hs] at this; exact this, by have := HRA.out; omega, by have := HMN.out; rw [hs] at this; omega, HAT.out⟩
                      case measure => have := HG.out; omega
    · have ilt : ¬ (i : Int) ≤ (s.size : Int) := by omega
      have iled : decide ((i : Int) ≤ (s.size : Int)) = false := by rw [decide_eq_false_iff_not]; exact ilt
      subst hnl
      have hst := HST.out
      rw [List.take_length] at hst
      have hLe : L = st.1 := by rw [HL.out, hst]
      subst hLe
      have hrow := GRow.of (C := sdC) (fun _ => rfl) HOWN.out
      have HR := Lib.hid hrow
      clear hrow hst
      go_wp2
      go_ret
      exact ⟨_, rfl, HR.out, HB.out⟩
end Go.Proofs.YtkoncmmbdlnmfaaGreatDoor

/- The document's small, entry, Parse without values (package 13): what they hand back. -/
namespace Go.Proofs.YtkoncmmbdlnmfaaGreatDoor
open Go.RowKit Go.Lib
set_option linter.unusedSimpArgs false
set_option linter.unusedVariables false
set_option linter.unnecessarySimpa false
set_option maxRecDepth 100000

set_option maxHeartbeats 8000000 in
theorem small13 (s : ByteArray) (hs : s.size ≤ 1000000000000) (w : World) : Calls Tryz.prog 92 #[.string s] w fun e w' => e = .returned (.string ⟨(lowL s.data.toList).toArray⟩) ∧ Below w.heap.size w w' := by
  go_enter Tryz.func92, Tryz.ntmps92
  go_wp2_with fail
  go_loopg [3, 4, 5] s.size (fun g v3 v4 v5 W => LoRel s w g v3 v4 W)
  case atStart => exact ⟨0, rfl, by omega, by omega, by simp [World.ownsRow, lowL], Below.refl _ _, Nat.le_refl _⟩
  case round =>
    obtain ⟨k, rfl, hk, hg, hown, hb, hbs⟩ := hrel
    have HG := Lib.hid hg
    clear hg
    by_cases hlt : k < s.size
    · have hk0 : (0 : Int) ≤ (k : Int) := by omega
      have hk1 : (k : Int) < (s.size : Int) := by omega
      have hwr : IntKind.i64.wrap ((k : Int) + 1) = (k : Int) + 1 := by rw [IntKind.wrap_i64]; omega
      have hst : (lowL (s.data.toList.take (k + 1))).map byteV = (lowL (s.data.toList.take k)).map byteV ++ [byteV (lowB s[k])] := by
        rw [take_snoc s k hlt]; simp [lowL]
      have HST := Lib.hid hst
      clear hst
      by_cases h1 : 65 ≤ s[k].toNat ∧ s[k].toNat ≤ 90
      · have h65 : (65 : Int) ≤ (s[k].toNat : Int) := by omega
        have h90 : (s[k].toNat : Int) ≤ 90 := by omega
        have hlow : ((lowB s[k]).toNat : Int) = (s[k].toNat : Int) + 32 := by
          unfold lowB
          rw [if_pos h1]
          have : (s[k] + 32).toNat = (s[k].toNat + 32) % 256 := UInt8.toNat_add _ _
          omega
        have hw32 : IntKind.u8.wrap ((s[k].toNat : Int) + 32) = ((lowB s[k]).toNat : Int) := by rw [IntKind.wrap_u8, hlow]; omega
        generalize lowB s[k] = d at hlow hw32 HST
        clear hlow h1
        go_wp2_with (at_builtin; refine app_byte rfl _ _ rfl w.heap.size _ _ _ rfl (World.ownsRow.alloc (w := wr) hown _) ⟨wr.heap.size, 0, none⟩ 1 (byteV d) rfl (new_cell _ _ _) rfl (by omega) (by rw [World.size_alloc]; exact Nat.le_succ_of_le hbs) ?_; intro g' cap w' hown' hgr)
        go_roundg (s.size - (k + 1))
        case rel =>
          refine ⟨k + 1, rfl, by omega, rfl, ?_, ?_, ?_⟩
          · rw [HST.out]; exact hown'
          · exact (hb.alloc hbs _).grown hgr (by rw [World.size_alloc]; exact Nat.le_succ_of_le hbs) (own_base5 hown)
          · have := hgr.size
            rw [World.size_alloc] at this
            exact Nat.le_trans hbs (Nat.le_trans (Nat.le_succ _) this)
        case measure => have := HG.out; omega
      · have hlow : lowB s[k] = s[k] := by unfold lowB; rw [if_neg h1]
        rw [hlow] at HST
        clear hlow
        by_cases h2 : 65 ≤ s[k].toNat
        · have h65 : (65 : Int) ≤ (s[k].toNat : Int) := by omega
          have h90 : ¬ (s[k].toNat : Int) ≤ 90 := by omega
          clear h1
          go_wp2_with (at_builtin; refine app_byte rfl _ _ rfl w.heap.size _ _ _ rfl (World.ownsRow.alloc (w := wr) hown _) ⟨wr.heap.size, 0, none⟩ 1 (byteV s[k]) rfl (new_cell _ _ _) rfl (by omega) (by rw [World.size_alloc]; exact Nat.le_succ_of_le hbs) ?_; intro g' cap w' hown' hgr)
          go_roundg (s.size - (k + 1))
          case rel =>
            refine ⟨k + 1, rfl, by omega, rfl, ?_, ?_, ?_⟩
            · rw [HST.out]; exact hown'
            · exact (hb.alloc hbs _).grown hgr (by rw [World.size_alloc]; exact Nat.le_succ_of_le hbs) (own_base5 hown)
            · have := hgr.size
              rw [World.size_alloc] at this
              exact Nat.le_trans hbs (Nat.le_trans (Nat.le_succ _) this)
          case measure => have := HG.out; omega
        · have h65 : ¬ (65 : Int) ≤ (s[k].toNat : Int) := by omega
          clear h1
          go_wp2_with (at_builtin; refine app_byte rfl _ _ rfl w.heap.size _ _ _ rfl (World.ownsRow.alloc (w := wr) hown _) ⟨wr.heap.size, 0, none⟩ 1 (byteV s[k]) rfl (new_cell _ _ _) rfl (by omega) (by rw [World.size_alloc]; exact Nat.le_succ_of_le hbs) ?_; intro g' cap w' hown' hgr)
          go_roundg (s.size - (k + 1))
          case rel =>
            refine ⟨k + 1, rfl, by omega, rfl, ?_, ?_, ?_⟩
            · rw [HST.out]; exact hown'
            · exact (hb.alloc hbs _).grown hgr (by rw [World.size_alloc]; exact Nat.le_succ_of_le hbs) (own_base5 hown)
            · have := hgr.size
              rw [World.size_alloc] at this
              exact Nat.le_trans hbs (Nat.le_trans (Nat.le_succ _) this)
          case measure => have := HG.out; omega
    · have hge : ¬ (k : Int) < (s.size : Int) := by omega
      obtain rfl : k = s.size := by omega
      rw [take_all] at hown
      obtain ⟨q, cp, rfl⟩ := own_form hown
      have hcv := conv_own (l := lowL s.data.toList) (by unfold lowL; rw [List.length_map, list_len]) hown
      go_wp2
      go_ret
      exact ⟨rfl, hb⟩

theorem has34_not {t : List UInt8} {i : Nat} {b : UInt8} (h : t[i]? = some b) (hb : b = 34) : t.contains 34 = true := by
  subst hb
  rw [List.contains_eq_mem, decide_eq_true_eq]
  exact List.mem_of_getElem? h
theorem has34_step {t : List UInt8} {i : Nat} {b : UInt8} (h : t[i]? = some b) (hb : b ≠ 34) (ha : (t.take i).contains 34 = false) : (t.take (i + 1)).contains 34 = false := by
  rw [List.take_add_one, h]
  rw [List.contains_eq_mem, decide_eq_false_iff_not] at ha ⊢
  intro hm
  rcases List.mem_append.1 hm with hm | hm
  · exact ha hm
  · simp at hm
    exact hb hm.symm
def EnRel (t : List UInt8) (w : World) (g : Nat) (v6 : Value) (W : World) : Prop :=
  ∃ i : Nat, v6 = .int .i64 (i : Int) ∧ i ≤ t.length ∧ g = t.length - i ∧ W = w ∧ (t.take i).contains 34 = false
set_option maxHeartbeats 4000000 in
theorem entry13 (x : Sd) (hx : x.2.1.length ≤ 1000000) (w : World) : Calls Tryz.prog 91 #[.agg (sdC x).toArray, .bool false] w fun e w' => EntP x e ∧ Below w.heap.size w w' := by
  obtain ⟨k, t, al⟩ := x
  simp only at hx
  have HP := Lib.hid (fun W => Print13 ⟨t.toArray⟩ (by show t.length ≤ _; omega) W)
  simp only [mk_listr] at HP
  have hEP : EntP (k, t, al) = fun e => if (!al && printL t && !t.contains 34) = true then e = .returned (.tuple #[.agg (enC (k, t)).toArray, .int .i64 0]) else e = .returned (.tuple #[.agg (enC (0, [])).toArray, .int .i64 5]) := rfl
  rw [hEP]
  clear hEP
  show Calls Tryz.prog 91 #[.agg #[.int .i64 (k : Int), .string ⟨t.toArray⟩, .bool al], .bool false] w _
  generalize printL t = P at HP ⊢
  have HNOT := Lib.hid (fun i b (h : t[i]? = some b) (hb : b = 34) => has34_not h hb)
  have HALL := Lib.hid (show (t.take t.length).contains 34 = t.contains 34 by rw [List.take_length])
  obtain ⟨C, hC⟩ : ∃ C, t.contains 34 = C := ⟨_, rfl⟩
  rw [hC] at HALL HNOT ⊢
  clear hC
  have HA := Lib.hid (Three.made w (.int .i64 (k : Int)) (.string ⟨t.toArray⟩) (.bool al) 166)
  have hb1 := alloc_below w (.cells #[.int .i64 (k : Int), .string ⟨t.toArray⟩, .bool al] 166)
  have hsz : (w.alloc (.cells #[.int .i64 (k : Int), .string ⟨t.toArray⟩, .bool al] 166)).heap.size = w.heap.size + 1 := World.size_alloc _ _
  have HR := Lib.hid (Three.made (w.alloc (.cells #[.int .i64 (k : Int), .string ⟨t.toArray⟩, .bool al] 166)) (.int .i64 0) (.string ⟨#[]⟩) (.slice none 0 0) 99)
  have hb2 := alloc_below (w.alloc (.cells #[.int .i64 (k : Int), .string ⟨t.toArray⟩, .bool al] 166)) (.cells #[.int .i64 0, .string ⟨#[]⟩, .slice none 0 0] 99)
  have HA2 := Lib.hid (HA.out.below hb2)
  have HB := Lib.hid (hb1.trans (hb2.mono hb1.size))
  rw [hsz] at HR
  clear hb1 hb2 hsz HA
  go_enter Tryz.func91, Tryz.ntmps91
  cases al with
  | true =>
    obtain ⟨-, a0, a1, a2, -, -, -⟩ := HA2.out
    obtain ⟨-, c0, c1, c2, f0, f1, f2⟩ := HR.out
    go_wp2
    have hs := HR.out.set (.int .i64 0) (.string ⟨#[]⟩) (.slice none 0 0)
    refine bodyPost_ret (v := .tuple #[.agg #[.int .i64 0, .string ⟨#[]⟩, .slice none 0 0], .int .i64 5]) (by rw [results_cell_tmp Tryz.results91]; simp [go_sem, hs.c0, hs.c1, hs.c2]) rfl ⟨rfl, by first | exact HB.out | exact set3_below HB.out (Nat.le_succ _) _ _ _⟩
  | false =>
    obtain ⟨-, a0, a1, a2, -, -, -⟩ := HA2.out
    obtain ⟨-, c0, c1, c2, f0, f1, f2⟩ := HR.out
    obtain ⟨w1, hw1⟩ : ∃ w1, (w.alloc (.cells #[.int .i64 (k : Int), .string ⟨t.toArray⟩, .bool false] 166)).alloc (.cells #[.int .i64 0, .string ⟨#[]⟩, .slice none 0 0] 99) = w1 := ⟨_, rfl⟩
    rw [hw1] at a0 a1 a2 c0 c1 c2 f0 f1 f2 HR HA2 HB
    go_wp2_with fail
    try rw [hw1]
    refine (HP.out _).mono ?_
    rintro e w3 ⟨rfl, hw3⟩
    rw [hw3]
    clear hw3
    cases P with
    | false =>
      go_wp2
      have hs := HR.out.set (.int .i64 0) (.string ⟨#[]⟩) (.slice none 0 0)
      refine bodyPost_ret (v := .tuple #[.agg #[.int .i64 0, .string ⟨#[]⟩, .slice none 0 0], .int .i64 5]) (by rw [results_cell_tmp Tryz.results91]; simp [go_sem, hs.c0, hs.c1, hs.c2]) rfl ⟨rfl, set3_below HB.out (Nat.le_succ _) _ _ _⟩
    | true =>
      go_wp2_with fail
      go_loopg [6] t.length (fun g v6 W => EnRel t w1 g v6 W)
      case atStart => exact ⟨0, rfl, Nat.zero_le _, rfl, rfl, rfl⟩
      case round =>
        obtain ⟨i, rfl, hi, hg, rfl, hno⟩ := hrel
        have HG := Lib.hid hg
        have HNO := Lib.hid hno
        clear hg hno
        have i0 : (0 : Int) ≤ (i : Int) := by omega
        have hts : (⟨t.toArray⟩ : ByteArray).size = t.length := rfl
        by_cases hlt : i < t.length
        · have i1 : (i : Int) < (t.length : Int) := by omega
          have iw : IntKind.i64.wrap ((i : Int) + 1) = ((i + 1 : Nat) : Int) := by rw [IntKind.wrap_i64]; omega
          have hgt : (⟨t.toArray⟩ : ByteArray)[i]'(by rw [hts]; exact hlt) = t[i] := rfl
          have hg2 := List.getElem?_eq_getElem hlt
          obtain ⟨b, hb⟩ : ∃ b, t[i] = b := ⟨_, rfl⟩
          rw [hb] at hgt hg2
          by_cases h34 : b = 34
          · have hC := HNOT.out i b hg2 h34
            subst hC
            have q34 : ((b.toNat : Int) == 34) = true := by rw [h34]; rfl
            clear hg2 hb h34 HALL HNOT
            go_wp2
            have hs := HR.out.set (.int .i64 0) (.string ⟨#[]⟩) (.slice none 0 0)
            refine bodyPost_ret (v := .tuple #[.agg #[.int .i64 0, .string ⟨#[]⟩, .slice none 0 0], .int .i64 5]) (by rw [results_cell_tmp Tryz.results91]; simp [go_sem, hs.c0, hs.c1, hs.c2]) rfl ⟨rfl, set3_below HB.out (Nat.le_succ _) _ _ _⟩
          · have q34 : ((b.toNat : Int) == 34) = false := (bt_ne h34).1
            have HN2 := Lib.hid (has34_step hg2 h34 HNO.out)
            clear hg2 hb h34
            go_wp2_with fail
            go_roundg (t.length - (i + 1))
            case rel => exact ⟨i + 1, by go_num, by omega, rfl, rfl, HN2.out⟩
            case measure => have := HG.out; omega
        · have i1 : ¬ (i : Int) < (t.length : Int) := by omega
          obtain rfl : i = t.length := by omega
          have hC : C = false := HALL.out.symm.trans HNO.out
          subst hC
          clear HALL HNOT HNO
          go_wp2
          have hs := HR.out.set (.int .i64 (k : Int)) (.string ⟨t.toArray⟩) (.slice none 0 0)
          refine bodyPost_ret (v := .tuple #[.agg #[.int .i64 (k : Int), .string ⟨t.toArray⟩, .slice none 0 0], .int .i64 0]) (by rw [results_cell_tmp Tryz.results91]; simp [go_sem, hs.c0, hs.c1, hs.c2]) rfl ⟨rfl, set3_below HB.out (Nat.le_succ _) _ _ _⟩
end Go.Proofs.YtkoncmmbdlnmfaaGreatDoor

/- The document's Parse without values (package 13): what it hands back. -/
namespace Go.Proofs.YtkoncmmbdlnmfaaGreatDoor
open Go.RowKit Go.Lib
set_option linter.unusedSimpArgs false
set_option linter.unusedVariables false
set_option linter.unnecessarySimpa false
set_option maxRecDepth 100000

theorem info99 : (Tryz.prog.info? 99).map (fun i => (i.zero, i.size, i.bytes)) = some (some (.agg #[.int .i64 0, .string ⟨#[]⟩, .slice none 0 0]), 3, 48) := by kernel_rfl
theorem info96 : (Tryz.prog.info? 96).map (fun i => (i.zero, i.size, i.bytes)) = some (some (.agg #[.int .i64 0, .int .i64 0]), 2, 16) := by kernel_rfl
def P13Rel (L : List Sd) (w : World) (g : Nat) (v6 v7 v9 : Value) (W : World) : Prop :=
  ∃ (i : Nat) (st : Es), v9 = .int .i64 (i : Int) ∧ i ≤ L.length ∧ g = L.length - i ∧ st = entGo (L.take i) ([], []) ∧ W.ownsRow w.heap.size 99 3 v6 st.1.length (st.1.flatMap enC) ∧ W.ownsRow w.heap.size 96 2 v7 st.2.length (st.2.flatMap faC) ∧ Below w.heap.size w W ∧ st.1.length ≤ 64 ∧ st.2.length ≤ i
/-- the error, as far as the entries have been looked at. -/
def errK (e0 : Nat) (l : List (Nat × List UInt8)) (key : List UInt8) (k : Nat) : Nat := if e0 ≠ 0 then e0 else if ((l.take k).any fun y => lowL y.2 == lowL key) = true then 9 else 0
theorem errK_zero (e0 : Nat) (l : List (Nat × List UInt8)) (key : List UInt8) : errK e0 l key 0 = e0 := by
  unfold errK
  by_cases h : e0 = 0
  · subst h; simp
  · rw [if_pos h]
theorem errK_on {e0 : Nat} {l : List (Nat × List UInt8)} {key : List UInt8} {k : Nat} {y : Nat × List UInt8} (h : l[k]? = some y) : errK e0 l key (k + 1) = if errK e0 l key k ≠ 0 then errK e0 l key k else if lowL y.2 = lowL key then 9 else 0 := by
  unfold errK
  by_cases h0 : e0 = 0
  · subst h0
    simp only [ne_eq, not_true_eq_false, if_false]
    rw [List.take_add_one, h]
    simp only [List.any_append, Option.toList_some, List.any_cons, List.any_nil, Bool.or_false]
    cases hA : ((l.take k).any fun y => lowL y.2 == lowL key) with
    | true => simp
    | false =>
      simp only [Bool.false_or, Bool.false_eq_true, if_false, ne_eq, not_true]
      by_cases hq : lowL y.2 = lowL key
      · rw [if_pos hq, if_pos (by simpa using hq)]
      · rw [if_neg hq, if_neg (by simpa using hq)]
  · rw [if_pos h0, if_pos h0, if_pos h0]
theorem errK_all (e0 : Nat) (l : List (Nat × List UInt8)) (key : List UInt8) (k : Nat) (h : l.length ≤ k) : errK e0 l key k = if e0 ≠ 0 then e0 else if (l.any fun y => lowL y.2 == lowL key) = true then 9 else 0 := by
  unfold errK
  rw [List.take_of_length_le h]
theorem errK_ne {e0 : Nat} (h : e0 ≠ 0) (l : List (Nat × List UInt8)) (key : List UInt8) (k : Nat) : errK e0 l key k = e0 := by
  unfold errK
  rw [if_pos h]
theorem fin_ne {S : Es} {st : Es} {ln ln1 e0 : Nat} {key1 : List UInt8} (h0 : e0 ≠ 0) (h : S = (st.1, st.2 ++ [(ln, e0)])) (n : Nat) : S = if errK e0 st.1 key1 n = 0 then (st.1 ++ [(ln1, key1)], st.2) else (st.1, st.2 ++ [(ln, errK e0 st.1 key1 n)]) := by
  rw [errK_ne h0, if_neg h0]
  exact h
theorem fin_zero {S : Es} {st : Es} {ln ln1 : Nat} {key1 : List UInt8} (h : S = if (st.1.any fun y => lowL y.2 == lowL key1) = true then (st.1, st.2 ++ [(ln, 9)]) else (st.1 ++ [(ln1, key1)], st.2)) : S = if errK 0 st.1 key1 st.1.length = 0 then (st.1 ++ [(ln1, key1)], st.2) else (st.1, st.2 ++ [(ln, errK 0 st.1 key1 st.1.length)]) := by
  have e : errK 0 st.1 key1 st.1.length = if (st.1.any fun y => lowL y.2 == lowL key1) = true then 9 else 0 := by
    rw [errK_all _ _ _ _ (Nat.le_refl _)]
    rfl
  rw [e, h]
  cases (st.1.any fun y => lowL y.2 == lowL key1) with
  | true => rfl
  | false => rfl
theorem ent_from : ∀ (l : List Sd) (st : Es), ∀ y ∈ (entGo l st).1, y ∈ st.1 ∨ ∃ x ∈ l, y.2 = x.2.1
  | [], st, y, h => .inl h
  | x :: l, st, y, h => by
    rcases ent_from l (entStep st x) y h with h | ⟨z, hz, e⟩
    · unfold entStep at h
      split at h
      · exact .inl h
      · split at h
        · exact .inl h
        · split at h
          · exact .inl h
          · rcases List.mem_append.1 h with h | h
            · exact .inl h
            · obtain rfl := List.mem_singleton.1 h
              exact .inr ⟨x, List.mem_cons_self, rfl⟩
    · exact .inr ⟨z, List.mem_cons_of_mem _ hz, e⟩
/-- what is written of a row does not turn while calls make new memory: the key that is looked at, and the entry's own. -/
structure KeysIn (b k : Nat) (K : List UInt8) (B ln : Nat) (key : List UInt8) (w1 W : World) : Prop where
  lo : Below w1.heap.size w1 W
  c : W.cell? ⟨b, k * 3 + 1, none⟩ = some (.string ⟨K.toArray⟩)
  d : Three B (.int .i64 (ln : Int)) (.string ⟨key.toArray⟩) (.slice none 0 0) W
theorem KeysIn.call {b k B ln : Nat} {K key : List UInt8} {w1 w W : World} (h : KeysIn b k K B ln key w1 w) (hb : Below w.heap.size w W) : KeysIn b k K B ln key w1 W := by
  refine ⟨h.lo.trans (hb.mono h.lo.size), ?_, h.d.below hb⟩
  have hlt : b < w.heap.size := by
    have := h.c
    unfold World.cell? at this
    by_cases hbs : b < w.heap.size
    · exact hbs
    · simp only at this
      rw [Array.getElem?_eq_none (by omega)] at this
      cases this
  rw [← h.c]
  exact hb.cell (p := ⟨b, k * 3 + 1, none⟩) hlt
def Cut9 (ok : Bool) (ln : Nat) (txt : List UInt8) (wo : World) (v10 v11 : Value) (W : World) : Prop :=
  ∃ (B ln1 e : Nat) (key1 : List UInt8), v10 = .pointer (some ⟨B, 0, none⟩) ∧ v11 = .int .i64 (e : Int) ∧ Three B (.int .i64 (ln1 : Int)) (.string ⟨key1.toArray⟩) (.slice none 0 0) W ∧ Below wo.heap.size wo W ∧
    ((ok = true ∧ e = 0 ∧ ln1 = ln ∧ key1 = txt) ∨ (ok = false ∧ e = 5 ∧ ln1 = 0 ∧ key1 = []))
def P13In (L : List Sd) (st : Es) (e0 ln : Nat) (key : List UInt8) (B : Nat) (w w1 : World) (v6 v7 : Value) (g : Nat) (v11 v12 : Value) (W : World) : Prop :=
  ∃ k : Nat, v12 = .int .i64 (k : Int) ∧ v11 = .int .i64 ((errK e0 st.1 key k : Nat) : Int) ∧ k ≤ st.1.length ∧ g = st.1.length - k ∧ Below w1.heap.size w1 W ∧ Three B (.int .i64 (ln : Int)) (.string ⟨key.toArray⟩) (.slice none 0 0) W ∧
    W.ownsRow w.heap.size 99 3 v6 st.1.length (st.1.flatMap enC) ∧ W.ownsRow w.heap.size 96 2 v7 st.2.length (st.2.flatMap faC)
set_option maxHeartbeats 32000000 in
theorem Parse13 (s : ByteArray) (hs : s.size ≤ 8192) (w : World) :
    Calls Tryz.prog 44 #[.string s, .bool false] w fun e w' => ∃ v1 v2, e = .returned (.tuple #[v1, v2]) ∧ GRow 3 enC w' v1 (linesL s.data.toList).1 ∧ GRow 2 faC w' v2 (linesL s.data.toList).2 ∧ Below w.heap.size w w' := by
  have HLG := Lib.hid (said13 s (by omega) w)
  have hll := logical_len s.data.toList
  have hlc := logical_count s.data.toList
  rw [list_len] at hll hlc
  have hLL : linesL s.data.toList = entGo (logicalL s.data.toList) ([], []) := by
    unfold linesL
    rw [if_neg (by rw [list_len]; omega)]
  generalize linesL s.data.toList = R at hLL ⊢
  generalize logicalL s.data.toList = L at HLG hll hlc hLL
  have HRR := Lib.hid hLL
  have HLL := Lib.hid hll
  have hsz : ¬ (8192 : Int) < (s.size : Int) := by omega
  clear hLL hll
  go_enter Tryz.func44, Tryz.ntmps44
  go_wp2_with fail
  refine HLG.out.mono ?_
  rintro e w0 ⟨v8, rfl, hr8, hb0⟩
  have HR8 := Lib.hid hr8
  have HB0 := Lib.hid hb0
  obtain ⟨p8, c8, rfl, -⟩ := hr8
  clear hb0
  go_wp2_with fail
  go_loopg [6, 7, 9] L.length (fun g v6 v7 v9 W => P13Rel L w0 g v6 v7 v9 W)
  case atStart => exact ⟨0, ([], []), rfl, Nat.zero_le _, rfl, rfl, World.ownsRow_nil _ _ _ _, World.ownsRow_nil _ _ _ _, Below.refl _ _, Nat.zero_le _, Nat.zero_le _⟩
  case round =>
    obtain ⟨i, st, rfl, hi, hg, hst, hl, hf, hb, hl64, hfi⟩ := hrel
    obtain ⟨wo, hwo⟩ : ∃ wo, wo = wr := ⟨_, rfl⟩
    subst hwo
    have HG := Lib.hid hg
    have HST := Lib.hid hst
    have HO := Lib.hid hl
    have HF := Lib.hid hf
    have HB := Lib.hid hb
    clear hg hst hl hf hb
    by_cases hlt : i < L.length
    · have i0 : (0 : Int) ≤ (i : Int) := by omega
      have i1 : (i : Int) < (L.length : Int) := by omega
      have iw : IntKind.i64.wrap ((i : Int) + 1) = ((i + 1 : Nat) : Int) := by rw [IntKind.wrap_i64]; omega
      have hx := List.getElem?_eq_getElem hlt
      obtain ⟨X, hX⟩ : ∃ X, L[i] = X := ⟨_, rfl⟩
      rw [hX] at hx
      have hXl := HLL.out X (by rw [← hX]; exact List.getElem_mem hlt)
      have HAT := Lib.hid (ent_at hx)
      have HXI := Lib.hid hx
      have HOKX := Lib.hid (ent_ok st X)
      obtain ⟨p', cap', he, h⟩ := HR8.out.below HB.out
      obtain rfl : c8 = cap' := by injection he
      obtain rfl : p8 = p' := by injection he
      obtain ⟨b8, o8, hpb, hc⟩ := grow_at h hlt
      subst hpb
      clear he h
      have HE := Lib.hid (fun W => entry13 X (by omega) W)
      obtain ⟨ln, txt, al⟩ := X
      have d0 := hc i _ hx 0 (.int .i64 (ln : Int)) rfl
      have d1 := hc i _ hx 1 (.string ⟨txt.toArray⟩) rfl
      have d2 := hc i _ hx 2 (.bool al) rfl
      rw [Nat.add_zero] at d0
      obtain ⟨ok, hok⟩ : ∃ ok, entOk (ln, txt, al) = ok := ⟨_, rfl⟩
      unfold EntP at HE
      rw [hok] at HE
      rw [hok] at HOKX
      obtain ⟨pv, cv, hv6⟩ := own_slice HO.out
      obtain ⟨pw, cw, hv7⟩ := own_slice HF.out
      have hbs := HB.out.size
      clear hc hx hX hok
      subst hv6 hv7
      go_upto_region 9 with (fail)
      go_cut [10, 11] (fun v10 v11 wc => Cut9 ok ln txt wo v10 v11 wc)
      case first =>
        cases ok with
        | false =>
          simp only [Bool.false_eq_true, if_false, enC, Int.natCast_zero] at HE
          go_wp2_with fail
          refine (HE.out _).mono ?_
          rintro e w1 ⟨rfl, hb1⟩
          have HB1 := Lib.hid hb1
          have HT0 := Lib.hid (Three.made w1 (.int .i64 0) (.string ⟨#[]⟩) (.slice none 0 0) 99)
          have HB2 := Lib.hid (alloc_below w1 (.cells #[.int .i64 0, .string ⟨#[]⟩, .slice none 0 0] 99))
          clear hb1 d0 d1 d2
          go_wp2_with fail
          go_meet
          case rel => exact ⟨_, 0, 5, [], rfl, rfl, HT0.out, HB1.out.trans (HB2.out.mono HB1.out.size), .inr ⟨rfl, rfl, rfl, rfl⟩⟩
        | true =>
          simp only [if_true, enC] at HE
          go_wp2_with fail
          refine (HE.out _).mono ?_
          rintro e w1 ⟨rfl, hb1⟩
          have HB1 := Lib.hid hb1
          have HT0 := Lib.hid (Three.made w1 (.int .i64 (ln : Int)) (.string ⟨txt.toArray⟩) (.slice none 0 0) 99)
          have HB2 := Lib.hid (alloc_below w1 (.cells #[.int .i64 (ln : Int), .string ⟨txt.toArray⟩, .slice none 0 0] 99))
          clear hb1 d0 d1 d2
          go_wp2_with fail
          go_meet
          case rel => exact ⟨_, ln, 0, txt, rfl, rfl, HT0.out, HB1.out.trans (HB2.out.mono HB1.out.size), .inl ⟨rfl, rfl, rfl, rfl⟩⟩
      case rest =>
      obtain ⟨B, ln1, ee, key1, rfl, rfl, ht, hbc, hok⟩ := hcut
      obtain ⟨w2, hw2⟩ : ∃ w2, w2 = wc := ⟨_, rfl⟩
      subst hw2
      have HT := Lib.hid ht
      have HBA := Lib.hid hbc
      clear ht hbc d0 d1 d2 HE
      obtain ⟨q, hq⟩ : ∃ q, (ok && decide (64 ≤ st.1.length)) = q := ⟨_, rfl⟩
      have hkl : key1.length ≤ 100000 := by
        rcases hok with ⟨-, -, -, h⟩ | ⟨-, -, -, h⟩
        · rw [h]; simp only at hXl; omega
        · rw [h]; decide
      obtain ⟨e0, he0⟩ : ∃ e0 : Nat, (if q = true then 7 else ee) = e0 := ⟨_, rfl⟩
      have hpack : (entStep st (ln, txt, al) = if errK e0 st.1 key1 st.1.length = 0 then (st.1 ++ [(ln1, key1)], st.2) else (st.1, st.2 ++ [(ln, errK e0 st.1 key1 st.1.length)])) ∧ (errK e0 st.1 key1 st.1.length = 0 → st.1.length < 64) := by
        rcases hok with ⟨rfl, rfl, rfl, rfl⟩ | ⟨rfl, rfl, rfl, rfl⟩
        · by_cases hfull : 64 ≤ st.1.length
          · have hq1 : q = true := by rw [← hq]; simpa using hfull
            rw [hq1, if_pos rfl] at he0
            subst he0
            exact ⟨fin_ne (by decide) (by rw [HOKX.out, if_neg (by simp), if_pos hfull]) _, fun h => by rw [errK_ne (by decide)] at h; cases h⟩
          · have hq1 : q = false := by rw [← hq]; simpa using Nat.lt_of_not_le hfull
            rw [hq1, if_neg (by simp)] at he0
            subst he0
            exact ⟨fin_zero (by rw [HOKX.out, if_neg (by simp), if_neg hfull]), fun _ => by omega⟩
        · have hq1 : q = false := by rw [← hq]; rfl
          rw [hq1, if_neg (by simp)] at he0
          subst he0
          exact ⟨fin_ne (by decide) (by rw [HOKX.out, if_pos rfl]) _, fun h => by rw [errK_ne (by decide)] at h; cases h⟩
      obtain ⟨hfin0, hl640⟩ := hpack
      have HFIN := Lib.hid hfin0
      have HL64 := Lib.hid hl640
      have HE0 := Lib.hid he0
      have HQQ := Lib.hid hq
      have HOKC := Lib.hid (show (ok = true ∧ ee = 0) ∨ (ok = false ∧ ee = 5) from by
        rcases hok with ⟨h1, h2, -⟩ | ⟨h1, h2, -⟩
        · exact .inl ⟨h1, h2⟩
        · exact .inr ⟨h1, h2⟩)
      clear hok hfin0 hl640 he0 hq HOKX
      go_upto_region 10 with (fail)
      go_cut [41] (fun v41 wc => v41 = .bool q ∧ wc = w2)
      case first =>
        rcases HOKC.out with ⟨rfl, rfl⟩ | ⟨rfl, rfl⟩
        · by_cases hfull : 64 ≤ st.1.length
          · have hq1 : q = true := by rw [← HQQ.out]; simpa using hfull
            have g64 : (64 : Int) ≤ (st.1.length : Int) := by omega
            have g64d : decide ((64 : Int) ≤ (st.1.length : Int)) = true := by rw [decide_eq_true_eq]; exact g64
            have HQ1 := Lib.hid hq1
            clear hq1
            go_wp2_with fail
            go_meet
            case rel => exact ⟨by rw [HQ1.out], rfl⟩
          · have hq1 : q = false := by rw [← HQQ.out]; simpa using Nat.lt_of_not_le hfull
            have g64 : ¬ (64 : Int) ≤ (st.1.length : Int) := by omega
            have g64d : decide ((64 : Int) ≤ (st.1.length : Int)) = false := by rw [decide_eq_false_iff_not]; exact g64
            have HQ1 := Lib.hid hq1
            clear hq1
            go_wp2_with fail
            go_meet
            case rel => exact ⟨by rw [HQ1.out], rfl⟩
        · have hq1 : q = false := by rw [← HQQ.out]; rfl
          have HQ1 := Lib.hid hq1
          clear hq1
          go_wp2_with fail
          go_meet
          case rel => exact ⟨by rw [HQ1.out], rfl⟩
      case rest =>
      obtain ⟨rfl, hwc⟩ := hcut
      rw [hwc]
      clear hwc wc
      go_upto_if 41 with (fail)
      go_cut [11] (fun v11 wc => v11 = .int .i64 (e0 : Int) ∧ wc = w2)
      case first =>
        cases q with
        | true =>
          go_wp2_with fail
          go_meet
          case rel => exact ⟨by rw [← HE0.out]; rfl, rfl⟩
        | false =>
          go_wp2_with fail
          go_meet
          case rel => exact ⟨by rw [← HE0.out]; rfl, rfl⟩
      case rest =>
      obtain ⟨rfl, hwc⟩ := hcut
      rw [hwc]
      clear hwc wc
      go_wp2_with fail
      have HBO := Lib.hid (HB.out.trans (HBA.out.mono HB.out.size))
      have HO2 := Lib.hid (own_low HO.out HBA.out)
      have HF2 := Lib.hid (own_low HF.out HBA.out)
      have hbs2 := HBO.out.size
      go_loopg [11, 12] st.1.length (fun g v11 v12 W => P13In L st e0 ln1 key1 B w0 w2 (.slice pv st.1.length cv) (.slice pw st.2.length cw) g v11 v12 W)
      case atStart => exact ⟨0, rfl, by rw [errK_zero], Nat.zero_le _, rfl, Below.refl _ _, HT.out, HO2.out, HF2.out⟩
      case round =>
        obtain ⟨k, rfl, rfl, hk, hg2, hbw, htw, hlw, hfw⟩ := hrel
        have HG2 := Lib.hid hg2
        have HBW := Lib.hid hbw
        have HTW := Lib.hid htw
        have HLW := Lib.hid hlw
        have HFW := Lib.hid hfw
        clear hg2 hbw htw hlw hfw
        have k0 : (0 : Int) ≤ (k : Int) := by omega
        by_cases hklt : k < st.1.length
        · have k1 : (k : Int) < (st.1.length : Int) := by omega
          have kw : IntKind.i64.wrap ((k : Int) + 1) = ((k + 1 : Nat) : Int) := by rw [IntKind.wrap_i64]; omega
          obtain ⟨Y, hY⟩ : ∃ Y, st.1[k]? = some Y := ⟨_, List.getElem?_eq_getElem hklt⟩
          have HON := Lib.hid (errK_on (e0 := e0) (key := key1) hY)
          obtain ⟨E, hE⟩ : ∃ E, errK e0 st.1 key1 k = E := ⟨_, rfl⟩
          rw [hE] at HON
          rw [hE]
          clear hE
          by_cases hE0 : E = 0
          · subst hE0
            have hon := HON.out
            rw [if_neg (by simp)] at hon
            have HON2 := Lib.hid hon
            clear hon HON
            obtain ⟨b, cap3, hv6, hbB, hblt⟩ := HLW.out.form (by omega)
            obtain rfl : pv = some ⟨b, 0, none⟩ := by injection hv6
            obtain rfl : cv = cap3 := by injection hv6
            have hck : wr.cell? ⟨b, k * 3 + 1, none⟩ = some (.string ⟨Y.2.toArray⟩) := by
              have h1 := flat_get (k := 3) (C := enC) (fun _ => rfl) st.1 k 1 Y hY (by omega)
              have := World.ownsRow.cells HLW.out (g := b) rfl (k * 3 + 1) (.string ⟨Y.2.toArray⟩) (by rw [h1]; rfl)
              rwa [addr_zero] at this
            obtain ⟨K, hK⟩ : ∃ K, Y.2 = K := ⟨_, rfl⟩
            rw [hK] at hck HON2
            have hKl : K.length ≤ 1000000 := by
              rw [← hK]
              have hm := List.mem_of_getElem? hY
              rw [HST.out] at hm
              rcases ent_from _ _ _ hm with h | ⟨x, hx, e⟩
              · cases h
              · have := HLL.out x (List.mem_of_mem_take hx)
                rw [e]
                omega
            have HS1 := Lib.hid (fun W => small13 ⟨K.toArray⟩ (by show K.length ≤ _; omega) W)
            have HS2 := Lib.hid (fun W => small13 ⟨key1.toArray⟩ (by show key1.length ≤ _; omega) W)
            simp only [mk_listr] at HS1 HS2
            have HKM := Lib.hid k1
            have HKI := Lib.hid (⟨Below.refl _ _, hck, HTW.out⟩ : KeysIn b k K B ln1 key1 wr wr)
            clear hck hv6 hK
            by_cases hq : lowL K = lowL key1
            · rw [if_pos hq] at HON2
              obtain ⟨SA, hSA⟩ : ∃ SA : ByteArray, ⟨(lowL K).toArray⟩ = SA := ⟨_, rfl⟩
              have HSE := Lib.hid (show True from trivial)
              rw [← hq] at HS2
              rw [hSA] at HS1 HS2
              clear hSA hq
              go_wp2_with fail
              refine wp_region_det (by kernel_rfl) 14 rfl (fun i => [.int .i64 0, .bool true, .bool true, .slice (some ⟨b, 0, none⟩) st.1.length cv, .int .i64 (k : Int), .pointer (some ⟨b, k * 3, none⟩), .pointer (some ⟨b, k * 3 + 1, none⟩), .string ⟨K.toArray⟩, .string SA, .pointer (some ⟨B, 1, none⟩), .string ⟨key1.toArray⟩, .string SA, .bool true, .bool true].getD i undef) (fun _ W => KeysIn b k K B ln1 key1 wr W) (by kernel_rfl) (by kernel_rfl) ?hR0 ?hop [(0, 48), (1, 49), (2, 50), (3, 51), (4, 52), (5, 53), (6, 54), (7, 55), (8, 56), (9, 57), (10, 58), (11, 59), (12, 60), (13, 61)] (by kernel_rfl) ?hfin
              case hR0 => exact HKI.out.call (drew_below wr)
              case hop =>
                refine ⟨⟨⟨⟨⟨⟨⟨⟨⟨⟨⟨⟨⟨⟨True.intro, ?_⟩, ?_⟩, ?_⟩, ?_⟩, ?_⟩, ?_⟩, ?_⟩, ?_⟩, ?_⟩, ?_⟩, ?_⟩, ?_⟩, ?_⟩, ?_⟩
                · refine ⟨_, rfl, by kernel_rfl, fun Lq aq wq hi hH hA hW hR => ?_⟩
                  rw [if_pos (by rfl)]
                  intro Kq hK
                  have e0 := hH.base 11 (.int .i64 0) (by kernel_rfl) rfl
                  clear hH hA
                  refine step_pure (.int .i64 0) ?_ (hK.out _ (hR))
                  clear hK
                  (simp only [execOp, Act.eval, e0]; go_simp)
                · refine ⟨_, rfl, by kernel_rfl, fun Lq aq wq hi hH hA hW hR => ?_⟩
                  rw [if_pos (by rfl)]
                  intro Kq hK
                  have e0 := hH.at 0 48 (.int .i64 0) (by kernel_rfl) (hA 0 (by kernel_rfl)) rfl
                  clear hH hA
                  refine step_pure (.bool true) ?_ (hK.out _ (hR))
                  clear hK
                  (simp only [execOp, Act.eval, e0]; go_simp)
                · refine ⟨_, rfl, by kernel_rfl, fun Lq aq wq hi hH hA hW hR => ?_⟩
                  rw [if_pos (by rfl)]
                  intro Kq hK
                  have e0 := hH.at 1 49 (.bool true) (by kernel_rfl) (hA 1 (by kernel_rfl)) rfl
                  clear hH hA
                  refine step_pure (.bool true) ?_ (hK.out _ (hR))
                  clear hK
                  (simp only [execOp, Act.eval, e0]; go_simp)
                · refine ⟨_, rfl, by kernel_rfl, fun Lq aq wq hi hH hA hW hR => ?_⟩
                  rw [if_pos (by rfl)]
                  intro Kq hK
                  have e0 := hH.base 6 (.slice (some ⟨b, 0, none⟩) st.1.length cv) (by kernel_rfl) rfl
                  clear hH hA
                  refine step_pure (.slice (some ⟨b, 0, none⟩) st.1.length cv) ?_ (hK.out _ (hR))
                  clear hK
                  (simp only [execOp, Act.eval, e0]; go_simp)
                · refine ⟨_, rfl, by kernel_rfl, fun Lq aq wq hi hH hA hW hR => ?_⟩
                  rw [if_pos (by rfl)]
                  intro Kq hK
                  have e0 := hH.base 12 (.int .i64 (k : Int)) (by kernel_rfl) rfl
                  clear hH hA
                  refine step_pure (.int .i64 (k : Int)) ?_ (hK.out _ (hR))
                  clear hK
                  (simp only [execOp, Act.eval, e0]; go_simp)
                · refine ⟨_, rfl, by kernel_rfl, fun Lq aq wq hi hH hA hW hR => ?_⟩
                  rw [if_pos (by rfl)]
                  intro Kq hK
                  have e0 := hH.at 3 51 (.slice (some ⟨b, 0, none⟩) st.1.length cv) (by kernel_rfl) (hA 3 (by kernel_rfl)) rfl
                  have e1 := hH.at 4 52 (.int .i64 (k : Int)) (by kernel_rfl) (hA 4 (by kernel_rfl)) rfl
                  clear hH hA
                  refine step_pure (.pointer (some ⟨b, k * 3, none⟩)) ?_ (hK.out _ hR)
                  clear hK
                  have k0 : (0 : Int) ≤ (k : Int) := by omega
                  have k1 : (k : Int) < (st.1.length : Int) := HKM.out
                  (simp only [execOp, Act.eval, e0, e1]; go_simp)
                · refine ⟨_, rfl, by kernel_rfl, fun Lq aq wq hi hH hA hW hR => ?_⟩
                  rw [if_pos (by rfl)]
                  intro Kq hK
                  have e0 := hH.at 5 53 (.pointer (some ⟨b, k * 3, none⟩)) (by kernel_rfl) (hA 5 (by kernel_rfl)) rfl
                  clear hH hA
                  refine step_pure (.pointer (some ⟨b, k * 3 + 1, none⟩)) ?_ (hK.out _ (hR))
                  clear hK
                  (simp only [execOp, Act.eval, e0]; go_simp)
                · refine ⟨_, rfl, by kernel_rfl, fun Lq aq wq hi hH hA hW hR => ?_⟩
                  rw [if_pos (by rfl)]
                  intro Kq hK
                  have e0 := hH.at 6 54 (.pointer (some ⟨b, k * 3 + 1, none⟩)) (by kernel_rfl) (hA 6 (by kernel_rfl)) rfl
                  clear hH hA
                  have hc := hR.c
                  refine step_pure (.string ⟨K.toArray⟩) ?_ (hK.out _ hR)
                  clear hK
                  (simp only [execOp, Act.eval, e0]; go_simp)
                · refine ⟨_, rfl, by kernel_rfl, fun Lq aq wq hi hH hA hW hR => ?_⟩
                  rw [if_pos (by rfl)]
                  intro Kq hK
                  have e0 := hH.at 7 55 (.string ⟨K.toArray⟩) (by kernel_rfl) (hA 7 (by kernel_rfl)) rfl
                  clear hH hA
                  unfold Oper.wp
                  simp only [execOp, Act.eval, e0]
                  go_simp
                  refine (HS1.out _).mono ?_
                  rintro e w' ⟨rfl, hb⟩
                  exact hK.out _ (hR.call hb)
                · refine ⟨_, rfl, by kernel_rfl, fun Lq aq wq hi hH hA hW hR => ?_⟩
                  rw [if_pos (by rfl)]
                  intro Kq hK
                  have e0 := hH.base 10 (.pointer (some ⟨B, 0, none⟩)) (by kernel_rfl) rfl
                  clear hH hA
                  refine step_pure (.pointer (some ⟨B, 1, none⟩)) ?_ (hK.out _ (hR))
                  clear hK
                  (simp only [execOp, Act.eval, e0]; go_simp)
                · refine ⟨_, rfl, by kernel_rfl, fun Lq aq wq hi hH hA hW hR => ?_⟩
                  rw [if_pos (by rfl)]
                  intro Kq hK
                  have e0 := hH.at 9 57 (.pointer (some ⟨B, 1, none⟩)) (by kernel_rfl) (hA 9 (by kernel_rfl)) rfl
                  clear hH hA
                  have hc := hR.d.c1
                  refine step_pure (.string ⟨key1.toArray⟩) ?_ (hK.out _ hR)
                  clear hK
                  (simp only [execOp, Act.eval, e0]; go_simp)
                · refine ⟨_, rfl, by kernel_rfl, fun Lq aq wq hi hH hA hW hR => ?_⟩
                  rw [if_pos (by rfl)]
                  intro Kq hK
                  have e0 := hH.at 10 58 (.string ⟨key1.toArray⟩) (by kernel_rfl) (hA 10 (by kernel_rfl)) rfl
                  clear hH hA
                  unfold Oper.wp
                  simp only [execOp, Act.eval, e0]
                  go_simp
                  refine (HS2.out _).mono ?_
                  rintro e w' ⟨rfl, hb⟩
                  exact hK.out _ (hR.call hb)
                · refine ⟨_, rfl, by kernel_rfl, fun Lq aq wq hi hH hA hW hR => ?_⟩
                  rw [if_pos (by rfl)]
                  intro Kq hK
                  have e0 := hH.at 8 56 (.string SA) (by kernel_rfl) (hA 8 (by kernel_rfl)) rfl
                  have e1 := hH.at 11 59 (.string SA) (by kernel_rfl) (hA 11 (by kernel_rfl)) rfl
                  clear hH hA
                  refine step_pure (.bool true) ?_ (hK.out _ hR)
                  clear hK
                  have hse := HSE.out
                  (simp only [execOp, Act.eval, e0, e1]; go_simp)
                · refine ⟨_, rfl, by kernel_rfl, fun Lq aq wq hi hH hA hW hR => ?_⟩
                  rw [if_pos (by rfl)]
                  intro Kq hK
                  have e0 := hH.at 2 50 (.bool true) (by kernel_rfl) (hA 2 (by kernel_rfl)) rfl
                  have e1 := hH.at 12 60 (.bool true) (by kernel_rfl) (hA 12 (by kernel_rfl)) rfl
                  clear hH hA
                  refine step_pure (.bool true) ?_ (hK.out _ (hR))
                  clear hK
                  (simp only [execOp, Act.eval, e0, e1]; go_simp)
              case hfin =>
                intro Lq w7 hall hR
                have HR7 := Lib.hid hR
                clear hall hR
                simp only [List.foldl_cons, List.foldl_nil, List.getD_cons_zero, List.getD_cons_succ, List.setIfInBounds_toArray, List.set_cons_zero, List.set_cons_succ]
                go_wp2_with fail
                go_roundg (st.1.length - (k + 1))
                case rel => exact ⟨k + 1, by go_num, by first | (rw [HON2.out]; done) | (rw [HON2.out]; rfl), by omega, rfl, HBW.out.trans (HR7.out.lo.mono HBW.out.size), HR7.out.d, own_low HLW.out HR7.out.lo, own_low HFW.out HR7.out.lo⟩
                case measure => have := HG2.out; omega
            · rw [if_neg hq] at HON2
              obtain ⟨SA, hSA⟩ : ∃ SA : ByteArray, ⟨(lowL K).toArray⟩ = SA := ⟨_, rfl⟩
              obtain ⟨SB, hSB⟩ : ∃ SB : ByteArray, ⟨(lowL key1).toArray⟩ = SB := ⟨_, rfl⟩
              have HSE := Lib.hid (show ¬ SA.toList = SB.toList from by
                rw [← hSA, ← hSB]
                simpa using hq)
              rw [hSA] at HS1
              rw [hSB] at HS2
              clear hSA hSB hq
              go_wp2_with fail
              refine wp_region_det (by kernel_rfl) 14 rfl (fun i => [.int .i64 0, .bool true, .bool true, .slice (some ⟨b, 0, none⟩) st.1.length cv, .int .i64 (k : Int), .pointer (some ⟨b, k * 3, none⟩), .pointer (some ⟨b, k * 3 + 1, none⟩), .string ⟨K.toArray⟩, .string SA, .pointer (some ⟨B, 1, none⟩), .string ⟨key1.toArray⟩, .string SB, .bool false, .bool false].getD i undef) (fun _ W => KeysIn b k K B ln1 key1 wr W) (by kernel_rfl) (by kernel_rfl) ?hR0 ?hop [(0, 48), (1, 49), (2, 50), (3, 51), (4, 52), (5, 53), (6, 54), (7, 55), (8, 56), (9, 57), (10, 58), (11, 59), (12, 60), (13, 61)] (by kernel_rfl) ?hfin
              case hR0 => exact HKI.out.call (drew_below wr)
              case hop =>
                refine ⟨⟨⟨⟨⟨⟨⟨⟨⟨⟨⟨⟨⟨⟨True.intro, ?_⟩, ?_⟩, ?_⟩, ?_⟩, ?_⟩, ?_⟩, ?_⟩, ?_⟩, ?_⟩, ?_⟩, ?_⟩, ?_⟩, ?_⟩, ?_⟩
                · refine ⟨_, rfl, by kernel_rfl, fun Lq aq wq hi hH hA hW hR => ?_⟩
                  rw [if_pos (by rfl)]
                  intro Kq hK
                  have e0 := hH.base 11 (.int .i64 0) (by kernel_rfl) rfl
                  clear hH hA
                  refine step_pure (.int .i64 0) ?_ (hK.out _ (hR))
                  clear hK
                  (simp only [execOp, Act.eval, e0]; go_simp)
                · refine ⟨_, rfl, by kernel_rfl, fun Lq aq wq hi hH hA hW hR => ?_⟩
                  rw [if_pos (by rfl)]
                  intro Kq hK
                  have e0 := hH.at 0 48 (.int .i64 0) (by kernel_rfl) (hA 0 (by kernel_rfl)) rfl
                  clear hH hA
                  refine step_pure (.bool true) ?_ (hK.out _ (hR))
                  clear hK
                  (simp only [execOp, Act.eval, e0]; go_simp)
                · refine ⟨_, rfl, by kernel_rfl, fun Lq aq wq hi hH hA hW hR => ?_⟩
                  rw [if_pos (by rfl)]
                  intro Kq hK
                  have e0 := hH.at 1 49 (.bool true) (by kernel_rfl) (hA 1 (by kernel_rfl)) rfl
                  clear hH hA
                  refine step_pure (.bool true) ?_ (hK.out _ (hR))
                  clear hK
                  (simp only [execOp, Act.eval, e0]; go_simp)
                · refine ⟨_, rfl, by kernel_rfl, fun Lq aq wq hi hH hA hW hR => ?_⟩
                  rw [if_pos (by rfl)]
                  intro Kq hK
                  have e0 := hH.base 6 (.slice (some ⟨b, 0, none⟩) st.1.length cv) (by kernel_rfl) rfl
                  clear hH hA
                  refine step_pure (.slice (some ⟨b, 0, none⟩) st.1.length cv) ?_ (hK.out _ (hR))
                  clear hK
                  (simp only [execOp, Act.eval, e0]; go_simp)
                · refine ⟨_, rfl, by kernel_rfl, fun Lq aq wq hi hH hA hW hR => ?_⟩
                  rw [if_pos (by rfl)]
                  intro Kq hK
                  have e0 := hH.base 12 (.int .i64 (k : Int)) (by kernel_rfl) rfl
                  clear hH hA
                  refine step_pure (.int .i64 (k : Int)) ?_ (hK.out _ (hR))
                  clear hK
                  (simp only [execOp, Act.eval, e0]; go_simp)
                · refine ⟨_, rfl, by kernel_rfl, fun Lq aq wq hi hH hA hW hR => ?_⟩
                  rw [if_pos (by rfl)]
                  intro Kq hK
                  have e0 := hH.at 3 51 (.slice (some ⟨b, 0, none⟩) st.1.length cv) (by kernel_rfl) (hA 3 (by kernel_rfl)) rfl
                  have e1 := hH.at 4 52 (.int .i64 (k : Int)) (by kernel_rfl) (hA 4 (by kernel_rfl)) rfl
                  clear hH hA
                  refine step_pure (.pointer (some ⟨b, k * 3, none⟩)) ?_ (hK.out _ hR)
                  clear hK
                  have k0 : (0 : Int) ≤ (k : Int) := by omega
                  have k1 : (k : Int) < (st.1.length : Int) := HKM.out
                  (simp only [execOp, Act.eval, e0, e1]; go_simp)
                · refine ⟨_, rfl, by kernel_rfl, fun Lq aq wq hi hH hA hW hR => ?_⟩
                  rw [if_pos (by rfl)]
                  intro Kq hK
                  have e0 := hH.at 5 53 (.pointer (some ⟨b, k * 3, none⟩)) (by kernel_rfl) (hA 5 (by kernel_rfl)) rfl
                  clear hH hA
                  refine step_pure (.pointer (some ⟨b, k * 3 + 1, none⟩)) ?_ (hK.out _ (hR))
                  clear hK
                  (simp only [execOp, Act.eval, e0]; go_simp)
                · refine ⟨_, rfl, by kernel_rfl, fun Lq aq wq hi hH hA hW hR => ?_⟩
                  rw [if_pos (by rfl)]
                  intro Kq hK
                  have e0 := hH.at 6 54 (.pointer (some ⟨b, k * 3 + 1, none⟩)) (by kernel_rfl) (hA 6 (by kernel_rfl)) rfl
                  clear hH hA
                  have hc := hR.c
                  refine step_pure (.string ⟨K.toArray⟩) ?_ (hK.out _ hR)
                  clear hK
                  (simp only [execOp, Act.eval, e0]; go_simp)
                · refine ⟨_, rfl, by kernel_rfl, fun Lq aq wq hi hH hA hW hR => ?_⟩
                  rw [if_pos (by rfl)]
                  intro Kq hK
                  have e0 := hH.at 7 55 (.string ⟨K.toArray⟩) (by kernel_rfl) (hA 7 (by kernel_rfl)) rfl
                  clear hH hA
                  unfold Oper.wp
                  simp only [execOp, Act.eval, e0]
                  go_simp
                  refine (HS1.out _).mono ?_
                  rintro e w' ⟨rfl, hb⟩
                  exact hK.out _ (hR.call hb)
                · refine ⟨_, rfl, by kernel_rfl, fun Lq aq wq hi hH hA hW hR => ?_⟩
                  rw [if_pos (by rfl)]
                  intro Kq hK
                  have e0 := hH.base 10 (.pointer (some ⟨B, 0, none⟩)) (by kernel_rfl) rfl
                  clear hH hA
                  refine step_pure (.pointer (some ⟨B, 1, none⟩)) ?_ (hK.out _ (hR))
                  clear hK
                  (simp only [execOp, Act.eval, e0]; go_simp)
                · refine ⟨_, rfl, by kernel_rfl, fun Lq aq wq hi hH hA hW hR => ?_⟩
                  rw [if_pos (by rfl)]
                  intro Kq hK
                  have e0 := hH.at 9 57 (.pointer (some ⟨B, 1, none⟩)) (by kernel_rfl) (hA 9 (by kernel_rfl)) rfl
                  clear hH hA
                  have hc := hR.d.c1
                  refine step_pure (.string ⟨key1.toArray⟩) ?_ (hK.out _ hR)
                  clear hK
                  (simp only [execOp, Act.eval, e0]; go_simp)
                · refine ⟨_, rfl, by kernel_rfl, fun Lq aq wq hi hH hA hW hR => ?_⟩
                  rw [if_pos (by rfl)]
                  intro Kq hK
                  have e0 := hH.at 10 58 (.string ⟨key1.toArray⟩) (by kernel_rfl) (hA 10 (by kernel_rfl)) rfl
                  clear hH hA
                  unfold Oper.wp
                  simp only [execOp, Act.eval, e0]
                  go_simp
                  refine (HS2.out _).mono ?_
                  rintro e w' ⟨rfl, hb⟩
                  exact hK.out _ (hR.call hb)
                · refine ⟨_, rfl, by kernel_rfl, fun Lq aq wq hi hH hA hW hR => ?_⟩
                  rw [if_pos (by rfl)]
                  intro Kq hK
                  have e0 := hH.at 8 56 (.string SA) (by kernel_rfl) (hA 8 (by kernel_rfl)) rfl
                  have e1 := hH.at 11 59 (.string SB) (by kernel_rfl) (hA 11 (by kernel_rfl)) rfl
                  clear hH hA
                  refine step_pure (.bool false) ?_ (hK.out _ hR)
                  clear hK
                  have hse := HSE.out
                  (simp only [execOp, Act.eval, e0, e1]; go_simp)
                · refine ⟨_, rfl, by kernel_rfl, fun Lq aq wq hi hH hA hW hR => ?_⟩
                  rw [if_pos (by rfl)]
                  intro Kq hK
                  have e0 := hH.at 2 50 (.bool true) (by kernel_rfl) (hA 2 (by kernel_rfl)) rfl
                  have e1 := hH.at 12 60 (.bool false) (by kernel_rfl) (hA 12 (by kernel_rfl)) rfl
                  clear hH hA
                  refine step_pure (.bool false) ?_ (hK.out _ (hR))
                  clear hK
                  (simp only [execOp, Act.eval, e0, e1]; go_simp)
              case hfin =>
                intro Lq w7 hall hR
                have HR7 := Lib.hid hR
                clear hall hR
                simp only [List.foldl_cons, List.foldl_nil, List.getD_cons_zero, List.getD_cons_succ, List.setIfInBounds_toArray, List.set_cons_zero, List.set_cons_succ]
                go_wp2_with fail
                go_roundg (st.1.length - (k + 1))
                case rel => exact ⟨k + 1, by go_num, by first | (rw [HON2.out]; done) | (rw [HON2.out]; rfl), by omega, rfl, HBW.out.trans (HR7.out.lo.mono HBW.out.size), HR7.out.d, own_low HLW.out HR7.out.lo, own_low HFW.out HR7.out.lo⟩
                case measure => have := HG2.out; omega
          · have hon := HON.out
            rw [if_pos hE0] at hon
            have HON2 := Lib.hid hon
            have HEZ := Lib.hid (show ((E : Int) == 0) = false from by rw [beq_eq_false_iff_ne]; omega)
            clear hon HON hE0
            go_wp2_with fail
            refine wp_region_det (by kernel_rfl) 14 rfl (fun i => [.int .i64 (E : Int), .bool false, .bool false, undef, undef, undef, undef, undef, undef, undef, undef, undef, undef, .bool false].getD i undef) (fun _ W => Below wr.heap.size wr W) (by kernel_rfl) (by kernel_rfl) ?hR0 ?hop [(0, 48), (1, 49), (2, 50), (3, 51), (4, 52), (5, 53), (6, 54), (7, 55), (8, 56), (9, 57), (10, 58), (11, 59), (12, 60), (13, 61)] (by kernel_rfl) ?hfin
            case hR0 => exact drew_below wr
            case hop =>
              refine ⟨⟨⟨⟨⟨⟨⟨⟨⟨⟨⟨⟨⟨⟨True.intro, ?_⟩, ?_⟩, ?_⟩, ?_⟩, ?_⟩, ?_⟩, ?_⟩, ?_⟩, ?_⟩, ?_⟩, ?_⟩, ?_⟩, ?_⟩, ?_⟩
              · refine ⟨_, rfl, by kernel_rfl, fun Lq aq wq hi hH hA hW hR => ?_⟩
                rw [if_pos (by rfl)]
                intro Kq hK
                have e0 := hH.base 11 (.int .i64 (E : Int)) (by kernel_rfl) rfl
                clear hH hA
                refine step_pure (.int .i64 (E : Int)) ?_ (hK.out _ (hR))
                clear hK
                (simp only [execOp, Act.eval, e0]; go_simp)
              · refine ⟨_, rfl, by kernel_rfl, fun Lq aq wq hi hH hA hW hR => ?_⟩
                rw [if_pos (by rfl)]
                intro Kq hK
                have e0 := hH.at 0 48 (.int .i64 (E : Int)) (by kernel_rfl) (hA 0 (by kernel_rfl)) rfl
                clear hH hA
                refine step_pure (.bool false) ?_ (hK.out _ hR)
                clear hK
                have hez := HEZ.out
                (simp only [execOp, Act.eval, e0]; go_simp)
              · refine ⟨_, rfl, by kernel_rfl, fun Lq aq wq hi hH hA hW hR => ?_⟩
                rw [if_pos (by rfl)]
                intro Kq hK
                have e0 := hH.at 1 49 (.bool false) (by kernel_rfl) (hA 1 (by kernel_rfl)) rfl
                clear hH hA
                refine step_pure (.bool false) ?_ (hK.out _ (hR))
                clear hK
                (simp only [execOp, Act.eval, e0]; go_simp)
              · refine ⟨_, rfl, by kernel_rfl, fun Lq aq wq hi hH hA hW hR => ?_⟩
                rw [if_neg]
                · exact ⟨rfl, hR⟩
                · exact fun h => Bool.false_ne_true h
              · refine ⟨_, rfl, by kernel_rfl, fun Lq aq wq hi hH hA hW hR => ?_⟩
                rw [if_neg]
                · exact ⟨rfl, hR⟩
                · exact fun h => Bool.false_ne_true h
              · refine ⟨_, rfl, by kernel_rfl, fun Lq aq wq hi hH hA hW hR => ?_⟩
                rw [if_neg]
                · exact ⟨rfl, hR⟩
                · exact fun h => Bool.false_ne_true h
              · refine ⟨_, rfl, by kernel_rfl, fun Lq aq wq hi hH hA hW hR => ?_⟩
                rw [if_neg]
                · exact ⟨rfl, hR⟩
                · exact fun h => Bool.false_ne_true h
              · refine ⟨_, rfl, by kernel_rfl, fun Lq aq wq hi hH hA hW hR => ?_⟩
                rw [if_neg]
                · exact ⟨rfl, hR⟩
                · exact fun h => Bool.false_ne_true h
              · refine ⟨_, rfl, by kernel_rfl, fun Lq aq wq hi hH hA hW hR => ?_⟩
                rw [if_neg]
                · exact ⟨rfl, hR⟩
                · exact fun h => Bool.false_ne_true h
              · refine ⟨_, rfl, by kernel_rfl, fun Lq aq wq hi hH hA hW hR => ?_⟩
                rw [if_neg]
                · exact ⟨rfl, hR⟩
                · exact fun h => Bool.false_ne_true h
              · refine ⟨_, rfl, by kernel_rfl, fun Lq aq wq hi hH hA hW hR => ?_⟩
                rw [if_neg]
                · exact ⟨rfl, hR⟩
                · exact fun h => Bool.false_ne_true h
              · refine ⟨_, rfl, by kernel_rfl, fun Lq aq wq hi hH hA hW hR => ?_⟩
                rw [if_neg]
                · exact ⟨rfl, hR⟩
                · exact fun h => Bool.false_ne_true h
              · refine ⟨_, rfl, by kernel_rfl, fun Lq aq wq hi hH hA hW hR => ?_⟩
                rw [if_neg]
                · exact ⟨rfl, hR⟩
                · exact fun h => Bool.false_ne_true h
              · refine ⟨_, rfl, by kernel_rfl, fun Lq aq wq hi hH hA hW hR => ?_⟩
                rw [if_pos (by rfl)]
                intro Kq hK
                have e0 := hH.at 2 50 (.bool false) (by kernel_rfl) (hA 2 (by kernel_rfl)) rfl
                have e1 := hH.at 12 60 (undef) (by kernel_rfl) (hA 12 (by kernel_rfl)) rfl
                clear hH hA
                refine step_pure (.bool false) ?_ (hK.out _ (hR))
                clear hK
                (simp only [execOp, Act.eval, e0, e1]; go_simp)
            case hfin =>
              intro Lq w7 hall hR
              have HR7 := Lib.hid hR
              clear hall hR
              simp only [List.foldl_cons, List.foldl_nil, List.getD_cons_zero, List.getD_cons_succ, List.setIfInBounds_toArray, List.set_cons_zero, List.set_cons_succ]
              go_wp2_with fail
              go_roundg (st.1.length - (k + 1))
              case rel => exact ⟨k + 1, by go_num, by rw [HON2.out], by omega, rfl, HBW.out.trans (HR7.out.mono HBW.out.size), HTW.out.below HR7.out, own_low HLW.out HR7.out, own_low HFW.out HR7.out⟩
              case measure => have := HG2.out; omega
        · obtain rfl : k = st.1.length := by omega
          have k1 : ¬ (st.1.length : Int) < (st.1.length : Int) := by omega
          have hfin := HFIN.out
          have hl6 := HL64.out
          obtain ⟨E, hE⟩ : ∃ E, errK e0 st.1 key1 st.1.length = E := ⟨_, rfl⟩
          rw [hE] at hfin hl6
          rw [hE]
          have HBX := Lib.hid (HBO.out.trans (HBW.out.mono HBO.out.size))
          have HSX := Lib.hid HBX.out.size
          obtain ⟨p', cap', he, h⟩ := HR8.out.below HBX.out
          have hpb : some (⟨b8, o8, none⟩ : Addr) = p' := by injection he
          subst hpb
          obtain ⟨b9, o9, hpb, hc⟩ := grow_at h hlt
          obtain ⟨rfl, rfl⟩ : b8 = b9 ∧ o8 = o9 := by injection hpb with hpb; injection hpb with h1 h2; exact ⟨h1, h2⟩
          have d0 := hc i _ HXI.out 0 (.int .i64 (ln : Int)) rfl
          rw [Nat.add_zero] at d0
          clear he h hpb hc hE
          by_cases hE0 : E = 0
          · subst hE0
            rw [if_pos rfl] at hfin
            have HFN := Lib.hid hfin
            have hl3 := hl6 rfl
            obtain ⟨-, c0, c1, c2, -⟩ := HTW.out
            clear hfin hl6 d0
            go_wp2_with (first | (at_builtin; refine app_gen rfl _ _ 91 99 3 48 (.agg #[.int .i64 0, .string ⟨#[]⟩, .slice none 0 0]) Tryz.underlying91 info99 rfl (by decide) (by decide) rfl w0.heap.size _ _ _ rfl (World.ownsRow.alloc (w := wr) HLW.out _) wr.heap.size 1 [.int .i64 (ln1 : Int), .string ⟨key1.toArray⟩, .slice none 0 0] rfl rfl (fun j u h => cells3 wr _ _ _ 99 j u h) (by intro u hu; simp at hu; rcases hu with rfl | rfl | rfl <;> rfl) (by omega) (by rw [World.size_alloc]; exact Nat.le_succ_of_le HSX.out) ?_; intro g' cap' w4 hown4 hgr hat) | fail)
            go_roundg (L.length - (i + 1))
            case rel =>
              refine ⟨i + 1, (st.1 ++ [(ln1, key1)], st.2), by go_num, by omega, rfl, by rw [HAT.out, ← HST.out]; exact HFN.out.symm, by rw [List.length_append, flat_snoc]; exact hown4, ?_, (HBX.out.alloc HSX.out _).grown hgr (by rw [World.size_alloc]; exact Nat.le_succ_of_le HSX.out) (own_ge HLW.out), by rw [List.length_append, List.length_singleton]; omega, by show st.2.length ≤ _; omega⟩
              exact (HFW.out.alloc _).kept hgr ((own_apart HLW.out HFW.out (by decide)).imp id Ne.symm)
            case measure => have := HG.out; omega
          · rw [if_neg hE0] at hfin
            have HFN := Lib.hid hfin
            have hez : ((E : Int) == 0) = false := by rw [beq_eq_false_iff_ne]; omega
            clear hfin hl6
            go_wp2_with (first | (at_builtin; refine app_gen rfl _ _ 92 96 2 16 (.agg #[.int .i64 0, .int .i64 0]) Tryz.underlying92 info96 rfl (by decide) (by decide) rfl w0.heap.size _ _ _ rfl (World.ownsRow.alloc (w := wr) HFW.out _) wr.heap.size 1 [.int .i64 (ln : Int), .int .i64 (E : Int)] rfl rfl (fun j u h => cells2' wr _ _ 96 j u h) (by intro u hu; simp at hu; rcases hu with rfl | rfl <;> rfl) (by omega) (by rw [World.size_alloc]; exact Nat.le_succ_of_le HSX.out) ?_; intro g' cap' w4 hown4 hgr hat) | fail)
            go_roundg (L.length - (i + 1))
            case rel =>
              refine ⟨i + 1, (st.1, st.2 ++ [(ln, E)]), by go_num, by omega, rfl, by rw [HAT.out, ← HST.out]; exact HFN.out.symm, ?_, by rw [List.length_append, flat_snoc]; exact hown4, (HBX.out.alloc HSX.out _).grown hgr (by rw [World.size_alloc]; exact Nat.le_succ_of_le HSX.out) (own_ge HFW.out), hl64, by rw [List.length_append, List.length_singleton]; omega⟩
              exact (HLW.out.alloc _).kept hgr ((own_apart HFW.out HLW.out (by decide)).imp id Ne.symm)
            case measure => have := HG.out; omega
    · have hik : i = L.length := by omega
      subst hik
      have hge : ¬ (L.length : Int) < (L.length : Int) := by omega
      have hst := HST.out
      rw [List.take_length] at hst
      have hRs : R = st := by rw [HRR.out, hst]
      subst hRs
      have HR1 := Lib.hid (GRow.of (C := enC) (fun _ => rfl) HO.out)
      have HR2 := Lib.hid (GRow.of (C := faC) (fun _ => rfl) HF.out)
      clear hst
      go_wp2
      go_ret2
      exact ⟨_, _, rfl, HR1.out, HR2.out, HB0.out.trans (HB.out.mono HB0.out.size)⟩
end Go.Proofs.YtkoncmmbdlnmfaaGreatDoor

/- The document's MayName, local, begins (package 14), Trim (package 4): what they hand back. -/
namespace Go.Proofs.YtkoncmmbdlnmfaaGreatDoor
open Go.RowKit Go.Lib
set_option linter.unusedSimpArgs false
set_option linter.unusedVariables false
set_option linter.unnecessarySimpa false
set_option maxRecDepth 100000

theorem nameB_nat (b : UInt8) : nameB b = ((decide (97 ≤ b.toNat) && decide (b.toNat ≤ 122)) || (decide (65 ≤ b.toNat) && decide (b.toNat ≤ 90)) || (decide (48 ≤ b.toNat) && decide (b.toNat ≤ 57)) || decide (b.toNat = 45) || decide (b.toNat = 95)) := by
  have := byte_all (fun b => nameB b == ((decide (97 ≤ b.toNat) && decide (b.toNat ≤ 122)) || (decide (65 ≤ b.toNat) && decide (b.toNat ≤ 90)) || (decide (48 ≤ b.toNat) && decide (b.toNat ≤ 57)) || decide (b.toNat = 45) || decide (b.toNat = 95))) (by decide) b
  simpa using this
theorem name_not (s : ByteArray) (i : Nat) (h : i < s.size) (hp : nameB s[i] = false) : mayName s.data.toList = false := by
  have : s.data.toList.all nameB = false := by
    rw [List.all_eq_false]
    exact ⟨s[i], List.getElem_mem (by simpa using h), by rw [hp]; simp⟩
  unfold mayName
  rw [this, Bool.and_false]
def Mn14Rel (s : ByteArray) (w : World) (g : Nat) (v3 : Value) (W : World) : Prop :=
  ∃ i : Nat, v3 = .int .i64 (i : Int) ∧ i ≤ s.size ∧ g = s.size - i ∧ W = w ∧ (s.data.toList.take i).all nameB = true
set_option maxHeartbeats 8000000 in
theorem May14 (s : ByteArray) (hs : s.size ≤ 1000000000000) (w : World) : Calls Tryz.prog 97 #[.string s] w fun e w' => e = .returned (.bool (mayName s.data.toList)) ∧ w' = w := by
  have HBAD := Lib.hid (fun i h hp => name_not s i h hp)
  have HALL := Lib.hid (show (s.data.toList.take s.size).all nameB = true → mayName s.data.toList = (decide (1 ≤ s.size) && decide (s.size ≤ 32)) by
    rw [take_all]
    intro h
    unfold mayName
    rw [h, list_len, Bool.and_true]
    congr 1
    cases hl : s.data.toList with
    | nil =>
      have := list_len s
      rw [hl] at this
      rw [← this]; rfl
    | cons a r =>
      have := list_len s
      rw [hl] at this
      rw [← this]; simp)
  have HST := Lib.hid (fun (i : Nat) (h : i < s.size) (hp : nameB s[i] = true) (ha : (s.data.toList.take i).all nameB = true) => show (s.data.toList.take (i + 1)).all nameB = true by
    rw [take_snoc s i h, List.all_append, ha]
    simp [hp])
  generalize mayName s.data.toList = R at HBAD HALL ⊢
  go_enter Tryz.func97, Tryz.ntmps97
  go_wp2_with fail
  go_loopg [3, 4] s.size (fun g v3 v4 W => Mn14Rel s w g v3 W)
  case atStart => exact ⟨0, rfl, by omega, by omega, rfl, by simp⟩
  case round =>
    obtain ⟨i, rfl, hi, hg, rfl, hall⟩ := hrel
    have HG := Lib.hid hg
    have HL := Lib.hid hall
    clear hg hall
    have h0 : (0 : Int) ≤ (i : Int) := by omega
    by_cases hlt : i < s.size
    · have h1 : (i : Int) < (s.size : Int) := by omega
      have hw : IntKind.i64.wrap ((i : Int) + 1) = ((i + 1 : Nat) : Int) := by rw [IntKind.wrap_i64]; omega
      have HN := Lib.hid (fun hp => HST.out i hlt hp HL.out)
      have HB := Lib.hid (fun hp => HBAD.out i hlt hp)
      have HNB := Lib.hid (nameB_nat s[i])
      have HC := Lib.hid (show (97 ≤ s[i].toNat ∧ s[i].toNat ≤ 122) ∨ 122 < s[i].toNat ∨ (90 < s[i].toNat ∧ s[i].toNat < 97 ∧ s[i].toNat ≠ 95) ∨ s[i].toNat = 95 ∨ (65 ≤ s[i].toNat ∧ s[i].toNat ≤ 90) ∨ (57 < s[i].toNat ∧ s[i].toNat < 65) ∨ (48 ≤ s[i].toNat ∧ s[i].toNat ≤ 57) ∨ (s[i].toNat < 48 ∧ s[i].toNat ≠ 45) ∨ s[i].toNat = 45 by omega)
      generalize hb : s[i] = b at HNB HC HN HB
      have hbi : s[i] = b := hb
      generalize hn : b.toNat = n at HNB HC
      have hbn : (s[i].toNat : Int) = (n : Int) := by rw [hbi, hn]
      clear hb hn
      rcases HC.out with hc | hc | hc | hc | hc | hc | hc | hc | hc
      · have f_ge97 : (97 : Int) ≤ (s[i].toNat : Int) := by rw [hbn]; omega
        have f_le122 : (s[i].toNat : Int) ≤ 122 := by rw [hbn]; omega
        have HN2 := Lib.hid (HN.out (by rw [HNB.out]; simp; omega))
        clear hc HN HB HNB HC hbn hbi
        go_wp2_with fail
        go_roundg (s.size - (i + 1))
        case rel => exact ⟨i + 1, by go_num, by omega, rfl, rfl, HN2.out⟩
        case measure => have := HG.out; omega
      · have f_ge97 : (97 : Int) ≤ (s[i].toNat : Int) := by rw [hbn]; omega
        have f_le122 : ¬ (s[i].toNat : Int) ≤ 122 := by rw [hbn]; omega
        have f_ge65 : (65 : Int) ≤ (s[i].toNat : Int) := by rw [hbn]; omega
        have f_le90 : ¬ (s[i].toNat : Int) ≤ 90 := by rw [hbn]; omega
        have f_ge48 : (48 : Int) ≤ (s[i].toNat : Int) := by rw [hbn]; omega
        have f_le57 : ¬ (s[i].toNat : Int) ≤ 57 := by rw [hbn]; omega
        have f_e45 : ((s[i].toNat : Int) == 45) = false := by rw [hbn, beq_eq_false_iff_ne]; omega
        have f_e95 : ((s[i].toNat : Int) == 95) = false := by rw [hbn, beq_eq_false_iff_ne]; omega
        have hR := HB.out (by rw [HNB.out]; simp; omega)
        subst hR
        clear hc HN HB HNB HC hbn hbi
        go_wp2
        go_ret
        exact ⟨rfl, rfl⟩
      · have f_ge97 : ¬ (97 : Int) ≤ (s[i].toNat : Int) := by rw [hbn]; omega
        have f_ge65 : (65 : Int) ≤ (s[i].toNat : Int) := by rw [hbn]; omega
        have f_le90 : ¬ (s[i].toNat : Int) ≤ 90 := by rw [hbn]; omega
        have f_ge48 : (48 : Int) ≤ (s[i].toNat : Int) := by rw [hbn]; omega
        have f_le57 : ¬ (s[i].toNat : Int) ≤ 57 := by rw [hbn]; omega
        have f_e45 : ((s[i].toNat : Int) == 45) = false := by rw [hbn, beq_eq_false_iff_ne]; omega
        have f_e95 : ((s[i].toNat : Int) == 95) = false := by rw [hbn, beq_eq_false_iff_ne]; omega
        have hR := HB.out (by rw [HNB.out]; simp; omega)
        subst hR
        clear hc HN HB HNB HC hbn hbi
        go_wp2
        go_ret
        exact ⟨rfl, rfl⟩
      · have f_ge97 : ¬ (97 : Int) ≤ (s[i].toNat : Int) := by rw [hbn]; omega
        have f_ge65 : (65 : Int) ≤ (s[i].toNat : Int) := by rw [hbn]; omega
        have f_le90 : ¬ (s[i].toNat : Int) ≤ 90 := by rw [hbn]; omega
        have f_ge48 : (48 : Int) ≤ (s[i].toNat : Int) := by rw [hbn]; omega
        have f_le57 : ¬ (s[i].toNat : Int) ≤ 57 := by rw [hbn]; omega
        have f_e45 : ((s[i].toNat : Int) == 45) = false := by rw [hbn, beq_eq_false_iff_ne]; omega
        have f_e95 : ((s[i].toNat : Int) == 95) = true := by rw [hbn, beq_iff_eq]; omega
        have HN2 := Lib.hid (HN.out (by rw [HNB.out]; simp; omega))
        clear hc HN HB HNB HC hbn hbi
        go_wp2_with fail
        go_roundg (s.size - (i + 1))
        case rel => exact ⟨i + 1, by go_num, by omega, rfl, rfl, HN2.out⟩
        case measure => have := HG.out; omega
      · have f_ge97 : ¬ (97 : Int) ≤ (s[i].toNat : Int) := by rw [hbn]; omega
        have f_ge65 : (65 : Int) ≤ (s[i].toNat : Int) := by rw [hbn]; omega
        have f_le90 : (s[i].toNat : Int) ≤ 90 := by rw [hbn]; omega
        have HN2 := Lib.hid (HN.out (by rw [HNB.out]; simp; omega))
        clear hc HN HB HNB HC hbn hbi
        go_wp2_with fail
        go_roundg (s.size - (i + 1))
        case rel => exact ⟨i + 1, by go_num, by omega, rfl, rfl, HN2.out⟩
        case measure => have := HG.out; omega
      · have f_ge97 : ¬ (97 : Int) ≤ (s[i].toNat : Int) := by rw [hbn]; omega
        have f_ge65 : ¬ (65 : Int) ≤ (s[i].toNat : Int) := by rw [hbn]; omega
        have f_ge48 : (48 : Int) ≤ (s[i].toNat : Int) := by rw [hbn]; omega
        have f_le57 : ¬ (s[i].toNat : Int) ≤ 57 := by rw [hbn]; omega
        have f_e45 : ((s[i].toNat : Int) == 45) = false := by rw [hbn, beq_eq_false_iff_ne]; omega
        have f_e95 : ((s[i].toNat : Int) == 95) = false := by rw [hbn, beq_eq_false_iff_ne]; omega
        have hR := HB.out (by rw [HNB.out]; simp; omega)
        subst hR
        clear hc HN HB HNB HC hbn hbi
        go_wp2
        go_ret
        exact ⟨rfl, rfl⟩
      · have f_ge97 : ¬ (97 : Int) ≤ (s[i].toNat : Int) := by rw [hbn]; omega
        have f_ge65 : ¬ (65 : Int) ≤ (s[i].toNat : Int) := by rw [hbn]; omega
        have f_ge48 : (48 : Int) ≤ (s[i].toNat : Int) := by rw [hbn]; omega
        have f_le57 : (s[i].toNat : Int) ≤ 57 := by rw [hbn]; omega
        have HN2 := Lib.hid (HN.out (by rw [HNB.out]; simp; omega))
        clear hc HN HB HNB HC hbn hbi
        go_wp2_with fail
        go_roundg (s.size - (i + 1))
        case rel => exact ⟨i + 1, by go_num, by omega, rfl, rfl, HN2.out⟩
        case measure => have := HG.out; omega
      · have f_ge97 : ¬ (97 : Int) ≤ (s[i].toNat : Int) := by rw [hbn]; omega
        have f_ge65 : ¬ (65 : Int) ≤ (s[i].toNat : Int) := by rw [hbn]; omega
        have f_ge48 : ¬ (48 : Int) ≤ (s[i].toNat : Int) := by rw [hbn]; omega
        have f_e45 : ((s[i].toNat : Int) == 45) = false := by rw [hbn, beq_eq_false_iff_ne]; omega
        have f_e95 : ((s[i].toNat : Int) == 95) = false := by rw [hbn, beq_eq_false_iff_ne]; omega
        have hR := HB.out (by rw [HNB.out]; simp; omega)
        subst hR
        clear hc HN HB HNB HC hbn hbi
        go_wp2
        go_ret
        exact ⟨rfl, rfl⟩
      · have f_ge97 : ¬ (97 : Int) ≤ (s[i].toNat : Int) := by rw [hbn]; omega
        have f_ge65 : ¬ (65 : Int) ≤ (s[i].toNat : Int) := by rw [hbn]; omega
        have f_ge48 : ¬ (48 : Int) ≤ (s[i].toNat : Int) := by rw [hbn]; omega
        have f_e45 : ((s[i].toNat : Int) == 45) = true := by rw [hbn, beq_iff_eq]; omega
        have HN2 := Lib.hid (HN.out (by rw [HNB.out]; simp; omega))
        clear hc HN HB HNB HC hbn hbi
        go_wp2_with fail
        go_roundg (s.size - (i + 1))
        case rel => exact ⟨i + 1, by go_num, by omega, rfl, rfl, HN2.out⟩
        case measure => have := HG.out; omega
    · have hii : i = s.size := by omega
      have hR := HALL.out (by rw [← hii]; exact HL.out)
      have h1 : ¬ (i : Int) < (s.size : Int) := by omega
      clear hii
      by_cases k1 : 1 ≤ s.size
      · have k1i : (1 : Int) ≤ (s.size : Int) := by omega
        have k1d : decide ((1 : Int) ≤ (s.size : Int)) = true := by rw [decide_eq_true_eq]; exact k1i
        obtain ⟨q, hq⟩ : ∃ q, decide (s.size ≤ 32) = q := ⟨_, rfl⟩
        have hR2 : R = q := by rw [hR, hq, decide_eq_true k1]; rfl
        have HQ := Lib.hid hq
        subst hR2
        clear hR hq
        by_cases k32 : s.size ≤ 32
        · have k2 : (s.size : Int) ≤ 32 := by omega
          have k2d : decide ((s.size : Int) ≤ 32) = true := by rw [decide_eq_true_eq]; exact k2
          have HR3 := Lib.hid (HQ.out.symm.trans (decide_eq_true k32))
          go_wp2
          go_ret
          exact ⟨by rw [HR3.out]; rfl, rfl⟩
        · have k2 : ¬ (s.size : Int) ≤ 32 := by omega
          have k2d : decide ((s.size : Int) ≤ 32) = false := by rw [decide_eq_false_iff_not]; exact k2
          have HR3 := Lib.hid (HQ.out.symm.trans (decide_eq_false k32))
          go_wp2
          go_ret
          exact ⟨by rw [HR3.out]; rfl, rfl⟩
      · have k1i : ¬ (1 : Int) ≤ (s.size : Int) := by omega
        have k1d : decide ((1 : Int) ≤ (s.size : Int)) = false := by rw [decide_eq_false_iff_not]; exact k1i
        have hR2 : R = false := by rw [hR, decide_eq_false k1]; rfl
        subst hR2
        clear hR
        go_wp2
        go_ret
        exact ⟨rfl, rfl⟩
theorem local14 (s : ByteArray) (hs : s.size ≤ 1000000000000) (w : World) : Calls Tryz.prog 96 #[.string s] w fun e w' => e = .returned (.bool (localB s.data.toList)) ∧ w' = w := by
  have HD := Lib.hid (fun W => DotAtom_ref s (by omega) W)
  have HL := Lib.hid (show localB s.data.toList = (decide (s.size ≤ 64) && dotGo s.data.toList true) by unfold localB; simp)
  generalize localB s.data.toList = R at HL ⊢
  generalize dotGo s.data.toList true = D at HD HL
  by_cases h : s.size ≤ 64
  · have h1 : decide ((s.size : Int) ≤ 64) = true := by rw [decide_eq_true_eq]; omega
    have h2 : (s.size : Int) ≤ 64 := by omega
    have hR : R = D := by rw [HL.out]; simp [h]
    subst hR
    go_enter Tryz.func96, Tryz.ntmps96
    go_wp2_with fail
    refine (HD.out _).mono ?_
    rintro e w1 ⟨rfl, hw1⟩
    rw [hw1]
    clear hw1
    go_wp2
    go_ret
    exact ⟨rfl, rfl⟩
  · have h1 : decide ((s.size : Int) ≤ 64) = false := by rw [decide_eq_false_iff_not]; omega
    have h2 : ¬ (s.size : Int) ≤ 64 := by omega
    have hR : R = false := by rw [HL.out]; simp [h]
    subst hR
    go_enter Tryz.func96, Tryz.ntmps96
    go_wp2
    go_ret
    exact ⟨rfl, rfl⟩
/-- does a text begin so? -/
def begB (p s : List UInt8) : Bool := (cutPre p s).isSome
theorem begins14 (s : ByteArray) (p : List UInt8) (hs : s.size ≤ 1000000000000) (hp : p.length ≤ 100) (w : World) : Calls Tryz.prog 95 #[.string s, .string ⟨p.toArray⟩] w fun e w' => e = .returned (.bool (begB p s.data.toList)) ∧ w' = w := by
  have hps : (⟨p.toArray⟩ : ByteArray).size = p.length := rfl
  have p0 : (0 : Int) ≤ (p.length : Int) := by omega
  have hR : begB p s.data.toList = decide (s.data.toList.take p.length = p) := by
    unfold begB cutPre
    by_cases h : s.data.toList.take p.length = p
    · rw [if_pos h, decide_eq_true h]; rfl
    · rw [if_neg h, decide_eq_false h]; rfl
  by_cases hl : p.length ≤ s.size
  · have h1 : (p.length : Int) ≤ (s.size : Int) := by omega
    have h1d : decide ((p.length : Int) ≤ (s.size : Int)) = true := by rw [decide_eq_true_eq]; exact h1
    have hx : s.extract 0 p.length = ⟨(s.data.toList.take p.length).toArray⟩ := by rw [ext_mid, List.drop_zero, Nat.sub_zero]
    by_cases he : s.data.toList.take p.length = p
    · rw [hR, decide_eq_true he]
      rw [he] at hx
      clear hR he
      go_enter Tryz.func95, Tryz.ntmps95
      go_wp2
      go_ret
      exact ⟨by first | rfl | simp, rfl⟩
    · rw [hR, decide_eq_false he]
      have hne : ¬ (s.extract 0 p.length).toList = p := by
        rw [hx]
        simpa using he
      clear hR he hx
      go_enter Tryz.func95, Tryz.ntmps95
      go_wp2
      go_ret
      exact ⟨by first | rfl | simpa using hne, rfl⟩
  · have h1 : ¬ (p.length : Int) ≤ (s.size : Int) := by omega
    have h1d : decide ((p.length : Int) ≤ (s.size : Int)) = false := by rw [decide_eq_false_iff_not]; exact h1
    have hne : ¬ s.data.toList.take p.length = p := fun e => by
      have := congrArg List.length e
      rw [List.length_take, list_len] at this
      omega
    rw [hR, decide_eq_false hne]
    clear hR hne
    go_enter Tryz.func95, Tryz.ntmps95
    go_wp2
    go_ret
    exact ⟨rfl, rfl⟩
theorem blk_cases {b : UInt8} (h : blkB b = true) : ((b.toNat : Int) == 32) = true ∨ (((b.toNat : Int) == 32) = false ∧ ((b.toNat : Int) == 9) = true) := by
  rw [blk_nat] at h
  cases h1 : ((b.toNat : Int) == 32) with
  | true => exact .inl rfl
  | false => rw [h1] at h; exact .inr ⟨rfl, h⟩
theorem blk_none {b : UInt8} (h : blkB b = false) : ((b.toNat : Int) == 32) = false ∧ ((b.toNat : Int) == 9) = false := by
  rw [blk_nat, Bool.or_eq_false_iff] at h
  exact h
set_option maxHeartbeats 4000000 in
theorem Trim04 (s : ByteArray) (hs : s.size ≤ 1000000000000) (w : World) : Calls Tryz.prog 98 #[.string s] w fun e w' => e = .returned (.string ⟨(trimW s.data.toList).toArray⟩) ∧ w' = w := by
  have HR := Lib.hid (show trimW s.data.toList = (trimF (trimF s.data.toList).reverse).reverse from rfl)
  generalize trimW s.data.toList = R at HR ⊢
  have HGB := Lib.hid (fun i (h : i < s.size) => get_byte s h)
  have HX := Lib.hid (fun a b => ext_mid s a b)
  have HLL := Lib.hid (show s.data.toList.length = s.size from by simp)
  go_enter Tryz.func98, Tryz.ntmps98
  go_wp2_with fail
  go_loopg [3] s.size (fun g v3 W => T1Rel s w g v3 W)
  case atStart => exact ⟨0, rfl, by omega, by omega, rfl, by simp⟩
  case round =>
    obtain ⟨i, rfl, hi, hg, rfl, hst⟩ := hrel
    have HG := Lib.hid hg
    have HS := Lib.hid hst
    clear hg hst
    have h0 : (0 : Int) ≤ (i : Int) := by omega
    by_cases hgo : ∃ h : i < s.size, blkB s[i] = true
    · obtain ⟨hlt, hb⟩ := hgo
      have h1 : (i : Int) < (s.size : Int) := by omega
      have h1d : decide ((i : Int) < (s.size : Int)) = true := by rw [decide_eq_true_eq]; exact h1
      have hw : IntKind.i64.wrap ((i : Int) + 1) = ((i + 1 : Nat) : Int) := by rw [IntKind.wrap_i64]; omega
      have HN := Lib.hid ((trimF_step (HGB.out i hlt) hb).trans HS.out)
      rcases blk_cases hb with q1 | ⟨q1, q2⟩
      all_goals
        clear hb
        go_wp2_with fail
        go_roundg (s.size - (i + 1))
        case rel => exact ⟨i + 1, by go_num, by omega, rfl, rfl, HN.out⟩
        case measure => have := HG.out; omega
    · have hstop : trimF (s.data.toList.drop i) = s.data.toList.drop i := trimF_stop (fun b hb => by
        by_cases hlt : i < s.size
        · rw [HGB.out i hlt] at hb
          injection hb with hb
          subst hb
          cases hbb : blkB s[i] with
          | false => rfl
          | true => exact absurd ⟨hlt, hbb⟩ hgo
        · rw [List.getElem?_eq_none (by rw [HLL.out]; omega)] at hb
          cases hb)
      have hF : trimF s.data.toList = s.data.toList.drop i := HS.out.symm.trans hstop
      have HF := Lib.hid hF
      have hcase : (¬ i < s.size) ∨ ∃ h : i < s.size, blkB s[i] = false := by
        by_cases hlt : i < s.size
        · right
          refine ⟨hlt, ?_⟩
          cases hbb : blkB s[i] with
          | false => rfl
          | true => exact absurd ⟨hlt, hbb⟩ hgo
        · exact .inl hlt
      clear hgo hstop hF HS
      have hend : ∀ t : Nat, i ≤ t → trimF (((s.data.toList.drop i).take (t - i)).reverse) = trimF (s.data.toList.drop i).reverse → trimF (((s.data.toList.drop i).take (t - i)).reverse) = ((s.data.toList.drop i).take (t - i)).reverse → (⟨R.toArray⟩ : ByteArray) = s.extract i t := fun t _ h1 h2 => by
        rw [HX.out, HR.out, HF.out, ← h1, h2, List.reverse_reverse]
      have HEND := Lib.hid hend
      have HDA := Lib.hid (fun t (h1 : i ≤ t) (h2 : t < s.size) => drop_at s i t h1 h2)
      have HLD := Lib.hid (show (s.data.toList.drop i).length = s.size - i from by rw [List.length_drop, HLL.out])
      clear hend HR HX HF HGB HLL
      have hz0 : (0 : Int) ≤ (s.size : Int) := by omega
      rcases hcase with hlt | ⟨hlt, hb⟩
      have h1d : decide ((i : Int) < (s.size : Int)) = false := by rw [decide_eq_false_iff_not]; omega
      have h1 : ¬ (i : Int) < (s.size : Int) := by omega
      rotate_left
      have h1d : decide ((i : Int) < (s.size : Int)) = true := by rw [decide_eq_true_eq]; omega
      have h1 : (i : Int) < (s.size : Int) := by omega
      obtain ⟨q1, q2⟩ := blk_none hb
      clear hb
      go_wp2_with fail
      all_goals
        go_loopg [4] s.size (fun g v4 W => T2Rel s i wr g v4 W)
        case atStart => exact ⟨s.size, rfl, hi, Nat.le_refl _, rfl, rfl, by rw [List.take_of_length_le (by rw [HLD.out]; exact Nat.le_refl _)]⟩
        case round =>
          obtain ⟨t, rfl, ht1, ht2, hg2, rfl, hst2⟩ := hrel
          have HG2 := Lib.hid hg2
          have HS2 := Lib.hid hst2
          clear hg2 hst2
          have q0 : (0 : Int) ≤ (t : Int) := by omega
          have q1 : (i : Int) ≤ (t : Int) := by omega
          have q2 : (t : Int) ≤ (s.size : Int) := by omega
          by_cases hti : t = i
          · subst hti
            have k1 : decide ((t : Int) < (t : Int)) = false := by rw [decide_eq_false_iff_not]; omega
            have k2 : ¬ (t : Int) < (t : Int) := by omega
            have HE := Lib.hid (show (⟨R.toArray⟩ : ByteArray) = ByteArray.empty from by rw [HEND.out t (Nat.le_refl _) HS2.out (by rw [Nat.sub_self, List.take_zero]; rfl)]; simp)
            go_wp2
            go_ret
            exact ⟨by rw [HE.out]; rfl, rfl⟩
          · obtain ⟨u, rfl⟩ : ∃ u, t = u + 1 := ⟨t - 1, by omega⟩
            have hul : u < s.size := by omega
            have k1 : decide ((i : Int) < ((u + 1 : Nat) : Int)) = true := by rw [decide_eq_true_eq]; omega
            have k2 : (i : Int) < ((u + 1 : Nat) : Int) := by omega
            have k3 : IntKind.i64.wrap (((u + 1 : Nat) : Int) - 1) = (u : Int) := by rw [IntKind.wrap_i64]; omega
            have k4 : (0 : Int) ≤ (u : Int) := by omega
            have k5 : (u : Int) < (s.size : Int) := by omega
            have hda := HDA.out u (by omega) hul
            cases hbu : blkB s[u] with
            | true =>
              have hn := trimR_step hda hbu
              rw [show u - i + 1 = u + 1 - i by omega] at hn
              have HN := Lib.hid (hn.trans HS2.out)
              generalize ((u + 1 : Nat) : Int) = U1 at k1 k2 k3 q0 q1 q2 ⊢
              rcases blk_cases hbu with q3 | ⟨q3, q4⟩
              all_goals
                clear hbu hn hda
                go_wp2_with fail
                go_roundg u
                case rel => exact ⟨u, by first | rfl | rw [k3], by omega, by omega, rfl, rfl, HN.out⟩
                case measure => have := HG2.out; omega
            | false =>
              have hn := trimR_stop hda hbu
              rw [show u - i + 1 = u + 1 - i by omega] at hn
              have HE := Lib.hid (HEND.out (u + 1) (by omega) HS2.out hn)
              obtain ⟨q3, q4⟩ := blk_none hbu
              clear hbu hn hda
              have HEI := Lib.hid (show (⟨R.toArray⟩ : ByteArray) = s.extract i (((u + 1 : Nat) : Int).toNat) from HE.out)
              generalize ((u + 1 : Nat) : Int) = U1 at k1 k2 k3 q0 q1 q2 HEI ⊢
              go_wp2
              go_ret
              exact ⟨by rw [HEI.out]; rfl, rfl⟩
end Go.Proofs.YtkoncmmbdlnmfaaGreatDoor

/- The document's ParseTarget (package 14): what it hands back. -/
namespace Go.Proofs.YtkoncmmbdlnmfaaGreatDoor
open Go.RowKit Go.Lib
set_option linter.unusedSimpArgs false
set_option linter.unusedVariables false
set_option linter.unnecessarySimpa false
set_option maxRecDepth 100000

theorem kind_3 {s r : List UInt8} (h : cutPre [92] s = some r) : kindL s = (3, r) := by unfold kindL; rw [h]
theorem kind_4 {s r : List UInt8} (h1 : cutPre [92] s = none) (h : cutPre [47] s = some r) : kindL s = (4, r) := by unfold kindL; rw [h1, h]
theorem kind_5 {s r : List UInt8} (h1 : cutPre [92] s = none) (h2 : cutPre [47] s = none) (h : cutPre inclL s = some r) : kindL s = (5, r) := by unfold kindL; rw [h1, h2, h]
theorem kind_6 {s r : List UInt8} (h1 : cutPre [92] s = none) (h2 : cutPre [47] s = none) (h3 : cutPre inclL s = none) (h : cutPre failL s = some r) : kindL s = (6, r) := by unfold kindL; rw [h1, h2, h3, h]
theorem kind_7 {s r : List UInt8} (h1 : cutPre [92] s = none) (h2 : cutPre [47] s = none) (h3 : cutPre inclL s = none) (h4 : cutPre failL s = none) (h : cutPre dropB s = some r) : kindL s = (7, r) := by unfold kindL; rw [h1, h2, h3, h4, h]
theorem kind_12 {s : List UInt8} (h1 : cutPre [92] s = none) (h2 : cutPre [47] s = none) (h3 : cutPre inclL s = none) (h4 : cutPre failL s = none) (h5 : cutPre dropB s = none) : kindL s = if s.contains 64 then (1, s) else (2, s) := by unfold kindL; rw [h1, h2, h3, h4, h5]
theorem cut_slice {s : ByteArray} {p r : List UInt8} (h : cutPre p s.data.toList = some r) : s.size = p.length + r.length ∧ s.extract p.length s.size = ⟨r.toArray⟩ := by
  have e := cutPre_some h
  have hl := congrArg List.length e
  rw [list_len, List.length_append] at hl
  refine ⟨hl, ?_⟩
  rw [ext_mid, e, List.drop_left, List.take_of_length_le (by omega)]
theorem has64_not {t : List UInt8} {i : Nat} {b : UInt8} (h : t[i]? = some b) (hb : b = 64) : t.contains 64 = true := by
  subst hb
  rw [List.contains_eq_mem, decide_eq_true_eq]
  exact List.mem_of_getElem? h
theorem has64_step {t : List UInt8} {i : Nat} {b : UInt8} (h : t[i]? = some b) (hb : b ≠ 64) (ha : (t.take i).contains 64 = false) : (t.take (i + 1)).contains 64 = false := by
  rw [List.take_add_one, h]
  rw [List.contains_eq_mem, decide_eq_false_iff_not] at ha ⊢
  intro hm
  rcases List.mem_append.1 hm with hm | hm
  · exact ha hm
  · simp at hm
    exact hb hm.symm
def At5Rel (s : ByteArray) (w : World) (g : Nat) (v4 : Value) (W : World) : Prop :=
  ∃ i : Nat, v4 = .int .i64 (i : Int) ∧ 9 ≤ i ∧ i ≤ s.size ∧ g = s.size - i ∧ W = w ∧ trimF (s.data.toList.drop i) = trimF (s.data.toList.drop 9)
def At1Rel (s : ByteArray) (w : World) (g : Nat) (v6 : Value) (W : World) : Prop :=
  ∃ i : Nat, v6 = .int .i64 (i : Int) ∧ i ≤ s.size ∧ g = s.size - i ∧ W = w ∧ (s.data.toList.take i).contains 64 = false
set_option maxHeartbeats 16000000 in
theorem ParT14 (s : ByteArray) (hs : s.size ≤ 1000000000) (w : World) : Calls Tryz.prog 46 #[.string s] w fun e w' => ParR s.data.toList e ∧ Below w.heap.size w w' := by
  have hb0 := alloc_below w (.cells #[.int .i64 0, .string ⟨#[]⟩, .string ⟨#[]⟩, .string ⟨#[]⟩] 102)
  have hF0 := Four4.made w (.int .i64 0) (.string ⟨#[]⟩) (.string ⟨#[]⟩) (.string ⟨#[]⟩) 102
  have HT := Lib.hid (targF_tF s.data.toList)
  have HG1 := Lib.hid (fun W => begins14 s [92] (by omega) (by decide) W)
  have HG2 := Lib.hid (fun W => begins14 s [47] (by omega) (by decide) W)
  have HG3 := Lib.hid (fun W => begins14 s inclL (by omega) (by decide) W)
  have HG4 := Lib.hid (fun W => begins14 s failL (by omega) (by decide) W)
  have HG5 := Lib.hid (fun W => begins14 s dropB (by omega) (by decide) W)
  have HLL := Lib.hid (list_len s)
  have HGB := Lib.hid (fun i (h : i < s.size) => get_byte s h)
  have HSX := Lib.hid (show s.extract 0 s.size = s by simp)
  unfold ParR
  generalize hX : targF s.data.toList = X at HT
  have HB0 := Lib.hid hb0
  have HF0 := Lib.hid hF0
  clear hb0 hF0 hX
  obtain ⟨⟨-, c0, c1, c2, c3⟩, f0, f1, f2, f3⟩ := HF0.out
  obtain ⟨w0, hw0⟩ : ∃ w0, w.alloc (.cells #[.int .i64 0, .string ⟨#[]⟩, .string ⟨#[]⟩, .string ⟨#[]⟩] 102) = w0 := ⟨_, rfl⟩
  rw [hw0] at HB0 HF0 c0 c1 c2 c3 f0 f1 f2 f3
  go_enter Tryz.func46, Tryz.ntmps46
  obtain ⟨q1, hq1⟩ : ∃ q, begB [92] s.data.toList = q := ⟨_, rfl⟩
  rw [hq1] at HG1
  have HQ1 := Lib.hid hq1
  clear hq1
  go_wp2_with fail
  try rw [hw0]
  refine (HG1.out _).mono ?_
  rintro e w9 ⟨rfl, hw9⟩
  rw [hw9]
  clear hw9
  cases q1 with
  | true =>
    obtain ⟨r, hr⟩ : ∃ r, cutPre [92] s.data.toList = some r := Option.isSome_iff_exists.1 HQ1.out
    obtain ⟨hsz, hsx⟩ := cut_slice hr
    have hkk := kind_3 hr
    have ht := HT.out
    rw [hkk] at ht
    have hszl : (1 : Int) ≤ (s.size : Int) := by rw [hsz]; show (1 : Int) ≤ ((1 + r.length : Nat) : Int); omega
    have hrl : r.length ≤ 1000000000 := by omega
    have hx1 : s.extract 1 s.size = ⟨r.toArray⟩ := hsx
    have hX : X = if localB r = true then some (3, ([], []), lowL r) else none := ht
    have HX0 := Lib.hid hX
    have HLC := Lib.hid (fun W => local14 ⟨r.toArray⟩ (by show r.length ≤ _; omega) W)
    have HLW := Lib.hid (fun W => Lower_ref ⟨r.toArray⟩ (by show r.length ≤ _; omega) W)
    simp only [mk_listr] at HLC HLW
    obtain ⟨c, hc⟩ : ∃ c, localB r = c := ⟨_, rfl⟩
    rw [hc] at HLC HX0
    clear hc hX ht hkk hr hsx hsz
    go_wp2_with fail
    refine (HLC.out _).mono ?_
    rintro e w2 ⟨rfl, hw2⟩
    rw [hw2]
    clear hw2
    cases c with
    | false =>
      have HX := Lib.hid (show X = none from HX0.out)
      go_wp2
      have hs := (HF0.out.set (.int .i64 0) (.string ⟨#[]⟩) (.string ⟨#[]⟩) (.string ⟨#[]⟩)).c
      refine bodyPost_ret (v := .tuple #[.agg #[.int .i64 0, .string ⟨#[]⟩, .string ⟨#[]⟩, .string ⟨#[]⟩], .int .i64 5]) (by rw [results_cell_tmp Tryz.results46]; simp [go_sem, hs.c0, hs.c1, hs.c2, hs.c3]) rfl ⟨⟨5, by rw [HX.out]; rfl, by rw [HX.out]; simp⟩, by first | exact set4_below HB0.out (Nat.le_refl _) _ _ _ _ | exact HB0.out⟩
    | true =>
      have HX := Lib.hid (show X = some (3, ([], []), lowL r) from HX0.out)
      generalize hLo : lowL r = Lo at HX HLW
      clear hLo
      go_wp2_with fail
      refine (HLW.out _).mono ?_
      rintro e w2 ⟨rfl, hb2⟩
      have HF2 := Lib.hid (HF0.out.below hb2)
      have HB2 := Lib.hid (HB0.out.trans (hb2.mono HB0.out.size))
      clear hb2 c0 c1 c2 c3 f0 f1 f2 f3
      obtain ⟨⟨-, c0, c1, c2, c3⟩, f0, f1, f2, f3⟩ := HF2.out
      go_wp2
      have hs := (HF2.out.set (.int .i64 3) (.string ⟨#[]⟩) (.string ⟨#[]⟩) (.string ⟨Lo.toArray⟩)).c
      refine bodyPost_ret (v := .tuple #[.agg #[.int .i64 3, .string ⟨#[]⟩, .string ⟨#[]⟩, .string ⟨Lo.toArray⟩], .int .i64 0]) (by rw [results_cell_tmp Tryz.results46]; simp [go_sem, hs.c0, hs.c1, hs.c2, hs.c3]) rfl ⟨⟨0, by rw [HX.out]; rfl, by rw [HX.out]; simp⟩, by first | exact set4_below HB2.out (Nat.le_refl _) _ _ _ _ | exact HB2.out⟩
  | false =>
    have hn1 : cutPre [92] s.data.toList = none := by simpa [begB] using HQ1.out
    have HN1 := Lib.hid hn1
    clear hn1
    obtain ⟨q2, hq2⟩ : ∃ q, begB [47] s.data.toList = q := ⟨_, rfl⟩
    rw [hq2] at HG2
    have HQ2 := Lib.hid hq2
    clear hq2
    go_wp2_with fail
    try rw [hw0]
    refine (HG2.out _).mono ?_
    rintro e w9 ⟨rfl, hw9⟩
    rw [hw9]
    clear hw9
    cases q2 with
    | true =>
      obtain ⟨r, hr⟩ : ∃ r, cutPre [47] s.data.toList = some r := Option.isSome_iff_exists.1 HQ2.out
      obtain ⟨hsz, hsx⟩ := cut_slice hr
      have hkk := kind_4 HN1.out hr
      have ht := HT.out
      rw [hkk] at ht
      have hszl : (1 : Int) ≤ (s.size : Int) := by rw [hsz]; show (1 : Int) ≤ ((1 + r.length : Nat) : Int); omega
      have hrl : r.length ≤ 1000000000 := by omega
      have hx1 : s.extract 1 s.size = ⟨r.toArray⟩ := hsx
      have hX : X = if mayName r = true then some (4, ([], []), r) else none := ht
      have HX0 := Lib.hid hX
      have HLC := Lib.hid (fun W => May14 ⟨r.toArray⟩ (by show r.length ≤ _; omega) W)
      simp only [mk_listr] at HLC
      obtain ⟨c, hc⟩ : ∃ c, mayName r = c := ⟨_, rfl⟩
      rw [hc] at HLC HX0
      clear hc hX ht hkk hr hsx hsz
      go_wp2_with fail
      refine (HLC.out _).mono ?_
      rintro e w2 ⟨rfl, hw2⟩
      rw [hw2]
      clear hw2
      cases c with
      | false =>
        have HX := Lib.hid (show X = none from HX0.out)
        go_wp2
        have hs := (HF0.out.set (.int .i64 0) (.string ⟨#[]⟩) (.string ⟨#[]⟩) (.string ⟨#[]⟩)).c
        refine bodyPost_ret (v := .tuple #[.agg #[.int .i64 0, .string ⟨#[]⟩, .string ⟨#[]⟩, .string ⟨#[]⟩], .int .i64 5]) (by rw [results_cell_tmp Tryz.results46]; simp [go_sem, hs.c0, hs.c1, hs.c2, hs.c3]) rfl ⟨⟨5, by rw [HX.out]; rfl, by rw [HX.out]; simp⟩, by first | exact set4_below HB0.out (Nat.le_refl _) _ _ _ _ | exact HB0.out⟩
      | true =>
        have HX := Lib.hid (show X = some (4, ([], []), r) from HX0.out)
        go_wp2
        have hs := (HF0.out.set (.int .i64 4) (.string ⟨#[]⟩) (.string ⟨#[]⟩) (.string ⟨r.toArray⟩)).c
        refine bodyPost_ret (v := .tuple #[.agg #[.int .i64 4, .string ⟨#[]⟩, .string ⟨#[]⟩, .string ⟨r.toArray⟩], .int .i64 0]) (by rw [results_cell_tmp Tryz.results46]; simp [go_sem, hs.c0, hs.c1, hs.c2, hs.c3]) rfl ⟨⟨0, by rw [HX.out]; rfl, by rw [HX.out]; simp⟩, by first | exact set4_below HB0.out (Nat.le_refl _) _ _ _ _ | exact HB0.out⟩
    | false =>
      have hn2 : cutPre [47] s.data.toList = none := by simpa [begB] using HQ2.out
      have HN2 := Lib.hid hn2
      clear hn2
      obtain ⟨q3, hq3⟩ : ∃ q, begB inclL s.data.toList = q := ⟨_, rfl⟩
      rw [hq3] at HG3
      have HQ3 := Lib.hid hq3
      clear hq3
      go_wp2_with fail
      try rw [hw0]
      refine (HG3.out _).mono ?_
      rintro e w9 ⟨rfl, hw9⟩
      rw [hw9]
      clear hw9
      cases q3 with
      | true =>
        obtain ⟨r, hr⟩ : ∃ r, cutPre inclL s.data.toList = some r := Option.isSome_iff_exists.1 HQ3.out
        obtain ⟨hsz, hsx⟩ := cut_slice hr
        have hkk := kind_5 HN1.out HN2.out hr
        have ht := HT.out
        rw [hkk] at ht
        have hszl : (9 : Int) ≤ (s.size : Int) := by rw [hsz]; show (9 : Int) ≤ ((9 + r.length : Nat) : Int); omega
        have hrl : r.length ≤ 1000000000 := by omega
        have hX : X = if mayName (trimF r) = true then some (5, ([], []), trimF r) else none := ht
        have HX0 := Lib.hid hX
        have h9 : 9 ≤ s.size := by rw [hsz]; show 9 ≤ 9 + _; omega
        have hrd : r = s.data.toList.drop 9 := by
          rw [cutPre_some hr]
          show r = (inclL ++ r).drop inclL.length
          rw [List.drop_left]
        have HRD := Lib.hid hrd
        clear hX ht hkk hr hsx hsz hrd
        go_wp2_with fail
        go_loopg [4] (s.size - 9) (fun g v4 W => At5Rel s w0 g v4 W)
        case atStart => exact ⟨9, rfl, Nat.le_refl _, h9, rfl, rfl, rfl⟩
        case round =>
          obtain ⟨i, rfl, hi9, hi, hg, rfl, hst⟩ := hrel
          have HG := Lib.hid hg
          have HS := Lib.hid hst
          clear hg hst
          have i0 : (0 : Int) ≤ (i : Int) := by omega
          by_cases hgo : ∃ h : i < s.size, blkB s[i] = true
          · obtain ⟨hlt, hb⟩ := hgo
            have h1 : (i : Int) < (s.size : Int) := by omega
            have h1d : decide ((i : Int) < (s.size : Int)) = true := by rw [decide_eq_true_eq]; exact h1
            have hw : IntKind.i64.wrap ((i : Int) + 1) = ((i + 1 : Nat) : Int) := by rw [IntKind.wrap_i64]; omega
            have HN := Lib.hid ((trimF_step (HGB.out i hlt) hb).trans HS.out)
            rcases blk_cases hb with q1 | ⟨q1, q2⟩
            all_goals
              clear hb
              go_wp2_with fail
              go_roundg (s.size - (i + 1))
              case rel => exact ⟨i + 1, by go_num, by omega, by omega, rfl, rfl, HN.out⟩
              case measure => have := HG.out; omega
          · have hstop : trimF (s.data.toList.drop i) = s.data.toList.drop i := trimF_stop (fun b hb => by
              by_cases hlt : i < s.size
              · rw [HGB.out i hlt] at hb
                injection hb with hb
                subst hb
                cases hbb : blkB s[i] with
                | false => rfl
                | true => exact absurd ⟨hlt, hbb⟩ hgo
              · rw [List.getElem?_eq_none (by rw [HLL.out]; omega)] at hb
                cases hb)
            have hT : trimF r = s.data.toList.drop i := by rw [HRD.out, ← HS.out, hstop]
            have hcase : (¬ i < s.size) ∨ ∃ h : i < s.size, blkB s[i] = false := by
              by_cases hlt : i < s.size
              · right
                refine ⟨hlt, ?_⟩
                cases hbb : blkB s[i] with
                | false => rfl
                | true => exact absurd ⟨hlt, hbb⟩ hgo
              · exact .inl hlt
            have hsl : s.extract i s.size = ⟨(trimF r).toArray⟩ := by
              rw [ext_mid, hT, List.take_of_length_le (by rw [List.length_drop, HLL.out]; exact Nat.le_refl _)]
            have htl : (trimF r).length ≤ 1000000000 := by rw [hT, List.length_drop, HLL.out]; omega
            obtain ⟨T, hTT⟩ : ∃ T, trimF r = T := ⟨_, rfl⟩
            rw [hTT] at hsl htl HX0
            have HLC := Lib.hid (fun W => May14 ⟨T.toArray⟩ (by show T.length ≤ _; omega) W)
            simp only [mk_listr] at HLC
            obtain ⟨c, hc⟩ : ∃ c, mayName T = c := ⟨_, rfl⟩
            rw [hc] at HLC HX0
            have i2 : (i : Int) ≤ (s.size : Int) := by omega
            clear hgo hstop hT hTT hc HS HRD
            rcases hcase with hlt | ⟨hlt, hb⟩
            have h1d : decide ((i : Int) < (s.size : Int)) = false := by rw [decide_eq_false_iff_not]; omega
            have h1 : ¬ (i : Int) < (s.size : Int) := by omega
            rotate_left
            have h1d : decide ((i : Int) < (s.size : Int)) = true := by rw [decide_eq_true_eq]; omega
            have h1 : (i : Int) < (s.size : Int) := by omega
            obtain ⟨q1, q2⟩ := blk_none hb
            clear hb
            all_goals
              go_wp2_with fail
              refine (HLC.out _).mono ?_
              rintro e w2 ⟨rfl, hw2⟩
              rw [hw2]
              clear hw2
              cases c with
              | false =>
                have HX := Lib.hid (show X = none from HX0.out)
                go_wp2
                have hs := (HF0.out.set (.int .i64 0) (.string ⟨#[]⟩) (.string ⟨#[]⟩) (.string ⟨#[]⟩)).c
                refine bodyPost_ret (v := .tuple #[.agg #[.int .i64 0, .string ⟨#[]⟩, .string ⟨#[]⟩, .string ⟨#[]⟩], .int .i64 5]) (by rw [results_cell_tmp Tryz.results46]; simp [go_sem, hs.c0, hs.c1, hs.c2, hs.c3]) rfl ⟨⟨5, by rw [HX.out]; rfl, by rw [HX.out]; simp⟩, by first | exact set4_below HB0.out (Nat.le_refl _) _ _ _ _ | exact HB0.out⟩
              | true =>
                have HX := Lib.hid (show X = some (5, ([], []), T) from HX0.out)
                go_wp2
                have hs := (HF0.out.set (.int .i64 5) (.string ⟨#[]⟩) (.string ⟨#[]⟩) (.string ⟨T.toArray⟩)).c
                refine bodyPost_ret (v := .tuple #[.agg #[.int .i64 5, .string ⟨#[]⟩, .string ⟨#[]⟩, .string ⟨T.toArray⟩], .int .i64 0]) (by rw [results_cell_tmp Tryz.results46]; simp [go_sem, hs.c0, hs.c1, hs.c2, hs.c3]) rfl ⟨⟨0, by rw [HX.out]; rfl, by rw [HX.out]; simp⟩, by first | exact set4_below HB0.out (Nat.le_refl _) _ _ _ _ | exact HB0.out⟩
      | false =>
        have hn3 : cutPre inclL s.data.toList = none := by simpa [begB] using HQ3.out
        have HN3 := Lib.hid hn3
        clear hn3
        obtain ⟨q4, hq4⟩ : ∃ q, begB failL s.data.toList = q := ⟨_, rfl⟩
        rw [hq4] at HG4
        have HQ4 := Lib.hid hq4
        clear hq4
        go_wp2_with fail
        try rw [hw0]
        refine (HG4.out _).mono ?_
        rintro e w9 ⟨rfl, hw9⟩
        rw [hw9]
        clear hw9
        cases q4 with
        | true =>
          obtain ⟨r, hr⟩ : ∃ r, cutPre failL s.data.toList = some r := Option.isSome_iff_exists.1 HQ4.out
          obtain ⟨hsz, hsx⟩ := cut_slice hr
          have hkk := kind_6 HN1.out HN2.out HN3.out hr
          have ht := HT.out
          rw [hkk] at ht
          have hszl : (6 : Int) ≤ (s.size : Int) := by rw [hsz]; show (6 : Int) ≤ ((6 + r.length : Nat) : Int); omega
          have hrl : r.length ≤ 1000000000 := by omega
          have hx1 : s.extract 6 s.size = ⟨r.toArray⟩ := hsx
          have hX : X = if (!(trimW r).isEmpty && decide ((trimW r).length ≤ 100) && plainL (trimW r)) = true then some (6, ([], []), trimW r) else none := ht
          have HX0 := Lib.hid hX
          have HTR := Lib.hid (fun W => Trim04 ⟨r.toArray⟩ (by show r.length ≤ _; omega) W)
          simp only [mk_listr] at HTR
          have htl := trimW_len r
          obtain ⟨T, hTT⟩ : ∃ T, trimW r = T := ⟨_, rfl⟩
          rw [hTT] at HTR HX0 htl
          have HPL := Lib.hid (fun W => Plain_ref ⟨T.toArray⟩ (by show T.length ≤ _; omega) W)
          simp only [mk_listr] at HPL
          have hTs : (⟨T.toArray⟩ : ByteArray).size = T.length := rfl
          clear hX ht hkk hr hsx hsz hTT
          go_wp2_with fail
          refine (HTR.out _).mono ?_
          rintro e w2 ⟨rfl, hw2⟩
          rw [hw2]
          clear hw2
          by_cases hT1 : T.length < 1
          · have k1 : (T.length : Int) < 1 := by omega
            have k1d : decide ((T.length : Int) < 1) = true := by rw [decide_eq_true_eq]; exact k1
            have hT0 : T = [] := List.eq_nil_of_length_eq_zero (by omega)
            have HX := Lib.hid (show X = none from by rw [HX0.out, hT0]; rfl)
            clear hT0
            go_wp2
            have hs := (HF0.out.set (.int .i64 0) (.string ⟨#[]⟩) (.string ⟨#[]⟩) (.string ⟨#[]⟩)).c
            refine bodyPost_ret (v := .tuple #[.agg #[.int .i64 0, .string ⟨#[]⟩, .string ⟨#[]⟩, .string ⟨#[]⟩], .int .i64 5]) (by rw [results_cell_tmp Tryz.results46]; simp [go_sem, hs.c0, hs.c1, hs.c2, hs.c3]) rfl ⟨⟨5, by rw [HX.out]; rfl, by rw [HX.out]; simp⟩, by first | exact set4_below HB0.out (Nat.le_refl _) _ _ _ _ | exact HB0.out⟩
          · have k1 : ¬ (T.length : Int) < 1 := by omega
            have k1d : decide ((T.length : Int) < 1) = false := by rw [decide_eq_false_iff_not]; exact k1
            by_cases hT2 : 100 < T.length
            · have k2 : (100 : Int) < (T.length : Int) := by omega
              have k2d : decide ((100 : Int) < (T.length : Int)) = true := by rw [decide_eq_true_eq]; exact k2
              have HX := Lib.hid (show X = none from by rw [HX0.out, decide_eq_false (show ¬ T.length ≤ 100 by omega)]; simp)
              go_wp2
              have hs := (HF0.out.set (.int .i64 0) (.string ⟨#[]⟩) (.string ⟨#[]⟩) (.string ⟨#[]⟩)).c
              refine bodyPost_ret (v := .tuple #[.agg #[.int .i64 0, .string ⟨#[]⟩, .string ⟨#[]⟩, .string ⟨#[]⟩], .int .i64 5]) (by rw [results_cell_tmp Tryz.results46]; simp [go_sem, hs.c0, hs.c1, hs.c2, hs.c3]) rfl ⟨⟨5, by rw [HX.out]; rfl, by rw [HX.out]; simp⟩, by first | exact set4_below HB0.out (Nat.le_refl _) _ _ _ _ | exact HB0.out⟩
            · have k2 : ¬ (100 : Int) < (T.length : Int) := by omega
              have k2d : decide ((100 : Int) < (T.length : Int)) = false := by rw [decide_eq_false_iff_not]; exact k2
              obtain ⟨c, hc⟩ : ∃ c, plainL T = c := ⟨_, rfl⟩
              have hX2 : X = if c = true then some (6, ([], []), T) else none := by
                have e1 : T.isEmpty = false := by rw [List.isEmpty_eq_false_iff]; rintro rfl; simp at hT1
                rw [HX0.out, e1, decide_eq_true (show T.length ≤ 100 by omega), hc]
                simp
              rw [hc] at HPL
              have HX3 := Lib.hid hX2
              clear hc hX2
              go_wp2_with fail
              refine (HPL.out _).mono ?_
              rintro e w2 ⟨rfl, hw2⟩
              rw [hw2]
              clear hw2
              cases c with
              | false =>
                have HX := Lib.hid (show X = none from HX3.out)
                go_wp2
                have hs := (HF0.out.set (.int .i64 0) (.string ⟨#[]⟩) (.string ⟨#[]⟩) (.string ⟨#[]⟩)).c
                refine bodyPost_ret (v := .tuple #[.agg #[.int .i64 0, .string ⟨#[]⟩, .string ⟨#[]⟩, .string ⟨#[]⟩], .int .i64 5]) (by rw [results_cell_tmp Tryz.results46]; simp [go_sem, hs.c0, hs.c1, hs.c2, hs.c3]) rfl ⟨⟨5, by rw [HX.out]; rfl, by rw [HX.out]; simp⟩, by first | exact set4_below HB0.out (Nat.le_refl _) _ _ _ _ | exact HB0.out⟩
              | true =>
                have HX := Lib.hid (show X = some (6, ([], []), T) from HX3.out)
                go_wp2
                have hs := (HF0.out.set (.int .i64 6) (.string ⟨#[]⟩) (.string ⟨#[]⟩) (.string ⟨T.toArray⟩)).c
                refine bodyPost_ret (v := .tuple #[.agg #[.int .i64 6, .string ⟨#[]⟩, .string ⟨#[]⟩, .string ⟨T.toArray⟩], .int .i64 0]) (by rw [results_cell_tmp Tryz.results46]; simp [go_sem, hs.c0, hs.c1, hs.c2, hs.c3]) rfl ⟨⟨0, by rw [HX.out]; rfl, by rw [HX.out]; simp⟩, by first | exact set4_below HB0.out (Nat.le_refl _) _ _ _ _ | exact HB0.out⟩
        | false =>
          have hn4 : cutPre failL s.data.toList = none := by simpa [begB] using HQ4.out
          have HN4 := Lib.hid hn4
          clear hn4
          by_cases hd : s.data.toList = dropB
          · have hr : cutPre dropB s.data.toList = some [] := by rw [hd]; decide
            have hkk := kind_7 HN1.out HN2.out HN3.out HN4.out hr
            have ht := HT.out
            rw [hkk] at ht
            have HX := Lib.hid (show X = some (7, ([], []), []) from ht)
            have hse : s.toList = dropB := by rw [Lib.toList_data]; exact hd
            have hse2 : s = ⟨#[58, 100, 114, 111, 112, 58]⟩ := ByteArray.ext (Array.ext' hd)
            clear hr hkk ht hd
            have hse3 : (s.toList == [58, 100, 114, 111, 112, 58]) = true := by rw [hse]; rfl
            clear hse hse2
            go_wp2
            have hs := (HF0.out.set (.int .i64 7) (.string ⟨#[]⟩) (.string ⟨#[]⟩) (.string ⟨#[]⟩)).c
            refine bodyPost_ret (v := .tuple #[.agg #[.int .i64 7, .string ⟨#[]⟩, .string ⟨#[]⟩, .string ⟨#[]⟩], .int .i64 0]) (by rw [results_cell_tmp Tryz.results46]; simp [go_sem, hs.c0, hs.c1, hs.c2, hs.c3]) rfl ⟨⟨0, by rw [HX.out]; rfl, by rw [HX.out]; simp⟩, by first | exact set4_below HB0.out (Nat.le_refl _) _ _ _ _ | exact HB0.out⟩
          · have hse3 : (s.toList == [58, 100, 114, 111, 112, 58]) = false := by
              rw [beq_eq_false_iff_ne]
              intro e
              rw [Lib.toList_data] at e
              exact hd e
            have HD := Lib.hid hd
            clear hd
            obtain ⟨q5, hq5⟩ : ∃ q, begB dropB s.data.toList = q := ⟨_, rfl⟩
            rw [hq5] at HG5
            have HQ5 := Lib.hid hq5
            clear hq5
            go_wp2_with fail
            try rw [hw0]
            refine (HG5.out _).mono ?_
            rintro e w9 ⟨rfl, hw9⟩
            rw [hw9]
            clear hw9
            cases q5 with
            | true =>
              obtain ⟨r, hr⟩ : ∃ r, cutPre dropB s.data.toList = some r := Option.isSome_iff_exists.1 HQ5.out
              obtain ⟨hsz, hsx⟩ := cut_slice hr
              have hkk := kind_7 HN1.out HN2.out HN3.out HN4.out hr
              have ht := HT.out
              rw [hkk] at ht
              have hszl : (6 : Int) ≤ (s.size : Int) := by rw [hsz]; show (6 : Int) ≤ ((6 + r.length : Nat) : Int); omega
              have hrl : r.length ≤ 1000000000 := by omega
              have hr0 : r ≠ [] := by
                rintro rfl
                exact HD.out (by rw [cutPre_some hr]; simp)
              have HX := Lib.hid (show X = none from by rw [ht]; exact if_neg hr0)
              clear ht hkk hr hsx hsz hr0
              go_wp2
              have hs := (HF0.out.set (.int .i64 0) (.string ⟨#[]⟩) (.string ⟨#[]⟩) (.string ⟨#[]⟩)).c
              refine bodyPost_ret (v := .tuple #[.agg #[.int .i64 0, .string ⟨#[]⟩, .string ⟨#[]⟩, .string ⟨#[]⟩], .int .i64 5]) (by rw [results_cell_tmp Tryz.results46]; simp [go_sem, hs.c0, hs.c1, hs.c2, hs.c3]) rfl ⟨⟨5, by rw [HX.out]; rfl, by rw [HX.out]; simp⟩, by first | exact set4_below HB0.out (Nat.le_refl _) _ _ _ _ | exact HB0.out⟩
            | false =>
              have hn5 : cutPre dropB s.data.toList = none := by simpa [begB] using HQ5.out
              have hkk := kind_12 HN1.out HN2.out HN3.out HN4.out hn5
              have ht := HT.out
              rw [hkk] at ht
              have HT2 := Lib.hid ht
              clear ht hkk hn5 HT
              have HNOT := Lib.hid (fun i b (h : s.data.toList[i]? = some b) (hb : b = 64) => has64_not h hb)
              have HALL := Lib.hid (show (s.data.toList.take s.size).contains 64 = s.data.toList.contains 64 by rw [take_all])
              have HPA := Lib.hid (fun W => Parse_ref s hs W)
              generalize parseL s.data.toList = PL at HT2 HPA
              obtain ⟨C, hC⟩ : ∃ C, s.data.toList.contains 64 = C := ⟨_, rfl⟩
              rw [hC] at HALL HNOT HT2
              clear hC
              have HLC := Lib.hid (fun W => local14 s (by omega) W)
              have HLW := Lib.hid (fun W => Lower_ref s (by omega) W)
              go_wp2_with fail
              go_loopg [6] s.size (fun g v6 W => At1Rel s w0 g v6 W)
              case atStart => exact ⟨0, rfl, Nat.zero_le _, rfl, rfl, rfl⟩
              case round =>
                obtain ⟨i, rfl, hi, hg, rfl, hno⟩ := hrel
                have HG := Lib.hid hg
                have HNO := Lib.hid hno
                clear hg hno
                have i0 : (0 : Int) ≤ (i : Int) := by omega
                by_cases hlt : i < s.size
                · have i1 : (i : Int) < (s.size : Int) := by omega
                  have iw : IntKind.i64.wrap ((i : Int) + 1) = ((i + 1 : Nat) : Int) := by rw [IntKind.wrap_i64]; omega
                  by_cases h64 : s[i] = 64
                  · have hC := HNOT.out i _ (HGB.out i hlt) h64
                    subst hC
                    have q64 : ((s[i].toNat : Int) == 64) = true := by rw [h64]; rfl
                    obtain ⟨px, py, pe⟩ := PL
                    have HX0 := Lib.hid (show X = if pe = 0 then some (1, (px, py), []) else none from HT2.out)
                    simp only [parV, addrV] at HPA
                    clear h64 HALL HNOT HT2
                    go_wp2_with fail
                    refine (HPA.out _).mono ?_
                    rintro e w3 ⟨rfl, hb3⟩
                    have HF3 := Lib.hid (HF0.out.below hb3)
                    have HB3 := Lib.hid (HB0.out.trans (hb3.mono HB0.out.size))
                    clear hb3 c0 c1 c2 c3 f0 f1 f2 f3
                    have HF4 := Lib.hid (HF3.out.below (alloc_below w3 (.cells #[.string ⟨px.toArray⟩, .string ⟨py.toArray⟩] 100)))
                    have hc4 := Two.made w3 (.string ⟨px.toArray⟩) (.string ⟨py.toArray⟩) 100
                    have HB4 := Lib.hid (HB3.out.trans ((alloc_below w3 (.cells #[.string ⟨px.toArray⟩, .string ⟨py.toArray⟩] 100)).mono HB3.out.size))
                    generalize hw4 : w3.alloc (.cells #[.string ⟨px.toArray⟩, .string ⟨py.toArray⟩] 100) = w4 at HF4 hc4 HB4
                    obtain ⟨-, k0, k1⟩ := hc4
                    obtain ⟨⟨-, c0, c1, c2, c3⟩, f0, f1, f2, f3⟩ := HF4.out
                    by_cases h0 : pe = 0
                    · subst h0
                      have HX := Lib.hid (show X = some (1, (px, py), []) from HX0.out)
                      go_wp2
                      have hs := (HF4.out.set (.int .i64 1) (.string ⟨px.toArray⟩) (.string ⟨py.toArray⟩) (.string ⟨#[]⟩)).c
                      refine bodyPost_ret (v := .tuple #[.agg #[.int .i64 1, .string ⟨px.toArray⟩, .string ⟨py.toArray⟩, .string ⟨#[]⟩], .int .i64 0]) (by rw [results_cell_tmp Tryz.results46]; simp [go_sem, hs.c0, hs.c1, hs.c2, hs.c3]) rfl ⟨⟨0, by rw [HX.out]; rfl, by rw [HX.out]; simp⟩, by first | exact set4_below HB4.out (Nat.le_refl _) _ _ _ _ | exact HB4.out⟩
                    · have hne : ((pe : Int) != 0) = true := by rw [bne_iff_ne]; omega
                      have HX := Lib.hid (show X = none by rw [HX0.out, if_neg h0])
                      go_wp2
                      have hs := (HF4.out.set (.int .i64 0) (.string ⟨#[]⟩) (.string ⟨#[]⟩) (.string ⟨#[]⟩)).c
                      refine bodyPost_ret (v := .tuple #[.agg #[.int .i64 0, .string ⟨#[]⟩, .string ⟨#[]⟩, .string ⟨#[]⟩], .int .i64 (pe : Int)]) (by rw [results_cell_tmp Tryz.results46]; simp [go_sem, hs.c0, hs.c1, hs.c2, hs.c3]) rfl ⟨⟨pe, by rw [HX.out]; rfl, by rw [HX.out]; simp [h0]⟩, by first | exact set4_below HB4.out (Nat.le_refl _) _ _ _ _ | exact HB4.out⟩
                  · have q64 : ((s[i].toNat : Int) == 64) = false := (bt_ne h64).1
                    have HN2 := Lib.hid (has64_step (HGB.out i hlt) h64 HNO.out)
                    clear h64
                    go_wp2_with fail
                    go_roundg (s.size - (i + 1))
                    case rel => exact ⟨i + 1, by go_num, by omega, rfl, rfl, HN2.out⟩
                    case measure => have := HG.out; omega
                · have i1 : ¬ (i : Int) < (s.size : Int) := by omega
                  obtain rfl : i = s.size := by omega
                  have hC : C = false := HALL.out.symm.trans HNO.out
                  subst hC
                  have HX0 := Lib.hid (show X = if localB s.data.toList = true then some (2, ([], []), lowL s.data.toList) else none from HT2.out)
                  obtain ⟨c, hc⟩ : ∃ c, localB s.data.toList = c := ⟨_, rfl⟩
                  rw [hc] at HLC HX0
                  clear hc HALL HNOT HNO HT2
                  go_wp2_with fail
                  refine (HLC.out _).mono ?_
                  rintro e w2 ⟨rfl, hw2⟩
                  rw [hw2]
                  clear hw2
                  cases c with
                  | false =>
                    have HX := Lib.hid (show X = none from HX0.out)
                    go_wp2
                    have hs := (HF0.out.set (.int .i64 0) (.string ⟨#[]⟩) (.string ⟨#[]⟩) (.string ⟨#[]⟩)).c
                    refine bodyPost_ret (v := .tuple #[.agg #[.int .i64 0, .string ⟨#[]⟩, .string ⟨#[]⟩, .string ⟨#[]⟩], .int .i64 5]) (by rw [results_cell_tmp Tryz.results46]; simp [go_sem, hs.c0, hs.c1, hs.c2, hs.c3]) rfl ⟨⟨5, by rw [HX.out]; rfl, by rw [HX.out]; simp⟩, by first | exact set4_below HB0.out (Nat.le_refl _) _ _ _ _ | exact HB0.out⟩
                  | true =>
                    have HX := Lib.hid (show X = some (2, ([], []), lowL s.data.toList) from HX0.out)
                    generalize hLo : lowL s.data.toList = Lo at HX HLW
                    clear hLo
                    go_wp2_with fail
                    refine (HLW.out _).mono ?_
                    rintro e w2 ⟨rfl, hb2⟩
                    have HF2 := Lib.hid (HF0.out.below hb2)
                    have HB2 := Lib.hid (HB0.out.trans (hb2.mono HB0.out.size))
                    clear hb2 c0 c1 c2 c3 f0 f1 f2 f3
                    obtain ⟨⟨-, c0, c1, c2, c3⟩, f0, f1, f2, f3⟩ := HF2.out
                    go_wp2
                    have hs := (HF2.out.set (.int .i64 2) (.string ⟨#[]⟩) (.string ⟨#[]⟩) (.string ⟨Lo.toArray⟩)).c
                    refine bodyPost_ret (v := .tuple #[.agg #[.int .i64 2, .string ⟨#[]⟩, .string ⟨#[]⟩, .string ⟨Lo.toArray⟩], .int .i64 0]) (by rw [results_cell_tmp Tryz.results46]; simp [go_sem, hs.c0, hs.c1, hs.c2, hs.c3]) rfl ⟨⟨0, by rw [HX.out]; rfl, by rw [HX.out]; simp⟩, by first | exact set4_below HB2.out (Nat.le_refl _) _ _ _ _ | exact HB2.out⟩
end Go.Proofs.YtkoncmmbdlnmfaaGreatDoor

/- The document's Text (package 14): the text that tells a target. -/
namespace Go.Proofs.YtkoncmmbdlnmfaaGreatDoor
open Go.RowKit Go.Lib
set_option linter.unusedSimpArgs false
set_option linter.unusedVariables false
set_option linter.unnecessarySimpa false
set_option maxRecDepth 100000

theorem tellF_at (k : Int) (a b n : List UInt8) : tellF (k, (a, b), n) = if k = 1 then textL (a, b) else if k = 6 then failL ++ 32 :: n else if 3 ≤ k ∧ k ≤ 7 then begL k.toNat ++ n else n := rfl
set_option maxHeartbeats 8000000 in
theorem Text14 (t : TI) (h1 : t.2.1.1.length ≤ 1000000) (h2 : t.2.1.2.length ≤ 1000000) (h3 : t.2.2.length ≤ 1000000) (w : World) :
    Calls Tryz.prog 51 #[tiV t] w fun e w' => e = .returned (.string ⟨(textI t).toArray⟩) ∧ Below w.heap.size w w' := by
  have HN := Lib.hid (textI_none (t := t))
  have HS := Lib.hid (fun t' => textI_some (t := t) (t' := t'))
  have HPT := Lib.hid (fun (s : ByteArray) (h : s.size ≤ 1000000000) W => ParT14 s h W)
  obtain ⟨k, ⟨a, b⟩, n⟩ := t
  simp only at h1 h2 h3
  have HTF := Lib.hid (tellF_at k a b n)
  generalize tellF (k, (a, b), n) = X at HN HS HTF
  generalize textI (k, (a, b), n) = R at HN HS ⊢
  have hb0 := alloc_below w (.cells #[.int .i64 k, .string ⟨a.toArray⟩, .string ⟨b.toArray⟩, .string ⟨n.toArray⟩] 102)
  have HF := Lib.hid (Four4.made w (.int .i64 k) (.string ⟨a.toArray⟩) (.string ⟨b.toArray⟩) (.string ⟨n.toArray⟩) 102)
  have HB0 := Lib.hid hb0
  show Calls Tryz.prog 51 #[.agg #[.int .i64 k, .string ⟨a.toArray⟩, .string ⟨b.toArray⟩, .string ⟨n.toArray⟩]] w _
  clear hb0
  obtain ⟨⟨-, d0, d1, d2, d3⟩, g0, g1, g2, g3⟩ := HF.out
  have htl : (textL (a, b)).length ≤ 2 * a.length + b.length + 3 := text_len_le' (a, b)
  have HTX := Lib.hid (fun W => Text_ref (a, b) (by show a.length ≤ _; omega) (by show b.length ≤ _; omega) W)
  simp only [addrV] at HTX
  obtain ⟨w0, hw0⟩ : ∃ w0, w.alloc (.cells #[.int .i64 k, .string ⟨a.toArray⟩, .string ⟨b.toArray⟩, .string ⟨n.toArray⟩] 102) = w0 := ⟨_, rfl⟩
  rw [hw0] at HF HB0 d0 d1 d2 d3 g0 g1 g2 g3
  go_enter Tryz.func51, Tryz.ntmps51
  go_upto_block 0 with (fail)
  go_cut [3] (fun v3 wc => v3 = .string ⟨X.toArray⟩ ∧ Below w0.heap.size w0 wc)
  case first =>
    by_cases k1 : k = 1
    · subst k1
      have hX : X = textL (a, b) := HTF.out
      rw [← hX] at HTX
      clear hX HTF
      go_wp2_with fail
      refine (HTX.out _).mono ?_
      rintro e w1 ⟨rfl, hb1⟩
      go_wp2_with fail
      go_meet
      case rel => exact ⟨rfl, hb1⟩
    by_cases k2 : k = 2
    · subst k2
      have HX := Lib.hid (show X = n from HTF.out)
      clear HTF k1
      go_wp2_with fail
      go_meet
      case rel => exact ⟨by rw [HX.out], Below.refl _ _⟩
    by_cases k3 : k = 3
    · subst k3
      have HX := Lib.hid (show X = [92] ++ n from HTF.out)
      have hz : ∀ W, (Op.stringOp .add (⟨#[92]⟩ : ByteArray) ⟨n.toArray⟩).run Tryz.prog W = .ok (.string ⟨([92] ++ n).toArray⟩) W := fun W => run_string_add_lists W [92] n (by decide) (by omega)
      rw [← HX.out] at hz
      clear HTF k1 k2
      go_wp2_with fail
      go_meet
      case rel => exact ⟨rfl, Below.refl _ _⟩
    by_cases k4 : k = 4
    · subst k4
      have HX := Lib.hid (show X = [47] ++ n from HTF.out)
      have hz : ∀ W, (Op.stringOp .add (⟨#[47]⟩ : ByteArray) ⟨n.toArray⟩).run Tryz.prog W = .ok (.string ⟨([47] ++ n).toArray⟩) W := fun W => run_string_add_lists W [47] n (by decide) (by omega)
      rw [← HX.out] at hz
      clear HTF k1 k2 k3
      go_wp2_with fail
      go_meet
      case rel => exact ⟨rfl, Below.refl _ _⟩
    by_cases k5 : k = 5
    · subst k5
      have HX := Lib.hid (show X = [58, 105, 110, 99, 108, 117, 100, 101, 58] ++ n from HTF.out)
      have hz : ∀ W, (Op.stringOp .add (⟨#[58, 105, 110, 99, 108, 117, 100, 101, 58]⟩ : ByteArray) ⟨n.toArray⟩).run Tryz.prog W = .ok (.string ⟨([58, 105, 110, 99, 108, 117, 100, 101, 58] ++ n).toArray⟩) W := fun W => run_string_add_lists W [58, 105, 110, 99, 108, 117, 100, 101, 58] n (by decide) (by omega)
      rw [← HX.out] at hz
      clear HTF k1 k2 k3 k4
      go_wp2_with fail
      go_meet
      case rel => exact ⟨rfl, Below.refl _ _⟩
    by_cases k6 : k = 6
    · subst k6
      have HX := Lib.hid (show X = [58, 102, 97, 105, 108, 58, 32] ++ n from HTF.out)
      have hz : ∀ W, (Op.stringOp .add (⟨#[58, 102, 97, 105, 108, 58, 32]⟩ : ByteArray) ⟨n.toArray⟩).run Tryz.prog W = .ok (.string ⟨([58, 102, 97, 105, 108, 58, 32] ++ n).toArray⟩) W := fun W => run_string_add_lists W [58, 102, 97, 105, 108, 58, 32] n (by decide) (by omega)
      rw [← HX.out] at hz
      clear HTF k1 k2 k3 k4 k5
      go_wp2_with fail
      go_meet
      case rel => exact ⟨rfl, Below.refl _ _⟩
    by_cases k7 : k = 7
    · subst k7
      have HX := Lib.hid (show X = [58, 100, 114, 111, 112, 58] ++ n from HTF.out)
      have hz : ∀ W, (Op.stringOp .add (⟨#[58, 100, 114, 111, 112, 58]⟩ : ByteArray) ⟨n.toArray⟩).run Tryz.prog W = .ok (.string ⟨([58, 100, 114, 111, 112, 58] ++ n).toArray⟩) W := fun W => run_string_add_lists W [58, 100, 114, 111, 112, 58] n (by decide) (by omega)
      rw [← HX.out] at hz
      clear HTF k1 k2 k3 k4 k5 k6
      go_wp2_with fail
      go_meet
      case rel => exact ⟨rfl, Below.refl _ _⟩
    have HX := Lib.hid (show X = n from by
      rw [HTF.out, if_neg k1, if_neg k6, if_neg]
      rintro ⟨q1, q2⟩
      omega)
    have j1 : (k == 1) = false := by rw [beq_eq_false_iff_ne]; exact k1
    have j2 : (k == 2) = false := by rw [beq_eq_false_iff_ne]; exact k2
    have j3 : (k == 3) = false := by rw [beq_eq_false_iff_ne]; exact k3
    have j4 : (k == 4) = false := by rw [beq_eq_false_iff_ne]; exact k4
    have j5 : (k == 5) = false := by rw [beq_eq_false_iff_ne]; exact k5
    have j6 : (k == 6) = false := by rw [beq_eq_false_iff_ne]; exact k6
    have j7 : (k == 7) = false := by rw [beq_eq_false_iff_ne]; exact k7
    clear HTF k1 k2 k3 k4 k5 k6 k7
    go_wp2_with fail
    go_meet
    case rel => exact ⟨by rw [HX.out], Below.refl _ _⟩
  case rest =>
  obtain ⟨rfl, hbc⟩ := hcut
  have hXl : X.length ≤ 100000000 := by
    rw [HTF.out]
    split
    · omega
    · split
      · simp only [List.length_append, List.length_cons, failL, List.length_nil]; omega
      · split
        · have : (begL k.toNat).length ≤ 9 := by
            unfold begL
            repeat' split
            all_goals decide
          rw [List.length_append]; omega
        · omega
  have HBW := Lib.hid (HB0.out.trans (hbc.mono HB0.out.size))
  have HFW := Lib.hid (HF.out.below hbc)
  clear hbc HTF d0 d1 d2 d3 g0 g1 g2 g3
  have HP := Lib.hid (fun W => HPT.out ⟨X.toArray⟩ (by show X.length ≤ _; omega) W)
  simp only [mk_listr] at HP
  go_wp2_with fail
  refine (HP.out _).mono ?_
  rintro e w2 ⟨hp, hb2⟩
  obtain ⟨c, rfl, hc⟩ := hp
  have HF2 := Lib.hid (HFW.out.below hb2)
  have HB2 := Lib.hid (HBW.out.trans (hb2.mono HBW.out.size))
  clear hb2
  obtain ⟨⟨-, d0, d1, d2, d3⟩, -⟩ := HF2.out
  cases hT : targF X with
  | none =>
    rw [hT] at hc
    have hR := HN.out hT
    have HR := Lib.hid hR
    have hc0 : ((c : Int) != 0) = true := by
      rw [bne_iff_ne]
      intro e
      have : c = 0 := by omega
      rw [hc] at this
      cases this
    clear hR hT hc
    simp only [Option.getD_none, tgV, tg0]
    go_wp2
    go_ret
    exact ⟨by rw [HR.out]; rfl, HB2.out.trans ((alloc_below w2 _).mono HB2.out.size)⟩
  | some t' =>
    rw [hT] at hc
    have h0 : c = 0 := hc.2 rfl
    subst h0
    have hR := HS.out t' hT
    obtain ⟨k', ⟨a', b'⟩, n'⟩ := t'
    simp only [Option.getD_some, tgV]
    have hR3 : R = if (((k' : Int), (a', b'), n') : TI) = (k, (a, b), n) then X else [] := hR
    clear hR hc hT
    generalize (k' : Int) = kk at hR3 ⊢
    have HF3 := Lib.hid (Four4.made w2 (.int .i64 kk) (.string ⟨a'.toArray⟩) (.string ⟨b'.toArray⟩) (.string ⟨n'.toArray⟩) 102)
    have HF23 := Lib.hid (HF2.out.below (alloc_below w2 (.cells #[.int .i64 kk, .string ⟨a'.toArray⟩, .string ⟨b'.toArray⟩, .string ⟨n'.toArray⟩] 102)))
    clear d0 d1 d2 d3
    obtain ⟨⟨-, d0, d1, d2, d3⟩, -⟩ := HF3.out
    obtain ⟨⟨-, e0, e1, e2, e3⟩, -⟩ := HF23.out
    by_cases he : ((kk, (a', b'), n') : TI) = (k, (a, b), n)
    · have hR2 : R = X := by rw [hR3]; exact if_pos he
      have HR := Lib.hid hR2
      obtain ⟨q1, q2, q3, q4⟩ : kk = k ∧ a' = a ∧ b' = b ∧ n' = n := by
        simp only [Prod.mk.injEq] at he
        exact ⟨he.1, he.2.1.1, he.2.1.2, he.2.2⟩
      clear hR2 hR3 he
      subst q1 q2 q3 q4
      go_wp2
      all_goals first
        | (go_ret; exact ⟨by rw [HR.out]; rfl, HB2.out.trans ((alloc_below w2 _).mono HB2.out.size)⟩)
        | (exfalso; omega)
    · have hR2 : R = [] := by rw [hR3]; exact if_neg he
      have HR := Lib.hid hR2
      have HNE := Lib.hid he
      clear hR2 hR3 he
      go_wp2
      all_goals first
        | (exfalso; apply HNE.out; simp_all; done)
        | (go_ret; exact ⟨by rw [HR.out]; rfl, HB2.out.trans ((alloc_below w2 _).mono HB2.out.size)⟩)
end Go.Proofs.YtkoncmmbdlnmfaaGreatDoor
