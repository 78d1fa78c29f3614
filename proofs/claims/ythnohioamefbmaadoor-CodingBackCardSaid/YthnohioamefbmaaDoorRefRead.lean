/- What the law's reference reader hands back, for texts of at most 30000 bytes. -/
import Derived.Test.YthnohioamefbmaaDoorRefTell
namespace Go.Proofs.YthnohioamefbmaaDoor
open Go.RowKit Go.Lib
set_option linter.unusedSimpArgs false
set_option linter.unusedVariables false

def strip1 (s : List UInt8) (e : Nat) : Nat := if 0 < e ∧ s.getD (e - 1) 0 = 61 then e - 1 else e
def endOf (t : Nat) (s : List UInt8) : Nat := if t = 6 then strip1 s (strip1 s s.length) else s.length
def placesN (t : Nat) (bare : List UInt8) : List Nat := bare.map fun c => (placeN t c).toNat
def refFin (t : Nat) (r : List Nat × Nat × Nat) : Option (List Nat) := if t ≤ r.2.2 ∨ r.2.1 ≠ 0 then none else some r.1
def refReadE (s : List UInt8) (t e : Nat) : Option (List Nat) :=
  if (s.take e).all (fun c => decide (0 ≤ placeN t c)) then
    refFin t (regroup t 8 (placesN t (s.take e)) 0 0)
  else none
def refRead (s : List UInt8) (t : Nat) : Option (List Nat) :=
  if t = 6 ∧ s.length % 4 ≠ 0 then none else refReadE s t (endOf t s)
theorem strip1_le (s : List UInt8) (e : Nat) : strip1 s e ≤ e := by unfold strip1; split <;> omega
theorem endOf_le (t : Nat) (s : List UInt8) : endOf t s ≤ s.length := by
  unfold endOf
  split
  · exact Nat.le_trans (strip1_le _ _) (strip1_le _ _)
  · exact Nat.le_refl _
theorem placeN_lt (t : Nat) (ht : IsKind t) (c : UInt8) : placeN t c < 2 ^ t := by
  have := idxL_lt (lettersOf t) (caseF t c)
  rw [letters_size t ht] at this
  unfold placeN
  exact_mod_cast this

/-- how far the letters have been read. -/
def ReadRel (w : World) (t : Nat) (bare : List UInt8) (v8 v9 v10 v11 : Value) (W : World) : Prop :=
  ∃ (i n m : Nat) (out : List Nat), v11 = .int .i64 i ∧ v10 = .int .i64 m ∧ v9 = .int .i64 n ∧ i ≤ bare.length ∧ m < 8 ∧ n < 2 ^ m ∧ out.length ≤ i ∧ Below w.heap.size w W ∧
    W.ownsRow w.heap.size 5 1 v8 out.length (out.map fun (c : Nat) => Value.int .u8 (c : Int)) ∧ (∀ c ∈ bare.take i, 0 ≤ placeN t c) ∧
    regroup t 8 (placesN t bare) 0 0 = (out ++ (regroup t 8 (placesN t (bare.drop i)) n m).1, (regroup t 8 (placesN t (bare.drop i)) n m).2)
theorem refReadE_none (s : List UInt8) (t e i : Nat) (h : i < (s.take e).length) (hn : placeN t (s.take e)[i] < 0) : refReadE s t e = none := by
  unfold refReadE
  rw [if_neg]
  simp only [List.all_eq_true, decide_eq_true_eq]
  intro hall
  have := hall _ (List.getElem_mem h)
  omega

def MulRel (n t g : Nat) (v9 v13 : Value) : Prop := ∃ k : Nat, k ≤ t ∧ g = t - k ∧ v13 = .int .i64 k ∧ v9 = .int .i64 ((n * 2 ^ k : Nat) : Int)
def PowRel (m g : Nat) (v14 v15 : Value) : Prop := ∃ k : Nat, k ≤ m ∧ g = m - k ∧ v15 = .int .i64 k ∧ v14 = .int .i64 ((2 ^ k : Nat) : Int)

def stripN (s : List UInt8) : Nat → Nat → Nat
  | 0, e => e
  | i + 1, e => strip1 s (stripN s i e)
def StripRel (s : ByteArray) (g : Nat) (v6 v7 : Value) : Prop := ∃ i e : Nat, i ≤ 2 ∧ g = 2 - i ∧ v7 = .int .i64 i ∧ v6 = .int .i64 e ∧ e = stripN s.data.toList i s.size ∧ e ≤ s.size
theorem get_at (s : ByteArray) (i : Nat) (h : i < s.size) : s[i] = s.data.toList.getD i 0 := by
  rw [List.getD_eq_getElem?_getD, List.getElem?_eq_getElem (by simpa using h)]; rfl
set_option maxRecDepth 100000 in
set_option maxHeartbeats 4000000 in
/-- from the loop's head on. -/
theorem refRead_any (s : ByteArray) (hs : s.size ≤ 100000) (t : Nat) (ht : IsKind t) (w : World) :
    Calls Tryd.prog 8 #[.string s, .int .i64 (t : Int)] w fun e w' => ReadPost w (refRead s.data.toList t) e w' := by
  have ht4 : 4 ≤ t ∧ t ≤ 6 := by rcases ht with rfl | rfl | rfl <;> omega
  have hel := endOf_le t s.data.toList
  have hel' : endOf t s.data.toList ≤ s.size := by simpa using hel
  clear hel
  by_cases hbad : t = 6 ∧ s.data.toList.length % 4 ≠ 0
  · have hr : refRead s.data.toList t = none := by unfold refRead; rw [if_pos hbad]
    rw [hr]
    obtain ⟨rfl, hb⟩ := hbad
    have h1 : ((s.size : Int) % 4 != 0) = true := by
      have hb' : s.size % 4 ≠ 0 := by simpa using hb
      rw [bne_iff_ne]; omega
    clear hb hr
    go_enter Tryd.func8, Tryd.ntmps8
    go_wp2
    go_ret2
    exact ⟨.slice none 0 0, [], 5, rfl, ⟨none, 0, rfl, .inl rfl⟩, .inl ⟨rfl, rfl, rfl⟩, Below.refl _ _⟩
  · have hr : refRead s.data.toList t = refReadE s.data.toList t (endOf t s.data.toList) := by unfold refRead; rw [if_neg hbad]
    rw [hr]
    clear hr
    have HB := Lib.hid hbad
    clear hbad
    have HE : Hid (endOf t s.data.toList = if t = 6 then strip1 s.data.toList (strip1 s.data.toList s.data.toList.length) else s.data.toList.length) := rfl
    generalize endOf t s.data.toList = en at *
    go_enter Tryd.func8, Tryd.ntmps8
    go_upto_if 19 with (fail)
    go_cut [6] (fun v6 wc => v6 = .int .i64 en ∧ w = wc)
    case first =>
      by_cases h6 : t = 6
      · subst h6
        have hb := HB.out
        have h1 : ((s.size : Int) % 4 != 0) = false := by
          have hb' : s.size % 4 = 0 := by
            have e : s.data.toList.length = s.size := by simp
            rw [e] at hb
            omega
          rw [bne_eq_false_iff_eq]; omega
        clear hb
        go_wp2
        go_loopg [6, 7] 2 (fun g v6 v7 W => StripRel s g v6 v7 ∧ w = W)
        case atStart => exact ⟨⟨0, s.size, by omega, by omega, rfl, rfl, by simp [stripN], by omega⟩, rfl⟩
        case round =>
          obtain ⟨⟨i, e, hi, hg, rfl, rfl, hst, hes⟩, rfl⟩ := hrel
          have HST := Lib.hid hst
          have HG := Lib.hid hg
          clear hst hg
          by_cases hi2 : i < 2
          · by_cases he : 0 < e
            · have hix : e - 1 < s.size := by omega
              have hget := get_at s (e - 1) hix
              have em : ((e : Int) - 1) = ((e - 1 : Nat) : Int) := by omega
              by_cases h61 : s[e - 1].toNat = 61
              · have hq : ((s[e - 1].toNat : Int) == 61) = true := by rw [h61]; rfl
                have HS : Hid (strip1 s.data.toList e = e - 1) := by
                  unfold Hid strip1; rw [if_pos ⟨he, by rw [← hget]; exact UInt8.toNat_inj.1 h61⟩]
                clear h61 hget
                go_wp2
                go_roundg (2 - (i + 1))
                case measure => have := HG.out; omega
                case rel => exact ⟨⟨i + 1, e - 1, by omega, rfl, by go_num, rfl, by show _ = strip1 _ (stripN _ i _); rw [← HST.out, HS.out], by omega⟩, rfl⟩
              · have hq : ((s[e - 1].toNat : Int) == 61) = false := by rw [beq_eq_false_iff_ne]; omega
                have HS : Hid (strip1 s.data.toList e = e) := by
                  unfold Hid strip1; rw [if_neg]; rintro ⟨_, h⟩; rw [← hget] at h; exact h61 (by rw [h]; rfl)
                clear h61 hget
                go_wp2
                go_roundg (2 - (i + 1))
                case measure => have := HG.out; omega
                case rel => exact ⟨⟨i + 1, e, by omega, rfl, by go_num, rfl, by show _ = strip1 _ (stripN _ i _); rw [← HST.out, HS.out], by omega⟩, rfl⟩
            · have HS : Hid (strip1 s.data.toList e = e) := by
                unfold Hid strip1; rw [if_neg]; rintro ⟨h, _⟩; exact he h
              go_wp2
              go_roundg (2 - (i + 1))
              case measure => have := HG.out; omega
              case rel => exact ⟨⟨i + 1, e, by omega, rfl, by go_num, rfl, by show _ = strip1 _ (stripN _ i _); rw [← HST.out, HS.out], by omega⟩, rfl⟩
          · obtain rfl : i = 2 := by omega
            have hfin : en = e := by
              rw [HE.out, if_pos trivial, HST.out]
              simp [stripN]
            subst hfin
            clear HE
            go_wp2
            go_meet
            case rel => exact ⟨rfl, rfl⟩
      · have hen := HE.out
        rw [if_neg h6] at hen
        have hen' : en = s.size := by rw [hen]; simp
        subst hen'
        clear hen HE
        go_wp2
        go_meet
        case rel => exact ⟨rfl, rfl⟩
    case rest =>
      obtain ⟨rfl, rfl⟩ := hcut
      clear HE HB
      have hbl : (s.data.toList.take en).length = en := by rw [List.length_take]; simp; omega
      have HBG : Hid (∀ i (h : i < s.size) (h' : i < (s.data.toList.take en).length), s[i] = (s.data.toList.take en)[i]) := by
        intro i h h'
        rw [List.getElem_take]; rfl
      have HND : Hid (∀ i (h : i < (s.data.toList.take en).length), placeN t (s.data.toList.take en)[i] < 0 → refReadE s.data.toList t en = none) := fun i h hn => refReadE_none _ t en i h hn
      have HYE : Hid ((∀ c ∈ s.data.toList.take en, 0 ≤ placeN t c) → refReadE s.data.toList t en = refFin t (regroup t 8 (placesN t (s.data.toList.take en)) 0 0)) := by
        intro hall
        unfold refReadE
        rw [if_pos (by simp only [List.all_eq_true, decide_eq_true_eq]; exact hall)]
      generalize s.data.toList.take en = bare at *
      go_wp2_with fail
      go_loopw [8, 9, 10, 11] (fun v8 v9 v10 v11 W => ReadRel w t bare v8 v9 v10 v11 W) (fun _ _ _ v _ => en - (intOf v).toNat)
      case atStart => exact ⟨0, 0, 0, [], rfl, rfl, rfl, by omega, by omega, by simp, by simp, Below.refl _ _, by simp [World.ownsRow], by simp, by simp⟩
      case round =>
        obtain ⟨i, n, m, out, rfl, rfl, rfl, hi, hm, hn, hol, hbel, hown, hall, hreg⟩ := hrel
        have HA := Lib.hid hall
        have HR := Lib.hid hreg
        have HBL := Lib.hid hbl
        clear hall hreg
        have hi' : i ≤ en := by omega
        clear hi hbl
        have hm2 : (2:Nat) ^ m ≤ 2 ^ 7 := Nat.pow_le_pow_right (by omega) (by omega)
        by_cases hlt : i < en
        · have hltb : decide ((i : Int) < (en : Int)) = true := by simp; omega
          have hib : i < bare.length := by rw [HBL.out]; exact hlt
          have his : i < s.size := by omega
          have hP := place_any s[i] t ht wr
          rw [HBG.out i his hib] at hP
          have hpl := placeN_lt t ht bare[i]
          have HBI : Hid ((s[i].toNat : Int) = (bare[i].toNat : Int)) := by unfold Hid; rw [HBG.out i his hib]
          by_cases hp0 : placeN t bare[i] < 0
          · have hnone := HND.out i hib hp0
            have HN := Lib.hid hnone
            clear hnone
            go_wp2_with fail
            rw [HBI.out]
            refine hP.mono ?_
            rintro e w' ⟨rfl, rfl⟩
            go_wp2
            go_ret2
            exact ⟨.slice none 0 0, [], 5, rfl, ⟨none, 0, rfl, .inl rfl⟩, .inl ⟨HN.out, rfl, rfl⟩, hbel⟩
          · have hp0b : decide (placeN t bare[i] < 0) = false := by simpa using hp0
            have HPL : Hid ((placesN t (bare.drop i)) = (placeN t bare[i]).toNat :: placesN t (bare.drop (i + 1))) := by
              unfold Hid placesN
              rw [List.drop_eq_getElem_cons hib, List.map_cons]
            have HAL : Hid (∀ c ∈ bare.take (i + 1), 0 ≤ placeN t c) := by
              intro c hc
              rw [List.take_succ_eq_append_getElem hib] at hc
              rcases List.mem_append.1 hc with hc | hc
              · exact HA.out c hc
              · rw [List.mem_singleton.1 hc]; omega
            obtain ⟨q, hq⟩ := Int.eq_ofNat_of_zero_le (show 0 ≤ placeN t bare[i] by omega)
            rw [hq] at hP hpl hp0 hp0b HPL
            clear hq
            have hq2 : q < 2 ^ t := by exact_mod_cast hpl
            have ht2 : (2:Nat) ^ t ≤ 2 ^ 6 := Nat.pow_le_pow_right (by omega) (by omega)
            go_wp2_with fail
            rw [HBI.out]
            refine hP.mono ?_
            rintro e w' ⟨rfl, rfl⟩
            go_wp2_with fail
            go_loopg [9, 13] t (fun g v9 v13 W => MulRel n t g v9 v13 ∧ wr = W)
            case atStart => exact ⟨⟨0, by omega, by omega, rfl, by simp⟩, rfl⟩
            case round =>
              obtain ⟨⟨k, hk, hg, rfl, rfl⟩, rfl⟩ := hrel
              have HG := Lib.hid hg
              clear hg
              by_cases hkt : k < t
              · have hk2 : (2:Nat) ^ k ≤ 2 ^ 6 := Nat.pow_le_pow_right (by omega) (by omega)
                have hnk : n * 2 ^ k ≤ 127 * 64 := Nat.mul_le_mul (by omega) (by omega)
                have HE : Hid (n * 2 ^ (k + 1) = (n * 2 ^ k) * 2) := by unfold Hid; rw [Nat.pow_succ, Nat.mul_assoc]
                generalize n * 2 ^ k = x at *
                go_wp2
                go_roundg (t - (k + 1))
                case measure => have := HG.out; omega
                case rel => exact ⟨⟨k + 1, by omega, rfl, by go_num, by rw [HE.out]; simp⟩, rfl⟩
              · obtain rfl : k = t := by omega
                have hjl := join_lt n m k q hn hq2
                have hnk : n * 2 ^ k ≤ 127 * 64 := Nat.mul_le_mul (by omega) (by omega)
                have HREG := regroup_cons k 8 q (placesN k (bare.drop (i + 1))) n m
                have HREG' := Lib.hid HREG
                clear HREG
                have HEO : Hid (emitN 8 3 (n * 2 ^ k + q) (m + k) = if 8 ≤ m + k then ([(n * 2 ^ k + q) / 2 ^ (m + k - 8)], (n * 2 ^ k + q) % 2 ^ (m + k - 8), m + k - 8) else ([], n * 2 ^ k + q, m + k)) := by
                  unfold Hid
                  by_cases h8 : 8 ≤ m + k
                  · rw [emit_go 8 2 _ _ h8, emit_stop 8 2 _ _ (by omega), if_pos h8]
                  · rw [emit_stop 8 3 _ _ (by omega), if_neg h8]
                by_cases h8 : 8 ≤ m + k
                · rw [if_pos h8] at HEO
                  obtain ⟨mm, hmm⟩ : ∃ mm, mm = m + k - 8 := ⟨_, rfl⟩
                  rw [← hmm] at HEO
                  have HMM : Hid (mm = m + k - 8) := hmm
                  have hmm8 : mm < 8 := by omega
                  have em : ((m : Int) + k - 8) = (mm : Int) := by omega
                  have EM := Lib.hid em
                  have hb8 : decide (8 ≤ (m : Int) + k) = true := by simp; omega
                  have hxx : n * 2 ^ k + q < 2 ^ (8 + mm) := by rw [show 8 + mm = m + k from by omega]; exact hjl
                  have hdv : (n * 2 ^ k + q) / 2 ^ mm < 2 ^ 8 := by
                    rw [Nat.div_lt_iff_lt_mul (Nat.two_pow_pos _), ← Nat.pow_add]; exact hxx
                  clear em hmm
                  generalize n * 2 ^ k = x at *
                  go_wp2_with fail
                  rw [EM.out]
                  go_loopg [14, 15] mm (fun g v14 v15 W => PowRel mm g v14 v15 ∧ wr = W)
                  case atStart => exact ⟨⟨0, by omega, by omega, rfl, by simp⟩, rfl⟩
                  case round =>
                    obtain ⟨⟨kk, hkk, hg, rfl, rfl⟩, rfl⟩ := hrel
                    have HG := Lib.hid hg
                    clear hg
                    by_cases hkm : kk < mm
                    · have hk2 : (2:Nat) ^ kk ≤ 2 ^ 8 := Nat.pow_le_pow_right (by omega) (by omega)
                      have HE : Hid (2 ^ (kk + 1) = 2 ^ kk * 2) := Nat.pow_succ _ _
                      generalize 2 ^ kk = y at *
                      go_wp2
                      go_roundg (mm - (kk + 1))
                      case measure => have := HG.out; omega
                      case rel => exact ⟨⟨kk + 1, by omega, rfl, by go_num, by rw [HE.out]; simp⟩, rfl⟩
                    · obtain rfl : kk = mm := by omega
                      have hd0 : 0 < 2 ^ kk := Nat.two_pow_pos kk
                      have hml := Nat.mod_lt (x + q) hd0
                      have hk2 : (2:Nat) ^ kk ≤ 2 ^ 8 := Nat.pow_le_pow_right (by omega) (by omega)
                      have ediv : (((x : Int) + q) / ((2 ^ kk : Nat) : Int)) = (((x + q) / 2 ^ kk : Nat) : Int) := by simp
                      have emod : (((x : Int) + q) % ((2 ^ kk : Nat) : Int)) = (((x + q) % 2 ^ kk : Nat) : Int) := by simp
                      have HD := Lib.hid ediv
                      have HM := Lib.hid emod
                      have HML := Lib.hid hml
                      clear ediv emod hml hxx hjl
                      generalize hdd : 2 ^ kk = d at *
                      have HDD := Lib.hid hdd
                      clear hdd
                      go_wp2_with (at_builtin; go_must (refine app_byte rfl _ _ rfl w.heap.size _ _ _ rfl (hown.alloc _) ⟨wr.heap.size, 0, none⟩ 1 (.int .u8 (((x : Int) + q) / d % 256)) rfl ?_ rfl ?_ ?_ ?_; exact new_cell _ _ _; omega; (rw [World.size_alloc]; exact Nat.le_succ_of_le hbel.size); intro g cap2 w' hown' hgr))
                      go_roundw
                      case rel =>
                        have hw : w.heap.size ≤ (wr.alloc (.cells #[.int .u8 (((x : Int) + q) / d % 256)] 5)).heap.size := by rw [World.size_alloc]; exact Nat.le_succ_of_le hbel.size
                        have eb : (((x : Int) + q) / d % 256) = (((x + q) / d : Nat) : Int) := by
                          rw [HD.out]; generalize (x + q) / d = z at *; omega
                        have HKK := HDD.out
                        refine ⟨i + 1, (x + q) % d, kk, out ++ [(x + q) / d], by go_num, rfl, by rw [HM.out], by omega, hmm8, by rw [HKK]; exact HML.out, by simp; omega, (hbel.alloc hbel.size _).grown hgr hw (own_base hown), ?_, HAL.out, ?_⟩
                        · rw [eb] at hown'
                          simpa using hown'
                        · rw [HR.out, HPL.out]
                          rw [show ((q : Nat) : Int).toNat = q from rfl, HREG'.out, HEO.out]
                          simp
                      case measure => simp [intOf]; omega
                · rw [if_neg h8] at HEO
                  have hx : n * 2 ^ k + q < 2 ^ 7 := Nat.lt_of_lt_of_le hjl (Nat.pow_le_pow_right (by omega) (by omega))
                  generalize n * 2 ^ k = x at *
                  go_wp2
                  go_roundw
                  case rel =>
                    refine ⟨i + 1, x + q, m + k, out, by go_num, by simp, by simp, by omega, by omega, hjl, by omega, hbel, hown, HAL.out, ?_⟩
                    rw [HR.out, HPL.out]
                    rw [show ((q : Nat) : Int).toNat = q from rfl, HREG'.out, HEO.out]
                    simp
                  case measure => simp [intOf]; omega
        · obtain rfl : i = en := by omega
          have hdr : bare.drop i = [] := by rw [← HBL.out]; simp
          have hreg := HR.out
          rw [hdr] at hreg
          simp only [placesN, List.map_nil, regroup, List.append_nil] at hreg
          have hye := HYE.out (by
            intro c hc
            refine HA.out c ?_
            rw [List.take_of_length_le (by rw [HBL.out]; exact Nat.le_refl _)]
            exact hc)
          simp only [placesN] at hye
          rw [hreg] at hye
          simp only [refFin] at hye
          have HYY := Lib.hid hye
          clear hye hreg hdr
          by_cases htm : t ≤ m
          · have hbm : decide ((t : Int) ≤ m) = true := by simp; omega
            go_wp2
            go_ret2
            exact ⟨.slice none 0 0, [], 5, rfl, ⟨none, 0, rfl, .inl rfl⟩, .inl ⟨by rw [HYY.out, if_pos (.inl htm)], rfl, rfl⟩, hbel⟩
          · have hbm : decide ((t : Int) ≤ m) = false := by simp; omega
            by_cases hn0 : n = 0
            · subst hn0
              go_wp2
              go_ret2
              exact ⟨_, out, 0, rfl, Bytes.of_owns rfl hown, .inr ⟨by rw [HYY.out, if_neg (by omega)], rfl⟩, hbel⟩
            · have hbn : ((n : Int) != 0) = true := by rw [bne_iff_ne]; omega
              go_wp2
              go_ret2
              exact ⟨.slice none 0 0, [], 5, rfl, ⟨none, 0, rfl, .inl rfl⟩, .inl ⟨by rw [HYY.out, if_pos (.inr hn0)], rfl, rfl⟩, hbel⟩
end Go.Proofs.YthnohioamefbmaaDoor
