/- list's reader: its method member, the inner members by their contract. -/
import Derived.Test.YtffngbjnbigipaaGreatDoorRAngle
namespace Go.Proofs.YtffngbjnbigipaaGreatDoor
open Go.RowKit Go.Lib
set_option linter.unusedSimpArgs false
set_option linter.unusedVariables false
set_option linter.unnecessarySimpa false
set_option maxRecDepth 100000

theorem own_lift {B : Nat} {w W V : World} (h : But B w W) (hl : B < w.heap.size) (k : Below B W V) : Below B w V := (h.low (Nat.le_of_lt hl)).trans k
/-- what the loop over the words comes to, as its head has it. -/
def WordsRel (B : Nat) (s : ByteArray) (v : Value) (g : Bool) (fr : Nat) (R : Option (Nat × Nat × Nat)) (w : World) (n : Nat) (v5 v6 v7 : Value) (W : World) : Prop :=
  But B w W ∧
  ((∃ (f i many e : Nat) (ap : Bool), v5 = .int .i64 (many : Int) ∧ v6 = .bool ap ∧ (0 < many → ap = decide (e < i)) ∧ i ≤ s.size ∧ n = s.size + 1 - i ∧ wordsE f s.data.toList i many e = R ∧ RS B s i v false g W ∧ s.size - i < f ∧ e ≤ i ∧ fr + many ≤ i) ∨
   (∃ (many : Nat) (ap : Bool), v5 = .int .i64 (many : Int) ∧ v6 = .bool ap ∧ n = 0 ∧ R = none ∧ RW B s W))
theorem word_64 {l : List UInt8} {i : Nat} (h : l[i]? = some 64) : wordE l i = some i := by
  unfold wordE
  rw [if_neg (by rw [h]; decide)]
  have hlt := at_lt h
  rw [List.drop_eq_getElem_cons hlt]
  have : l[i] = 64 := by rw [List.getElem?_eq_getElem hlt] at h; exact Option.some.inj h
  rw [tw_no _ _ _ (by rw [this]; decide)]
  rfl
theorem afterE_64 {inn : Nat → LSt → Option (Nat × LSt)} {within : Bool} {l : List UInt8} {fr i m e : Nat} {st : LSt} (h : l[i]? = some 64) : afterE inn within l fr i m e st = if m = 1 ∧ e = i then addrE l fr i st else none := by
  unfold afterE; rw [if_pos h]
theorem afterE_60 {inn : Nat → LSt → Option (Nat × LSt)} {within : Bool} {l : List UInt8} {fr i m e : Nat} {st : LSt} (h : l[i]? = some 60) : afterE inn within l fr i m e st = angleE l (i + 1) st := by
  unfold afterE; rw [if_neg (by rw [h]; decide), if_pos h]
theorem afterE_58 {inn : Nat → LSt → Option (Nat × LSt)} {within : Bool} {l : List UInt8} {fr i m e : Nat} {st : LSt} (h : l[i]? = some 58) (hm : 0 < m) (hw : within = false) : afterE inn within l fr i m e st = inn (i + 1) st := by
  unfold afterE; rw [if_neg (by rw [h]; decide), if_neg (by rw [h]; decide), if_pos ⟨h, hm, hw⟩]
theorem afterE_no {inn : Nat → LSt → Option (Nat × LSt)} {within : Bool} {l : List UInt8} {fr i m e : Nat} {st : LSt} (h1 : l[i]? ≠ some 64) (h2 : l[i]? ≠ some 60) (h3 : ¬ (l[i]? = some 58 ∧ 0 < m ∧ within = false)) : afterE inn within l fr i m e st = if 0 < m then none else some (i, st) := by
  unfold afterE; rw [if_neg h1, if_neg h2, if_neg h3]
set_option maxHeartbeats 8000000 in
theorem member_any (within : Bool) (inn : Nat → LSt → Option (Nat × LSt)) (B : Nat) (s : ByteArray) (k : Nat) (st : LSt) (w : World) (h : RZ B s k st w) (hk : k ≤ s.size) (hs : s.size ≤ 900000000) (hE : Env w) (hB : 8 ≤ B) (hst : st.1.length ≤ k)
    (hinn : within = false → inn = innerE s.data.toList)
    (hin : within = false → ∀ (W : World) (k : Nat), st.1.length ≤ k → RZ B s k st W → k ≤ s.size → Env W → Calls Tryz.prog 36 #[.pointer (some ⟨B, 0, none⟩), .bool true] W fun e w' => e = .returned (.tuple #[]) ∧ AngP B s (memsT s.data.toList k st) w' ∧ Below B W w') :
    Calls Tryz.prog 73 #[.pointer (some ⟨B, 0, none⟩), .bool within] w fun e w' => e = .returned (.tuple #[]) ∧ AngP B s (memE inn within s.data.toList k st) w' ∧ Below B w w' := by
  have hEB : 8 ≤ B := hB
  obtain ⟨v, h, hown⟩ := h
  obtain ⟨sp, g⟩ := st
  simp only at h hown hst
  have hst2 : sp.length ≤ 1000000000000 := by omega
  have hBlt := h.lt
  have HO := Lib.hid hown
  have HE := Lib.hid hE
  have HIN := Lib.hid hin
  have HINN := Lib.hid hinn
  clear hown hE hin hinn
  have hR : memE inn within s.data.toList k (sp, g) = memE inn within s.data.toList k (sp, g) := rfl
  conv at hR => rhs; unfold memE
  generalize memE inn within s.data.toList k (sp, g) = R at hR ⊢
  split at hR
  · rename_i hbl0
    have HB0 := Lib.hid (blank_none B s k v g w h hk (by omega) hbl0)
    have HRN := Lib.hid hR
    clear h hR
    go_enter Tryz.func73, Tryz.ntmps73
    go_wp2_with fail
    refine HB0.out.mono ?_
    rintro e w1 ⟨rfl, hr1, hb1⟩
    have H1 := Lib.hid hr1
    obtain ⟨k1, v1, l1, -, hq1⟩ := hr1
    have c1 := hq1.c1
    clear hq1
    go_wp2_with fail
    go_loopg [5, 6, 7] 0 (fun n v5 v6 v7 W => n = 0 ∧ RW B s W ∧ But B w W)
    case atStart => exact ⟨rfl, H1.out, hb1⟩
    case round =>
      obtain ⟨-, hw, hb⟩ := hrel
      have HW := Lib.hid hw
      have HB := Lib.hid hb
      clear hw hb
      have HI101 := Lib.hid (next_wrong' B s _ HW.out)
      go_wp2_with fail
      refine HI101.out.mono ?_
      rintro e w101 ⟨rfl, hr101, hb101⟩
      have H101 := Lib.hid hr101
      clear hr101
      have HI102 := Lib.hid (word_wrong B s _ H101.out)
      go_wp2_with fail
      refine HI102.out.mono ?_
      rintro e w102 ⟨rfl, hr102, hb102⟩
      have H102 := Lib.hid hr102
      clear hr102
      have HI103 := Lib.hid (next_wrong' B s _ H102.out)
      go_wp2_with fail
      refine HI103.out.mono ?_
      rintro e w103 ⟨rfl, hr103, hb103⟩
      have H103 := Lib.hid hr103
      clear hr103
      have c3w := H103.out
      obtain ⟨kq, vq, lq, -, hq⟩ := c3w
      have c3 := hq.c3
      clear hq
      have HI104 := Lib.hid (blank_wrong' B s _ H103.out)
      go_wp2_with fail
      refine HI104.out.mono ?_
      rintro e w104 ⟨rfl, hr104, hb104⟩
      have H104 := Lib.hid hr104
      clear hr104
      have hl104 := (((HB.out.trans hb101).trans hb102).trans hb103).low (Nat.le_of_lt hBlt)
      have hlow104 := hl104.trans (hb104.low (Nat.le_trans (Nat.le_of_lt hBlt) hl104.size))
      go_wp2
      go_end0
      rw [HRN.out]
      exact ⟨rfl, H104.out, hlow104⟩
  · rename_i fr hbl0
    have hfr := blankE_le (by rw [list_len]; exact hk) hbl0
    rw [list_len] at hfr
    have HB0 := Lib.hid (blank_some B s k fr v g w h hk (by omega) hbl0)
    have HWD := Lib.hid (show wordsE (s.data.toList.length + 1) s.data.toList fr 0 fr = wordsE (s.data.toList.length + 1) s.data.toList fr 0 fr from rfl)
    have hWL : ∀ i m e, wordsE (s.data.toList.length + 1) s.data.toList fr 0 fr = some (i, m, e) → R = lastE s.data.toList (afterE inn within s.data.toList fr i m e (sp, g)) := by
      intro i m e he
      rw [hR, he]
    have hWN : wordsE (s.data.toList.length + 1) s.data.toList fr 0 fr = none → R = none := by
      intro he
      rw [hR, he]
    generalize hX : wordsE (s.data.toList.length + 1) s.data.toList fr 0 fr = X at hWL hWN HWD
    have HX := Lib.hid hX
    have HWL := Lib.hid hWL
    have HWN := Lib.hid hWN
    clear h hR hX hWL hWN HWD
    go_enter Tryz.func73, Tryz.ntmps73
    go_wp2_with fail
    refine HB0.out.mono ?_
    rintro e w1 ⟨rfl, hr1, hb1⟩
    have H1 := Lib.hid hr1
    have HB1 := Lib.hid hb1
    have c1 := hr1.c1
    clear hr1 hb1
    go_wp2_with fail
    go_loopg [5, 6, 7] (s.size + 1 - fr) (fun n v5 v6 v7 W => WordsRel B s v g fr X w n v5 v6 v7 W)
    case atStart => exact ⟨HB1.out, Or.inl ⟨s.data.toList.length + 1, fr, 0, fr, false, rfl, rfl, by omega, hfr.2, rfl, HX.out, H1.out, by rw [list_len]; omega, Nat.le_refl _, by omega⟩⟩
    case round =>
      obtain ⟨hb, ⟨f, i, many, e, ap, rfl, rfl, hap, hi, hn, hX, hr, hf, hei, hfm⟩ | ⟨many, ap, rfl, rfl, hn, hX, hw⟩⟩ := hrel
      · have HB := Lib.hid hb
        have HN0 := Lib.hid hn
        have HF := Lib.hid hf
        have HR := Lib.hid hr
        have HAP := Lib.hid hap
        obtain ⟨f, rfl⟩ : ∃ m, f = m + 1 := ⟨f - 1, by omega⟩
        rw [wordsE] at hX
        have HNX := Lib.hid (next_any B s i v g wr hr hi (by omega))
        clear hn hf hap hb c1
        by_cases h64 : s.data.toList[i]? = some 64
        · rw [word_64 h64] at hX
          simp only [if_true] at hX
          have hRR := HWL.out i many e hX.symm
          rw [afterE_64 h64] at hRR
          rw [nextB_yes h64] at HNX
          have hq : (((64 : UInt8).toNat : Int) != 64) = false := rfl
          have hq1 : (((64 : UInt8).toNat : Int) == 64) = true := rfl
          have hq2 : (((64 : UInt8).toNat : Int) == 60) = false := rfl
          have hq3 : (((64 : UInt8).toNat : Int) == 58) = false := rfl
          have HNY := Lib.hid (fun W (h : RS B s i v false g W) => next_any B s i v g W h hi (by omega))
          rw [nextB_yes h64] at HNY
          clear hX h64 hr
          go_wp2_with fail
          refine HNX.out.mono ?_
          rintro e w2 ⟨rfl, hb2⟩
          have HS2 := Lib.hid (HR.out.below hb2)
          go_wp2_with fail
          refine (HNY.out _ HS2.out).mono ?_
          rintro e w3 ⟨rfl, hb3⟩
          have HS3 := Lib.hid (HS2.out.below hb3)
          have hb13 := (HB.out.trans (But.of_below hb2)).trans (But.of_below hb3)
          have HB13 := Lib.hid hb13
          have c3 := HS3.out.c3
          clear hb13
          by_cases hm : many = 1
          · by_cases he : e = i
            · have hap1 := HAP.out (by omega)
              rw [show decide (e < i) = false by simp; omega] at hap1
              subst hap1
              subst hm
              rw [if_pos ⟨rfl, he⟩] at hRR
              have hmq : (((1 : Nat) : Int) == 1) = true := rfl
              have hZ3 : RZ B s i (sp, g) w3 := ⟨v, HS3.out, own_but HO.out HB13.out⟩
              have HZ3 := Lib.hid hZ3
              clear hZ3 he
              cases ha : addrE s.data.toList fr i (sp, g) with
              | none =>
                rw [ha] at hRR
                have HRN := Lib.hid (show R = none by rw [hRR]; rfl)
                clear hRR
                have HI105 := Lib.hid (spot_none B s fr i (sp, g) _ HZ3.out hi hs (HE.out.but HB13.out hEB) hB hst2 (by omega) ha)
                go_wp2_with fail
                refine HI105.out.mono ?_
                rintro e w105 ⟨rfl, hr105, hb105⟩
                have H105 := Lib.hid hr105
                clear hr105
                have HI106 := Lib.hid (blank_wrong' B s _ H105.out)
                go_wp2_with fail
                refine HI106.out.mono ?_
                rintro e w106 ⟨rfl, hr106, hb106⟩
                have H106 := Lib.hid hr106
                clear hr106
                have hl106 := own_lift HB13.out hBlt hb105
                have hlow106 := hl106.trans (hb106.low (Nat.le_trans (Nat.le_of_lt hBlt) hl106.size))
                go_wp2
                go_end0
                rw [HRN.out]
                exact ⟨rfl, H106.out, hlow106⟩
              | some x =>
                obtain ⟨n, st'⟩ := x
                rw [ha] at hRR
                have hnl := (addrE_le ha).2.2
                rw [list_len] at hnl
                have HRN := Lib.hid hRR
                clear hRR
                have HI107 := Lib.hid (spot_some B s fr i n (sp, g) st' _ HZ3.out hs (HE.out.but HB13.out hEB) hB hst2 ha)
                go_wp2_with fail
                refine HI107.out.mono ?_
                rintro e w107 ⟨rfl, hr107, hb107⟩
                have H107 := Lib.hid hr107
                clear hr107
                obtain ⟨v', hq, ho⟩ := H107.out
                have HS9 := Lib.hid hq
                have HO9 := Lib.hid ho
                clear hq ho
                cases hbl : blankE s.data.toList n with
                | none =>
                  have HI108 := Lib.hid (blank_none B s n v' st'.2 _ HS9.out hnl (by omega) hbl)
                  go_wp2_with fail
                  refine HI108.out.mono ?_
                  rintro e w108 ⟨rfl, hr108, hb108⟩
                  have H108 := Lib.hid hr108
                  clear hr108
                  have hl108 := own_lift HB13.out hBlt hb107
                  have hlow108 := hl108.trans (hb108.low (Nat.le_trans (Nat.le_of_lt hBlt) hl108.size))
                  go_wp2
                  go_end0
                  refine ⟨rfl, ?_, hlow108⟩
                  rw [HRN.out]
                  simp only [lastE]
                  rw [hbl]
                  exact H108.out
                | some kl =>
                  have HI109 := Lib.hid (blank_some B s n kl v' st'.2 _ HS9.out hnl (by omega) hbl)
                  go_wp2_with fail
                  refine HI109.out.mono ?_
                  rintro e w109 ⟨rfl, hr109, hb109⟩
                  have H109 := Lib.hid hr109
                  clear hr109
                  have hl109 := own_lift HB13.out hBlt hb107
                  have hlow109 := hl109.trans (hb109.low (Nat.le_trans (Nat.le_of_lt hBlt) hl109.size))
                  go_wp2
                  go_end0
                  refine ⟨rfl, ?_, hlow109⟩
                  rw [HRN.out]
                  simp only [lastE]
                  rw [hbl]
                  exact ⟨v', H109.out, own_but HO9.out hb109⟩
            · have hap1 := HAP.out (by omega)
              rw [show decide (e < i) = true by simp; omega] at hap1
              subst hap1
              subst hm
              rw [if_neg (fun h => he h.2)] at hRR
              have HRN := Lib.hid (show R = none by rw [hRR]; rfl)
              have hmq : (((1 : Nat) : Int) == 1) = true := rfl
              have hmg : (0 : Int) < ((1 : Nat) : Int) := by omega
              clear hRR he
              have HI110 := Lib.hid (fail_wrong B s i v false g _ HS3.out hi)
              go_wp2_with fail
              refine HI110.out.mono ?_
              rintro e w110 ⟨rfl, hr110, hb110⟩
              have H110 := Lib.hid hr110
              clear hr110
              have HI111 := Lib.hid (blank_wrong' B s _ H110.out)
              go_wp2_with fail
              refine HI111.out.mono ?_
              rintro e w111 ⟨rfl, hr111, hb111⟩
              have H111 := Lib.hid hr111
              clear hr111
              have hl111 := (HB13.out.trans hb110).low (Nat.le_of_lt hBlt)
              have hlow111 := hl111.trans (hb111.low (Nat.le_trans (Nat.le_of_lt hBlt) hl111.size))
              go_wp2
              go_end0
              rw [HRN.out]
              exact ⟨rfl, H111.out, hlow111⟩
          · rw [if_neg (fun h => hm h.1)] at hRR
            have HRN := Lib.hid (show R = none by rw [hRR]; rfl)
            have hmq : ((many : Int) == 1) = false := by rw [beq_eq_false_iff_ne]; omega
            clear hRR hm
            by_cases hm0 : 0 < many
            · have hmg : (0 : Int) < (many : Int) := by omega
              have HI112 := Lib.hid (fail_wrong B s i v false g _ HS3.out hi)
              go_wp2_with fail
              refine HI112.out.mono ?_
              rintro e w112 ⟨rfl, hr112, hb112⟩
              have H112 := Lib.hid hr112
              clear hr112
              have HI113 := Lib.hid (blank_wrong' B s _ H112.out)
              go_wp2_with fail
              refine HI113.out.mono ?_
              rintro e w113 ⟨rfl, hr113, hb113⟩
              have H113 := Lib.hid hr113
              clear hr113
              have hl113 := (HB13.out.trans hb112).low (Nat.le_of_lt hBlt)
              have hlow113 := hl113.trans (hb113.low (Nat.le_trans (Nat.le_of_lt hBlt) hl113.size))
              go_wp2
              go_end0
              rw [HRN.out]
              exact ⟨rfl, H113.out, hlow113⟩
            · have hmg : ¬ (0 : Int) < (many : Int) := by omega
              have HI114 := Lib.hid (fail_wrong B s i v false g _ HS3.out hi)
              go_wp2_with fail
              refine HI114.out.mono ?_
              rintro e w114 ⟨rfl, hr114, hb114⟩
              have H114 := Lib.hid hr114
              clear hr114
              have HI115 := Lib.hid (blank_wrong' B s _ H114.out)
              go_wp2_with fail
              refine HI115.out.mono ?_
              rintro e w115 ⟨rfl, hr115, hb115⟩
              have H115 := Lib.hid hr115
              clear hr115
              have hl115 := (HB13.out.trans hb114).low (Nat.le_of_lt hBlt)
              have hlow115 := hl115.trans (hb115.low (Nat.le_trans (Nat.le_of_lt hBlt) hl115.size))
              go_wp2
              go_end0
              rw [HRN.out]
              exact ⟨rfl, H115.out, hlow115⟩
        · have hnq : ((nextB s.data.toList i : Int) != 64) = true := by have := int_ne (nextB_no h64 (by decide)); simpa [bne] using this
          split at hX
          · -- no word: wrong
            rename_i hwn
            have HRN := Lib.hid (HWN.out hX.symm)
            generalize nextB s.data.toList i = nb at HNX hnq
            clear hX hr h64
            go_wp2_with fail
            refine HNX.out.mono ?_
            rintro e w2 ⟨rfl, hb2⟩
            have HS2 := Lib.hid (HR.out.below hb2)
            have HI116 := Lib.hid (word_none B s i v g _ HS2.out hi (by omega) hwn)
            go_wp2_with fail
            refine HI116.out.mono ?_
            rintro e w116 ⟨rfl, hr116, hb116⟩
            have H116 := Lib.hid hr116
            clear hr116
            have HI117 := Lib.hid (next_wrong' B s _ H116.out)
            go_wp2_with fail
            refine HI117.out.mono ?_
            rintro e w117 ⟨rfl, hr117, hb117⟩
            have H117 := Lib.hid hr117
            clear hr117
            obtain ⟨kq, vq, lq, -, hq⟩ := H117.out
            have c3 := hq.c3
            clear hq
            have HI118 := Lib.hid (blank_wrong' B s _ H117.out)
            go_wp2_with fail
            refine HI118.out.mono ?_
            rintro e w118 ⟨rfl, hr118, hb118⟩
            have H118 := Lib.hid hr118
            clear hr118
            have hl118 := (((HB.out.trans (But.of_below hb2)).trans hb116).trans hb117).low (Nat.le_of_lt hBlt)
            have hlow118 := hl118.trans (hb118.low (Nat.le_trans (Nat.le_of_lt hBlt) hl118.size))
            go_wp2
            go_end0
            rw [HRN.out]
            exact ⟨rfl, H118.out, hlow118⟩
          · rename_i ke hwn
            have hke := wordE_le (by rw [list_len]; exact hi) hwn
            rw [list_len] at hke
            have HWS := Lib.hid (fun W (h : RS B s i v false g W) (hE : Env W) => word_some B s i ke v g W h hi (by omega) hE hB hwn)
            split at hX
            · -- the words end
              rename_i hki
              subst hki
              have hRR := HWL.out ke many e hX.symm
              have hdk : decide (ke < ke) = false := by simp
              have HNY := Lib.hid (fun W (h : RS B s ke v false g W) => next_any B s ke v g W h hi (by omega))
              have hnb := nextB_no (l := s.data.toList) (k := ke) (c := 60)
              have hnb8 := nextB_no (l := s.data.toList) (k := ke) (c := 58)
              have hnby := fun (c : UInt8) (h : s.data.toList[ke]? = some c) => nextB_yes h
              generalize hNB : nextB s.data.toList ke = nb at HNX HNY hnq hnb hnb8 hnby
              have hn64 : ((nb : Int) == 64) = false := by have := hnq; simpa [bne] using this
              have HNB := Lib.hid hnb
              have HNB8 := Lib.hid hnb8
              have HNBY := Lib.hid hnby
              clear hX hr hNB hnb hnb8 hnby
              go_wp2_with fail
              refine HNX.out.mono ?_
              rintro e w2 ⟨rfl, hb2⟩
              have HS2 := Lib.hid (HR.out.below hb2)
              have hbb2 := HB.out.trans (But.of_below hb2)
              go_wp2_with fail
              refine (HWS.out _ HS2.out (HE.out.but hbb2 hEB)).mono ?_
              rintro e w3 ⟨rfl, hr3, hb3⟩
              have HS3 := Lib.hid hr3
              clear hr3
              have hbb3 := hbb2.trans hb3
              go_wp2_with fail
              refine (HNY.out _ HS3.out).mono ?_
              rintro e w4 ⟨rfl, hb4⟩
              have HS4 := Lib.hid (HS3.out.below hb4)
              have HB4 := Lib.hid (hbb3.trans (But.of_below hb4))
              have c3 := HS4.out.c3
              have c1 := HS4.out.c1
              have f1 := HS4.out.fr 1 (by decide)
              have hZ4 : RZ B s ke (sp, g) w4 := ⟨v, HS4.out, own_but HO.out HB4.out⟩
              have HZ4 := Lib.hid hZ4
              clear hZ4 hbb2 hbb3 hb2 hb3 hb4
              by_cases h60 : s.data.toList[ke]? = some 60
              · have hnv := HNBY.out 60 h60
                subst hnv
                rw [afterE_60 h60] at hRR
                have hq2 : (((60 : UInt8).toNat : Int) == 60) = true := rfl
                have HAN := Lib.hid (angle_any B s ke (sp, g) w4 HZ4.out hs (HE.out.but HB4.out hEB) hB hst2 h60)
                have hkl := at_lt h60
                rw [list_len] at hkl
                cases ha : angleE s.data.toList (ke + 1) (sp, g) with
                | none =>
                  rw [ha] at hRR HAN
                  simp only [AngP] at HAN
                  have HRN := Lib.hid (show R = none by rw [hRR]; rfl)
                  clear hRR h60 h64
                  have HI119 := Lib.hid (HAN.out)
                  go_wp2_with fail
                  refine HI119.out.mono ?_
                  rintro e w119 ⟨rfl, hr119, hb119⟩
                  have H119 := Lib.hid hr119
                  clear hr119
                  have HI120 := Lib.hid (blank_wrong' B s _ H119.out)
                  go_wp2_with fail
                  refine HI120.out.mono ?_
                  rintro e w120 ⟨rfl, hr120, hb120⟩
                  have H120 := Lib.hid hr120
                  clear hr120
                  have hl120 := own_lift HB4.out hBlt hb119
                  have hlow120 := hl120.trans (hb120.low (Nat.le_trans (Nat.le_of_lt hBlt) hl120.size))
                  go_wp2
                  go_end0
                  rw [HRN.out]
                  exact ⟨rfl, H120.out, hlow120⟩
                | some x =>
                  obtain ⟨n, st'⟩ := x
                  rw [ha] at hRR HAN
                  simp only [AngP] at HAN
                  have hnl := (angleE_le (by rw [list_len]; omega) ha).2
                  rw [list_len] at hnl
                  have HRN := Lib.hid hRR
                  clear hRR h60 h64
                  have HI121 := Lib.hid (HAN.out)
                  go_wp2_with fail
                  refine HI121.out.mono ?_
                  rintro e w121 ⟨rfl, hr121, hb121⟩
                  have H121 := Lib.hid hr121
                  clear hr121
                  obtain ⟨v', hq, ho⟩ := H121.out
                  have HS9 := Lib.hid hq
                  have HO9 := Lib.hid ho
                  clear hq ho
                  cases hbl : blankE s.data.toList n with
                  | none =>
                    have HI122 := Lib.hid (blank_none B s n v' st'.2 _ HS9.out hnl (by omega) hbl)
                    go_wp2_with fail
                    refine HI122.out.mono ?_
                    rintro e w122 ⟨rfl, hr122, hb122⟩
                    have H122 := Lib.hid hr122
                    clear hr122
                    have hl122 := own_lift HB4.out hBlt hb121
                    have hlow122 := hl122.trans (hb122.low (Nat.le_trans (Nat.le_of_lt hBlt) hl122.size))
                    go_wp2
                    go_end0
                    refine ⟨rfl, ?_, hlow122⟩
                    rw [HRN.out]
                    simp only [lastE]
                    rw [hbl]
                    exact H122.out
                  | some kl =>
                    have HI123 := Lib.hid (blank_some B s n kl v' st'.2 _ HS9.out hnl (by omega) hbl)
                    go_wp2_with fail
                    refine HI123.out.mono ?_
                    rintro e w123 ⟨rfl, hr123, hb123⟩
                    have H123 := Lib.hid hr123
                    clear hr123
                    have hl123 := own_lift HB4.out hBlt hb121
                    have hlow123 := hl123.trans (hb123.low (Nat.le_trans (Nat.le_of_lt hBlt) hl123.size))
                    go_wp2
                    go_end0
                    refine ⟨rfl, ?_, hlow123⟩
                    rw [HRN.out]
                    simp only [lastE]
                    rw [hbl]
                    exact ⟨v', H123.out, own_but HO9.out hb123⟩
              · have hq2 : ((nb : Int) == 60) = false := int_ne (HNB.out h60 (by decide))
                by_cases h58 : s.data.toList[ke]? = some 58 ∧ 0 < many ∧ within = false
                · obtain ⟨h58, hm0, hwi⟩ := h58
                  have hnv := HNBY.out 58 h58
                  subst hnv
                  subst hwi
                  rw [afterE_58 h58 hm0 rfl, HINN.out rfl] at hRR
                  have hq3 : (((58 : UInt8).toNat : Int) == 58) = true := rfl
                  have hmg : (0 : Int) < (many : Int) := by omega
                  have hkl := at_lt h58
                  rw [list_len] at hkl
                  have hwr : IntKind.i64.wrap ((ke : Int) + 1) = ((ke + 1 : Nat) : Int) := by rw [IntKind.wrap_i64]; omega
                  have HME := Lib.hid (fun W (h : RZ B s (ke + 1) (sp, g) W) (hE : Env W) => HIN.out rfl W (ke + 1) (by show sp.length ≤ ke + 1; omega) h hkl hE)
                  unfold innerE at hRR
                  have HS5 := Lib.hid (HS4.out.at_ (ke + 1))
                  have HB5 := Lib.hid (HB4.out.set 1 (.int .i64 ((ke + 1 : Nat) : Int)))
                  cases ha : memsT s.data.toList (ke + 1) (sp, g) with
                  | none =>
                    rw [ha] at hRR HME
                    simp only [AngP] at HME
                    have HRN := Lib.hid (show R = none by rw [hRR]; rfl)
                    clear hRR h60 h64 h58
                    go_wp2_with fail
                    refine (HME.out _ ⟨v, HS5.out, own_but HO.out HB5.out⟩ (HE.out.but HB5.out hEB)).mono ?_
                    rintro e w6 ⟨rfl, hr6, hb6⟩
                    have H6 := Lib.hid hr6
                    clear hr6
                    have HI124 := Lib.hid (must_wrong B s 59 _ H6.out)
                    go_wp2_with fail
                    refine HI124.out.mono ?_
                    rintro e w124 ⟨rfl, hr124, hb124⟩
                    have H124 := Lib.hid hr124
                    clear hr124
                    have HI125 := Lib.hid (blank_wrong' B s _ H124.out)
                    go_wp2_with fail
                    refine HI125.out.mono ?_
                    rintro e w125 ⟨rfl, hr125, hb125⟩
                    have H125 := Lib.hid hr125
                    clear hr125
                    have hl125 := own_lift HB5.out hBlt (hb6.trans (hb124.low (Nat.le_trans (Nat.le_of_lt HS5.out.lt) hb6.size)))
                    have hlow125 := hl125.trans (hb125.low (Nat.le_trans (Nat.le_of_lt hBlt) hl125.size))
                    go_wp2
                    go_end0
                    rw [HRN.out]
                    exact ⟨rfl, H125.out, hlow125⟩
                  | some x =>
                    obtain ⟨n, st'⟩ := x
                    rw [ha] at hRR HME
                    simp only [AngP] at HME
                    have hnl := (memsT_le s.data.toList _ _ _ _ (by rw [list_len]; omega) ha).2
                    rw [list_len] at hnl
                    by_cases h59 : s.data.toList[n]? = some 59
                    · simp only [if_pos h59] at hRR
                      have HRN := Lib.hid hRR
                      clear hRR h60 h64 h58
                      go_wp2_with fail
                      refine (HME.out _ ⟨v, HS5.out, own_but HO.out HB5.out⟩ (HE.out.but HB5.out hEB)).mono ?_
                      rintro e w6 ⟨rfl, hr6, hb6⟩
                      obtain ⟨v', hq, ho⟩ := hr6
                      have HS9 := Lib.hid hq
                      have HO9 := Lib.hid ho
                      clear hq ho
                      have HI126 := Lib.hid (must_at B s n v' st'.2 59 _ HS9.out (by omega) h59)
                      go_wp2_with fail
                      refine HI126.out.mono ?_
                      rintro e w126 ⟨rfl, hr126, hb126⟩
                      have H126 := Lib.hid hr126
                      clear hr126
                      have hnl2 := at_lt h59
                      rw [list_len] at hnl2
                      cases hbl : blankE s.data.toList (n + 1) with
                      | none =>
                        have HI127 := Lib.hid (blank_none B s (n + 1) v' st'.2 _ H126.out hnl2 (by omega) hbl)
                        go_wp2_with fail
                        refine HI127.out.mono ?_
                        rintro e w127 ⟨rfl, hr127, hb127⟩
                        have H127 := Lib.hid hr127
                        clear hr127
                        have hl127 := own_lift HB5.out hBlt (hb6.trans (hb126.low (Nat.le_of_lt HS9.out.lt)))
                        have hlow127 := hl127.trans (hb127.low (Nat.le_trans (Nat.le_of_lt hBlt) hl127.size))
                        go_wp2
                        go_end0
                        refine ⟨rfl, ?_, hlow127⟩
                        rw [HRN.out]
                        simp only [lastE]
                        rw [hbl]
                        exact H127.out
                      | some kl =>
                        have HI128 := Lib.hid (blank_some B s (n + 1) kl v' st'.2 _ H126.out hnl2 (by omega) hbl)
                        go_wp2_with fail
                        refine HI128.out.mono ?_
                        rintro e w128 ⟨rfl, hr128, hb128⟩
                        have H128 := Lib.hid hr128
                        clear hr128
                        have hl128 := own_lift HB5.out hBlt (hb6.trans (hb126.low (Nat.le_of_lt HS9.out.lt)))
                        have hlow128 := hl128.trans (hb128.low (Nat.le_trans (Nat.le_of_lt hBlt) hl128.size))
                        go_wp2
                        go_end0
                        refine ⟨rfl, ?_, hlow128⟩
                        rw [HRN.out]
                        simp only [lastE]
                        rw [hbl]
                        exact ⟨v', H128.out, own_but (own_but HO9.out hb126) hb128⟩
                    · simp only [if_neg h59] at hRR
                      have HRN := Lib.hid (show R = none by rw [hRR]; rfl)
                      clear hRR h60 h64 h58
                      go_wp2_with fail
                      refine (HME.out _ ⟨v, HS5.out, own_but HO.out HB5.out⟩ (HE.out.but HB5.out hEB)).mono ?_
                      rintro e w6 ⟨rfl, hr6, hb6⟩
                      obtain ⟨v', hq, ho⟩ := hr6
                      have HS9 := Lib.hid hq
                      clear hq ho
                      have HI129 := Lib.hid (must_not B s n v' st'.2 59 _ HS9.out hnl (by omega) h59)
                      go_wp2_with fail
                      refine HI129.out.mono ?_
                      rintro e w129 ⟨rfl, hr129, hb129⟩
                      have H129 := Lib.hid hr129
                      clear hr129
                      have HI130 := Lib.hid (blank_wrong' B s _ H129.out)
                      go_wp2_with fail
                      refine HI130.out.mono ?_
                      rintro e w130 ⟨rfl, hr130, hb130⟩
                      have H130 := Lib.hid hr130
                      clear hr130
                      have hl130 := own_lift HB5.out hBlt (hb6.trans (hb129.low (Nat.le_of_lt HS9.out.lt)))
                      have hlow130 := hl130.trans (hb130.low (Nat.le_trans (Nat.le_of_lt hBlt) hl130.size))
                      go_wp2
                      go_end0
                      rw [HRN.out]
                      exact ⟨rfl, H130.out, hlow130⟩
                · rw [afterE_no h64 h60 h58] at hRR
                  by_cases hm0 : 0 < many
                  · have hmg : (0 : Int) < (many : Int) := by omega
                    rw [if_pos hm0] at hRR
                    have HRN := Lib.hid (show R = none by rw [hRR]; rfl)
                    have HF4 := Lib.hid (fail_wrong B s ke v false g _ HS4.out hi)
                    by_cases h8 : s.data.toList[ke]? = some 58
                    · have hnv := HNBY.out 58 h8
                      subst hnv
                      have hq3 : (((58 : UInt8).toNat : Int) == 58) = true := rfl
                      have hwi : within = true := by
                        cases within with
                        | true => rfl
                        | false => exact absurd ⟨h8, hm0, rfl⟩ h58
                      subst hwi
                      clear hRR h60 h64 h58 h8
                      have HI131 := Lib.hid (HF4.out)
                      go_wp2_with fail
                      refine HI131.out.mono ?_
                      rintro e w131 ⟨rfl, hr131, hb131⟩
                      have H131 := Lib.hid hr131
                      clear hr131
                      have HI132 := Lib.hid (blank_wrong' B s _ H131.out)
                      go_wp2_with fail
                      refine HI132.out.mono ?_
                      rintro e w132 ⟨rfl, hr132, hb132⟩
                      have H132 := Lib.hid hr132
                      clear hr132
                      have hl132 := (HB4.out.trans hb131).low (Nat.le_of_lt hBlt)
                      have hlow132 := hl132.trans (hb132.low (Nat.le_trans (Nat.le_of_lt hBlt) hl132.size))
                      go_wp2
                      go_end0
                      rw [HRN.out]
                      exact ⟨rfl, H132.out, hlow132⟩
                    · have hq3 : ((nb : Int) == 58) = false := int_ne (HNB8.out h8 (by decide))
                      clear hRR h60 h64 h58 h8
                      have HI133 := Lib.hid (HF4.out)
                      go_wp2_with fail
                      refine HI133.out.mono ?_
                      rintro e w133 ⟨rfl, hr133, hb133⟩
                      have H133 := Lib.hid hr133
                      clear hr133
                      have HI134 := Lib.hid (blank_wrong' B s _ H133.out)
                      go_wp2_with fail
                      refine HI134.out.mono ?_
                      rintro e w134 ⟨rfl, hr134, hb134⟩
                      have H134 := Lib.hid hr134
                      clear hr134
                      have hl134 := (HB4.out.trans hb133).low (Nat.le_of_lt hBlt)
                      have hlow134 := hl134.trans (hb134.low (Nat.le_trans (Nat.le_of_lt hBlt) hl134.size))
                      go_wp2
                      go_end0
                      rw [HRN.out]
                      exact ⟨rfl, H134.out, hlow134⟩
                  · have hmg : ¬ (0 : Int) < (many : Int) := by omega
                    rw [if_neg hm0] at hRR
                    have HRN := Lib.hid hRR
                    by_cases h8 : s.data.toList[ke]? = some 58
                    · have hnv := HNBY.out 58 h8
                      subst hnv
                      have hq3 : (((58 : UInt8).toNat : Int) == 58) = true := rfl
                      clear hRR h60 h64 h58 h8
                      cases hbl : blankE s.data.toList ke with
                      | none =>
                        have HI135 := Lib.hid (blank_none B s ke v (sp, g).2 _ HS4.out hi (by omega) hbl)
                        go_wp2_with fail
                        refine HI135.out.mono ?_
                        rintro e w135 ⟨rfl, hr135, hb135⟩
                        have H135 := Lib.hid hr135
                        clear hr135
                        have hl135 := HB4.out.low (Nat.le_of_lt hBlt)
                        have hlow135 := hl135.trans (hb135.low (Nat.le_trans (Nat.le_of_lt hBlt) hl135.size))
                        go_wp2
                        go_end0
                        refine ⟨rfl, ?_, hlow135⟩
                        rw [HRN.out]
                        simp only [lastE]
                        rw [hbl]
                        exact H135.out
                      | some kl =>
                        have HI136 := Lib.hid (blank_some B s ke kl v (sp, g).2 _ HS4.out hi (by omega) hbl)
                        go_wp2_with fail
                        refine HI136.out.mono ?_
                        rintro e w136 ⟨rfl, hr136, hb136⟩
                        have H136 := Lib.hid hr136
                        clear hr136
                        have hl136 := HB4.out.low (Nat.le_of_lt hBlt)
                        have hlow136 := hl136.trans (hb136.low (Nat.le_trans (Nat.le_of_lt hBlt) hl136.size))
                        go_wp2
                        go_end0
                        refine ⟨rfl, ?_, hlow136⟩
                        rw [HRN.out]
                        simp only [lastE]
                        rw [hbl]
                        exact ⟨v, H136.out, own_but (own_but HO.out HB4.out) hb136⟩
                    · have hq3 : ((nb : Int) == 58) = false := int_ne (HNB8.out h8 (by decide))
                      clear hRR h60 h64 h58 h8
                      cases hbl : blankE s.data.toList ke with
                      | none =>
                        have HI137 := Lib.hid (blank_none B s ke v (sp, g).2 _ HS4.out hi (by omega) hbl)
                        go_wp2_with fail
                        refine HI137.out.mono ?_
                        rintro e w137 ⟨rfl, hr137, hb137⟩
                        have H137 := Lib.hid hr137
                        clear hr137
                        have hl137 := HB4.out.low (Nat.le_of_lt hBlt)
                        have hlow137 := hl137.trans (hb137.low (Nat.le_trans (Nat.le_of_lt hBlt) hl137.size))
                        go_wp2
                        go_end0
                        refine ⟨rfl, ?_, hlow137⟩
                        rw [HRN.out]
                        simp only [lastE]
                        rw [hbl]
                        exact H137.out
                      | some kl =>
                        have HI138 := Lib.hid (blank_some B s ke kl v (sp, g).2 _ HS4.out hi (by omega) hbl)
                        go_wp2_with fail
                        refine HI138.out.mono ?_
                        rintro e w138 ⟨rfl, hr138, hb138⟩
                        have H138 := Lib.hid hr138
                        clear hr138
                        have hl138 := HB4.out.low (Nat.le_of_lt hBlt)
                        have hlow138 := hl138.trans (hb138.low (Nat.le_trans (Nat.le_of_lt hBlt) hl138.size))
                        go_wp2
                        go_end0
                        refine ⟨rfl, ?_, hlow138⟩
                        rw [HRN.out]
                        simp only [lastE]
                        rw [hbl]
                        exact ⟨v, H138.out, own_but (own_but HO.out HB4.out) hb138⟩
            · -- one word more
              rename_i hki
              have hdk : decide (i < ke) = true := by simp; omega
              have hwm : IntKind.i64.wrap ((many : Int) + 1) = ((many + 1 : Nat) : Int) := by rw [IntKind.wrap_i64]; omega
              generalize nextB s.data.toList i = nb at HNX hnq
              split at hX
              · rename_i hbn
                have HXN := Lib.hid hX.symm
                clear hX hr h64
                go_wp2_with fail
                refine HNX.out.mono ?_
                rintro e w2 ⟨rfl, hb2⟩
                have HS2 := Lib.hid (HR.out.below hb2)
                have hbb2 := HB.out.trans (But.of_below hb2)
                go_wp2_with fail
                refine (HWS.out _ HS2.out (HE.out.but hbb2 hEB)).mono ?_
                rintro e w3 ⟨rfl, hr3, hb3⟩
                have HS3 := Lib.hid hr3
                have c13 := hr3.c1
                clear hr3
                have hbb3 := hbb2.trans hb3
                go_wp2_with fail
                refine (blank_none B s ke v g _ HS3.out hke.2 (by omega) hbn).mono ?_
                rintro e w4 ⟨rfl, hr4, hb4⟩
                have H4 := Lib.hid hr4
                obtain ⟨kq, vq, lq, hkq, hq⟩ := hr4
                have c14 := hq.c1
                clear hq
                go_wp2_with fail
                go_quiet (fail)
                go_wp2_with fail
                go_roundg 0
                case rel => exact ⟨(hbb3.trans hb4).trans (But.of_below (drewN_below _ _)), Or.inr ⟨many + 1, _, by go_num, rfl, rfl, HXN.out, H4.out.below (drewN_below _ _)⟩⟩
                case measure => have := HN0.out; omega
              · rename_i j hbn
                have hj := blankE_le (by rw [list_len]; exact hke.2) hbn
                rw [list_len] at hj
                have HXN := Lib.hid hX
                clear hX hr h64
                go_wp2_with fail
                refine HNX.out.mono ?_
                rintro e w2 ⟨rfl, hb2⟩
                have HS2 := Lib.hid (HR.out.below hb2)
                have hbb2 := HB.out.trans (But.of_below hb2)
                go_wp2_with fail
                refine (HWS.out _ HS2.out (HE.out.but hbb2 hEB)).mono ?_
                rintro e w3 ⟨rfl, hr3, hb3⟩
                have HS3 := Lib.hid hr3
                have c13 := hr3.c1
                clear hr3
                have hbb3 := hbb2.trans hb3
                go_wp2_with fail
                refine (blank_some B s ke j v g _ HS3.out hke.2 (by omega) hbn).mono ?_
                rintro e w4 ⟨rfl, hr4, hb4⟩
                have H4 := Lib.hid hr4
                have c14 := hr4.c1
                clear hr4
                go_wp2_with fail
                go_quiet (fail)
                go_wp2_with fail
                go_roundg (s.size + 1 - j)
                case rel => exact ⟨(hbb3.trans hb4).trans (But.of_below (drewN_below _ _)), Or.inl ⟨f, j, many + 1, ke, _, by go_num, rfl, fun _ => by simp, hj.2, rfl, HXN.out, H4.out.below (drewN_below _ _), by have := HF.out; omega, hj.1, by omega⟩⟩
                case measure => have := HN0.out; omega
      · have HB := Lib.hid hb
        have HW := Lib.hid hw
        have HRN := Lib.hid (HWN.out hX)
        clear hb hw hn hX c1
        have HI139 := Lib.hid (next_wrong' B s _ HW.out)
        go_wp2_with fail
        refine HI139.out.mono ?_
        rintro e w139 ⟨rfl, hr139, hb139⟩
        have H139 := Lib.hid hr139
        clear hr139
        have HI140 := Lib.hid (word_wrong B s _ H139.out)
        go_wp2_with fail
        refine HI140.out.mono ?_
        rintro e w140 ⟨rfl, hr140, hb140⟩
        have H140 := Lib.hid hr140
        clear hr140
        have HI141 := Lib.hid (next_wrong' B s _ H140.out)
        go_wp2_with fail
        refine HI141.out.mono ?_
        rintro e w141 ⟨rfl, hr141, hb141⟩
        have H141 := Lib.hid hr141
        clear hr141
        have c3w := H141.out
        obtain ⟨kq, vq, lq, -, hq⟩ := c3w
        have c3 := hq.c3
        clear hq
        have HI142 := Lib.hid (blank_wrong' B s _ H141.out)
        go_wp2_with fail
        refine HI142.out.mono ?_
        rintro e w142 ⟨rfl, hr142, hb142⟩
        have H142 := Lib.hid hr142
        clear hr142
        have hl142 := (((HB.out.trans hb139).trans hb140).trans hb141).low (Nat.le_of_lt hBlt)
        have hlow142 := hl142.trans (hb142.low (Nat.le_trans (Nat.le_of_lt hBlt) hl142.size))
        go_wp2
        go_end0
        rw [HRN.out]
        exact ⟨rfl, H142.out, hlow142⟩
end Go.Proofs.YtffngbjnbigipaaGreatDoor
