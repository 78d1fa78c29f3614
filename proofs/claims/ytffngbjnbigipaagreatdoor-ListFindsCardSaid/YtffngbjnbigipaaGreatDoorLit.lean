/- The document's literal and Domain: the same answers as addr.domain's, for texts of at most 10^9 bytes. -/
import Derived.Test.YtffngbjnbigipaaGreatDoorSub
namespace Go.Proofs.YtffngbjnbigipaaGreatDoor
open Go.RowKit Go.Lib
set_option linter.unusedSimpArgs false
set_option linter.unusedVariables false
set_option linter.unnecessarySimpa false
set_option maxRecDepth 100000

def LitRel (ps : List (List UInt8)) (w2 : World) (g : Nat) (v4 : Value) (W : World) : Prop :=
  ∃ i : Nat, v4 = .int .i64 (i : Int) ∧ i ≤ 4 ∧ g = 4 - i ∧ W = w2 ∧ ∀ (j : Nat) (h : j < ps.length), j < i → octL ps[j] = true
theorem all_bad {ps : List (List UInt8)} (i : Nat) (h : i < ps.length) (hb : octL ps[i] = false) : ps.all octL = false := by
  rw [List.all_eq_false]
  exact ⟨_, List.getElem_mem h, by rw [hb]; simp⟩
theorem all_good {ps : List (List UInt8)} (h : ∀ (j : Nat) (h : j < ps.length), j < ps.length → octL ps[j] = true) : ps.all octL = true := by
  rw [List.all_eq_true]
  intro x hx
  obtain ⟨j, hj, rfl⟩ := List.getElem_of_mem hx
  exact h j hj hj
set_option maxHeartbeats 8000000 in
theorem literal_ref (s : ByteArray) (hs : s.size ≤ 1000000000) (w : World) : Calls Tryz.prog 143 #[.string s] w fun e w' => e = .returned (.bool (litL s.data.toList)) ∧ Below w.heap.size w w' := by
  have hdef : litL s.data.toList = (decide (2 ≤ s.data.toList.length) && s.data.toList.head? == some 91 && s.data.toList.getLast? == some 93 && decide ((pieces 46 ((s.data.toList.drop 1).take (s.data.toList.length - 2))).length = 4) && (pieces 46 ((s.data.toList.drop 1).take (s.data.toList.length - 2))).all octL) := rfl
  rw [list_len] at hdef
  by_cases h2 : s.size < 2
  · have h20 : (s.size : Int) < 2 := by omega
    have hR : litL s.data.toList = false := by rw [hdef, decide_eq_false (by omega)]; simp
    rw [hR]
    clear hR hdef
    go_enter Tryz.func143, Tryz.ntmps143
    go_wp2
    go_ret
    exact ⟨rfl, Below.refl _ _⟩
  · have h20 : ¬ (s.size : Int) < 2 := by omega
    have hpos0 : (0 : Int) < (s.size : Int) := by omega
    have hwr : IntKind.i64.wrap ((s.size : Int) - 1) = ((s.size - 1 : Nat) : Int) := by rw [IntKind.wrap_i64]; omega
    have hm0 : (0 : Int) ≤ ((s.size - 1 : Nat) : Int) := by omega
    have hm1 : ((s.size - 1 : Nat) : Int) < (s.size : Int) := by omega
    have hm2 : ((s.size - 1 : Nat) : Int) ≤ (s.size : Int) := by omega
    have hm3 : (1 : Int) ≤ ((s.size - 1 : Nat) : Int) := by omega
    have hlast : s.size - 1 < s.size := by omega
    have hpos : 0 < s.size := by omega
    rw [decide_eq_true (by omega), head_eq s hpos, last_eq s hlast] at hdef
    by_cases h0 : s[0] = 91
    · have q0 : ((s[0].toNat : Int) != 91) = false := by rw [h0]; rfl
      by_cases h1 : s[s.size - 1] = 93
      · have q1 : ((s[s.size - 1].toNat : Int) != 93) = false := by rw [h1]; rfl
        rw [h0, h1] at hdef
        simp only [beq_self_eq_true, Bool.true_and] at hdef
        have ex : s.extract 1 (s.size - 1) = ⟨((s.data.toList.drop 1).take (s.size - 2)).toArray⟩ := ext_mid s 1 (s.size - 1)
        have hrl : ((s.data.toList.drop 1).take (s.size - 2)).length ≤ 1000000000 := by rw [List.length_take, List.length_drop, list_len]; omega
        generalize (s.data.toList.drop 1).take (s.size - 2) = r at ex hdef hrl
        have HS := Split_ref ⟨r.toArray⟩ 46 (by show r.length ≤ _; omega) w
        rw [← ex] at HS
        have e1 : (s.extract 1 (s.size - 1)).data.toList = r := by rw [ex]
        rw [e1] at HS
        have hsm : ∀ p ∈ pieces 46 r, p.length ≤ 1000000000 := fun p hp => Nat.le_trans (pieces_small 46 r p hp) hrl
        generalize pieces 46 r = ps at HS hdef hsm
        have HSS := Lib.hid HS
        have HSM := Lib.hid hsm
        rw [hdef]
        clear HS hdef hsm h0 h1 ex e1
        by_cases h4 : ps.length = 4
        · rw [decide_eq_true h4, Bool.true_and]
          generalize hR : ps.all octL = R
          have HR := Lib.hid hR
          clear hR
          go_enter Tryz.func143, Tryz.ntmps143
          go_wp2_with fail
          refine HSS.out.mono ?_
          rintro e w2 ⟨v, rfl, ⟨p, cap, rfl, hc⟩, hb⟩
          have hln : (ps.map strV).length = 4 := by rw [List.length_map]; exact h4
          obtain hnil | ⟨b, o, rfl, hbl, hcc⟩ := hc
          · rw [List.map_eq_nil_iff] at hnil; rw [hnil] at h4; cases h4
          have HCC := Lib.hid hcc
          clear hcc
          rw [hln]
          go_wp2_with fail
          go_loopg [4] 4 (fun g v4 W => LitRel ps w2 g v4 W)
          case atStart => exact ⟨0, rfl, by omega, by omega, rfl, fun j h hj => by omega⟩
          case round =>
            obtain ⟨i, rfl, hi, hg, rfl, hok⟩ := hrel
            have HG := Lib.hid hg
            have HOK := Lib.hid hok
            clear hg hok
            by_cases hlt : i < 4
            · have hip : i < ps.length := by omega
              have hcell : wr.cell? ⟨b, o + i, none⟩ = some (strV ps[i]) := by
                have := HCC.out i (by omega)
                rw [this]; simp
              have hpl := HSM.out ps[i] (List.getElem_mem hip)
              have HOKI := Lib.hid (fun h : octL ps[i] = true => (fun (j : Nat) (hj : j < ps.length) (hji : j < i + 1) => by
                rcases Nat.lt_succ_iff_lt_or_eq.1 hji with h1 | rfl
                · exact HOK.out j hj h1
                · exact h : ∀ (j : Nat) (hj : j < ps.length), j < i + 1 → octL ps[j] = true))
              have HBAD := Lib.hid (fun h : octL ps[i] = false => (HR.out.symm.trans (all_bad i hip h)))
              have hdo : octL ps[i] = (numOk ps[i] 3 && decide (numV ps[i] < 256) && !(decide (1 < ps[i].length) && ps[i].head? == some 48)) := rfl
              have HN := Number_ref ⟨ps[i].toArray⟩ (by show ps[i].length ≤ _; omega) 3 wr
              have e2 : (⟨ps[i].toArray⟩ : ByteArray).data.toList = ps[i] := rfl
              rw [e2] at HN
              unfold strV at hcell
              generalize hq : ps[i] = q at hcell HN HOKI HBAD hdo hpl
              clear hq e2
              have HDO := Lib.hid hdo
              clear hdo
              have hi0 : (0 : Int) ≤ (i : Int) := by omega
              have hi1 : (i : Int) < 4 := by omega
              have hl4 : (i : Int) + 1 ≤ 4 := by omega
              have hwi : IntKind.i64.wrap ((i : Int) + 1) = (i : Int) + 1 := by rw [IntKind.wrap_i64]; omega
              have ePs : (⟨q.toArray⟩ : ByteArray).size = q.length := rfl
              have ePd : (⟨q.toArray⟩ : ByteArray).data.toList = q := rfl
              generalize hP : (⟨q.toArray⟩ : ByteArray) = P at hcell HN ePs ePd
              clear hP
              cases hok : numOk q 3 with
              | false =>
                rw [numR_bad _ _ hok] at HN
                have hR := Lib.hid (HBAD.out (by rw [HDO.out, hok]; simp))
                clear hok
                go_wp2_with fail
                refine HN.mono ?_
                rintro e w3 ⟨rfl, hw3⟩
                rw [hw3]
                clear hw3 w3 HN
                go_wp2
                go_ret
                exact ⟨by rw [hR.out]; rfl, hb⟩
              | true =>
                rw [numR_ok _ _ hok] at HN
                by_cases h255 : 255 < numV q
                · have h2550 : (255 : Int) < (numV q : Int) := by omega
                  have hR := Lib.hid (HBAD.out (by rw [HDO.out, decide_eq_false (by omega : ¬ numV q < 256)]; simp))
                  generalize numV q = n at HN h2550
                  clear hok h255
                  go_wp2_with fail
                  refine HN.mono ?_
                  rintro e w3 ⟨rfl, hw3⟩
                  rw [hw3]
                  clear hw3 w3 HN
                  go_wp2
                  go_ret
                  exact ⟨by rw [hR.out]; rfl, hb⟩
                · have h2550 : ¬ (255 : Int) < (numV q : Int) := by omega
                  have hdo2 := HDO.out
                  rw [hok, decide_eq_true (by omega : numV q < 256)] at hdo2
                  simp only [Bool.true_and] at hdo2
                  generalize numV q = n at HN h2550
                  by_cases h1l : 1 < q.length
                  · have hl0 : (1 : Int) < (P.size : Int) := by omega
                    have hl00 : (0 : Int) < (P.size : Int) := by omega
                    have hPpos : 0 < P.size := by omega
                    have hhd := head_eq P hPpos
                    rw [ePd] at hhd
                    rw [decide_eq_true h1l, hhd, Bool.true_and] at hdo2
                    by_cases h48 : P[0] = 48
                    · have q48 : ((P[0].toNat : Int) == 48) = true := by rw [h48]; rfl
                      have hR := Lib.hid (HBAD.out (by rw [hdo2, h48]; rfl))
                      clear hok h255 hdo2 hhd h48
                      go_wp2_with fail
                      refine HN.mono ?_
                      rintro e w3 ⟨rfl, hw3⟩
                      rw [hw3]
                      clear hw3 w3 HN
                      go_wp2
                      go_ret
                      exact ⟨by rw [hR.out]; rfl, hb⟩
                    · have q48 : ((P[0].toNat : Int) == 48) = false := by
                        rw [beq_eq_false_iff_ne]; intro e; exact h48 (UInt8.toNat_inj.1 (by show P[0].toNat = 48; omega))
                      have hGO := Lib.hid (HOKI.out (by
                        rw [hdo2]
                        have : (some P[0] == some (48 : UInt8)) = false := by rw [beq_eq_false_iff_ne]; intro e; injection e with e; exact h48 e
                        rw [this]; rfl))
                      clear hok h255 hdo2 hhd h48
                      go_wp2_with fail
                      refine HN.mono ?_
                      rintro e w3 ⟨rfl, hw3⟩
                      rw [hw3]
                      clear hw3 w3 HN
                      go_wp2_with fail
                      go_roundg (4 - (i + 1))
                      case rel => exact ⟨i + 1, by go_num, by omega, rfl, rfl, hGO.out⟩
                      case measure => have := HG.out; omega
                  · have hl0 : ¬ (1 : Int) < (P.size : Int) := by omega
                    have hGO := Lib.hid (HOKI.out (by rw [hdo2, decide_eq_false h1l]; rfl))
                    clear hok h255 hdo2
                    go_wp2_with fail
                    refine HN.mono ?_
                    rintro e w3 ⟨rfl, hw3⟩
                    rw [hw3]
                    clear hw3 w3 HN
                    go_wp2_with fail
                    go_roundg (4 - (i + 1))
                    case rel => exact ⟨i + 1, by go_num, by omega, rfl, rfl, hGO.out⟩
                    case measure => have := HG.out; omega
            · have hge : ¬ (i : Int) < 4 := by omega
              have hR : R = true := by rw [← HR.out]; exact all_good (fun j h hj => HOK.out j h (by omega))
              have HRR := Lib.hid hR
              clear hR
              go_wp2
              go_ret
              exact ⟨by rw [HRR.out]; rfl, hb⟩
        · rw [decide_eq_false h4, Bool.false_and]
          go_enter Tryz.func143, Tryz.ntmps143
          go_wp2_with fail
          refine HSS.out.mono ?_
          rintro e w2 ⟨v, rfl, ⟨p, cap, rfl, hc⟩, hb⟩
          have hln : (((ps.map strV).length : Int) != 4) = true := by rw [List.length_map, bne_iff_ne]; omega
          go_wp2
          go_ret
          exact ⟨rfl, hb⟩
      · have q1 : ((s[s.size - 1].toNat : Int) != 93) = true := by
          rw [bne_iff_ne]; intro e; exact h1 (UInt8.toNat_inj.1 (by show s[s.size - 1].toNat = 93; omega))
        have hR : litL s.data.toList = false := by
          rw [hdef]
          have : (some s[s.size - 1] == some (93 : UInt8)) = false := by rw [beq_eq_false_iff_ne]; intro e; injection e with e; exact h1 e
          rw [this]; simp
        rw [hR]
        clear hR hdef h0 h1
        go_enter Tryz.func143, Tryz.ntmps143
        go_wp2
        go_ret
        exact ⟨rfl, Below.refl _ _⟩
    · have q0 : ((s[0].toNat : Int) != 91) = true := by
        rw [bne_iff_ne]; intro e; exact h0 (UInt8.toNat_inj.1 (by show s[0].toNat = 91; omega))
      have hR : litL s.data.toList = false := by
        rw [hdef]
        have : (some s[0] == some (91 : UInt8)) = false := by rw [beq_eq_false_iff_ne]; intro e; injection e with e; exact h0 e
        rw [this]; simp
      rw [hR]
      clear hR hdef h0
      go_enter Tryz.func143, Tryz.ntmps143
      go_wp2
      go_ret
      exact ⟨rfl, Below.refl _ _⟩
end Go.Proofs.YtffngbjnbigipaaGreatDoor
