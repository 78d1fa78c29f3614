/- Several texts joined into one (a claim has a limit of files). -/
import Derived.Test.YtffngbjnbigipaaGreatDoorSub
/- The document's literal and Domain: the same answers as addr.domain's, for texts of at most 10^9 bytes. -/
namespace Go.Proofs.YtffngbjnbigipaaGreatDoor
open Go.RowKit Go.Lib
set_option linter.unusedSimpArgs false
set_option linter.unusedVariables false
set_option linter.unnecessarySimpa false
set_option maxRecDepth 100000

def LitRel (ps : List (List UInt8)) (w2 : World) (g : Nat) (v4 : Value) (W : World) : Prop :=
  ∃ i : Nat, v4 = .int .i64 (i : Int) ∧ i ≤ 4 ∧ g = 4 - i ∧ W = w2 ∧ ∀ (j : Nat) (h : j < ps.length), j < i → octL ps[j] = true
theorem all_bad {ps : List (List UInt8)} (i : Nat) (h : i < ps.length) (hb : octL ps[i] = false) : ps.all octL = false := by
  rw [List.all_eq_false]
  exact ⟨_, List.getElem_mem h, by rw [hb]; simp⟩
theorem all_good {ps : List (List UInt8)} (h : ∀ (j : Nat) (h : j < ps.length), j < ps.length → octL ps[j] = true) : ps.all octL = true := by
  rw [List.all_eq_true]
  intro x hx
  obtain ⟨j, hj, rfl⟩ := List.getElem_of_mem hx
  exact h j hj hj
set_option maxHeartbeats 8000000 in
theorem literal_ref (s : ByteArray) (hs : s.size ≤ 1000000000) (w : World) : Calls Tryz.prog 143 #[.string s] w fun e w' => e = .returned (.bool (litL s.data.toList)) ∧ Below w.heap.size w w' := by
  have hdef : litL s.data.toList = (decide (2 ≤ s.data.toList.length) && s.data.toList.head? == some 91 && s.data.toList.getLast? == some 93 && decide ((pieces 46 ((s.data.toList.drop 1).take (s.data.toList.length - 2))).length = 4) && (pieces 46 ((s.data.toList.drop 1).take (s.data.toList.length - 2))).all octL) := rfl
  rw [list_len] at hdef
  by_cases h2 : s.size < 2
  · have h20 : (s.size : Int) < 2 := by omega
    have hR : litL s.data.toList = false := by rw [hdef, decide_eq_false (by omega)]; simp
    rw [hR]
    clear hR hdef
    go_enter Tryz.func143, Tryz.ntmps143
    go_wp2
    go_ret
    exact ⟨rfl, Below.refl _ _⟩
  · have h20 : ¬ (s.size : Int) < 2 := by omega
    have hpos0 : (0 : Int) < (s.size : Int) := by omega
    have hwr : IntKind.i64.wrap ((s.size : Int) - 1) = ((s.size - 1 : Nat) : Int) := by rw [IntKind.wrap_i64]; omega
    have hm0 : (0 : Int) ≤ ((s.size - 1 : Nat) : Int) := by omega
    have hm1 : ((s.size - 1 : Nat) : Int) < (s.size : Int) := by omega
    have hm2 : ((s.size - 1 : Nat) : Int) ≤ (s.size : Int) := by omega
    have hm3 : (1 : Int) ≤ ((s.size - 1 : Nat) : Int) := by omega
    have hlast : s.size - 1 < s.size := by omega
    have hpos : 0 < s.size := by omega
    rw [decide_eq_true (by omega), head_eq s hpos, last_eq s hlast] at hdef
    by_cases h0 : s[0] = 91
    · have q0 : ((s[0].toNat : Int) != 91) = false := by rw [h0]; rfl
      by_cases h1 : s[s.size - 1] = 93
      · have q1 : ((s[s.size - 1].toNat : Int) != 93) = false := by rw [h1]; rfl
        rw [h0, h1] at hdef
        simp only [beq_self_eq_true, Bool.true_and] at hdef
        have ex : s.extract 1 (s.size - 1) = ⟨((s.data.toList.drop 1).take (s.size - 2)).toArray⟩ := ext_mid s 1 (s.size - 1)
        have hrl : ((s.data.toList.drop 1).take (s.size - 2)).length ≤ 1000000000 := by rw [List.length_take, List.length_drop, list_len]; omega
        generalize (s.data.toList.drop 1).take (s.size - 2) = r at ex hdef hrl
        have HS := Split_ref ⟨r.toArray⟩ 46 (by show r.length ≤ _; omega) w
        rw [← ex] at HS
        have e1 : (s.extract 1 (s.size - 1)).data.toList = r := by rw [ex]
        rw [e1] at HS
        have hsm : ∀ p ∈ pieces 46 r, p.length ≤ 1000000000 := fun p hp => Nat.le_trans (pieces_small 46 r p hp) hrl
        generalize pieces 46 r = ps at HS hdef hsm
        have HSS := Lib.hid HS
        have HSM := Lib.hid hsm
        rw [hdef]
        clear HS hdef hsm h0 h1 ex e1
        by_cases h4 : ps.length = 4
        · rw [decide_eq_true h4, Bool.true_and]
          generalize hR : ps.all octL = R
          have HR := Lib.hid hR
          clear hR
          go_enter Tryz.func143, Tryz.ntmps143
          go_wp2_with fail
          refine HSS.out.mono ?_
          rintro e w2 ⟨v, rfl, ⟨p, cap, rfl, hc⟩, hb⟩
          have hln : (ps.map strV).length = 4 := by rw [List.length_map]; exact h4
          obtain hnil | ⟨b, o, rfl, hbl, hcc⟩ := hc
          · rw [List.map_eq_nil_iff] at hnil; rw [hnil] at h4; cases h4
          have HCC := Lib.hid hcc
          clear hcc
          rw [hln]
          go_wp2_with fail
          go_loopg [4] 4 (fun g v4 W => LitRel ps w2 g v4 W)
          case atStart => exact ⟨0, rfl, by omega, by omega, rfl, fun j h hj => by omega⟩
          case round =>
            obtain ⟨i, rfl, hi, hg, rfl, hok⟩ := hrel
            have HG := Lib.hid hg
            have HOK := Lib.hid hok
            clear hg hok
            by_cases hlt : i < 4
            · have hip : i < ps.length := by omega
              have hcell : wr.cell? ⟨b, o + i, none⟩ = some (strV ps[i]) := by
                have := HCC.out i (by omega)
                rw [this]; simp
              have hpl := HSM.out ps[i] (List.getElem_mem hip)
              have HOKI := Lib.hid (fun h : octL ps[i] = true => (fun (j : Nat) (hj : j < ps.length) (hji : j < i + 1) => by
                rcases Nat.lt_succ_iff_lt_or_eq.1 hji with h1 | rfl
                · exact HOK.out j hj h1
                · exact h : ∀ (j : Nat) (hj : j < ps.length), j < i + 1 → octL ps[j] = true))
              have HBAD := Lib.hid (fun h : octL ps[i] = false => (HR.out.symm.trans (all_bad i hip h)))
              have hdo : octL ps[i] = (numOk ps[i] 3 && decide (numV ps[i] < 256) && !(decide (1 < ps[i].length) && ps[i].head? == some 48)) := rfl
              have HN := Number_ref ⟨ps[i].toArray⟩ (by show ps[i].length ≤ _; omega) 3 wr
              have e2 : (⟨ps[i].toArray⟩ : ByteArray).data.toList = ps[i] := rfl
              rw [e2] at HN
              unfold strV at hcell
              generalize hq : ps[i] = q at hcell HN HOKI HBAD hdo hpl
              clear hq e2
              have HDO := Lib.hid hdo
              clear hdo
              have hi0 : (0 : Int) ≤ (i : Int) := by omega
              have hi1 : (i : Int) < 4 := by omega
              have hl4 : (i : Int) + 1 ≤ 4 := by omega
              have hwi : IntKind.i64.wrap ((i : Int) + 1) = (i : Int) + 1 := by rw [IntKind.wrap_i64]; omega
              have ePs : (⟨q.toArray⟩ : ByteArray).size = q.length := rfl
              have ePd : (⟨q.toArray⟩ : ByteArray).data.toList = q := rfl
              generalize hP : (⟨q.toArray⟩ : ByteArray) = P at hcell HN ePs ePd
              clear hP
              cases hok : numOk q 3 with
              | false =>
                rw [numR_bad _ _ hok] at HN
                have hR := Lib.hid (HBAD.out (by rw [HDO.out, hok]; simp))
                clear hok
                go_wp2_with fail
                refine HN.mono ?_
                rintro e w3 ⟨rfl, hw3⟩
                rw [hw3]
                clear hw3 w3 HN
                go_wp2
                go_ret
                exact ⟨by rw [hR.out]; rfl, hb⟩
              | true =>
                rw [numR_ok _ _ hok] at HN
                by_cases h255 : 255 < numV q
                · have h2550 : (255 : Int) < (numV q : Int) := by omega
                  have hR := Lib.hid (HBAD.out (by rw [HDO.out, decide_eq_false (by omega : ¬ numV q < 256)]; simp))
                  generalize numV q = n at HN h2550
                  clear hok h255
                  go_wp2_with fail
                  refine HN.mono ?_
                  rintro e w3 ⟨rfl, hw3⟩
                  rw [hw3]
                  clear hw3 w3 HN
                  go_wp2
                  go_ret
                  exact ⟨by rw [hR.out]; rfl, hb⟩
                · have h2550 : ¬ (255 : Int) < (numV q : Int) := by omega
                  have hdo2 := HDO.out
                  rw [hok, decide_eq_true (by omega : numV q < 256)] at hdo2
                  simp only [Bool.true_and] at hdo2
                  generalize numV q = n at HN h2550
                  by_cases h1l : 1 < q.length
                  · have hl0 : (1 : Int) < (P.size : Int) := by omega
                    have hl00 : (0 : Int) < (P.size : Int) := by omega
                    have hPpos : 0 < P.size := by omega
                    have hhd := head_eq P hPpos
                    rw [ePd] at hhd
                    rw [decide_eq_true h1l, hhd, Bool.true_and] at hdo2
                    by_cases h48 : P[0] = 48
                    · have q48 : ((P[0].toNat : Int) == 48) = true := by rw [h48]; rfl
                      have hR := Lib.hid (HBAD.out (by rw [hdo2, h48]; rfl))
                      clear hok h255 hdo2 hhd h48
                      go_wp2_with fail
                      refine HN.mono ?_
                      rintro e w3 ⟨rfl, hw3⟩
                      rw [hw3]
                      clear hw3 w3 HN
                      go_wp2
                      go_ret
                      exact ⟨by rw [hR.out]; rfl, hb⟩
                    · have q48 : ((P[0].toNat : Int) == 48) = false := by
                        rw [beq_eq_false_iff_ne]; intro e; exact h48 (UInt8.toNat_inj.1 (by show P[0].toNat = 48; omega))
                      have hGO := Lib.hid (HOKI.out (by
                        rw [hdo2]
                        have : (some P[0] == some (48 : UInt8)) = false := by rw [beq_eq_false_iff_ne]; intro e; injection e with e; exact h48 e
                        rw [this]; rfl))
                      clear hok h255 hdo2 hhd h48
                      go_wp2_with fail
                      refine HN.mono ?_
                      rintro e w3 ⟨rfl, hw3⟩
                      rw [hw3]
                      clear hw3 w3 HN
                      go_wp2_with fail
                      go_roundg (4 - (i + 1))
                      case rel => exact ⟨i + 1, by go_num, by omega, rfl, rfl, hGO.out⟩
                      case measure => have := HG.out; omega
                  · have hl0 : ¬ (1 : Int) < (P.size : Int) := by omega
                    have hGO := Lib.hid (HOKI.out (by rw [hdo2, decide_eq_false h1l]; rfl))
                    clear hok h255 hdo2
                    go_wp2_with fail
                    refine HN.mono ?_
                    rintro e w3 ⟨rfl, hw3⟩
                    rw [hw3]
                    clear hw3 w3 HN
                    go_wp2_with fail
                    go_roundg (4 - (i + 1))
                    case rel => exact ⟨i + 1, by go_num, by omega, rfl, rfl, hGO.out⟩
                    case measure => have := HG.out; omega
            · have hge : ¬ (i : Int) < 4 := by omega
              have hR : R = true := by rw [← HR.out]; exact all_good (fun j h hj => HOK.out j h (by omega))
              have HRR := Lib.hid hR
              clear hR
              go_wp2
              go_ret
              exact ⟨by rw [HRR.out]; rfl, hb⟩
        · rw [decide_eq_false h4, Bool.false_and]
          go_enter Tryz.func143, Tryz.ntmps143
          go_wp2_with fail
          refine HSS.out.mono ?_
          rintro e w2 ⟨v, rfl, ⟨p, cap, rfl, hc⟩, hb⟩
          have hln : (((ps.map strV).length : Int) != 4) = true := by rw [List.length_map, bne_iff_ne]; omega
          go_wp2
          go_ret
          exact ⟨rfl, hb⟩
      · have q1 : ((s[s.size - 1].toNat : Int) != 93) = true := by
          rw [bne_iff_ne]; intro e; exact h1 (UInt8.toNat_inj.1 (by show s[s.size - 1].toNat = 93; omega))
        have hR : litL s.data.toList = false := by
          rw [hdef]
          have : (some s[s.size - 1] == some (93 : UInt8)) = false := by rw [beq_eq_false_iff_ne]; intro e; injection e with e; exact h1 e
          rw [this]; simp
        rw [hR]
        clear hR hdef h0 h1
        go_enter Tryz.func143, Tryz.ntmps143
        go_wp2
        go_ret
        exact ⟨rfl, Below.refl _ _⟩
    · have q0 : ((s[0].toNat : Int) != 91) = true := by
        rw [bne_iff_ne]; intro e; exact h0 (UInt8.toNat_inj.1 (by show s[0].toNat = 91; omega))
      have hR : litL s.data.toList = false := by
        rw [hdef]
        have : (some s[0] == some (91 : UInt8)) = false := by rw [beq_eq_false_iff_ne]; intro e; injection e with e; exact h0 e
        rw [this]; simp
      rw [hR]
      clear hR hdef h0
      go_enter Tryz.func143, Tryz.ntmps143
      go_wp2
      go_ret
      exact ⟨rfl, Below.refl _ _⟩
end Go.Proofs.YtffngbjnbigipaaGreatDoor

/- The document's Domain: the same answers as addr.domain's, for texts of at most 10^9 bytes. -/
namespace Go.Proofs.YtffngbjnbigipaaGreatDoor
open Go.RowKit Go.Lib
set_option linter.unusedSimpArgs false
set_option linter.unusedVariables false
set_option linter.unnecessarySimpa false
set_option maxRecDepth 100000

def curL (s : ByteArray) (f i : Nat) : List UInt8 := (s.data.toList.drop f).take (i - f)
theorem cur_len (s : ByteArray) (f i : Nat) (hi : i ≤ s.size) : (curL s f i).length = i - f := by
  unfold curL; rw [List.length_take, List.length_drop, list_len]; omega
theorem cur_self (s : ByteArray) (f : Nat) : curL s f f = [] := by unfold curL; simp
theorem cur_snoc (s : ByteArray) (f i : Nat) (hfi : f ≤ i) (hi : i < s.size) : curL s f (i + 1) = curL s f i ++ [s[i]] := by
  unfold curL
  have h := drop_at s f i hfi hi
  have h2 : i - f < (s.data.toList.drop f).length := (List.getElem?_eq_some_iff.1 h).1
  rw [show i + 1 - f = (i - f) + 1 by omega, List.take_succ_eq_append_getElem h2]
  have : (s.data.toList.drop f)[i - f] = s[i] := by
    have h3 := List.getElem?_eq_getElem h2
    rw [h3] at h
    exact Option.some.inj h
  rw [this]
theorem cur_head (s : ByteArray) (f i : Nat) (hfi : f < i) (hi : i ≤ s.size) : (curL s f i).head? = some (s[f]'(by omega)) := by
  unfold curL
  rw [drop_cons s f (by omega), show i - f = (i - f - 1) + 1 by omega, List.take_succ_cons]
  rfl
theorem cur_last (s : ByteArray) (f i : Nat) (hfi : f < i) (hi : i ≤ s.size) : (curL s f i).getLast? = some (s[i - 1]'(by omega)) := by
  have := cur_snoc s f (i - 1) (by omega) (by omega)
  rw [show i - 1 + 1 = i by omega] at this
  rw [this]; simp
theorem edge_cur (s : ByteArray) (f i : Nat) (hfi : f < i) (hi : i ≤ s.size) : edgeB (curL s f i) = (!(s[f]'(by omega) == 45) && !(s[i - 1]'(by omega) == 45)) := by
  unfold edgeB
  rw [cur_head s f i hfi hi, cur_last s f i hfi hi]
  have hne : (curL s f i).isEmpty = false := by
    cases h : curL s f i with
    | nil => have := cur_len s f i hi; rw [h] at this; simp at this; omega
    | cons a b => rfl
  rw [hne]
  rfl
theorem go_dot (cur xs : List UInt8) (x : UInt8) (long : Bool) (h : x.toNat = 46) : domGo cur (x :: xs) long = if edgeB cur then domGo [] xs (long || decide (63 < cur.length)) else 5 := by
  conv => lhs; unfold domGo
  rw [if_pos h]
theorem go_host (cur xs : List UInt8) (x : UInt8) (long : Bool) (h : ¬ x.toNat = 46) : domGo cur (x :: xs) long = if hostB x then domGo (cur ++ [x]) xs long else 5 := by
  conv => lhs; unfold domGo
  rw [if_neg h]
theorem go_end (cur : List UInt8) (long : Bool) : domGo cur [] long = if edgeB cur then (if long || decide (63 < cur.length) then 3 else 0) else 5 := by
  unfold domGo; rfl
def DomRel (s : ByteArray) (w : World) (R : Nat) (g : Nat) (v3 v4 v5 : Value) (W : World) : Prop :=
  ∃ (f i : Nat) (long : Bool), v3 = .bool long ∧ v4 = .int .i64 (f : Int) ∧ v5 = .int .i64 (i : Int) ∧ g = s.size + 2 - i ∧ W = w ∧
    ((f ≤ i ∧ i ≤ s.size ∧ domGo (curL s f i) (s.data.toList.drop i) long = R) ∨ (i = s.size + 1 ∧ R = if long then 3 else 0))
theorem byte_ne {a b : UInt8} {n : Int} (hb : (b.toNat : Int) = n) (h : a ≠ b) : ((a.toNat : Int) == n) = false := by
  rw [beq_eq_false_iff_ne]; intro e; exact h (UInt8.toNat_inj.1 (by omega))

set_option maxHeartbeats 16000000 in
theorem Domain_ref (s : ByteArray) (hs : s.size ≤ 1000000000) (w : World) : Calls Tryz.prog 100 #[.string s] w fun e w' => e = .returned (.int .i64 (domL s.data.toList : Int)) ∧ Below w.heap.size w w' := by
  by_cases hp : s.data.toList.head? = some 91
  · have hd : domL s.data.toList = if litL s.data.toList then 0 else 5 := by unfold domL; rw [if_pos hp]
    have HL := Lib.hid (literal_ref s hs w)
    rw [hd]
    have hpos : 0 < s.size := by
      rcases Nat.eq_zero_or_pos s.size with h | h
      · rw [size_zero h] at hp; cases hp
      · exact h
    have hpos0 : (0 : Int) < (s.size : Int) := by omega
    rw [head_eq s hpos] at hp
    have h91 : s[0] = 91 := Option.some.inj hp
    have q91 : ((s[0].toNat : Int) == 91) = true := by rw [h91]; rfl
    generalize litL s.data.toList = Q at HL
    clear hp hd h91
    go_enter Tryz.func100, Tryz.ntmps100
    go_wp2_with fail
    refine HL.out.mono ?_
    rintro e w2 ⟨rfl, hb⟩
    cases Q with
    | true =>
      go_wp2
      go_ret
      exact ⟨rfl, hb⟩
    | false =>
      go_wp2
      go_ret
      exact ⟨rfl, hb⟩
  · have hd : domL s.data.toList = domP s.data.toList := by unfold domL; rw [if_neg hp]
    rw [hd, ← domGo_domP, list_len]
    generalize hR : domGo [] s.data.toList (decide (255 < s.size)) = R
    have HR := Lib.hid hR
    clear hR hd
    have h255 : decide ((255 : Int) < (s.size : Int)) = decide (255 < s.size) := by
      by_cases h : 255 < s.size
      · rw [decide_eq_true h, decide_eq_true (by omega)]
      · rw [decide_eq_false h, decide_eq_false (by omega)]
    have HH := Lib.hid h255
    have hcond : ∃ b : Bool, b = true := ⟨true, rfl⟩
    clear h255 hcond
    have hfirst : s.size = 0 ∨ (0 < s.size ∧ ∀ h : 0 < s.size, s[0] ≠ 91) := by
      rcases Nat.eq_zero_or_pos s.size with h | h
      · exact .inl h
      · refine .inr ⟨h, fun h2 e => hp ?_⟩
        rw [head_eq s h2, e]
    clear hp
    rcases hfirst with h | ⟨h, hn⟩
    · have hs0 := size_zero h
      subst hs0
      have hR : 5 = R := by rw [← HR.out]; rfl
      subst hR
      clear HR HH h
      go_enter Tryz.func100, Tryz.ntmps100
      go_wp2_with fail
      go_loopg [4, 5] 0 (fun g v4 v5 W => v4 = .int .i64 0 ∧ v5 = .int .i64 0 ∧ W = w ∧ g = 0)
      case atStart => exact ⟨rfl, rfl, rfl, rfl⟩
      case round =>
        obtain ⟨rfl, rfl, rfl, hg⟩ := hrel
        go_wp2
        go_ret
        exact ⟨rfl, Below.refl _ _⟩
    have h0 : (0 : Int) < (s.size : Int) := by omega
    have q91 : ((s[0].toNat : Int) == 91) = false := byte_ne rfl (hn h)
    clear hn
    go_enter Tryz.func100, Tryz.ntmps100
    go_wp2_with fail
    go_loopg [3, 4, 5] (s.size + 2) (fun g v3 v4 v5 W => DomRel s w R g v3 v4 v5 W)
    case atStart => exact ⟨0, 0, decide (255 < s.size), by first | rfl | (rw [← HH.out]) | simp, rfl, rfl, by omega, rfl, .inl ⟨Nat.le_refl _, Nat.zero_le _, by rw [cur_self, List.drop_zero]; exact HR.out⟩⟩
    case round =>
      obtain ⟨f, i, long, rfl, rfl, rfl, hg, rfl, hcase⟩ := hrel
      have HG := Lib.hid hg
      clear hg
      rcases hcase with ⟨hfi, hi, hE⟩ | ⟨hi, hE⟩
      · have hle : (i : Int) ≤ (s.size : Int) := by omega
        have hwr : IntKind.i64.wrap ((i : Int) + 1) = (i : Int) + 1 := by rw [IntKind.wrap_i64]; omega
        by_cases hlt : i < s.size
        · have hi0 : (0 : Int) ≤ (i : Int) := by omega
          have hi1 : (i : Int) < (s.size : Int) := by omega
          rw [drop_cons s i hlt] at hE
          by_cases h46 : s[i].toNat = 46
          · have q46 : ((s[i].toNat : Int) != 46) = false := by rw [h46]; rfl
            rw [go_dot _ _ _ _ h46] at hE
            clear h46
            rcases Nat.lt_or_ge f i with hfi2 | hfi2
            · have hq0 : ((i : Int) == (f : Int)) = false := by rw [beq_eq_false_iff_ne]; omega
              have hf0 : (0 : Int) ≤ (f : Int) := by omega
              have hf1 : (f : Int) < (s.size : Int) := by omega
              have hfs : f < s.size := by omega
              have hws : IntKind.i64.wrap ((i : Int) - 1) = ((i - 1 : Nat) : Int) := by rw [IntKind.wrap_i64]; omega
              have hp0 : (0 : Int) ≤ ((i - 1 : Nat) : Int) := by omega
              have hp1 : ((i - 1 : Nat) : Int) < (s.size : Int) := by omega
              have hps : i - 1 < s.size := by omega
              rw [edge_cur s f i hfi2 hi, cur_len s f i hi] at hE
              by_cases h45 : s[f] = 45
              · have q45 : ((s[f].toNat : Int) == 45) = true := by rw [h45]; rfl
                have hR : 5 = R := by rw [← hE, h45]; rfl
                subst hR
                clear h45 hE
                go_wp2
                go_ret
                exact ⟨rfl, Below.refl _ _⟩
              · have q45 : ((s[f].toNat : Int) == 45) = false := byte_ne rfl h45
                have b45 : (s[f] == 45) = false := by rw [beq_eq_false_iff_ne]; exact h45
                by_cases l45 : s[i - 1] = 45
                · have r45 : ((s[i - 1].toNat : Int) == 45) = true := by rw [l45]; rfl
                  have hR : 5 = R := by rw [← hE, l45, b45]; rfl
                  subst hR
                  clear h45 hE l45
                  go_wp2
                  go_ret
                  exact ⟨rfl, Below.refl _ _⟩
                · have r45 : ((s[i - 1].toNat : Int) == 45) = false := byte_ne rfl l45
                  have c45 : (s[i - 1] == 45) = false := by rw [beq_eq_false_iff_ne]; exact l45
                  rw [b45, c45] at hE
                  simp only [Bool.not_false, Bool.and_self, if_true] at hE
                  have hwd : IntKind.i64.wrap ((i : Int) - (f : Int)) = ((i - f : Nat) : Int) := by rw [IntKind.wrap_i64]; omega
                  clear h45 l45 b45 c45
                  by_cases h6 : 63 < i - f
                  · have h63 : (63 : Int) < ((i - f : Nat) : Int) := by omega
                    rw [decide_eq_true h6] at hE
                    simp only [Bool.or_true] at hE
                    have HE := Lib.hid hE
                    clear hE
                    go_wp2_with fail
                    go_roundg (s.size + 2 - (i + 1))
                    case rel => exact ⟨i + 1, i + 1, true, rfl, by go_num, by go_num, rfl, rfl, .inl ⟨Nat.le_refl _, by omega, by rw [cur_self]; exact HE.out⟩⟩
                    case measure => have := HG.out; omega
                  · have h63 : ¬ (63 : Int) < ((i - f : Nat) : Int) := by omega
                    rw [decide_eq_false h6] at hE
                    simp only [Bool.or_false] at hE
                    have HE := Lib.hid hE
                    clear hE
                    go_wp2_with fail
                    go_roundg (s.size + 2 - (i + 1))
                    case rel => exact ⟨i + 1, i + 1, long, rfl, by go_num, by go_num, rfl, rfl, .inl ⟨Nat.le_refl _, by omega, by rw [cur_self]; exact HE.out⟩⟩
                    case measure => have := HG.out; omega
            · have hfe : f = i := by omega
              subst hfe
              have hR : 5 = R := by rw [← hE, cur_self]; rfl
              subst hR
              clear hE
              go_wp2
              go_ret
              exact ⟨rfl, Below.refl _ _⟩
          · have q46 : ((s[i].toNat : Int) != 46) = true := by rw [bne_iff_ne]; omega
            rw [go_host _ _ _ _ h46] at hE
            have hL := letter_ref s[i].toNat wr
            have hho : hostB s[i] = (letterB s[i].toNat || s[i] == 45) := rfl
            cases hlet : letterB s[i].toNat with
            | true =>
              rw [hlet] at hL hho
              rw [hho, Bool.true_or, if_pos rfl, ← cur_snoc s f i hfi hlt] at hE
              have HE := Lib.hid hE
              clear hE hho hlet h46
              go_wp2_with fail
              refine hL.mono ?_
              rintro e w2 ⟨rfl, hw2⟩
              rw [hw2]
              clear hw2 w2 hL
              go_wp2_with fail
              go_roundg (s.size + 2 - (i + 1))
              case rel => exact ⟨f, i + 1, long, rfl, rfl, by go_num, rfl, rfl, .inl ⟨by omega, by omega, HE.out⟩⟩
              case measure => have := HG.out; omega
            | false =>
              rw [hlet] at hL hho
              rw [hho, Bool.false_or] at hE
              by_cases h45 : s[i] = 45
              · have q45 : ((s[i].toNat : Int) != 45) = false := by rw [h45]; rfl
                rw [if_pos (by rw [h45]; rfl), ← cur_snoc s f i hfi hlt] at hE
                have HE := Lib.hid hE
                clear hE hho hlet h46 h45
                go_wp2_with fail
                refine hL.mono ?_
                rintro e w2 ⟨rfl, hw2⟩
                rw [hw2]
                clear hw2 w2 hL
                go_wp2_with fail
                go_roundg (s.size + 2 - (i + 1))
                case rel => exact ⟨f, i + 1, long, rfl, rfl, by go_num, rfl, rfl, .inl ⟨by omega, by omega, HE.out⟩⟩
                case measure => have := HG.out; omega
              · have q45 : ((s[i].toNat : Int) != 45) = true := by
                  rw [bne_iff_ne]; intro e; exact h45 (UInt8.toNat_inj.1 (by show s[i].toNat = 45; omega))
                rw [if_neg (by simpa using h45)] at hE
                subst hE
                clear hho hlet h46 h45
                go_wp2_with fail
                refine hL.mono ?_
                rintro e w2 ⟨rfl, hw2⟩
                rw [hw2]
                clear hw2 w2 hL
                go_wp2
                go_ret
                exact ⟨rfl, Below.refl _ _⟩
        · have hge : ¬ (i : Int) < (s.size : Int) := by omega
          have hnil : s.data.toList.drop i = [] := List.drop_eq_nil_of_le (by rw [list_len]; omega)
          rw [hnil, go_end] at hE
          clear hnil
          rcases Nat.lt_or_ge f i with hfi2 | hfi2
          · have hq0 : ((i : Int) == (f : Int)) = false := by rw [beq_eq_false_iff_ne]; omega
            have hf0 : (0 : Int) ≤ (f : Int) := by omega
            have hf1 : (f : Int) < (s.size : Int) := by omega
            have hfs : f < s.size := by omega
            have hws : IntKind.i64.wrap ((i : Int) - 1) = ((i - 1 : Nat) : Int) := by rw [IntKind.wrap_i64]; omega
            have hp0 : (0 : Int) ≤ ((i - 1 : Nat) : Int) := by omega
            have hp1 : ((i - 1 : Nat) : Int) < (s.size : Int) := by omega
            have hps : i - 1 < s.size := by omega
            rw [edge_cur s f i hfi2 hi, cur_len s f i hi] at hE
            by_cases h45 : s[f] = 45
            · have q45 : ((s[f].toNat : Int) == 45) = true := by rw [h45]; rfl
              have hR : 5 = R := by rw [← hE, h45]; rfl
              subst hR
              clear h45 hE
              go_wp2
              go_ret
              exact ⟨rfl, Below.refl _ _⟩
            · have q45 : ((s[f].toNat : Int) == 45) = false := byte_ne rfl h45
              have b45 : (s[f] == 45) = false := by rw [beq_eq_false_iff_ne]; exact h45
              by_cases l45 : s[i - 1] = 45
              · have r45 : ((s[i - 1].toNat : Int) == 45) = true := by rw [l45]; rfl
                have hR : 5 = R := by rw [← hE, l45, b45]; rfl
                subst hR
                clear h45 hE l45
                go_wp2
                go_ret
                exact ⟨rfl, Below.refl _ _⟩
              · have r45 : ((s[i - 1].toNat : Int) == 45) = false := byte_ne rfl l45
                have c45 : (s[i - 1] == 45) = false := by rw [beq_eq_false_iff_ne]; exact l45
                rw [b45, c45] at hE
                simp only [Bool.not_false, Bool.and_self, if_true] at hE
                have hwd : IntKind.i64.wrap ((i : Int) - (f : Int)) = ((i - f : Nat) : Int) := by rw [IntKind.wrap_i64]; omega
                clear h45 l45 b45 c45
                by_cases h6 : 63 < i - f
                · have h63 : (63 : Int) < ((i - f : Nat) : Int) := by omega
                  rw [decide_eq_true h6] at hE
                  simp only [Bool.or_true] at hE
                  have HE := Lib.hid hE
                  clear hE
                  go_wp2_with fail
                  go_roundg (s.size + 2 - (i + 1))
                  case rel => exact ⟨i + 1, i + 1, true, rfl, by go_num, by go_num, rfl, rfl, .inr ⟨by omega, by rw [← HE.out]; rfl⟩⟩
                  case measure => have := HG.out; omega
                · have h63 : ¬ (63 : Int) < ((i - f : Nat) : Int) := by omega
                  rw [decide_eq_false h6] at hE
                  simp only [Bool.or_false] at hE
                  have HE := Lib.hid hE
                  clear hE
                  go_wp2_with fail
                  go_roundg (s.size + 2 - (i + 1))
                  case rel => exact ⟨i + 1, i + 1, long, rfl, by go_num, by go_num, rfl, rfl, .inr ⟨by omega, by rw [← HE.out]⟩⟩
                  case measure => have := HG.out; omega
          · have hfe : f = i := by omega
            subst hfe
            have hR : 5 = R := by rw [← hE, cur_self]; rfl
            subst hR
            clear hE
            go_wp2
            go_ret
            exact ⟨rfl, Below.refl _ _⟩
      · have hgt : ¬ (i : Int) ≤ (s.size : Int) := by omega
        cases long with
        | true =>
          rw [if_pos rfl] at hE
          subst hE
          go_wp2
          go_ret
          exact ⟨rfl, Below.refl _ _⟩
        | false =>
          rw [if_neg (by simp)] at hE
          subst hE
          go_wp2
          go_ret
          exact ⟨rfl, Below.refl _ _⟩
end Go.Proofs.YtffngbjnbigipaaGreatDoor

/- The document's Parse: the same answers as addr.Parse's, for texts of at most 10^9 bytes. -/
namespace Go.Proofs.YtffngbjnbigipaaGreatDoor
open Go.RowKit Go.Lib
set_option linter.unusedSimpArgs false
set_option linter.unusedVariables false
set_option linter.unnecessarySimpa false
set_option maxRecDepth 100000

theorem addr_var2 (w W : World) (x y : Value) (t : TypeId) (hb : Below (w.alloc (.cells #[x, y] t)).heap.size (w.alloc (.cells #[x, y] t)) W) :
    W.cell? ⟨w.heap.size, 0, none⟩ = some x ∧ W.cell? ⟨w.heap.size, 1, none⟩ = some y ∧ W.frozen? ⟨w.heap.size, 0, none⟩ = false ∧ W.frozen? ⟨w.heap.size, 1, none⟩ = false := by
  have h : W.heap[w.heap.size]? = some (.cells #[x, y] t (0, 0)) := by
    rw [hb.block w.heap.size (by rw [World.size_alloc]; exact Nat.lt_succ_self _)]
    exact heap_alloc_new w _
  simp [World.cell?, World.frozen?, h]
def AtRel (s : ByteArray) (w1 : World) (g : Nat) (v5 : Value) (W : World) : Prop :=
  ∃ i : Nat, v5 = .int .i64 (i : Int) ∧ i ≤ s.size ∧ g = s.size - i ∧ W = w1 ∧ ∀ j, j < i → s.data.toList[j]? ≠ some 64
theorem list_get (s : ByteArray) (i : Nat) (h : i < s.size) : s.data.toList[i]? = some s[i] := by
  have := drop_at s 0 i (Nat.zero_le _) h
  simpa using this
theorem tail_no (word : List UInt8) (c : UInt8) (d : List UInt8) (h : c ≠ 64) : tailL word (c :: d) = ([], [], 5) := by simp [tailL, h]
theorem tail_at (word d : List UInt8) : tailL word (64 :: d) = if domL d = 5 then ([], [], 5) else if domL d = 3 ∨ 64 < word.length then ([], [], 3) else (word, d, 0) := rfl

set_option maxHeartbeats 8000000 in
theorem Parse_ref (s : ByteArray) (hs : s.size ≤ 1000000000) (w : World) : Calls Tryz.prog 161 #[.string s] w fun e w' => e = .returned (parV (parseL s.data.toList)) ∧ Below w.heap.size w w' := by
  have hb0 : Below w.heap.size w (w.alloc (.cells #[.string ⟨#[]⟩, .string ⟨#[]⟩] 33)) := alloc_below w _
  generalize hwT : w.alloc (.cells #[.string ⟨#[]⟩, .string ⟨#[]⟩] 33) = w1 at hb0
  have hbX0 : Below (w.alloc (.cells #[.string ⟨#[]⟩, .string ⟨#[]⟩] 33)).heap.size (w.alloc (.cells #[.string ⟨#[]⟩, .string ⟨#[]⟩] 33)) w1 := by rw [hwT]; exact Below.refl _ _
  have hp : parseL s.data.toList = match headL s.data.toList with | none => ([], [], 5) | some (word, rest) => tailL word rest := rfl
  by_cases hne : s = ⟨#[]⟩
  · subst hne
    have HRR := Lib.hid (show parseL (⟨#[]⟩ : ByteArray).data.toList = ([], [], 5) from rfl)
    generalize parseL (⟨#[]⟩ : ByteArray).data.toList = R at HRR
    have HD := Lib.hid (DotAtom_ref ⟨#[]⟩ (by decide) w1)
    have e0 : dotGo (⟨#[]⟩ : ByteArray).data.toList true = false := rfl
    rw [e0] at HD
    obtain ⟨c0, c1, f0, f1⟩ := addr_var2 w w1 _ _ 33 hbX0
    clear hp e0
    go_enter Tryz.func161, Tryz.ntmps161
    go_wp2_with fail
    go_loopg [5] 0 (fun g v5 W => v5 = .int .i64 0 ∧ W = w1)
    case atStart => exact ⟨rfl, rfl⟩
    case round =>
      obtain ⟨rfl, rfl⟩ := hrel
      go_wp2_with fail
      refine HD.out.mono ?_
      rintro e w2 ⟨rfl, hw2⟩
      rw [hw2]
      clear hw2 w2
      go_wp2
      refine bodyPost_ret (v := .tuple #[.agg #[.string ⟨#[]⟩, .string ⟨#[]⟩], .int .i64 5]) (by rw [results_cell_tmp Tryz.results161]; simp [go_sem, set_same _ _ _ _ c0, set_first _ _ _ _ _ _ c0 c1]) rfl ⟨?_, ?_⟩
      · rw [HRR.out]; rfl
      · exact (hb0.setCell (p := ⟨w.heap.size, 0, none⟩) (Nat.le_refl _) _).setCell (p := ⟨w.heap.size, 1, none⟩) (Nat.le_refl _) _
  · have hpos := text_len hne
    have hpos0 : (0 : Int) < (s.size : Int) := by omega
    clear hne
    by_cases h34 : s[0] = 34
    · have q34 : ((s[0].toNat : Int) == 34) = true := by rw [h34]; rfl
      have hH : headL s.data.toList = if (quoted s.data.toList).2.2 = 0 ∧ (quoted s.data.toList).1 ≠ [] then some ((quoted s.data.toList).1, s.data.toList.drop (quoted s.data.toList).2.1) else none := by unfold headL; rw [if_pos (by rw [head_eq s hpos, h34])]
      rw [hH] at hp
      have hQ := Quoted_ref s (by omega) w1
      have hm := Quoted_many s
      have hwl := quoted_len s.data.toList
      rw [list_len] at hwl
      generalize quoted s.data.toList = Rq at hp hQ hm hwl
      obtain ⟨word, i, er⟩ := Rq
      simp only [quotV] at hQ
      simp only at hp hm hwl
      have hYs : (⟨word.toArray⟩ : ByteArray).size = word.length := rfl
      have hYe := empty_text word
      generalize hY : (⟨word.toArray⟩ : ByteArray) = Y at hQ hYs hYe
      have HY := Lib.hid hY.symm
      have HQ := Lib.hid hQ
      have HP := Lib.hid hp
      clear hY hQ hp hH h34
      generalize parseL s.data.toList = R at HP
      by_cases he : er = 0
      · subst he
        by_cases hx : word = []
        · have hie : Y.toList.isEmpty = true := by rw [hYe, hx]; rfl
          have hin : Y.toList = [] := by rw [hYe, hx]
          have HRR := Lib.hid (show R = ([], [], 5) from HP.out.trans (by rw [if_neg (by simp [hx])]))
          obtain ⟨c0, c1, f0, f1⟩ := addr_var2 w w1 _ _ 33 hbX0
          clear hYe hx
          go_enter Tryz.func161, Tryz.ntmps161
          go_wp2_with fail
          refine HQ.out.mono ?_
          rintro e w2 ⟨rfl, hw2⟩
          rw [hw2]
          clear hw2 w2
          go_wp2
          refine bodyPost_ret (v := .tuple #[.agg #[.string ⟨#[]⟩, .string ⟨#[]⟩], .int .i64 5]) (by rw [results_cell_tmp Tryz.results161]; simp [go_sem, set_same _ _ _ _ c0, set_first _ _ _ _ _ _ c0 c1]) rfl ⟨?_, ?_⟩
          · rw [HRR.out]; rfl
          · exact (hb0.setCell (p := ⟨w.heap.size, 0, none⟩) (Nat.le_refl _) _).setCell (p := ⟨w.heap.size, 1, none⟩) (Nat.le_refl _) _
        · have hie : Y.toList.isEmpty = false := by rw [hYe]; cases word with | nil => exact absurd rfl hx | cons a b => rfl
          have hin : ¬ Y.toList = [] := by rw [hYe]; exact hx
          have HT := Lib.hid (show R = tailL word (s.data.toList.drop i) from HP.out.trans (by rw [if_pos ⟨rfl, hx⟩]))
          have hi : i ≤ s.size := hm
          clear hYe hx
          go_enter Tryz.func161, Tryz.ntmps161
          go_wp2_with fail
          refine HQ.out.mono ?_
          rintro e wT ⟨rfl, hw2⟩
          have hbX : Below (w.alloc (.cells #[.string ⟨#[]⟩, .string ⟨#[]⟩] 33)).heap.size (w.alloc (.cells #[.string ⟨#[]⟩, .string ⟨#[]⟩] 33)) wT := by rw [hw2]; exact hbX0
          have hbT : Below w.heap.size w wT := by rw [hw2]; exact hb0
          clear hw2
          by_cases hat : i < s.size
          · have ia0 : (0 : Int) ≤ (i : Int) := by omega
            have ia1 : (i : Int) < (s.size : Int) := by omega
            have ia2 : ¬ (s.size : Int) ≤ (i : Int) := by omega
            have ht := HT.out
            rw [drop_cons s i hat] at ht
            by_cases h64 : s[i] = 64
            · have q64 : ((s[i].toNat : Int) != 64) = false := by rw [h64]; rfl
              have q64b : ((s[i].toNat : Int) == 64) = true := by rw [h64]; rfl
              rw [h64, tail_at] at ht
              have hwi : IntKind.i64.wrap ((i : Int) + 1) = (i : Int) + 1 := by rw [IntKind.wrap_i64]; omega
              have ia3 : (0 : Int) ≤ (i : Int) + 1 := by omega
              have ia4 : (i : Int) + 1 ≤ (s.size : Int) := by omega
              have ex := ext_drop s (i + 1)
              have hdl : (s.data.toList.drop (i + 1)).length ≤ 1000000000 := by rw [List.length_drop, list_len]; omega
              generalize s.data.toList.drop (i + 1) = d at ht ex hdl
              have hD := Domain_ref ⟨d.toArray⟩ hdl wT
              have e3 : (⟨d.toArray⟩ : ByteArray).data.toList = d := rfl
              rw [e3, ← ex] at hD
              have hdc := domL_cases d
              generalize domL d = k at hD ht hdc
              have HDom := Lib.hid hD
              have HEX := Lib.hid ex
              have HDC := Lib.hid hdc
              have HTT := Lib.hid ht
              clear hD ex e3 hdc ht h64
              go_wp2_with fail
              refine HDom.out.mono ?_
              rintro e w4 ⟨rfl, hb4⟩
              obtain ⟨c0, c1, f0, f1⟩ := addr_var2 w w4 _ _ 33 (hbX.trans (hb4.mono hbX.size))
              have hbw4 := hbT.trans (hb4.mono hbT.size)
              have hR0 := HTT.out
              rcases HDC.out with rfl | rfl | rfl
              · by_cases hw64 : 64 < word.length
                · have hw640 : (64 : Int) < (Y.size : Int) := by omega
                  rw [if_neg (by decide), if_pos (Or.inr hw64)] at hR0
                  have HRR := Lib.hid hR0
                  clear hR0
                  go_wp2
                  refine bodyPost_ret (v := .tuple #[.agg #[.string ⟨#[]⟩, .string ⟨#[]⟩], .int .i64 3]) (by rw [results_cell_tmp Tryz.results161]; simp [go_sem, set_same _ _ _ _ c0, set_first _ _ _ _ _ _ c0 c1]) rfl ⟨?_, ?_⟩
                  · rw [HRR.out]; rfl
                  · exact (hbw4.setCell (p := ⟨w.heap.size, 0, none⟩) (Nat.le_refl _) _).setCell (p := ⟨w.heap.size, 1, none⟩) (Nat.le_refl _) _
                · have hw640 : ¬ (64 : Int) < (Y.size : Int) := by omega
                  rw [if_neg (by decide), if_neg (by omega)] at hR0
                  have HRR := Lib.hid hR0
                  clear hR0
                  go_wp2
                  refine bodyPost_ret (v := .tuple #[.agg #[.string Y, .string (s.extract (i + 1) s.size)], .int .i64 0]) (by rw [results_cell_tmp Tryz.results161]; simp [go_sem, set_same _ _ _ _ c0, set_first _ _ _ _ _ _ c0 c1]) rfl ⟨?_, ?_⟩
                  · rw [HRR.out, HEX.out, HY.out]; rfl
                  · exact (hbw4.setCell (p := ⟨w.heap.size, 0, none⟩) (Nat.le_refl _) _).setCell (p := ⟨w.heap.size, 1, none⟩) (Nat.le_refl _) _
              · rw [if_neg (by decide), if_pos (Or.inl rfl)] at hR0
                have HRR := Lib.hid hR0
                clear hR0
                go_wp2
                refine bodyPost_ret (v := .tuple #[.agg #[.string ⟨#[]⟩, .string ⟨#[]⟩], .int .i64 3]) (by rw [results_cell_tmp Tryz.results161]; simp [go_sem, set_same _ _ _ _ c0, set_first _ _ _ _ _ _ c0 c1]) rfl ⟨?_, ?_⟩
                · rw [HRR.out]; rfl
                · exact (hbw4.setCell (p := ⟨w.heap.size, 0, none⟩) (Nat.le_refl _) _).setCell (p := ⟨w.heap.size, 1, none⟩) (Nat.le_refl _) _
              · rw [if_pos rfl] at hR0
                have HRR := Lib.hid hR0
                clear hR0
                go_wp2
                refine bodyPost_ret (v := .tuple #[.agg #[.string ⟨#[]⟩, .string ⟨#[]⟩], .int .i64 5]) (by rw [results_cell_tmp Tryz.results161]; simp [go_sem, set_same _ _ _ _ c0, set_first _ _ _ _ _ _ c0 c1]) rfl ⟨?_, ?_⟩
                · rw [HRR.out]; rfl
                · exact (hbw4.setCell (p := ⟨w.heap.size, 0, none⟩) (Nat.le_refl _) _).setCell (p := ⟨w.heap.size, 1, none⟩) (Nat.le_refl _) _
            · have q64 : ((s[i].toNat : Int) != 64) = true := by
                rw [bne_iff_ne]; intro e; exact h64 (UInt8.toNat_inj.1 (by show s[i].toNat = 64; omega))
              rw [tail_no word _ _ h64] at ht
              have HRR := Lib.hid ht
              clear ht h64
              obtain ⟨c0, c1, f0, f1⟩ := addr_var2 w wT _ _ 33 hbX
              go_wp2
              refine bodyPost_ret (v := .tuple #[.agg #[.string ⟨#[]⟩, .string ⟨#[]⟩], .int .i64 5]) (by rw [results_cell_tmp Tryz.results161]; simp [go_sem, set_same _ _ _ _ c0, set_first _ _ _ _ _ _ c0 c1]) rfl ⟨?_, ?_⟩
              · rw [HRR.out]; rfl
              · exact (hbT.setCell (p := ⟨w.heap.size, 0, none⟩) (Nat.le_refl _) _).setCell (p := ⟨w.heap.size, 1, none⟩) (Nat.le_refl _) _
          · have ia2 : (s.size : Int) ≤ (i : Int) := by omega
            have ia1 : ¬ (i : Int) < (s.size : Int) := by omega
            have hnil : s.data.toList.drop i = [] := List.drop_eq_nil_of_le (by rw [list_len]; omega)
            have ht := HT.out
            rw [hnil, tailL_nil] at ht
            have HRR := Lib.hid ht
            clear ht hnil
            obtain ⟨c0, c1, f0, f1⟩ := addr_var2 w wT _ _ 33 hbX
            go_wp2
            refine bodyPost_ret (v := .tuple #[.agg #[.string ⟨#[]⟩, .string ⟨#[]⟩], .int .i64 5]) (by rw [results_cell_tmp Tryz.results161]; simp [go_sem, set_same _ _ _ _ c0, set_first _ _ _ _ _ _ c0 c1]) rfl ⟨?_, ?_⟩
            · rw [HRR.out]; rfl
            · exact (hbT.setCell (p := ⟨w.heap.size, 0, none⟩) (Nat.le_refl _) _).setCell (p := ⟨w.heap.size, 1, none⟩) (Nat.le_refl _) _
      · have he0 : ((er : Int) != 0) = true := by rw [bne_iff_ne]; omega
        have HRR := Lib.hid (show R = ([], [], 5) from HP.out.trans (by rw [if_neg (by simp [he])]))
        obtain ⟨c0, c1, f0, f1⟩ := addr_var2 w w1 _ _ 33 hbX0
        clear hYe
        go_enter Tryz.func161, Tryz.ntmps161
        go_wp2_with fail
        refine HQ.out.mono ?_
        rintro e w2 ⟨rfl, hw2⟩
        rw [hw2]
        clear hw2 w2
        go_wp2
        refine bodyPost_ret (v := .tuple #[.agg #[.string ⟨#[]⟩, .string ⟨#[]⟩], .int .i64 5]) (by rw [results_cell_tmp Tryz.results161]; simp [go_sem, set_same _ _ _ _ c0, set_first _ _ _ _ _ _ c0 c1]) rfl ⟨?_, ?_⟩
        · rw [HRR.out]; rfl
        · exact (hb0.setCell (p := ⟨w.heap.size, 0, none⟩) (Nat.le_refl _) _).setCell (p := ⟨w.heap.size, 1, none⟩) (Nat.le_refl _) _
    · have q34 : ((s[0].toNat : Int) == 34) = false := byte_ne rfl h34
      have hH : headL s.data.toList = if dotGo (s.data.toList.takeWhile (· != 64)) true then some (s.data.toList.takeWhile (· != 64), s.data.toList.dropWhile (· != 64)) else none := by
        unfold headL
        rw [if_neg (by rw [head_eq s hpos]; intro e; exact h34 (Option.some.inj e))]
      rw [hH] at hp
      have HP := Lib.hid hp
      clear hp hH h34
      generalize parseL s.data.toList = R at HP
      go_enter Tryz.func161, Tryz.ntmps161
      go_wp2_with fail
      go_loopg [5] s.size (fun g v5 W => AtRel s w1 g v5 W)
      case atStart => exact ⟨0, rfl, by omega, by omega, rfl, by intro j hj; omega⟩
      case round =>
        obtain ⟨i, rfl, hi, hg, rfl, hno⟩ := hrel
        have HG := Lib.hid hg
        have HN := Lib.hid hno
        clear hg hno
        have hi0 : (0 : Int) ≤ (i : Int) := by omega
        have hi2 : (i : Int) ≤ (s.size : Int) := by omega
        have hwr : IntKind.i64.wrap ((i : Int) + 1) = (i : Int) + 1 := by rw [IntKind.wrap_i64]; omega
        have hstop : (i < s.size ∧ s.data.toList[i]? ≠ some 64) ∨ ((s.data.toList.takeWhile (· != 64) = s.data.toList.take i ∧ s.data.toList.dropWhile (· != 64) = s.data.toList.drop i) ∧ (i < s.size → s.data.toList[i]? = some 64)) := by
          by_cases hlt : i < s.size
          · by_cases h64 : s.data.toList[i]? = some 64
            · exact .inr ⟨while_take 64 _ i h64 HN.out, fun _ => h64⟩
            · exact .inl ⟨hlt, h64⟩
          · have hii : i = s.size := by omega
            subst hii
            refine .inr ⟨?_, fun h => absurd h hlt⟩
            rw [take_all, List.drop_eq_nil_of_le (by rw [list_len]; exact Nat.le_refl _)]
            refine while_none 64 _ (fun k hk => ?_)
            have hlen : k < s.data.toList.length := (List.getElem?_eq_some_iff.1 hk).1
            rw [list_len] at hlen
            exact HN.out k hlen hk
        rcases hstop with ⟨hlt, h64⟩ | ⟨⟨ht1, ht2⟩, h64⟩
        · have hi1 : (i : Int) < (s.size : Int) := by omega
          have q64 : ((s[i].toNat : Int) != 64) = true := by
            rw [list_get s i hlt] at h64
            rw [bne_iff_ne]; intro e; exact h64 (by rw [UInt8.toNat_inj.1 (show s[i].toNat = (64 : UInt8).toNat by show s[i].toNat = 64; omega)])
          have H64 := Lib.hid h64
          clear h64
          go_wp2_with fail
          go_roundg (s.size - (i + 1))
          case rel =>
            refine ⟨i + 1, by go_num, by omega, rfl, rfl, ?_⟩
            intro j hj
            rcases Nat.lt_succ_iff_lt_or_eq.1 hj with h | rfl
            · exact HN.out j h
            · exact H64.out
          case measure => have := HG.out; omega
        · have hp2 := HP.out
          rw [ht1, ht2] at hp2
          have e1 := ext_take s i
          have hwl : (s.data.toList.take i).length ≤ s.size := by rw [List.length_take, list_len]; omega
          have hD := DotAtom_ref ⟨(s.data.toList.take i).toArray⟩ (by show (s.data.toList.take i).length ≤ _; omega) wr
          have e3 : (⟨(s.data.toList.take i).toArray⟩ : ByteArray).data.toList = s.data.toList.take i := rfl
          rw [e3] at hD
          have hYs : (⟨(s.data.toList.take i).toArray⟩ : ByteArray).size = (s.data.toList.take i).length := rfl
          rw [← e1] at hD hYs
          generalize hword : s.data.toList.take i = word at *
          generalize hYY : s.extract 0 i = Y at *
          have HYX := Lib.hid hYY
          have HY := Lib.hid e1
          have HP2 := Lib.hid hp2
          generalize dotGo word true = Q at hD HP2
          clear ht1 ht2 hp2 e1 hword e3 hYY
          have hcond : (i < s.size ∧ ∀ h : i < s.size, s[i] = 64) ∨ i = s.size := by
            by_cases hlt : i < s.size
            · refine .inl ⟨hlt, fun h => ?_⟩
              have := h64 h
              rw [list_get s i h] at this
              exact Option.some.inj this
            · exact .inr (by omega)
          clear h64
          have hb1 := hbX0
          cases Q with
          | false =>
            have HRR := Lib.hid (show R = ([], [], 5) from HP2.out)
            obtain ⟨c0, c1, f0, f1⟩ := addr_var2 w wr _ _ 33 hb1
            rcases hcond with ⟨hlt, h64⟩ | hii
            · have hi1 : (i : Int) < (s.size : Int) := by omega
              have q64 : ((s[i].toNat : Int) != 64) = false := by rw [h64 hlt]; rfl
              have hYZ := HYX.out
              clear h64
              go_wp2_with fail
              refine hD.mono ?_
              rintro e w2 ⟨rfl, hw2⟩
              rw [hw2]
              clear hw2 w2
              go_wp2
              refine bodyPost_ret (v := .tuple #[.agg #[.string ⟨#[]⟩, .string ⟨#[]⟩], .int .i64 5]) (by rw [results_cell_tmp Tryz.results161]; simp [go_sem, set_same _ _ _ _ c0, set_first _ _ _ _ _ _ c0 c1]) rfl ⟨?_, ?_⟩
              · rw [HRR.out]; rfl
              · exact (hb0.setCell (p := ⟨w.heap.size, 0, none⟩) (Nat.le_refl _) _).setCell (p := ⟨w.heap.size, 1, none⟩) (Nat.le_refl _) _
            · have hi1 : ¬ (i : Int) < (s.size : Int) := by omega
              have hYZ := HYX.out
              clear hii
              go_wp2_with fail
              refine hD.mono ?_
              rintro e w2 ⟨rfl, hw2⟩
              rw [hw2]
              clear hw2 w2
              go_wp2
              refine bodyPost_ret (v := .tuple #[.agg #[.string ⟨#[]⟩, .string ⟨#[]⟩], .int .i64 5]) (by rw [results_cell_tmp Tryz.results161]; simp [go_sem, set_same _ _ _ _ c0, set_first _ _ _ _ _ _ c0 c1]) rfl ⟨?_, ?_⟩
              · rw [HRR.out]; rfl
              · exact (hb0.setCell (p := ⟨w.heap.size, 0, none⟩) (Nat.le_refl _) _).setCell (p := ⟨w.heap.size, 1, none⟩) (Nat.le_refl _) _
          | true =>
            have HT := Lib.hid (show R = tailL word (s.data.toList.drop i) from HP2.out)
            rcases hcond with ⟨hlt, h64⟩ | hii
            · have hi1 : (i : Int) < (s.size : Int) := by omega
              have q64 : ((s[i].toNat : Int) != 64) = false := by rw [h64 hlt]; rfl
              have hYZ := HYX.out
              have H64 := Lib.hid (h64 hlt)
              clear h64
              go_wp2_with fail
              refine hD.mono ?_
              rintro e wT ⟨rfl, hw2⟩
              have hbX : Below (w.alloc (.cells #[.string ⟨#[]⟩, .string ⟨#[]⟩] 33)).heap.size (w.alloc (.cells #[.string ⟨#[]⟩, .string ⟨#[]⟩] 33)) wT := by rw [hw2]; exact hb1
              have hbT : Below w.heap.size w wT := by rw [hw2]; exact hb0
              clear hw2 hYZ
              by_cases hat : i < s.size
              · have ia0 : (0 : Int) ≤ (i : Int) := by omega
                have ia1 : (i : Int) < (s.size : Int) := by omega
                have ia2 : ¬ (s.size : Int) ≤ (i : Int) := by omega
                have ht := HT.out
                rw [drop_cons s i hat] at ht
                by_cases h64 : s[i] = 64
                · have q64 : ((s[i].toNat : Int) != 64) = false := by rw [h64]; rfl
                  have q64b : ((s[i].toNat : Int) == 64) = true := by rw [h64]; rfl
                  rw [h64, tail_at] at ht
                  have hwi : IntKind.i64.wrap ((i : Int) + 1) = (i : Int) + 1 := by rw [IntKind.wrap_i64]; omega
                  have ia3 : (0 : Int) ≤ (i : Int) + 1 := by omega
                  have ia4 : (i : Int) + 1 ≤ (s.size : Int) := by omega
                  have ex := ext_drop s (i + 1)
                  have hdl : (s.data.toList.drop (i + 1)).length ≤ 1000000000 := by rw [List.length_drop, list_len]; omega
                  generalize s.data.toList.drop (i + 1) = d at ht ex hdl
                  have hD := Domain_ref ⟨d.toArray⟩ hdl wT
                  have e3 : (⟨d.toArray⟩ : ByteArray).data.toList = d := rfl
                  rw [e3, ← ex] at hD
                  have hdc := domL_cases d
                  generalize domL d = k at hD ht hdc
                  have HDom := Lib.hid hD
                  have HEX := Lib.hid ex
                  have HDC := Lib.hid hdc
                  have HTT := Lib.hid ht
                  clear hD ex e3 hdc ht h64
                  go_wp2_with fail
                  refine HDom.out.mono ?_
                  rintro e w4 ⟨rfl, hb4⟩
                  obtain ⟨c0, c1, f0, f1⟩ := addr_var2 w w4 _ _ 33 (hbX.trans (hb4.mono hbX.size))
                  have hbw4 := hbT.trans (hb4.mono hbT.size)
                  have hR0 := HTT.out
                  rcases HDC.out with rfl | rfl | rfl
                  · by_cases hw64 : 64 < word.length
                    · have hw640 : (64 : Int) < (Y.size : Int) := by omega
                      rw [if_neg (by decide), if_pos (Or.inr hw64)] at hR0
                      have HRR := Lib.hid hR0
                      clear hR0
                      go_wp2
                      refine bodyPost_ret (v := .tuple #[.agg #[.string ⟨#[]⟩, .string ⟨#[]⟩], .int .i64 3]) (by rw [results_cell_tmp Tryz.results161]; simp [go_sem, set_same _ _ _ _ c0, set_first _ _ _ _ _ _ c0 c1]) rfl ⟨?_, ?_⟩
                      · rw [HRR.out]; rfl
                      · exact (hbw4.setCell (p := ⟨w.heap.size, 0, none⟩) (Nat.le_refl _) _).setCell (p := ⟨w.heap.size, 1, none⟩) (Nat.le_refl _) _
                    · have hw640 : ¬ (64 : Int) < (Y.size : Int) := by omega
                      rw [if_neg (by decide), if_neg (by omega)] at hR0
                      have HRR := Lib.hid hR0
                      clear hR0
                      go_wp2
                      refine bodyPost_ret (v := .tuple #[.agg #[.string Y, .string (s.extract (i + 1) s.size)], .int .i64 0]) (by rw [results_cell_tmp Tryz.results161]; simp [go_sem, set_same _ _ _ _ c0, set_first _ _ _ _ _ _ c0 c1]) rfl ⟨?_, ?_⟩
                      · rw [HRR.out, HEX.out, HY.out]; rfl
                      · exact (hbw4.setCell (p := ⟨w.heap.size, 0, none⟩) (Nat.le_refl _) _).setCell (p := ⟨w.heap.size, 1, none⟩) (Nat.le_refl _) _
                  · rw [if_neg (by decide), if_pos (Or.inl rfl)] at hR0
                    have HRR := Lib.hid hR0
                    clear hR0
                    go_wp2
                    refine bodyPost_ret (v := .tuple #[.agg #[.string ⟨#[]⟩, .string ⟨#[]⟩], .int .i64 3]) (by rw [results_cell_tmp Tryz.results161]; simp [go_sem, set_same _ _ _ _ c0, set_first _ _ _ _ _ _ c0 c1]) rfl ⟨?_, ?_⟩
                    · rw [HRR.out]; rfl
                    · exact (hbw4.setCell (p := ⟨w.heap.size, 0, none⟩) (Nat.le_refl _) _).setCell (p := ⟨w.heap.size, 1, none⟩) (Nat.le_refl _) _
                  · rw [if_pos rfl] at hR0
                    have HRR := Lib.hid hR0
                    clear hR0
                    go_wp2
                    refine bodyPost_ret (v := .tuple #[.agg #[.string ⟨#[]⟩, .string ⟨#[]⟩], .int .i64 5]) (by rw [results_cell_tmp Tryz.results161]; simp [go_sem, set_same _ _ _ _ c0, set_first _ _ _ _ _ _ c0 c1]) rfl ⟨?_, ?_⟩
                    · rw [HRR.out]; rfl
                    · exact (hbw4.setCell (p := ⟨w.heap.size, 0, none⟩) (Nat.le_refl _) _).setCell (p := ⟨w.heap.size, 1, none⟩) (Nat.le_refl _) _
                · exact absurd H64.out h64
              · exact absurd hlt hat
            · have hi1 : ¬ (i : Int) < (s.size : Int) := by omega
              have hYZ := HYX.out
              clear hii
              go_wp2_with fail
              refine hD.mono ?_
              rintro e wT ⟨rfl, hw2⟩
              have hbX : Below (w.alloc (.cells #[.string ⟨#[]⟩, .string ⟨#[]⟩] 33)).heap.size (w.alloc (.cells #[.string ⟨#[]⟩, .string ⟨#[]⟩] 33)) wT := by rw [hw2]; exact hb1
              have hbT : Below w.heap.size w wT := by rw [hw2]; exact hb0
              clear hw2 hYZ
              by_cases hat : i < s.size
              · exfalso; omega
              · have ia2 : (s.size : Int) ≤ (i : Int) := by omega
                have ia1 : ¬ (i : Int) < (s.size : Int) := by omega
                have hnil : s.data.toList.drop i = [] := List.drop_eq_nil_of_le (by rw [list_len]; omega)
                have ht := HT.out
                rw [hnil, tailL_nil] at ht
                have HRR := Lib.hid ht
                clear ht hnil
                obtain ⟨c0, c1, f0, f1⟩ := addr_var2 w wT _ _ 33 hbX
                go_wp2
                refine bodyPost_ret (v := .tuple #[.agg #[.string ⟨#[]⟩, .string ⟨#[]⟩], .int .i64 5]) (by rw [results_cell_tmp Tryz.results161]; simp [go_sem, set_same _ _ _ _ c0, set_first _ _ _ _ _ _ c0 c1]) rfl ⟨?_, ?_⟩
                · rw [HRR.out]; rfl
                · exact (hbT.setCell (p := ⟨w.heap.size, 0, none⟩) (Nat.le_refl _) _).setCell (p := ⟨w.heap.size, 1, none⟩) (Nat.le_refl _) _
end Go.Proofs.YtffngbjnbigipaaGreatDoor
