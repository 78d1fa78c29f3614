/- Several texts joined into one (a claim has a limit of files). -/
import Derived.Test.YtffngbjnbigipaaGreatDoorPutA
import Derived.Test.YtffngbjnbigipaaGreatDoorRefE
import Derived.Test.YtffngbjnbigipaaGreatDoorRefU
import Derived.Test.YtffngbjnbigipaaGreatDoorPutX
/- The document's Put: what it hands back, and that nothing old turns. -/
namespace Go.Proofs.YtffngbjnbigipaaGreatDoor
open Go.RowKit Go.Lib
set_option linter.unusedSimpArgs false
set_option linter.unusedVariables false
set_option linter.unnecessarySimpa false
set_option maxRecDepth 100000

/-- one spot put: what is ahead of it, and itself or another text. -/
def PutRel (s : ByteArray) (A : List Sp) (l : List Ad) (w : World) (g : Nat) (v9 v10 v11 : Value) (W : World) : Prop :=
  ∃ (k : Nat) (Z : ByteArray) (n : Nat), v9 = .string Z ∧ v10 = .int .i64 (n : Int) ∧ v11 = .int .i64 (k : Int) ∧ putUp s.data.toList A l k = (Z.data.toList, n) ∧ k ≤ A.length ∧ g = A.length - k ∧ Below w.heap.size w W
def MayRel (l : List Ad) (w : World) (g : Nat) (v8 : Value) (W : World) : Prop :=
  ∃ k : Nat, v8 = .int .i64 (k : Int) ∧ k ≤ l.length ∧ g = l.length - k ∧ Below w.heap.size w W ∧ (∀ (i : Nat) (a : Ad), i < k → l[i]? = some a → mayL a = true)
set_option maxHeartbeats 16000000 in
theorem Put_ref (s : ByteArray) (hs : s.size ≤ 900000) (l : List Ad) (v : Value) (w : World) (hrow : ARow w v l) (hl : l.length ≤ 1000) (hA : ∀ a ∈ l, a.1.length ≤ 1000 ∧ a.2.length ≤ 1000) :
    Calls Tryz.prog 25 #[.string s, v] w fun e w' => e = .returned (.tuple #[.string ⟨(putL s.data.toList l).1.toArray⟩, .int .i64 ((putL s.data.toList l).2 : Int)]) ∧ Below w.heap.size w w' := by
  have HB := Lib.hid (fun W => Find_refrow s (by omega) W)
  have hlen := find_len s.data.toList
  have hgood := findL_good s.data.toList
  obtain ⟨F, hF⟩ : ∃ F, findL s.data.toList = F := ⟨_, rfl⟩
  rw [hF] at HB hlen hgood
  obtain ⟨A, ea⟩ := F
  have hp := putL_of (l := l) hF
  obtain ⟨R, hR⟩ : ∃ R, R = putL s.data.toList l := ⟨_, rfl⟩
  rw [← hR] at hp ⊢
  have HP := Lib.hid hp
  have HG := Lib.hid hgood
  have HROW := Lib.hid hrow
  clear hp hgood hF hR
  obtain ⟨r1, r2⟩ := R
  simp only at HB HG hlen ⊢
  obtain ⟨p, cap, rfl, -⟩ := hrow
  go_enter Tryz.func25, Tryz.ntmps25
  go_wp2_with fail
  refine (HB.out w).mono ?_
  rintro e w1 ⟨vb, rfl, hrb, hb1⟩
  have HS1 := Lib.hid hrb
  have HB1 := Lib.hid hb1
  obtain ⟨pb, capb, rfl, -⟩ := hrb
  clear hb1
  by_cases h5 : ea = 5
  · subst h5
    have hP := HP.out
    rw [if_pos rfl] at hP
    injection hP with q1 q2
    subst q1; subst q2
    go_wp2
    go_ret2
    exact ⟨rfl, HB1.out⟩
  · have he5 : ((ea : Int) == 5) = false := by rw [beq_eq_false_iff_ne]; omega
    have hP := HP.out
    rw [if_neg h5] at hP
    have HP := Lib.hid hP
    clear h5 hP
    go_wp2_with fail
    go_loopg [8] l.length (fun g v8 W => MayRel l w1 g v8 W)
    case atStart => exact ⟨0, rfl, Nat.zero_le _, rfl, Below.refl _ _, fun i a h => by omega⟩
    case round =>
      obtain ⟨k, rfl, hk, hg, hb, hall⟩ := hrel
      have HG1 := Lib.hid hg
      have HBW := Lib.hid hb
      have HALL := Lib.hid hall
      clear hg hb hall
      by_cases hlt : k < l.length
      · have hk0 : (0 : Int) ≤ (k : Int) := by omega
        have hk1 : (k : Int) < (l.length : Int) := by omega
        have hwk : IntKind.i64.wrap ((k : Int) + 1) = (k : Int) + 1 := by rw [IntKind.wrap_i64]; omega
        have hr := HROW.out.below (HB1.out.trans (HBW.out.mono HB1.out.size))
        obtain ⟨p', cap', he, h⟩ := hr
        obtain rfl : cap = cap' := by injection he
        obtain rfl : p = p' := by injection he
        obtain ⟨b, hpb, hc⟩ := arow_at h hlt
        subst hpb
        clear he
        obtain ⟨c0, c1⟩ := hc k _ (List.getElem?_eq_getElem hlt)
        have hmem := hA _ (List.getElem_mem hlt)
        have HC := Lib.hid (May_ref l[k] (by omega) (by omega) wr)
        have HK := Lib.hid (show l[k]? = some l[k] from List.getElem?_eq_getElem hlt)
        generalize l[k] = a at c0 c1 HC HK hmem
        obtain ⟨x, y⟩ := a
        simp only [addrV] at HC c0 c1
        clear h hc
        cases hm : mayL (x, y) with
        | true =>
          rw [hm] at HC
          have HM := Lib.hid hm
          clear hm
          go_wp2_with fail
          refine HC.out.mono ?_
          rintro e w2 ⟨rfl, hb2⟩
          go_wp2_with fail
          go_roundg (l.length - (k + 1))
          case rel =>
            refine ⟨k + 1, by go_num, by omega, rfl, HBW.out.trans (hb2.mono HBW.out.size), fun i a hi ha => ?_⟩
            by_cases hik : i < k
            · exact HALL.out i a hik ha
            · obtain rfl : i = k := by omega
              rw [HK.out] at ha
              cases ha
              exact HM.out
          case measure => have := HG1.out; omega
        | false =>
          rw [hm] at HC
          have hP := HP.out
          rw [if_pos (any_not HK.out hm)] at hP
          injection hP with q1 q2
          subst q1; subst q2
          clear hm
          go_wp2_with fail
          refine HC.out.mono ?_
          rintro e w2 ⟨rfl, hb2⟩
          go_wp2
          go_ret2
          exact ⟨rfl, HB1.out.trans ((HBW.out.trans (hb2.mono HBW.out.size)).mono HB1.out.size)⟩
      · have hge : ¬ (k : Int) < (l.length : Int) := by omega
        have hkl : k = l.length := by omega
        have hP := HP.out
        rw [if_neg (by rw [any_may (fun i a hi ha => HALL.out i a (by omega) ha)]; simp)] at hP
        have HP := Lib.hid hP
        have HBR := Lib.hid (HB1.out.trans (HBW.out.mono HB1.out.size))
        have HS := Lib.hid (HS1.out.below HBW.out)
        clear hP hkl hlt hk
        by_cases h0 : ea = 0
        · subst h0
          have hP := HP.out
          rw [if_neg (by simp)] at hP
          have HP := Lib.hid hP
          clear hP
          by_cases hn : l.length = A.length
          · have hnn : ((l.length : Int) != (A.length : Int)) = false := by rw [bne_eq_false_iff_eq]; omega
            have hP := HP.out
            rw [if_neg (by simp [hn])] at hP
            have HP := Lib.hid hP
            have HN := Lib.hid hn
            clear hP hn
            go_wp2_with fail
            go_loopg [9, 10, 11] A.length (fun g v9 v10 v11 W => PutRel s A l wr g v9 v10 v11 W)
            case atStart => exact ⟨0, ⟨#[]⟩, 0, rfl, rfl, rfl, rfl, Nat.zero_le _, rfl, Below.refl _ _⟩
            case round =>
              obtain ⟨k, Z0, n, rfl, rfl, rfl, hup, hk, hg, hb⟩ := hrel
              have HUP := Lib.hid hup
              have HG2 := Lib.hid hg
              have HB2 := Lib.hid hb
              have hZ0 : Z0.size ≤ 120000000 := by
                have h1 := putUp_len (s := s.data.toList) (sp := A) (l := l) (T := 3003) (fun a ha => by have := text_len_le a; have := hA a ha; omega) k
                rw [hup] at h1
                simp only [size_list] at h1
                have h2 : k * (2 * s.size + 3003) ≤ 64 * (2 * 900000 + 3003) := Nat.mul_le_mul (by omega) (by omega)
                omega
              have hat := putUp_at HG.out HN.out k hk
              rw [hup, size_list] at hat
              simp only at hat
              clear hg hb hup
              by_cases hlt : k < A.length
              · have hk0 : (0 : Int) ≤ (k : Int) := by omega
                have hk1 : (k : Int) < (A.length : Int) := by omega
                have hk2 : (k : Int) < (l.length : Int) := by have := HN.out; omega
                have hwk : IntKind.i64.wrap ((k : Int) + 1) = (k : Int) + 1 := by rw [IntKind.wrap_i64]; omega
                have hbr := HBR.out.trans (HB2.out.mono HBR.out.size)
                obtain ⟨p', cap', he, h⟩ := HROW.out.below hbr
                obtain rfl : cap = cap' := by injection he
                obtain rfl : p = p' := by injection he
                obtain ⟨bb, hpb, hc⟩ := arow_at h (by have := HN.out; omega : k < l.length)
                subst hpb
                clear he
                obtain ⟨pb', capb', he, h'⟩ := HS.out.below HB2.out
                obtain rfl : capb = capb' := by injection he
                obtain rfl : pb = pb' := by injection he
                obtain ⟨ba, hpb, hc'⟩ := srow_at h' hlt
                subst hpb
                clear he
                have hlk : k < l.length := by have := HN.out; omega
                obtain ⟨d0, d1⟩ := hc k _ (List.getElem?_eq_getElem hlk)
                obtain ⟨c0, c1, c2, c3⟩ := hc' k _ (List.getElem?_eq_getElem hlt)
                have hmem := hA _ (List.getElem_mem hlk)
                have hst := putUp_step (s := s.data.toList) (List.getElem?_eq_getElem hlt) (List.getElem?_eq_getElem hlk)
                have hsg := HG.out.each A[k] (List.getElem_mem hlt)
                have h1 := hat.2 k _ (Nat.le_refl _) (List.getElem?_eq_getElem hlt)
                have h2 := hsg.lt
                have h3 := hsg.le
                have h45 : A[k].2.2.1.length ≤ 1000000 ∧ A[k].2.2.2.length ≤ 1000000 := by
                  rw [hsg.rd]
                  have q1 := parse_len (slc s.data.toList A[k].1 A[k].2.1)
                  have q2 := slc_len s.data.toList A[k].1 A[k].2.1
                  rw [size_list] at q2
                  simp only
                  omega
                rw [HUP.out] at hst
                clear h h' hc hc' hsg hat
                generalize A[k] = x at *
                generalize l[k] = a at *
                obtain ⟨f, t, lo, dm⟩ := x
                obtain ⟨xl, xd⟩ := a
                simp only [size_list] at h1 h2 h3 h45 hst c0 c1 c2 c3 d0 d1 hmem
                have HST := Lib.hid hst
                have i1 : (n : Int) ≤ (f : Int) := by omega
                have i2 : (f : Int) ≤ (t : Int) := by omega
                have i3 : (t : Int) ≤ (s.size : Int) := by omega
                have i4 : (f : Int) ≤ (s.size : Int) := by omega
                have i5 : (0 : Int) ≤ (n : Int) := by omega
                have i6 : (0 : Int) ≤ (f : Int) := by omega
                obtain ⟨Z1, hZ1⟩ : ∃ Z1, Z1 = Z0 ++ s.extract n f := ⟨_, rfl⟩
                have hz1 : Z1.size ≤ 121000000 := by rw [hZ1, ByteArray.size_append, ByteArray.size_extract]; omega
                have a1 := add_run hZ1 (by rw [ByteArray.size_extract]; omega)
                have l1 : Z1.data.toList = Z0.data.toList ++ slc s.data.toList n f := by rw [hZ1, ByteArray.data_append, Array.toList_append, ext_list s n f (by omega)]
                have L1 := Lib.hid l1
                have HC := Lib.hid (fun W => Compare_ref ⟨lo.toArray⟩ ⟨dm.toArray⟩ ⟨xl.toArray⟩ ⟨xd.toArray⟩ (by show lo.length ≤ _; omega) (by show dm.length ≤ _; omega) (by show xl.length ≤ _; omega) (by show xd.length ≤ _; omega) W)
                have HORD := Lib.hid (show ordS ⟨lo.toArray⟩ ⟨dm.toArray⟩ ⟨xl.toArray⟩ ⟨xd.toArray⟩ = ordL (normL (lo, dm)) (normL (xl, xd)) from rfl)
                generalize ordS ⟨lo.toArray⟩ ⟨dm.toArray⟩ ⟨xl.toArray⟩ ⟨xd.toArray⟩ = r at HC HORD
                have HT := Lib.hid (fun W => Text_ref (xl, xd) (by show xl.length ≤ _; omega) (by show xd.length ≤ _; omega) W)
                simp only [addrV] at HT
                have htl : (textL (xl, xd)).length ≤ 3003 := by have := text_len_le (xl, xd); simp only at this; omega
                have HTL := Lib.hid htl
                clear htl
                have hS : wr.cell? ⟨ba, k * 4 + 2, none⟩ = some (.string ⟨lo.toArray⟩) ∧ wr.cell? ⟨ba, k * 4 + 3, none⟩ = some (.string ⟨dm.toArray⟩) ∧ wr.cell? ⟨bb, k * 2, none⟩ = some (.string ⟨xl.toArray⟩) ∧ wr.cell? ⟨bb, k * 2 + 1, none⟩ = some (.string ⟨xd.toArray⟩) := ⟨c2, c3, d0, d1⟩
                have hS1 := hS
                have HSC := Lib.hid hS
                have HLT1 := Lib.hid (World.block_lt_of_cell? wr _ c2)
                have HLT2 := Lib.hid (World.block_lt_of_cell? wr _ d0)
                clear hst hZ1 l1 h45 hmem h1 h2 h3
                go_wp2_with fail
                go_region_held3 (fun W => W.cell? ⟨ba, k * 4 + 2, none⟩ = some (.string ⟨lo.toArray⟩) ∧ W.cell? ⟨ba, k * 4 + 3, none⟩ = some (.string ⟨dm.toArray⟩) ∧ W.cell? ⟨bb, k * 2, none⟩ = some (.string ⟨xl.toArray⟩) ∧ W.cell? ⟨bb, k * 2 + 1, none⟩ = some (.string ⟨xd.toArray⟩))
                  (first | exact hS7 | exact hS | go_keep)
                  (first | ((with_reducible refine (HC.out _).mono ?_); rintro e w7 ⟨rfl, hb7⟩; have hb7' := (drew_below wr).trans hb7; have hS7 : w7.cell? ⟨ba, k * 4 + 2, none⟩ = some (.string ⟨lo.toArray⟩) ∧ w7.cell? ⟨ba, k * 4 + 3, none⟩ = some (.string ⟨dm.toArray⟩) ∧ w7.cell? ⟨bb, k * 2, none⟩ = some (.string ⟨xl.toArray⟩) ∧ w7.cell? ⟨bb, k * 2 + 1, none⟩ = some (.string ⟨xd.toArray⟩) := ⟨(hb7'.cell (p := ⟨ba, k * 4 + 2, none⟩) HLT1.out).trans hS.1, (hb7'.cell (p := ⟨ba, k * 4 + 3, none⟩) HLT1.out).trans hS.2.1, (hb7'.cell (p := ⟨bb, k * 2, none⟩) HLT2.out).trans hS.2.2.1, (hb7'.cell (p := ⟨bb, k * 2 + 1, none⟩) HLT2.out).trans hS.2.2.2⟩))
                have HB7 := Lib.hid hb7'
                have f0 := (hb7'.cell (p := ⟨ba, k * 4, none⟩) HLT1.out).trans c0
                have f1 := (hb7'.cell (p := ⟨ba, k * 4 + 1, none⟩) HLT1.out).trans c1
                have g0 := (hb7'.cell (p := ⟨bb, k * 2, none⟩) HLT2.out).trans d0
                have g1 := (hb7'.cell (p := ⟨bb, k * 2 + 1, none⟩) HLT2.out).trans d1
                clear hb7 hb7' hS hS1 c0 c1 c2 c3 d0 d1
                by_cases hr0 : r = 0
                · have t0 : ((r : Int) == 0) = true := by rw [beq_iff_eq]; exact hr0
                  obtain ⟨Z2, hZ2⟩ : ∃ Z2, Z2 = Z1 ++ s.extract f t := ⟨_, rfl⟩
                  have a2 := add_run hZ2 (by rw [ByteArray.size_extract]; omega)
                  have l2 : Z2.data.toList = Z1.data.toList ++ slc s.data.toList f t := by rw [hZ2, ByteArray.data_append, Array.toList_append, ext_list s f t (by omega)]
                  have L2 := Lib.hid l2
                  have HR0 := Lib.hid (show ordL (normL (lo, dm)) (normL (xl, xd)) = 0 by rw [← HORD.out]; exact hr0)
                  clear hZ2 l2 hr0 g0 g1
                  go_wp2_with fail
                  go_quiet (fail)
                  go_wp2_with fail
                  go_roundg (A.length - (k + 1))
                  case rel =>
                    refine ⟨k + 1, Z2, t, rfl, rfl, by go_num, ?_, by omega, rfl, HB2.out.trans ((HB7.out.trans ((drewN_below _ _).mono HB7.out.size)).mono HB2.out.size)⟩
                    rw [HST.out, if_pos HR0.out, L2.out, L1.out]
                  case measure => have := HG2.out; omega
                · have t0 : ((r : Int) == 0) = false := by rw [beq_eq_false_iff_ne]; exact hr0
                  have HR0 := Lib.hid (show ¬ ordL (normL (lo, dm)) (normL (xl, xd)) = 0 by rw [← HORD.out]; exact hr0)
                  generalize hTx : (⟨(textL (xl, xd)).toArray⟩ : ByteArray) = T at HT
                  have hts : T.size ≤ 3003 := by rw [← hTx]; exact HTL.out
                  obtain ⟨Z2, hZ2⟩ : ∃ Z2, Z2 = Z1 ++ T := ⟨_, rfl⟩
                  have a2 := add_run hZ2 (by omega)
                  have l2 : Z2.data.toList = Z1.data.toList ++ textL (xl, xd) := by rw [hZ2, ByteArray.data_append, Array.toList_append, ← hTx]
                  have L2 := Lib.hid l2
                  clear hZ2 l2 hr0 hTx hts
                  go_wp2_with fail
                  refine (HT.out _).mono ?_
                  rintro e w8 ⟨rfl, hb8⟩
                  have f1' := (hb8.cell (p := ⟨ba, k * 4 + 1, none⟩) (World.block_lt_of_cell? _ _ f1)).trans f1
                  have HB8 := Lib.hid (HB7.out.trans (hb8.mono HB7.out.size))
                  clear f0 f1 g0 g1 hb8
                  go_wp2_with fail
                  go_roundg (A.length - (k + 1))
                  case rel =>
                    refine ⟨k + 1, Z2, t, rfl, rfl, by go_num, ?_, by omega, rfl, HB2.out.trans (HB8.out.mono HB2.out.size)⟩
                    rw [HST.out, if_neg HR0.out, L2.out, L1.out]
                  case measure => have := HG2.out; omega
              · have hge : ¬ (k : Int) < (A.length : Int) := by omega
                obtain rfl : k = A.length := by omega
                have hP := HP.out
                rw [HUP.out] at hP
                simp only at hP
                injection hP with q1 q2
                subst q2
                have i1 : (n : Int) ≤ (s.size : Int) := by have := hat.1; omega
                have i0 : (0 : Int) ≤ (n : Int) := by omega
                obtain ⟨Z, hZ2⟩ : ∃ Z : ByteArray, Z = ⟨r1.toArray⟩ := ⟨_, rfl⟩
                have hz : Z = Z0 ++ s.extract n s.size := by
                  apply ByteArray.ext
                  rw [hZ2, q1]
                  apply Array.ext'
                  have e2 : slc s.data.toList n s.size = s.data.toList.drop n := by unfold slc; rw [List.take_of_length_le (by simp)]
                  rw [ByteArray.data_append, Array.toList_append, ext_list s n s.size (Nat.le_refl _), e2]
                have a1 := add_run hz (by rw [ByteArray.size_extract]; omega)
                have HZ := Lib.hid hZ2
                clear hz hZ2 q1 hat
                go_wp2
                go_ret2
                exact ⟨by rw [← HZ.out]; rfl, HBR.out.trans (HB2.out.mono HBR.out.size)⟩
          · have hnn : ((l.length : Int) != (A.length : Int)) = true := by rw [bne_iff_ne]; omega
            have hP := HP.out
            rw [if_pos hn] at hP
            injection hP with q1 q2
            subst q1; subst q2
            clear hn
            go_wp2
            go_ret2
            exact ⟨rfl, HBR.out⟩
        · have he1 : ((ea : Int) != 0) = true := by rw [bne_iff_ne]; omega
          have hP := HP.out
          rw [if_pos h0] at hP
          injection hP with q1 q2
          subst q1; subst q2
          clear h0
          go_wp2
          go_ret2
          exact ⟨rfl, HBR.out⟩
end Go.Proofs.YtffngbjnbigipaaGreatDoor

/- The law ListPuts, walked: it returns true for every text and every row of addresses, where the package-level variables read as their texts lay them. -/
namespace Go.Proofs.YtffngbjnbigipaaGreatDoor
open Go.RowKit Go.Lib
set_option linter.unusedSimpArgs false
set_option linter.unusedVariables false
set_option linter.unnecessarySimpa false
set_option maxRecDepth 100000

/-- one address appended, in a region that does not draw. -/
theorem app_ad50 {ops : Array Oper} {rest : List Oper} {o : Oper} {a : Act} {Q : Exit → Act → World → Prop} {w : World} (hgd : o.guard = none) (s x : Operand)
    (ho : o.op = .call { callee := .builtin .append, args := #[s, x], argTypes := #[50, 50] })
    (B : Nat) (v : Value) (n : Nat) (xs : List Value) (hs : a.eval s = v) (hown : w.ownsRow B 33 2 v n xs) (X Y : ByteArray) (hx : a.eval x = .slice (some ⟨w.heap.size, 0, none⟩) 1 1)
    (hlen : n + 1 ≤ 2000000) (hbase : B ≤ w.heap.size)
    (h : ∀ g cap w', w'.ownsRow B 33 2 (.slice (some ⟨g, 0, none⟩) (n + 1) cap) (n + 1) (xs ++ [.string X, .string Y]) → Below B w w' → B ≤ w'.heap.size → wpList Tryz.prog ops Q rest (a.put o.dst (.slice (some ⟨g, 0, none⟩) (n + 1) cap)) w') :
    wpList Tryz.prog ops Q (o :: rest) a (w.alloc (.cells #[.string X, .string Y] 33)) := by
  obtain ⟨i0, hi, hz0, hz1, hz2⟩ := info_parts info33
  refine wpList_append_own _ hgd s x 50 ho B 33 i0 _ 2 32 Tryz.underlying50 hi hz0 hz1 hz2 rfl (by decide) v n xs hs (hown.alloc _) ⟨w.heap.size, 0, none⟩ 1 1 [.string X, .string Y] hx rfl (cells2 w _ _ 33) (by intro u hu; simp at hu; rcases hu with rfl | rfl <;> rfl) (by unfold maxLen; omega) (by omega) (by rw [World.size_alloc]; omega) ?_
  intro v' w' h2 hgr _
  have hb : ∀ k, v.ownBlock = some k → B ≤ k := by
    intro k hk
    obtain ⟨_, ⟨rfl, _⟩ | ⟨g', cap', cur, rfl, hg, _⟩⟩ := hown
    · simp [Value.ownBlock] at hk
    · simp only [Value.ownBlock, Option.some.injEq] at hk
      omega
  have hB : Below B w w' := (((Below.refl B w).alloc hbase _)).grown hgr (by rw [World.size_alloc]; omega) hb
  have h2' := h2
  obtain ⟨_, ⟨_, h0⟩ | ⟨g, cap, cur, rfl, _⟩⟩ := h2'
  · omega
  · exact h g cap w' h2 hB (Nat.le_trans hbase hB.size)
theorem InRow.below {w W : World} {v : Value} {n : Nat} {X Y : Nat → ByteArray} (h : InRow w v n X Y) (hb : Below w.heap.size w W) : InRow W v n X Y := by
  obtain ⟨p, cap, hv, h⟩ := h
  refine ⟨p, cap, hv, ?_⟩
  rcases h with h | ⟨b, o, hp, h⟩
  · exact .inl h
  · refine .inr ⟨b, o, hp, fun i hi => ?_⟩
    obtain ⟨c0, c1, r⟩ := h i hi
    have hl := World.block_lt_of_cell? w _ c0
    exact ⟨(hb.cell (p := ⟨b, o + i * 2, none⟩) hl).trans c0, (hb.cell (p := ⟨b, o + i * 2 + 1, none⟩) hl).trans c1, r⟩
def CpRel (l : List Ad) (w : World) (g : Nat) (v5 v6 : Value) (W : World) : Prop :=
  ∃ (k : Nat) (v : Value), v6 = .int .i64 (k : Int) ∧ v = v5 ∧ k ≤ l.length ∧ g = l.length - k ∧ W.ownsRow w.heap.size 33 2 v k (adsC (l.take k)) ∧ Below w.heap.size w W ∧ w.heap.size ≤ W.heap.size
set_option maxHeartbeats 8000000 in
theorem puts_any (s0 : ByteArray) (hs0 : s0.size ≤ 140737488351232) (v : Value) (m : Nat) (X Y : Nat → ByteArray) (w : World) (h : InRow w v m X Y) (hm : m ≤ 9223372036854775807) (hE : Env w) :
    Calls Tryz.prog 5 #[.string s0, v] w fun e w' => e = .returned (.bool true) ∧ Below w.heap.size w w' := by
  have HIN := Lib.hid h
  have HE := Lib.hid hE
  clear h hE
  go_enter Tryz.func5, Tryz.ntmps5
  have h0 : (0 : Int) ≤ min (s0.size : Int) 800 := by omega
  have h1 : min (s0.size : Int) 800 ≤ (s0.size : Int) := by omega
  have hS : (s0.extract 0 (min (s0.size : Int) 800).toNat).size ≤ 800 := by simp; omega
  have HSH := Lib.hid (Short_any v m X Y w.drew (HIN.out.below (drew_below w)) hm)
  go_wp2_with fail
  go_region_held3 (fun W => True) (exact trivial)
    (first | ((with_reducible refine HSH.out.mono ?_); rintro e w1 ⟨v1, rfl, l, hrow, hl, hparts, hb1⟩))
  all_goals
    generalize s0.extract 0 (min (s0.size : Int) 800).toNat = S at hS ⊢
    have HB1 := Lib.hid ((drew_below w).trans hb1)
    have HROW := Lib.hid hrow
    have HPA := Lib.hid hparts
    have HE1 := Lib.hid (HE.out.below HB1.out)
    clear h0 h1 hs0 hb1 hparts
    obtain ⟨p, cap, rfl, -⟩ := hrow
    go_wp2_with fail
    go_loopg [5, 6] l.length (fun g v5 v6 W => CpRel l w1 g v5 v6 W)
    case atStart => exact ⟨0, _, rfl, rfl, Nat.zero_le _, rfl, World.ownsRow_nil _ _ _ _, Below.refl _ _, Nat.le_refl _⟩
    case round =>
      obtain ⟨k, v5, rfl, rfl, hk, hg, hown, hb, hsz⟩ := hrel
      have HG := Lib.hid hg
      have HO := Lib.hid hown
      have HB := Lib.hid hb
      have HSZ := Lib.hid hsz
      clear hg hown hb hsz
      by_cases hlt : k < l.length
      · have hk0 : (0 : Int) ≤ (k : Int) := by omega
        have hk1 : (k : Int) < (l.length : Int) := by omega
        have hwk : IntKind.i64.wrap ((k : Int) + 1) = (k : Int) + 1 := by rw [IntKind.wrap_i64]; omega
        obtain ⟨p', cap', he, hr⟩ := HROW.out.below HB.out
        obtain rfl : cap = cap' := by injection he
        obtain rfl : p = p' := by injection he
        obtain ⟨b, hpb, hc⟩ := arow_at hr hlt
        subst hpb
        clear he
        obtain ⟨c0, c1⟩ := hc k _ (List.getElem?_eq_getElem hlt)
        have htk : adsC (l.take (k + 1)) = adsC (l.take k) ++ adC l[k] := by rw [List.take_succ_eq_append_getElem hlt, adsC_snoc]
        have HTK := Lib.hid htk
        clear hr hc htk
        generalize l[k] = a at c0 c1 HTK
        obtain ⟨x, y⟩ := a
        simp only at c0 c1
        generalize hx : (⟨x.toArray⟩ : ByteArray) = xb at c0
        generalize hy : (⟨y.toArray⟩ : ByteArray) = yb at c1
        have HX := Lib.hid hx
        have HY := Lib.hid hy
        clear hx hy
        go_wp2_with (at_builtin; refine app_ad50 rfl _ _ rfl w1.heap.size _ _ _ rfl HO.out _ _ rfl (by omega) HSZ.out ?_; intro g' capn wn hown' hbn hszn)
        go_roundg (l.length - (k + 1))
        case rel =>
          refine ⟨k + 1, _, by go_num, rfl, by omega, rfl, ?_, HB.out.trans hbn, hszn⟩
          rw [HTK.out]
          simp only [adC]
          rw [HX.out, HY.out]
          exact hown'
        case measure => have := HG.out; omega
      · have hge : ¬ (k : Int) < (l.length : Int) := by omega
        obtain rfl : k = l.length := by omega
        have hown := HO.out
        have hown' := HO.out
        rw [List.take_length] at hown'
        have HR2 := Lib.hid (ARow.of hown')
        obtain ⟨p2, cap2, rfl⟩ : ∃ q cap, v5 = .slice q l.length cap := by
          obtain ⟨q, c, h, _⟩ := HR2.out
          exact ⟨q, c, h⟩
        have HR1 := Lib.hid (HROW.out.below HB.out)
        have hp : ∀ a ∈ l, a.1.length ≤ 1000 ∧ a.2.length ≤ 1000 := fun a ha => by have := HPA.out a ha; omega
        have HW := Lib.hid (Put_any S (by omega) l _ wr HR1.out (by omega) hp (HE1.out.below HB.out))
        have HRF := Lib.hid (fun W (hb : Below wr.heap.size wr W) => Put_ref S (by omega) l _ W (HR2.out.below hb) (by omega) hp)
        have HTE := Lib.hid (fun W (hb : Below wr.heap.size wr W) => tells_any W ((HE1.out.below HB.out).below hb))
        generalize putL S.data.toList l = R at HW HRF
        obtain ⟨r1, r2⟩ := R
        simp only at HW HRF
        generalize (⟨r1.toArray⟩ : ByteArray) = RT at HW HRF
        clear hown hown' hp
        have q2 : ((r2 : Int) == (r2 : Int)) = true := beq_self_eq_true _
        go_wp2_with fail
        refine HW.out.mono ?_
        rintro e w3 ⟨rfl, hb3⟩
        have HB3 := Lib.hid hb3
        clear hb3
        go_wp2_with fail
        refine (HRF.out _ HB3.out).mono ?_
        rintro e w4 ⟨rfl, hb4⟩
        have HB4 := Lib.hid (HB3.out.trans (hb4.mono HB3.out.size))
        clear hb4
        go_wp2_with fail
        refine (HTE.out _ HB4.out).mono ?_
        rintro e w5 ⟨rfl, hb5⟩
        go_wp2
        go_ret
        exact ⟨rfl, HB1.out.trans ((HB.out.trans ((HB4.out.trans (hb5.mono HB4.out.size)).mono HSZ.out)).mono HB1.out.size)⟩
end Go.Proofs.YtffngbjnbigipaaGreatDoor
