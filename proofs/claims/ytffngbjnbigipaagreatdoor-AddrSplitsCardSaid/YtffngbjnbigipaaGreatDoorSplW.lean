/- The law AddrSplits, walked. -/
import Derived.Test.YtffngbjnbigipaaGreatDoorMadeA
import Derived.Test.YtffngbjnbigipaaGreatDoorSplA
import Derived.Test.YtffngbjnbigipaaGreatDoorSplP
import Derived.Test.YtffngbjnbigipaaGreatDoorUpp
namespace Go.Proofs.YtffngbjnbigipaaGreatDoor
open Go.RowKit Go.Lib
set_option linter.unusedSimpArgs false
set_option linter.unusedVariables false
set_option linter.unnecessarySimpa false
set_option maxRecDepth 100000

theorem ba_ext {s : ByteArray} {l : List UInt8} (h : s.data.toList = l) : s = ⟨l.toArray⟩ := by
  apply ByteArray.ext
  apply Array.ext'
  rw [h]
theorem tail_list (s : ByteArray) {c : UInt8} {r : List UInt8} (h : s.data.toList = c :: r) : (s.extract 1 s.size).data.toList = r := by
  rw [ByteArray.data_extract, Array.toList_extract, List.extract_eq_take_drop, h]
  have : s.size = r.length + 1 := by rw [show s.size = s.data.toList.length by simp, h]; rfl
  simp [this]
theorem split_cases (L : ByteArray) (hs : L.size ≤ 1000) :
    (∃ U D U1 : ByteArray, (∀ w, Env w → Calls Tryz.prog 28 #[.string L] w fun e w' => e = .returned (.tuple #[.string U, .string D, .bool true]) ∧ Below w.heap.size w w') ∧
      (∀ w, (Op.stringOp .add U ⟨#[43]⟩).run Tryz.prog w = .ok (.string U1) w) ∧ (∀ w, (Op.stringOp .add U1 D).run Tryz.prog w = .ok (.string L) w) ∧
      U.toList.isEmpty = false ∧ ¬ U.toList = [] ∧ 1 ≤ U.size ∧ Lib.contains (U.extract 1 U.size).data.toList [43] = false ∧ U.size ≤ 1000) ∨
    ((∀ w, Env w → Calls Tryz.prog 28 #[.string L] w fun e w' => e = .returned (.tuple #[.string L, .string ⟨#[]⟩, .bool false]) ∧ Below w.heap.size w w') ∧
      (L = ⟨#[]⟩ ∨ (1 ≤ L.size ∧ Lib.contains (L.extract 1 L.size).data.toList [43] = false))) := by
  have HC := fun w (hE : Env w) => Split_addr L (by omega) w hE
  cases hl : L.data.toList with
  | nil =>
    right
    have hL : L = ⟨#[]⟩ := ba_ext hl
    refine ⟨fun w hE => ?_, .inl hL⟩
    have := HC w hE
    rw [hl] at this
    rw [hL] at this ⊢
    exact this
  | cons c r =>
    rw [hl] at HC
    simp only [splitL] at HC
    have hsz : L.size = r.length + 1 := by rw [show L.size = L.data.toList.length by simp, hl]; rfl
    cases hh : (cutP r).2.2 with
    | true =>
      left
      obtain ⟨h1, h2⟩ := cutP_has hh
      have hlen : (cutP r).1.length + (cutP r).2.1.length + 1 = r.length := by
        have := congrArg List.length h1
        simp only [List.length_append, List.length_cons] at this
        omega
      refine ⟨⟨(c :: (cutP r).1).toArray⟩, ⟨(cutP r).2.1.toArray⟩, ⟨((c :: (cutP r).1) ++ [43]).toArray⟩, fun w hE => by rw [← hh]; exact HC w hE, ?_, ?_, ?_, ?_, ?_, ?_, ?_⟩
      · exact add_run' (by apply ByteArray.ext; simp) (by show (c :: (cutP r).1).length + 1 ≤ _; simp only [List.length_cons]; omega)
      · refine add_run' ?_ (by show ((c :: (cutP r).1) ++ [43]).length + (cutP r).2.1.length ≤ _; simp only [List.length_cons, List.length_append, List.length_nil]; omega)
        rw [ba_ext hl]
        apply ByteArray.ext
        apply Array.ext'
        rw [ByteArray.data_append, Array.toList_append]
        show c :: r = ((c :: (cutP r).1) ++ [43]) ++ (cutP r).2.1
        rw [List.append_assoc]
        simp [h1]
      · rw [ByteArray.toList_eq]; rfl
      · rw [ByteArray.toList_eq]; simp
      · show 1 ≤ (c :: (cutP r).1).length
        simp
      · rw [tail_list ⟨(c :: (cutP r).1).toArray⟩ rfl]
        exact contains_plus h2
      · show (c :: (cutP r).1).length ≤ 1000
        simp only [List.length_cons]
        omega
    | false =>
      right
      obtain ⟨h1, h2⟩ := cutP_no hh
      refine ⟨fun w hE => ?_, .inr ⟨by omega, by rw [tail_list L hl]; exact contains_plus h2⟩⟩
      have := HC w hE
      rw [h1] at this
      simp only at this
      rw [← ba_ext hl] at this
      exact this
theorem kbel (s t : ByteArray) (r : Bool) (h : belL s.data.toList t.data.toList = r) (hs : s.size ≤ 1000000) (ht : t.size ≤ 1000000) (w : World) : Calls Tryz.prog 21 #[.string s, .string t] w fun e w' => e = .returned (.bool r) ∧ Below w.heap.size w w' := by
  have := Below_any s t (by omega) (by omega) w
  rw [h] at this
  exact this
theorem fldM (w : World) (a b : ByteArray) : (Instr.field 30 (.agg #[.string a, .string b]) 1).run Tryz.prog w = .ok (.string b) w := by kernel_rfl
theorem ksuf (s t : List UInt8) (w : World) (h : s.length ≤ 1000000) : Calls Tryz.prog 32 #[.string ⟨s.toArray⟩, .string ⟨t.toArray⟩] w fun e w' => e = .returned (.bool (Lib.hasSuffix s t)) ∧ w' = w :=
  Tryz.strings_HasSuffix ⟨s.toArray⟩ ⟨t.toArray⟩ w (by show s.length ≤ _; omega)
def SpCut (a b : List UInt8) (w : World) (v10 v11 : Value) (W : World) : Prop := v10 = .string ⟨a.toArray⟩ ∧ v11 = .string ⟨b.toArray⟩ ∧ Below w.heap.size w W
set_option maxHeartbeats 16000000 in
theorem splits_any (l0 X1 Y1 X2 Y2 : ByteArray) (hl0 : l0.size ≤ 9223372036854775807) (z1 : X1.size ≤ 9223372036854775807) (z2 : Y1.size ≤ 9223372036854775807) (z3 : X2.size ≤ 9223372036854775807) (z4 : Y2.size ≤ 9223372036854775807) (w : World) (hE : Env w) :
    Calls Tryz.prog 9 #[.string l0, .agg #[.string X1, .string Y1], .agg #[.string X2, .string Y2]] w fun e w' => e = .returned (.bool true) ∧ Below w.heap.size w w' := by
  have HE := Lib.hid hE
  obtain ⟨m, hm⟩ := hE.m
  have HMX := Lib.hid hm
  clear hE hm
  have HM1 := Lib.hid (fun W (h : ∃ m : Int, W.cell? ⟨3, 0, none⟩ = some (.int .i64 m)) => Made_any X1 Y1 z1 z2 W h)
  have HM2 := Lib.hid (fun W (h : ∃ m : Int, W.cell? ⟨3, 0, none⟩ = some (.int .i64 m)) => Made_any X2 Y2 z3 z4 W h)
  have ha0 : ∀ y, ∃ r, domM y = 100 :: r := fun y => ⟨_, rfl⟩
  obtain ⟨a, ha⟩ : ∃ a, a = domM Y1.data.toList := ⟨_, rfl⟩
  obtain ⟨b, hb⟩ : ∃ b, b = domM Y2.data.toList := ⟨_, rfl⟩
  rw [← ha] at HM1
  rw [← hb] at HM2
  have HAA := Lib.hid (show (∀ x ∈ a, asc x) ∧ a.length ≤ 2197 ∧ ∃ r, a = 100 :: r by rw [ha]; exact ⟨dom_asc _, dom_len _, ha0 _⟩)
  have HBB := Lib.hid (show (∀ x ∈ b, asc x) ∧ b.length ≤ 2197 by rw [hb]; exact ⟨dom_asc _, dom_len _⟩)
  clear ha hb ha0
  generalize (⟨(locL X1.data.toList).toArray⟩ : ByteArray) = LX1 at HM1
  generalize (⟨(locL X2.data.toList).toArray⟩ : ByteArray) = LX2 at HM2
  have i0 : (0 : Int) ≤ min (l0.size : Int) 80 := by omega
  have i1 : min (l0.size : Int) 80 ≤ (l0.size : Int) := by omega
  have ht1 := Two.made w (.string X1) (.string Y1) 30
  have hb1 := alloc_below w (.cells #[.string X1, .string Y1] 30)
  have hs1 : (w.alloc (.cells #[.string X1, .string Y1] 30)).heap.size = w.heap.size + 1 := World.size_alloc _ _
  generalize hw1 : w.alloc (.cells #[.string X1, .string Y1] 30) = w1 at ht1 hb1 hs1
  have ht2 := Two.made w1 (.string X2) (.string Y2) 30
  have hb2' := alloc_below w1 (.cells #[.string X2, .string Y2] 30)
  generalize hw2 : w1.alloc (.cells #[.string X2, .string Y2] 30) = w2 at ht2 hb2'
  rw [hs1] at ht2
  have ht1 := ht1.below hb2'
  have HB2 := Lib.hid (hb1.trans (hb2'.mono hb1.size))
  have HT1 := Lib.hid ht1
  have HT2 := Lib.hid ht2
  have HSP := Lib.hid (split_cases (l0.extract 0 (min (l0.size : Int) 80).toNat) (by rw [ByteArray.size_extract]; omega))
  have hLs : (l0.extract 0 (min (l0.size : Int) 80).toNat).size ≤ 80 := by rw [ByteArray.size_extract]; omega
  clear hb1 hb2' ht1 ht2
  go_enter Tryz.func9, Tryz.ntmps9
  go_wp2_with fail
  generalize l0.extract 0 (min (l0.size : Int) 80).toNat = L at HSP hLs ⊢
  have hsp := HSP.out
  clear HSP
  rcases hsp with ⟨U, D, U1, hcall, p1, p2, p3, p4, p5, p6, p7⟩ | ⟨hcall, hL⟩
  · have HC := Lib.hid hcall
    have HCON := Lib.hid (fun W hm => Tryz.strings_Contains (U.extract 1 U.size) ⟨#[43]⟩ m W (by rw [ByteArray.size_extract]; omega) hm)
    rw [show (⟨#[43]⟩ : ByteArray).data.toList = [43] from rfl, p6] at HCON
    have j1 : (1 : Int) ≤ (U.size : Int) := by omega
    clear hcall p6
    refine (HC.out _ (HE.out.below HB2.out)).mono ?_
    rintro e w3 ⟨rfl, hb3⟩
    have HBC := Lib.hid hb3
    clear hb3
    go_wp2_with fail
    refine (HCON.out _ (((HB2.out.trans (HBC.out.mono HB2.out.size)).cell (p := ⟨3, 0, none⟩) (World.block_lt_of_cell? w _ HMX.out)).trans HMX.out)).mono ?_
    rintro e xw ⟨rfl, hxw⟩
    rw [hxw]
    clear hxw xw
    go_wp2_with fail
    have HT1 := Lib.hid (HT1.out.below HBC.out)
    have HT2 := Lib.hid (HT2.out.below HBC.out)
    have HB3 := Lib.hid (HB2.out.trans (HBC.out.mono HB2.out.size))
    have t1 := HT1.out
    have t2 := HT2.out
    have hS : w3.drew.cell? ⟨w.heap.size, 0, none⟩ = some (.string X1) ∧ w3.drew.cell? ⟨w.heap.size, 1, none⟩ = some (.string Y1) ∧ w3.drew.cell? ⟨w.heap.size + 1, 0, none⟩ = some (.string X2) ∧ w3.drew.cell? ⟨w.heap.size + 1, 1, none⟩ = some (.string Y2) := ⟨t1.c0, t1.c1, t2.c0, t2.c1⟩
    have HKS := Lib.hid (fun W (hb : Below w3.heap.size w3 W) => (show W.cell? ⟨w.heap.size, 0, none⟩ = some (.string X1) ∧ W.cell? ⟨w.heap.size, 1, none⟩ = some (.string Y1) ∧ W.cell? ⟨w.heap.size + 1, 0, none⟩ = some (.string X2) ∧ W.cell? ⟨w.heap.size + 1, 1, none⟩ = some (.string Y2) from ⟨(HT1.out.below hb).c0, (HT1.out.below hb).c1, (HT2.out.below hb).c0, (HT2.out.below hb).c1⟩))
    have HN1 := Lib.hid (fun W (hb : Below w3.heap.size w3 W) => HM1.out W ⟨m, ((HB3.out.trans (hb.mono HB3.out.size)).cell (p := ⟨3, 0, none⟩) (World.block_lt_of_cell? w _ HMX.out)).trans HMX.out⟩)
    have HN2 := Lib.hid (fun W (hb : Below w3.heap.size w3 W) => HM2.out W ⟨m, ((HB3.out.trans (hb.mono HB3.out.size)).cell (p := ⟨3, 0, none⟩) (World.block_lt_of_cell? w _ HMX.out)).trans HMX.out⟩)
    have fl1 := fldM
    have hbd := drew_below w3
    clear t1 t2
    go_cut [10, 11] (fun v10 v11 W => SpCut a b w3 v10 v11 W)
    case first =>
      go_wp2_with fail
      go_region_held3 (fun W => W.cell? ⟨w.heap.size, 0, none⟩ = some (.string X1) ∧ W.cell? ⟨w.heap.size, 1, none⟩ = some (.string Y1) ∧ W.cell? ⟨w.heap.size + 1, 0, none⟩ = some (.string X2) ∧ W.cell? ⟨w.heap.size + 1, 1, none⟩ = some (.string Y2))
        (first | exact hS | exact hS7 | go_keep)
        (first
          | ((with_reducible refine (HN1.out _ hbd).mono ?_); rintro e w7 ⟨rfl, hb7⟩; have hbd7 := hbd.trans (hb7.mono hbd.size); clear hbd hb7; have hbd := hbd7; clear hbd7; have hS7 := HKS.out _ hbd)
          | ((with_reducible refine (HN2.out _ hbd).mono ?_); rintro e w7 ⟨rfl, hb7⟩; have hbd7 := hbd.trans (hb7.mono hbd.size); clear hbd hb7; have hbd := hbd7; clear hbd7; have hS7 := HKS.out _ hbd))
      all_goals
        go_wp2
        go_meet
        case rel => exact ⟨rfl, rfl, hbd⟩
    case rest =>
      obtain ⟨rfl, rfl, hbc⟩ := hcut
      have HBW := Lib.hid (HB3.out.trans (hbc.mono HB3.out.size))
      obtain ⟨q1, q2, q3⟩ := HAA.out
      obtain ⟨q4, q5⟩ := HBB.out
      have hAs : (⟨a.toArray⟩ : ByteArray).size ≤ 2197 := q2
      have hBs : (⟨b.toArray⟩ : ByteArray).size ≤ 2197 := q5
      have hax := add_run' (X := ⟨#[120, 46]⟩) (Y := ⟨a.toArray⟩) (Z := ⟨([120, 46] ++ a).toArray⟩) (by apply ByteArray.ext; simp) (by have h : (⟨#[120, 46]⟩ : ByteArray).size = 2 := rfl; omega)
      have hay := add_run' (X := ⟨#[88, 46, 121, 46]⟩) (Y := ⟨a.toArray⟩) (Z := ⟨([88, 46, 121, 46] ++ a).toArray⟩) (by apply ByteArray.ext; simp) (by have h : (⟨#[88, 46, 121, 46]⟩ : ByteArray).size = 4 := rfl; omega)
      have haz := add_run' (X := ⟨#[120]⟩) (Y := ⟨a.toArray⟩) (Z := ⟨([120] ++ a).toArray⟩) (by apply ByteArray.ext; simp) (by have h : (⟨#[120]⟩ : ByteArray).size = 1 := rfl; omega)
      have has : ∀ (j : Nat) (c : UInt8), (⟨a.toArray⟩ : ByteArray).data.toList[j]? = some c → c.toNat < 128 := fun j c h => q1 c (List.mem_of_getElem? h)
      have hbs : ∀ (j : Nat) (c : UInt8), (⟨b.toArray⟩ : ByteArray).data.toList[j]? = some c → c.toNat < 128 := fun j c h => q4 c (List.mem_of_getElem? h)
      have hlow : (Lib.toLowerA b).length = b.length := by simp [Lib.toLowerA]
      have hlowa : (Lib.toLowerA a).length = a.length := by simp [Lib.toLowerA]
      have hupl : (Lib.toUpperA a).length = a.length := by simp [Lib.toUpperA]
      have hab := add_run' (X := ⟨#[46]⟩) (Y := ⟨(Lib.toLowerA b).toArray⟩) (Z := ⟨([46] ++ Lib.toLowerA b).toArray⟩) (by apply ByteArray.ext; simp) (by have h : (⟨#[46]⟩ : ByteArray).size = 1 := rfl; show _ + (Lib.toLowerA b).length ≤ _; omega)
      have HK1 := Lib.hid (fun W => kbel ⟨a.toArray⟩ ⟨a.toArray⟩ _ (bel_self a) (by omega) (by omega) W)
      have HUP := Lib.hid (fun W => Tryz.strings_ToUpper_ascii ⟨a.toArray⟩ W (by omega) has)
      have HK2 := Lib.hid (fun W => kbel ⟨([120, 46] ++ a).toArray⟩ ⟨(Lib.toUpperA a).toArray⟩ _ (bel_up q1) (by show ([120, 46] ++ a).length ≤ _; simp only [List.length_append, List.length_cons, List.length_nil]; omega) (by show (Lib.toUpperA a).length ≤ _; omega) W)
      have HK3 := Lib.hid (fun W => kbel ⟨([88, 46, 121, 46] ++ a).toArray⟩ ⟨a.toArray⟩ _ (bel_two a) (by show ([88, 46, 121, 46] ++ a).length ≤ _; simp only [List.length_append, List.length_cons, List.length_nil]; omega) (by omega) W)
      have HK4 := Lib.hid (fun W => kbel ⟨a.toArray⟩ ⟨([120, 46] ++ a).toArray⟩ _ (bel_over a) (by omega) (by show ([120, 46] ++ a).length ≤ _; simp only [List.length_append, List.length_cons, List.length_nil]; omega) W)
      have HK5 := Lib.hid (fun W => kbel ⟨([120] ++ a).toArray⟩ ⟨a.toArray⟩ _ (bel_no a) (by show ([120] ++ a).length ≤ _; simp only [List.length_append, List.length_cons, List.length_nil]; omega) (by omega) W)
      have HK6 := Lib.hid (fun W => kbel ⟨a.toArray⟩ ⟨b.toArray⟩ _ (bel_suf q1 q4 q3) (by omega) (by omega) W)
      have HLA := Lib.hid (fun W => Tryz.strings_ToLower_ascii ⟨a.toArray⟩ W (by omega) has)
      have HLB := Lib.hid (fun W => Tryz.strings_ToLower_ascii ⟨b.toArray⟩ W (by omega) hbs)
      have HSU := Lib.hid (fun W => ksuf (Lib.toLowerA a) ([46] ++ Lib.toLowerA b) W (by omega))
      have HWK := Lib.hid (fun W (hE : Env W) => wakes_any W hE)
      rw [show (⟨a.toArray⟩ : ByteArray).data.toList = a from rfl] at HUP HLA
      rw [show (⟨b.toArray⟩ : ByteArray).data.toList = b from rfl] at HLB
      generalize Lib.hasSuffix (Lib.toLowerA a) ([46] ++ Lib.toLowerA b) = r at HK6 HSU
      generalize (⟨([46] ++ Lib.toLowerA b : List UInt8).toArray⟩ : ByteArray) = Z1 at HSU hab
      generalize (⟨(Lib.toLowerA b).toArray⟩ : ByteArray) = Z2 at HLB hab
      generalize (⟨(Lib.toLowerA a).toArray⟩ : ByteArray) = Z3 at HLA HSU
      generalize (⟨(Lib.toUpperA a).toArray⟩ : ByteArray) = Z4 at HUP HK2
      generalize (⟨([120, 46] ++ a : List UInt8).toArray⟩ : ByteArray) = Z5 at HK2 HK4 hax
      generalize (⟨([88, 46, 121, 46] ++ a : List UInt8).toArray⟩ : ByteArray) = Z6 at HK3 hay
      generalize (⟨([120] ++ a : List UInt8).toArray⟩ : ByteArray) = Z7 at HK5 haz
      generalize (⟨a.toArray⟩ : ByteArray) = A at *
      generalize (⟨b.toArray⟩ : ByteArray) = B at *
      clear has hbs q1 q2 q3 q4 q5 hlow hlowa hupl HAA HBB HN1 HN2 HM1 HM2 HKS hS hbd hbc
      go_wp2_with fail
      refine (HK1.out _).mono ?_
      rintro e xw ⟨rfl, hxb⟩
      have HBW := Lib.hid (HBW.out.trans (hxb.mono HBW.out.size))
      clear hxb
      go_wp2_with fail
      refine (HUP.out _).mono ?_
      rintro e xw ⟨rfl, hxb⟩
      have HBW := Lib.hid (HBW.out.trans (hxb.mono HBW.out.size))
      clear hxb
      go_wp2_with fail
      refine (HK2.out _).mono ?_
      rintro e xw ⟨rfl, hxb⟩
      have HBW := Lib.hid (HBW.out.trans (hxb.mono HBW.out.size))
      clear hxb
      go_wp2_with fail
      refine (HK3.out _).mono ?_
      rintro e xw ⟨rfl, hxb⟩
      have HBW := Lib.hid (HBW.out.trans (hxb.mono HBW.out.size))
      clear hxb
      go_wp2_with fail
      refine (HK4.out _).mono ?_
      rintro e xw ⟨rfl, hxb⟩
      have HBW := Lib.hid (HBW.out.trans (hxb.mono HBW.out.size))
      clear hxb
      go_wp2_with fail
      refine (HK5.out _).mono ?_
      rintro e xw ⟨rfl, hxb⟩
      have HBW := Lib.hid (HBW.out.trans (hxb.mono HBW.out.size))
      clear hxb
      go_wp2_with fail
      refine (HK6.out _).mono ?_
      rintro e xw ⟨rfl, hxb⟩
      have HBW := Lib.hid (HBW.out.trans (hxb.mono HBW.out.size))
      clear hxb
      go_wp2_with fail
      refine (HLA.out _).mono ?_
      rintro e xw ⟨rfl, hxb⟩
      have HBW := Lib.hid (HBW.out.trans (hxb.mono HBW.out.size))
      clear hxb
      go_wp2_with fail
      refine (HLB.out _).mono ?_
      rintro e xw ⟨rfl, hxb⟩
      have HBW := Lib.hid (HBW.out.trans (hxb.mono HBW.out.size))
      clear hxb
      go_wp2_with fail
      refine (HSU.out _).mono ?_
      rintro e xw ⟨rfl, hxw⟩
      rw [hxw]
      clear hxw xw
      go_wp2_with fail
      refine (HWK.out _ (HE.out.below HBW.out)).mono ?_
      rintro e xw ⟨rfl, hxb⟩
      have HBW := Lib.hid (HBW.out.trans (hxb.mono HBW.out.size))
      clear hxb
      go_wp2
      go_ret
      exact ⟨rfl, HBW.out⟩
  · have HC := Lib.hid hcall
    clear hcall
    rcases hL with hL | ⟨h1, hcon⟩
    · subst hL
      refine (HC.out _ (HE.out.below HB2.out)).mono ?_
      rintro e w3 ⟨rfl, hb3⟩
      have HBC := Lib.hid hb3
      clear hb3
      go_wp2_with fail
      have HT1 := Lib.hid (HT1.out.below HBC.out)
      have HT2 := Lib.hid (HT2.out.below HBC.out)
      have HB3 := Lib.hid (HB2.out.trans (HBC.out.mono HB2.out.size))
      have t1 := HT1.out
      have t2 := HT2.out
      have hS : w3.drew.cell? ⟨w.heap.size, 0, none⟩ = some (.string X1) ∧ w3.drew.cell? ⟨w.heap.size, 1, none⟩ = some (.string Y1) ∧ w3.drew.cell? ⟨w.heap.size + 1, 0, none⟩ = some (.string X2) ∧ w3.drew.cell? ⟨w.heap.size + 1, 1, none⟩ = some (.string Y2) := ⟨t1.c0, t1.c1, t2.c0, t2.c1⟩
      have HKS := Lib.hid (fun W (hb : Below w3.heap.size w3 W) => (show W.cell? ⟨w.heap.size, 0, none⟩ = some (.string X1) ∧ W.cell? ⟨w.heap.size, 1, none⟩ = some (.string Y1) ∧ W.cell? ⟨w.heap.size + 1, 0, none⟩ = some (.string X2) ∧ W.cell? ⟨w.heap.size + 1, 1, none⟩ = some (.string Y2) from ⟨(HT1.out.below hb).c0, (HT1.out.below hb).c1, (HT2.out.below hb).c0, (HT2.out.below hb).c1⟩))
      have HN1 := Lib.hid (fun W (hb : Below w3.heap.size w3 W) => HM1.out W ⟨m, ((HB3.out.trans (hb.mono HB3.out.size)).cell (p := ⟨3, 0, none⟩) (World.block_lt_of_cell? w _ HMX.out)).trans HMX.out⟩)
      have HN2 := Lib.hid (fun W (hb : Below w3.heap.size w3 W) => HM2.out W ⟨m, ((HB3.out.trans (hb.mono HB3.out.size)).cell (p := ⟨3, 0, none⟩) (World.block_lt_of_cell? w _ HMX.out)).trans HMX.out⟩)
      have fl1 := fldM
      have hbd := drew_below w3
      clear t1 t2
      go_cut [10, 11] (fun v10 v11 W => SpCut a b w3 v10 v11 W)
      case first =>
        go_wp2_with fail
        go_region_held3 (fun W => W.cell? ⟨w.heap.size, 0, none⟩ = some (.string X1) ∧ W.cell? ⟨w.heap.size, 1, none⟩ = some (.string Y1) ∧ W.cell? ⟨w.heap.size + 1, 0, none⟩ = some (.string X2) ∧ W.cell? ⟨w.heap.size + 1, 1, none⟩ = some (.string Y2))
          (first | exact hS | exact hS7 | go_keep)
          (first
            | ((with_reducible refine (HN1.out _ hbd).mono ?_); rintro e w7 ⟨rfl, hb7⟩; have hbd7 := hbd.trans (hb7.mono hbd.size); clear hbd hb7; have hbd := hbd7; clear hbd7; have hS7 := HKS.out _ hbd)
            | ((with_reducible refine (HN2.out _ hbd).mono ?_); rintro e w7 ⟨rfl, hb7⟩; have hbd7 := hbd.trans (hb7.mono hbd.size); clear hbd hb7; have hbd := hbd7; clear hbd7; have hS7 := HKS.out _ hbd))
        all_goals
          go_wp2
          go_meet
          case rel => exact ⟨rfl, rfl, hbd⟩
      case rest =>
        obtain ⟨rfl, rfl, hbc⟩ := hcut
        have HBW := Lib.hid (HB3.out.trans (hbc.mono HB3.out.size))
        obtain ⟨q1, q2, q3⟩ := HAA.out
        obtain ⟨q4, q5⟩ := HBB.out
        have hAs : (⟨a.toArray⟩ : ByteArray).size ≤ 2197 := q2
        have hBs : (⟨b.toArray⟩ : ByteArray).size ≤ 2197 := q5
        have hax := add_run' (X := ⟨#[120, 46]⟩) (Y := ⟨a.toArray⟩) (Z := ⟨([120, 46] ++ a).toArray⟩) (by apply ByteArray.ext; simp) (by have h : (⟨#[120, 46]⟩ : ByteArray).size = 2 := rfl; omega)
        have hay := add_run' (X := ⟨#[88, 46, 121, 46]⟩) (Y := ⟨a.toArray⟩) (Z := ⟨([88, 46, 121, 46] ++ a).toArray⟩) (by apply ByteArray.ext; simp) (by have h : (⟨#[88, 46, 121, 46]⟩ : ByteArray).size = 4 := rfl; omega)
        have haz := add_run' (X := ⟨#[120]⟩) (Y := ⟨a.toArray⟩) (Z := ⟨([120] ++ a).toArray⟩) (by apply ByteArray.ext; simp) (by have h : (⟨#[120]⟩ : ByteArray).size = 1 := rfl; omega)
        have has : ∀ (j : Nat) (c : UInt8), (⟨a.toArray⟩ : ByteArray).data.toList[j]? = some c → c.toNat < 128 := fun j c h => q1 c (List.mem_of_getElem? h)
        have hbs : ∀ (j : Nat) (c : UInt8), (⟨b.toArray⟩ : ByteArray).data.toList[j]? = some c → c.toNat < 128 := fun j c h => q4 c (List.mem_of_getElem? h)
        have hlow : (Lib.toLowerA b).length = b.length := by simp [Lib.toLowerA]
        have hlowa : (Lib.toLowerA a).length = a.length := by simp [Lib.toLowerA]
        have hupl : (Lib.toUpperA a).length = a.length := by simp [Lib.toUpperA]
        have hab := add_run' (X := ⟨#[46]⟩) (Y := ⟨(Lib.toLowerA b).toArray⟩) (Z := ⟨([46] ++ Lib.toLowerA b).toArray⟩) (by apply ByteArray.ext; simp) (by have h : (⟨#[46]⟩ : ByteArray).size = 1 := rfl; show _ + (Lib.toLowerA b).length ≤ _; omega)
        have HK1 := Lib.hid (fun W => kbel ⟨a.toArray⟩ ⟨a.toArray⟩ _ (bel_self a) (by omega) (by omega) W)
        have HUP := Lib.hid (fun W => Tryz.strings_ToUpper_ascii ⟨a.toArray⟩ W (by omega) has)
        have HK2 := Lib.hid (fun W => kbel ⟨([120, 46] ++ a).toArray⟩ ⟨(Lib.toUpperA a).toArray⟩ _ (bel_up q1) (by show ([120, 46] ++ a).length ≤ _; simp only [List.length_append, List.length_cons, List.length_nil]; omega) (by show (Lib.toUpperA a).length ≤ _; omega) W)
        have HK3 := Lib.hid (fun W => kbel ⟨([88, 46, 121, 46] ++ a).toArray⟩ ⟨a.toArray⟩ _ (bel_two a) (by show ([88, 46, 121, 46] ++ a).length ≤ _; simp only [List.length_append, List.length_cons, List.length_nil]; omega) (by omega) W)
        have HK4 := Lib.hid (fun W => kbel ⟨a.toArray⟩ ⟨([120, 46] ++ a).toArray⟩ _ (bel_over a) (by omega) (by show ([120, 46] ++ a).length ≤ _; simp only [List.length_append, List.length_cons, List.length_nil]; omega) W)
        have HK5 := Lib.hid (fun W => kbel ⟨([120] ++ a).toArray⟩ ⟨a.toArray⟩ _ (bel_no a) (by show ([120] ++ a).length ≤ _; simp only [List.length_append, List.length_cons, List.length_nil]; omega) (by omega) W)
        have HK6 := Lib.hid (fun W => kbel ⟨a.toArray⟩ ⟨b.toArray⟩ _ (bel_suf q1 q4 q3) (by omega) (by omega) W)
        have HLA := Lib.hid (fun W => Tryz.strings_ToLower_ascii ⟨a.toArray⟩ W (by omega) has)
        have HLB := Lib.hid (fun W => Tryz.strings_ToLower_ascii ⟨b.toArray⟩ W (by omega) hbs)
        have HSU := Lib.hid (fun W => ksuf (Lib.toLowerA a) ([46] ++ Lib.toLowerA b) W (by omega))
        have HWK := Lib.hid (fun W (hE : Env W) => wakes_any W hE)
        rw [show (⟨a.toArray⟩ : ByteArray).data.toList = a from rfl] at HUP HLA
        rw [show (⟨b.toArray⟩ : ByteArray).data.toList = b from rfl] at HLB
        generalize Lib.hasSuffix (Lib.toLowerA a) ([46] ++ Lib.toLowerA b) = r at HK6 HSU
        generalize (⟨([46] ++ Lib.toLowerA b : List UInt8).toArray⟩ : ByteArray) = Z1 at HSU hab
        generalize (⟨(Lib.toLowerA b).toArray⟩ : ByteArray) = Z2 at HLB hab
        generalize (⟨(Lib.toLowerA a).toArray⟩ : ByteArray) = Z3 at HLA HSU
        generalize (⟨(Lib.toUpperA a).toArray⟩ : ByteArray) = Z4 at HUP HK2
        generalize (⟨([120, 46] ++ a : List UInt8).toArray⟩ : ByteArray) = Z5 at HK2 HK4 hax
        generalize (⟨([88, 46, 121, 46] ++ a : List UInt8).toArray⟩ : ByteArray) = Z6 at HK3 hay
        generalize (⟨([120] ++ a : List UInt8).toArray⟩ : ByteArray) = Z7 at HK5 haz
        generalize (⟨a.toArray⟩ : ByteArray) = A at *
        generalize (⟨b.toArray⟩ : ByteArray) = B at *
        clear has hbs q1 q2 q3 q4 q5 hlow hlowa hupl HAA HBB HN1 HN2 HM1 HM2 HKS hS hbd hbc
        go_wp2_with fail
        refine (HK1.out _).mono ?_
        rintro e xw ⟨rfl, hxb⟩
        have HBW := Lib.hid (HBW.out.trans (hxb.mono HBW.out.size))
        clear hxb
        go_wp2_with fail
        refine (HUP.out _).mono ?_
        rintro e xw ⟨rfl, hxb⟩
        have HBW := Lib.hid (HBW.out.trans (hxb.mono HBW.out.size))
        clear hxb
        go_wp2_with fail
        refine (HK2.out _).mono ?_
        rintro e xw ⟨rfl, hxb⟩
        have HBW := Lib.hid (HBW.out.trans (hxb.mono HBW.out.size))
        clear hxb
        go_wp2_with fail
        refine (HK3.out _).mono ?_
        rintro e xw ⟨rfl, hxb⟩
        have HBW := Lib.hid (HBW.out.trans (hxb.mono HBW.out.size))
        clear hxb
        go_wp2_with fail
        refine (HK4.out _).mono ?_
        rintro e xw ⟨rfl, hxb⟩
        have HBW := Lib.hid (HBW.out.trans (hxb.mono HBW.out.size))
        clear hxb
        go_wp2_with fail
        refine (HK5.out _).mono ?_
        rintro e xw ⟨rfl, hxb⟩
        have HBW := Lib.hid (HBW.out.trans (hxb.mono HBW.out.size))
        clear hxb
        go_wp2_with fail
        refine (HK6.out _).mono ?_
        rintro e xw ⟨rfl, hxb⟩
        have HBW := Lib.hid (HBW.out.trans (hxb.mono HBW.out.size))
        clear hxb
        go_wp2_with fail
        refine (HLA.out _).mono ?_
        rintro e xw ⟨rfl, hxb⟩
        have HBW := Lib.hid (HBW.out.trans (hxb.mono HBW.out.size))
        clear hxb
        go_wp2_with fail
        refine (HLB.out _).mono ?_
        rintro e xw ⟨rfl, hxb⟩
        have HBW := Lib.hid (HBW.out.trans (hxb.mono HBW.out.size))
        clear hxb
        go_wp2_with fail
        refine (HSU.out _).mono ?_
        rintro e xw ⟨rfl, hxw⟩
        rw [hxw]
        clear hxw xw
        go_wp2_with fail
        refine (HWK.out _ (HE.out.below HBW.out)).mono ?_
        rintro e xw ⟨rfl, hxb⟩
        have HBW := Lib.hid (HBW.out.trans (hxb.mono HBW.out.size))
        clear hxb
        go_wp2
        go_ret
        exact ⟨rfl, HBW.out⟩
    · have HCON := Lib.hid (fun W hm => Tryz.strings_Contains (L.extract 1 L.size) ⟨#[43]⟩ m W (by rw [ByteArray.size_extract]; omega) hm)
      rw [show (⟨#[43]⟩ : ByteArray).data.toList = [43] from rfl, hcon] at HCON
      have j1 : (1 : Int) ≤ (L.size : Int) := by omega
      have j0 : (0 : Int) < (L.size : Int) := by omega
      clear hcon
      refine (HC.out _ (HE.out.below HB2.out)).mono ?_
      rintro e w3 ⟨rfl, hb3⟩
      have HBC := Lib.hid hb3
      clear hb3
      go_wp2_with fail
      refine (HCON.out _ (((HB2.out.trans (HBC.out.mono HB2.out.size)).cell (p := ⟨3, 0, none⟩) (World.block_lt_of_cell? w _ HMX.out)).trans HMX.out)).mono ?_
      rintro e xw ⟨rfl, hxw⟩
      rw [hxw]
      clear hxw xw
      go_wp2_with fail
      have HT1 := Lib.hid (HT1.out.below HBC.out)
      have HT2 := Lib.hid (HT2.out.below HBC.out)
      have HB3 := Lib.hid (HB2.out.trans (HBC.out.mono HB2.out.size))
      have t1 := HT1.out
      have t2 := HT2.out
      have hS : w3.drew.cell? ⟨w.heap.size, 0, none⟩ = some (.string X1) ∧ w3.drew.cell? ⟨w.heap.size, 1, none⟩ = some (.string Y1) ∧ w3.drew.cell? ⟨w.heap.size + 1, 0, none⟩ = some (.string X2) ∧ w3.drew.cell? ⟨w.heap.size + 1, 1, none⟩ = some (.string Y2) := ⟨t1.c0, t1.c1, t2.c0, t2.c1⟩
      have HKS := Lib.hid (fun W (hb : Below w3.heap.size w3 W) => (show W.cell? ⟨w.heap.size, 0, none⟩ = some (.string X1) ∧ W.cell? ⟨w.heap.size, 1, none⟩ = some (.string Y1) ∧ W.cell? ⟨w.heap.size + 1, 0, none⟩ = some (.string X2) ∧ W.cell? ⟨w.heap.size + 1, 1, none⟩ = some (.string Y2) from ⟨(HT1.out.below hb).c0, (HT1.out.below hb).c1, (HT2.out.below hb).c0, (HT2.out.below hb).c1⟩))
      have HN1 := Lib.hid (fun W (hb : Below w3.heap.size w3 W) => HM1.out W ⟨m, ((HB3.out.trans (hb.mono HB3.out.size)).cell (p := ⟨3, 0, none⟩) (World.block_lt_of_cell? w _ HMX.out)).trans HMX.out⟩)
      have HN2 := Lib.hid (fun W (hb : Below w3.heap.size w3 W) => HM2.out W ⟨m, ((HB3.out.trans (hb.mono HB3.out.size)).cell (p := ⟨3, 0, none⟩) (World.block_lt_of_cell? w _ HMX.out)).trans HMX.out⟩)
      have fl1 := fldM
      have hbd := drew_below w3
      clear t1 t2
      go_cut [10, 11] (fun v10 v11 W => SpCut a b w3 v10 v11 W)
      case first =>
        go_wp2_with fail
        go_region_held3 (fun W => W.cell? ⟨w.heap.size, 0, none⟩ = some (.string X1) ∧ W.cell? ⟨w.heap.size, 1, none⟩ = some (.string Y1) ∧ W.cell? ⟨w.heap.size + 1, 0, none⟩ = some (.string X2) ∧ W.cell? ⟨w.heap.size + 1, 1, none⟩ = some (.string Y2))
          (first | exact hS | exact hS7 | go_keep)
          (first
            | ((with_reducible refine (HN1.out _ hbd).mono ?_); rintro e w7 ⟨rfl, hb7⟩; have hbd7 := hbd.trans (hb7.mono hbd.size); clear hbd hb7; have hbd := hbd7; clear hbd7; have hS7 := HKS.out _ hbd)
            | ((with_reducible refine (HN2.out _ hbd).mono ?_); rintro e w7 ⟨rfl, hb7⟩; have hbd7 := hbd.trans (hb7.mono hbd.size); clear hbd hb7; have hbd := hbd7; clear hbd7; have hS7 := HKS.out _ hbd))
        all_goals
          go_wp2
          go_meet
          case rel => exact ⟨rfl, rfl, hbd⟩
      case rest =>
        obtain ⟨rfl, rfl, hbc⟩ := hcut
        have HBW := Lib.hid (HB3.out.trans (hbc.mono HB3.out.size))
        obtain ⟨q1, q2, q3⟩ := HAA.out
        obtain ⟨q4, q5⟩ := HBB.out
        have hAs : (⟨a.toArray⟩ : ByteArray).size ≤ 2197 := q2
        have hBs : (⟨b.toArray⟩ : ByteArray).size ≤ 2197 := q5
        have hax := add_run' (X := ⟨#[120, 46]⟩) (Y := ⟨a.toArray⟩) (Z := ⟨([120, 46] ++ a).toArray⟩) (by apply ByteArray.ext; simp) (by have h : (⟨#[120, 46]⟩ : ByteArray).size = 2 := rfl; omega)
        have hay := add_run' (X := ⟨#[88, 46, 121, 46]⟩) (Y := ⟨a.toArray⟩) (Z := ⟨([88, 46, 121, 46] ++ a).toArray⟩) (by apply ByteArray.ext; simp) (by have h : (⟨#[88, 46, 121, 46]⟩ : ByteArray).size = 4 := rfl; omega)
        have haz := add_run' (X := ⟨#[120]⟩) (Y := ⟨a.toArray⟩) (Z := ⟨([120] ++ a).toArray⟩) (by apply ByteArray.ext; simp) (by have h : (⟨#[120]⟩ : ByteArray).size = 1 := rfl; omega)
        have has : ∀ (j : Nat) (c : UInt8), (⟨a.toArray⟩ : ByteArray).data.toList[j]? = some c → c.toNat < 128 := fun j c h => q1 c (List.mem_of_getElem? h)
        have hbs : ∀ (j : Nat) (c : UInt8), (⟨b.toArray⟩ : ByteArray).data.toList[j]? = some c → c.toNat < 128 := fun j c h => q4 c (List.mem_of_getElem? h)
        have hlow : (Lib.toLowerA b).length = b.length := by simp [Lib.toLowerA]
        have hlowa : (Lib.toLowerA a).length = a.length := by simp [Lib.toLowerA]
        have hupl : (Lib.toUpperA a).length = a.length := by simp [Lib.toUpperA]
        have hab := add_run' (X := ⟨#[46]⟩) (Y := ⟨(Lib.toLowerA b).toArray⟩) (Z := ⟨([46] ++ Lib.toLowerA b).toArray⟩) (by apply ByteArray.ext; simp) (by have h : (⟨#[46]⟩ : ByteArray).size = 1 := rfl; show _ + (Lib.toLowerA b).length ≤ _; omega)
        have HK1 := Lib.hid (fun W => kbel ⟨a.toArray⟩ ⟨a.toArray⟩ _ (bel_self a) (by omega) (by omega) W)
        have HUP := Lib.hid (fun W => Tryz.strings_ToUpper_ascii ⟨a.toArray⟩ W (by omega) has)
        have HK2 := Lib.hid (fun W => kbel ⟨([120, 46] ++ a).toArray⟩ ⟨(Lib.toUpperA a).toArray⟩ _ (bel_up q1) (by show ([120, 46] ++ a).length ≤ _; simp only [List.length_append, List.length_cons, List.length_nil]; omega) (by show (Lib.toUpperA a).length ≤ _; omega) W)
        have HK3 := Lib.hid (fun W => kbel ⟨([88, 46, 121, 46] ++ a).toArray⟩ ⟨a.toArray⟩ _ (bel_two a) (by show ([88, 46, 121, 46] ++ a).length ≤ _; simp only [List.length_append, List.length_cons, List.length_nil]; omega) (by omega) W)
        have HK4 := Lib.hid (fun W => kbel ⟨a.toArray⟩ ⟨([120, 46] ++ a).toArray⟩ _ (bel_over a) (by omega) (by show ([120, 46] ++ a).length ≤ _; simp only [List.length_append, List.length_cons, List.length_nil]; omega) W)
        have HK5 := Lib.hid (fun W => kbel ⟨([120] ++ a).toArray⟩ ⟨a.toArray⟩ _ (bel_no a) (by show ([120] ++ a).length ≤ _; simp only [List.length_append, List.length_cons, List.length_nil]; omega) (by omega) W)
        have HK6 := Lib.hid (fun W => kbel ⟨a.toArray⟩ ⟨b.toArray⟩ _ (bel_suf q1 q4 q3) (by omega) (by omega) W)
        have HLA := Lib.hid (fun W => Tryz.strings_ToLower_ascii ⟨a.toArray⟩ W (by omega) has)
        have HLB := Lib.hid (fun W => Tryz.strings_ToLower_ascii ⟨b.toArray⟩ W (by omega) hbs)
        have HSU := Lib.hid (fun W => ksuf (Lib.toLowerA a) ([46] ++ Lib.toLowerA b) W (by omega))
        have HWK := Lib.hid (fun W (hE : Env W) => wakes_any W hE)
        rw [show (⟨a.toArray⟩ : ByteArray).data.toList = a from rfl] at HUP HLA
        rw [show (⟨b.toArray⟩ : ByteArray).data.toList = b from rfl] at HLB
        generalize Lib.hasSuffix (Lib.toLowerA a) ([46] ++ Lib.toLowerA b) = r at HK6 HSU
        generalize (⟨([46] ++ Lib.toLowerA b : List UInt8).toArray⟩ : ByteArray) = Z1 at HSU hab
        generalize (⟨(Lib.toLowerA b).toArray⟩ : ByteArray) = Z2 at HLB hab
        generalize (⟨(Lib.toLowerA a).toArray⟩ : ByteArray) = Z3 at HLA HSU
        generalize (⟨(Lib.toUpperA a).toArray⟩ : ByteArray) = Z4 at HUP HK2
        generalize (⟨([120, 46] ++ a : List UInt8).toArray⟩ : ByteArray) = Z5 at HK2 HK4 hax
        generalize (⟨([88, 46, 121, 46] ++ a : List UInt8).toArray⟩ : ByteArray) = Z6 at HK3 hay
        generalize (⟨([120] ++ a : List UInt8).toArray⟩ : ByteArray) = Z7 at HK5 haz
        generalize (⟨a.toArray⟩ : ByteArray) = A at *
        generalize (⟨b.toArray⟩ : ByteArray) = B at *
        clear has hbs q1 q2 q3 q4 q5 hlow hlowa hupl HAA HBB HN1 HN2 HM1 HM2 HKS hS hbd hbc
        go_wp2_with fail
        refine (HK1.out _).mono ?_
        rintro e xw ⟨rfl, hxb⟩
        have HBW := Lib.hid (HBW.out.trans (hxb.mono HBW.out.size))
        clear hxb
        go_wp2_with fail
        refine (HUP.out _).mono ?_
        rintro e xw ⟨rfl, hxb⟩
        have HBW := Lib.hid (HBW.out.trans (hxb.mono HBW.out.size))
        clear hxb
        go_wp2_with fail
        refine (HK2.out _).mono ?_
        rintro e xw ⟨rfl, hxb⟩
        have HBW := Lib.hid (HBW.out.trans (hxb.mono HBW.out.size))
        clear hxb
        go_wp2_with fail
        refine (HK3.out _).mono ?_
        rintro e xw ⟨rfl, hxb⟩
        have HBW := Lib.hid (HBW.out.trans (hxb.mono HBW.out.size))
        clear hxb
        go_wp2_with fail
        refine (HK4.out _).mono ?_
        rintro e xw ⟨rfl, hxb⟩
        have HBW := Lib.hid (HBW.out.trans (hxb.mono HBW.out.size))
        clear hxb
        go_wp2_with fail
        refine (HK5.out _).mono ?_
        rintro e xw ⟨rfl, hxb⟩
        have HBW := Lib.hid (HBW.out.trans (hxb.mono HBW.out.size))
        clear hxb
        go_wp2_with fail
        refine (HK6.out _).mono ?_
        rintro e xw ⟨rfl, hxb⟩
        have HBW := Lib.hid (HBW.out.trans (hxb.mono HBW.out.size))
        clear hxb
        go_wp2_with fail
        refine (HLA.out _).mono ?_
        rintro e xw ⟨rfl, hxb⟩
        have HBW := Lib.hid (HBW.out.trans (hxb.mono HBW.out.size))
        clear hxb
        go_wp2_with fail
        refine (HLB.out _).mono ?_
        rintro e xw ⟨rfl, hxb⟩
        have HBW := Lib.hid (HBW.out.trans (hxb.mono HBW.out.size))
        clear hxb
        go_wp2_with fail
        refine (HSU.out _).mono ?_
        rintro e xw ⟨rfl, hxw⟩
        rw [hxw]
        clear hxw xw
        go_wp2_with fail
        refine (HWK.out _ (HE.out.below HBW.out)).mono ?_
        rintro e xw ⟨rfl, hxb⟩
        have HBW := Lib.hid (HBW.out.trans (hxb.mono HBW.out.size))
        clear hxb
        go_wp2
        go_ret
        exact ⟨rfl, HBW.out⟩
end Go.Proofs.YtffngbjnbigipaaGreatDoor
