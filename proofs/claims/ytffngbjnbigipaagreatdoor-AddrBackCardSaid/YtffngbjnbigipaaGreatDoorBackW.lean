/- The law AddrBack, walked. -/
import Derived.Test.YtffngbjnbigipaaGreatDoorBackR
import Derived.Test.YtffngbjnbigipaaGreatDoorNrmQ
import Derived.Test.YtffngbjnbigipaaGreatDoorUpF
namespace Go.Proofs.YtffngbjnbigipaaGreatDoor
open Go Go.Maps Go.RowKit Go.Lib
set_option linter.unusedSimpArgs false
set_option linter.unusedVariables false
set_option linter.unnecessarySimpa false
set_option maxRecDepth 100000

/-- the two addresses made, in two blocks of their own. -/
def MkRel (LA DA LB DB : ByteArray) (w : World) (v7 v8 : Value) (W : World) : Prop :=
  ∃ Ba Bb, v7 = .pointer (some ⟨Ba, 0, none⟩) ∧ v8 = .pointer (some ⟨Bb, 0, none⟩) ∧ Ba ≠ Bb ∧ w.heap.size ≤ Ba ∧ w.heap.size ≤ Bb ∧ Two Ba (.string LA) (.string DA) W ∧ Two Bb (.string LB) (.string DB) W ∧ Below w.heap.size w W
theorem text_len2 (a : List UInt8 × List UInt8) : (textL a).length ≤ 2 * a.1.length + a.2.length + 3 := by
  unfold textL
  split
  · split
    · simp; omega
    · unfold quoteL
      have := esc_len a.1
      simp
      omega
  · simp
theorem kmay2 (la da : List UInt8) (LA DA : ByteArray) (hL : LA = ⟨la.toArray⟩) (hD : DA = ⟨da.toArray⟩) (hm : mayL (la, da) = true) (h1 : la.length ≤ 1000000) (h2 : da.length ≤ 1000000) (w : World) (hE : Env w) :
    Calls Tryz.prog 18 #[.agg #[.string LA, .string DA]] w fun e w' => e = .returned (.bool true) ∧ Below w.heap.size w w' := by
  subst hL hD
  have := May_any (la, da) (by show la.length ≤ _; omega) (by show da.length ≤ _; omega) w hE
  rw [hm] at this
  exact this
theorem knorm2 (la da na nd : List UInt8) (LA DA NA ND : ByteArray) (hL : LA = ⟨la.toArray⟩) (hD : DA = ⟨da.toArray⟩) (hN : NA = ⟨na.toArray⟩) (hM : ND = ⟨nd.toArray⟩) (hn : normL (la, da) = (na, nd)) (h1 : la.length ≤ 1000000) (h2 : da.length ≤ 1000000) (w : World) :
    Calls Tryz.prog 34 #[.agg #[.string LA, .string DA]] w fun e w' => e = .returned (.agg #[.string NA, .string ND]) ∧ Below w.heap.size w w' := by
  subst hL hD hN hM
  have := Normal_any (la, da) (by show la.length ≤ _; omega) (by show da.length ≤ _; omega) w
  rw [hn] at this
  exact this
theorem ksame2 (X Y X' Y' : ByteArray) (r : Bool) (hr : decide (ordS X Y X' Y' = 0) = r) (h1 : X.size ≤ 1000000) (h2 : Y.size ≤ 1000000) (h3 : X'.size ≤ 1000000) (h4 : Y'.size ≤ 1000000) (w : World) :
    Calls Tryz.prog 20 #[.agg #[.string X, .string Y], .agg #[.string X', .string Y']] w fun e w' => e = .returned (.bool r) ∧ Below w.heap.size w w' := by
  have := SameA_any X Y X' Y' (by omega) (by omega) (by omega) (by omega) w
  rw [hr] at this
  exact this
def UpRel (LA UA : ByteArray) (w : World) (v12 : Value) (W : World) : Prop := ∃ Bc, v12 = .pointer (some ⟨Bc, 0, none⟩) ∧ Two Bc (.string LA) (.string UA) W ∧ Below w.heap.size w W
theorem kup2 (da : List UInt8) (DA UA : ByteArray) (hD : DA = ⟨da.toArray⟩) (hU : UA = ⟨(Lib.toUpperA da).toArray⟩) (ha : ∀ b ∈ da, asc b) (h2 : da.length ≤ 1000000) (w : World) : Calls Tryz.prog 31 #[.string DA] w fun e w' => e = .returned (.string UA) ∧ Below w.heap.size w w' := by
  subst hD hU
  exact Tryz.strings_ToUpper_ascii ⟨da.toArray⟩ w (by show da.length ≤ _; omega) (fun j c h => ha c (List.mem_of_getElem? h))
theorem tail_len2 (w r : List UInt8) : (tailL w r).1.length ≤ w.length ∧ (tailL w r).2.1.length ≤ r.length := by
  by_cases h : (tailL w r).2.2 = 0
  · cases r with
    | nil => simp [tailL]
    | cons c d =>
      have e : tailL w (c :: d) = if c = 64 then (if domL d = 5 then ([], [], 5) else if domL d = 3 ∨ 64 < w.length then ([], [], 3) else (w, d, 0)) else ([], [], 5) := rfl
      rw [e]
      by_cases h1 : c = 64
      · rw [if_pos h1]
        by_cases h2 : domL d = 5
        · rw [if_pos h2]; simp
        · rw [if_neg h2]
          by_cases h3 : domL d = 3 ∨ 64 < w.length
          · rw [if_pos h3]; simp
          · rw [if_neg h3]; simp
      · rw [if_neg h1]; simp
  · obtain ⟨h1, h2⟩ := tail_err w r h
    rw [h1, h2]
    simp
theorem head_len2 {l w r : List UInt8} (h : headL l = some (w, r)) : w.length ≤ l.length ∧ r.length ≤ l.length := by
  unfold headL at h
  split at h
  · split at h
    · injection h with h
      injection h with h1 h2
      subst h1; subst h2
      exact ⟨quoted_len l, by simp⟩
    · cases h
  · split at h
    · injection h with h
      injection h with h1 h2
      subst h1; subst h2
      exact ⟨(List.takeWhile_prefix _).length_le, (List.dropWhile_suffix _).length_le⟩
    · cases h
theorem parse_len2 (l : List UInt8) : (parseL l).1.length ≤ l.length ∧ (parseL l).2.1.length ≤ l.length := by
  unfold parseL
  split
  · simp
  · rename_i w r h
    have h1 := head_len2 h
    have h2 := tail_len2 w r
    omega
theorem tail_vals (w r : List UInt8) : (tailL w r).2.2 = 0 ∨ (tailL w r).2.2 = 3 ∨ (tailL w r).2.2 = 5 := by
  cases r with
  | nil => simp [tailL]
  | cons c d =>
    have e : tailL w (c :: d) = if c = 64 then (if domL d = 5 then ([], [], 5) else if domL d = 3 ∨ 64 < w.length then ([], [], 3) else (w, d, 0)) else ([], [], 5) := rfl
    rw [e]
    by_cases h1 : c = 64
    · rw [if_pos h1]
      by_cases h2 : domL d = 5
      · rw [if_pos h2]; simp
      · rw [if_neg h2]
        by_cases h3 : domL d = 3 ∨ 64 < w.length
        · rw [if_pos h3]; simp
        · rw [if_neg h3]; simp
    · rw [if_neg h1]; simp
theorem parse_vals (l : List UInt8) : (parseL l).2.2 = 0 ∨ (parseL l).2.2 = 3 ∨ (parseL l).2.2 = 5 := by
  unfold parseL
  split
  · simp
  · exact tail_vals _ _
theorem read_cases (S : ByteArray) (hs : S.size ≤ 400) : (∃ er : Nat, (er = 5 ∨ er = 3) ∧ ∀ w, Env w → Calls Tryz.prog 16 #[.string S] w fun e w' => e = .returned (.tuple #[.agg #[.string ⟨#[]⟩, .string ⟨#[]⟩], .int .i64 (er : Int)]) ∧ Below w.heap.size w w') ∨
    (∃ p q, mayL (p, q) = true ∧ p.length ≤ 400 ∧ q.length ≤ 400 ∧ ∀ w, Env w → Calls Tryz.prog 16 #[.string S] w fun e w' => e = .returned (.tuple #[.agg #[.string ⟨p.toArray⟩, .string ⟨q.toArray⟩], .int .i64 0]) ∧ Below w.heap.size w w') := by
  have HC := fun w (hE : Env w) => Parse_any S (by omega) w hE
  have hl := parse_len2 S.data.toList
  rw [show S.data.toList.length = S.size by simp] at hl
  by_cases h0 : (parseL S.data.toList).2.2 = 0
  · right
    refine ⟨(parseL S.data.toList).1, (parseL S.data.toList).2.1, parse_may _ h0, by omega, by omega, fun w hE => ?_⟩
    have := HC w hE
    unfold parV at this
    rw [h0] at this
    exact this
  · left
    obtain ⟨h1, h2⟩ := parse_err _ h0
    have h3 := parse_vals S.data.toList
    refine ⟨(parseL S.data.toList).2.2, by omega, fun w hE => ?_⟩
    have := HC w hE
    unfold parV at this
    rw [h1, h2] at this
    exact this
theorem kcmp2 (X Y X' Y' : ByteArray) (hr : ordS X Y X' Y' = 0) (h1 : X.size ≤ 1000000) (h2 : Y.size ≤ 1000000) (h3 : X'.size ≤ 1000000) (h4 : Y'.size ≤ 1000000) (w : World) :
    Calls Tryz.prog 19 #[.agg #[.string X, .string Y], .agg #[.string X', .string Y']] w fun e w' => e = .returned (.int .i64 0) ∧ Below w.heap.size w w' := by
  have := CompareA_any X Y X' Y' (by omega) (by omega) (by omega) (by omega) w
  rw [hr] at this
  exact this
theorem kfold2 (la : List UInt8) (LA : ByteArray) (hL : LA = ⟨la.toArray⟩) (hp : plainL la = true) (h : la.length ≤ 1000000) (w : World) :
    Calls Tryz.prog 35 #[.string LA, .string ⟨#[112, 111, 115, 116, 109, 97, 115, 116, 101, 114]⟩] w fun e w' => e = .returned (.bool (lowL la == pmL)) ∧ w' = w := by
  subst hL
  have hpl : ∀ b ∈ la, b.toNat < 128 := fun b hb => by
    unfold plainL at hp
    have := List.all_eq_true.1 hp b hb
    unfold plainB at this
    simp only [Bool.and_eq_true, decide_eq_true_eq] at this
    omega
  have := Tryz.strings_EqualFold ⟨la.toArray⟩ ⟨#[112, 111, 115, 116, 109, 97, 115, 116, 101, 114]⟩ w (by show la.length < _; omega) (fun j b hb => hpl b (List.mem_of_getElem? hb)) (fun j b hb => by
    have hm : b ∈ pmL := List.mem_of_getElem? hb
    have : ∀ b ∈ pmL, b.toNat < 128 := by decide
    exact this b hm)
  rw [show (⟨la.toArray⟩ : ByteArray).data.toList = la from rfl, show (⟨#[112, 111, 115, 116, 109, 97, 115, 116, 101, 114]⟩ : ByteArray).data.toList = pmL from rfl, fold_post] at this
  exact this
theorem ktext2 (la da : List UInt8) (LA DA : ByteArray) (hL : LA = ⟨la.toArray⟩) (hD : DA = ⟨da.toArray⟩) (h1 : la.length ≤ 1000000) (h2 : da.length ≤ 1000000) (w : World) (hE : Env w) :
    Calls Tryz.prog 17 #[.agg #[.string LA, .string DA]] w fun e w' => e = .returned (.string ⟨(textL (la, da)).toArray⟩) ∧ Below w.heap.size w w' := by
  subst hL hD
  exact Text_any (la, da) (by show la.length ≤ _; omega) (by show da.length ≤ _; omega) w hE
theorem kparse2 (la da : List UInt8) (LA DA : ByteArray) (hL : LA = ⟨la.toArray⟩) (hD : DA = ⟨da.toArray⟩) (hm : mayL (la, da) = true) (h1 : la.length ≤ 1000000) (h2 : da.length ≤ 1000000) (w : World) (hE : Env w) :
    Calls Tryz.prog 16 #[.string ⟨(textL (la, da)).toArray⟩] w fun e w' => e = .returned (.tuple #[.agg #[.string LA, .string DA], .int .i64 0]) ∧ Below w.heap.size w w' := by
  subst hL hD
  have ht := text_len2 (la, da)
  have := Parse_any ⟨(textL (la, da)).toArray⟩ (by show (textL (la, da)).length ≤ _; simp only at ht; omega) w hE
  rw [show (⟨(textL (la, da)).toArray⟩ : ByteArray).data.toList = textL (la, da) from rfl, text_parse (la, da) hm] at this
  exact this
set_option maxHeartbeats 16000000 in
theorem back_any (X1 Y1 X2 Y2 s0 : ByteArray) (z1 : X1.size ≤ 9223372036854775807) (z2 : Y1.size ≤ 9223372036854775807) (z3 : X2.size ≤ 9223372036854775807) (z4 : Y2.size ≤ 9223372036854775807) (hs0 : s0.size ≤ 9223372036854775807) (w : World) (hE : Env w) :
    Calls Tryz.prog 10 #[.agg #[.string X1, .string Y1], .agg #[.string X2, .string Y2], .string s0] w fun e w' => e = .returned (.bool true) ∧ Below w.heap.size w w' := by
  have HE := Lib.hid hE
  obtain ⟨m, hm⟩ := hE.m
  have HMX := Lib.hid hm
  clear hE hm
  have HM1 := Lib.hid (fun W (h : ∃ m : Int, W.cell? ⟨3, 0, none⟩ = some (.int .i64 m)) => Made_any X1 Y1 z1 z2 W h)
  have HM2 := Lib.hid (fun W (h : ∃ m : Int, W.cell? ⟨3, 0, none⟩ = some (.int .i64 m)) => Made_any X2 Y2 z3 z4 W h)
  have hma := made_may X1.data.toList Y1.data.toList
  have hmb := made_may X2.data.toList Y2.data.toList
  have hasc := dom_asc Y1.data.toList
  have hl1 := loc_len X1.data.toList
  have hl2 := loc_len X2.data.toList
  have hd1 := dom_len Y1.data.toList
  have hd2 := dom_len Y2.data.toList
  generalize locL X1.data.toList = la at *
  generalize domM Y1.data.toList = da at *
  generalize locL X2.data.toList = lb at *
  generalize domM Y2.data.toList = db at *
  obtain ⟨LA, hLA⟩ : ∃ LA : ByteArray, LA = ⟨la.toArray⟩ := ⟨_, rfl⟩
  obtain ⟨DA, hDA⟩ : ∃ DA : ByteArray, DA = ⟨da.toArray⟩ := ⟨_, rfl⟩
  obtain ⟨LB, hLB⟩ : ∃ LB : ByteArray, LB = ⟨lb.toArray⟩ := ⟨_, rfl⟩
  obtain ⟨DB, hDB⟩ : ∃ DB : ByteArray, DB = ⟨db.toArray⟩ := ⟨_, rfl⟩
  rw [← hLA, ← hDA] at HM1
  rw [← hLB, ← hDB] at HM2
  have HLA := Lib.hid hLA
  have HDA := Lib.hid hDA
  have HLB := Lib.hid hLB
  have HDB := Lib.hid hDB
  clear hLA hDA hLB hDB
  have ht1 := Two.made w (.string X1) (.string Y1) 30
  have hb1 := alloc_below w (.cells #[.string X1, .string Y1] 30)
  have hs1 : (w.alloc (.cells #[.string X1, .string Y1] 30)).heap.size = w.heap.size + 1 := World.size_alloc _ _
  generalize hw1 : w.alloc (.cells #[.string X1, .string Y1] 30) = w1 at ht1 hb1 hs1
  have ht2 := Two.made w1 (.string X2) (.string Y2) 30
  have hb2' := alloc_below w1 (.cells #[.string X2, .string Y2] 30)
  generalize hw2 : w1.alloc (.cells #[.string X2, .string Y2] 30) = w2 at ht2 hb2'
  rw [hs1] at ht2
  have ht1 := ht1.below hb2'
  have HB2 := Lib.hid (hb1.trans (hb2'.mono hb1.size))
  have HT1 := Lib.hid ht1
  have HT2 := Lib.hid ht2
  have HMA := Lib.hid hma
  have HMB := Lib.hid hmb
  have HASC := Lib.hid hasc
  have HLEN := Lib.hid (show la.length ≤ 64 ∧ lb.length ≤ 64 ∧ da.length ≤ 2197 ∧ db.length ≤ 2197 from ⟨hl1, hl2, hd1, hd2⟩)
  clear hb1 hb2' ht1 ht2 hma hmb hasc hl1 hl2 hd1 hd2
  go_enter Tryz.func10, Tryz.ntmps10
  go_wp2_with fail
  go_cut [7, 8] (fun v7 v8 W => MkRel LA DA LB DB w2 v7 v8 W)
  case first =>
    have HN1 := Lib.hid (fun W (hb : Below w2.heap.size w2 W) => HM1.out W ⟨m, ((HB2.out.trans (hb.mono HB2.out.size)).cell (p := ⟨3, 0, none⟩) (World.block_lt_of_cell? w _ HMX.out)).trans HMX.out⟩)
    have HN2 := Lib.hid (fun W (hb : Below w2.heap.size w2 W) => HM2.out W ⟨m, ((HB2.out.trans (hb.mono HB2.out.size)).cell (p := ⟨3, 0, none⟩) (World.block_lt_of_cell? w _ HMX.out)).trans HMX.out⟩)
    refine wp_region_any (by kernel_rfl) ?_
    refine wpAny_lastop 7 (by kernel_rfl) (by kernel_rfl) (by kernel_rfl) (JB X1 Y1 X2 Y2 s0 LA DA LB DB w.heap.size w2) (FB X1 Y1 X2 Y2 s0 LA DA LB DB w.heap.size w2) ?_ ?_ ?_ ?_
    · exact ⟨0, 0, rfl, drew_below w2, fun h => (by cases h), fun h => (by cases h), fun h => (by cases h), fun h => (by cases h)⟩
    · intro listed a W i him hs hJ hi
      obtain ⟨Ba, Bb, rfl, hb, h4, h5, hne, h64⟩ := hJ
      have hset : ∀ k, k < 8 → (listed.setIfInBounds k true).getD k false = true := fun k hk => by rw [getD_set _ _ _ (by omega)]; simp
      obtain rfl | rfl | rfl | rfl | rfl | rfl | rfl : i = 0 ∨ i = 1 ∨ i = 2 ∨ i = 3 ∨ i = 4 ∨ i = 5 ∨ i = 6 := by omega
      · as_aux_lemma =>
          have e4 : (listed.setIfInBounds 0 true).getD 4 false = listed.getD 4 false := getD_set_ne false (by decide)
          have e5 : (listed.setIfInBounds 0 true).getD 5 false = listed.getD 5 false := getD_set_ne false (by decide)
          have e6 : (listed.setIfInBounds 0 true).getD 6 false = listed.getD 6 false := getD_set_ne false (by decide)
          refine wpOp_step (o := _) rfl (fun K hK => ?_)
          refine step_load2 rfl _ rfl (B := w.heap.size) rfl (HT1.out.below hb) ?_
          exact hK _ _ ⟨Ba, Bb, frB_put0 (L := fun k => listed.getD k false) (L' := fun k => (listed.setIfInBounds 0 true).getD k false) (getD_set_ne (listed := listed) (i := 0) (j := 1) false (by decide)) (getD_set_ne (listed := listed) (i := 0) (j := 2) false (by decide)) (getD_set_ne (listed := listed) (i := 0) (j := 3) false (by decide)) (getD_set_ne (listed := listed) (i := 0) (j := 4) false (by decide)) (getD_set_ne (listed := listed) (i := 0) (j := 5) false (by decide)) (hset 0 (by decide)), hb, by rw [e4, e6]; exact h4, by rw [e5]; exact h5, by rw [e4, e5]; exact hne, by rw [e6, e4]; exact h64⟩
      · as_aux_lemma =>
          have e4 : (listed.setIfInBounds 1 true).getD 4 false = listed.getD 4 false := getD_set_ne false (by decide)
          have e5 : (listed.setIfInBounds 1 true).getD 5 false = listed.getD 5 false := getD_set_ne false (by decide)
          have e6 : (listed.setIfInBounds 1 true).getD 6 false = listed.getD 6 false := getD_set_ne false (by decide)
          have k0 := ready_dep hi 0 (by kernel_rfl)
          refine wpOp_step (o := _) rfl (fun K hK => ?_)
          refine step_call30 rfl _ rfl (frB_tmp0 k0) (HN1.out W hb) (fun W' hb' => ?_)
          exact hK _ _ ⟨Ba, Bb, frB_put1 (L := fun k => listed.getD k false) (L' := fun k => (listed.setIfInBounds 1 true).getD k false) (getD_set_ne (listed := listed) (i := 1) (j := 0) false (by decide)) (getD_set_ne (listed := listed) (i := 1) (j := 2) false (by decide)) (getD_set_ne (listed := listed) (i := 1) (j := 3) false (by decide)) (getD_set_ne (listed := listed) (i := 1) (j := 4) false (by decide)) (getD_set_ne (listed := listed) (i := 1) (j := 5) false (by decide)) (hset 1 (by decide)), hb.trans (hb'.mono hb.size), by rw [e4, e6]; exact fun h => ⟨(h4 h).1, (h4 h).2.below hb'⟩, by rw [e5]; exact fun h => ⟨(h5 h).1, (h5 h).2.below hb'⟩, by rw [e4, e5]; exact hne, by rw [e6, e4]; exact h64⟩
      · as_aux_lemma =>
          have e4 : (listed.setIfInBounds 2 true).getD 4 false = listed.getD 4 false := getD_set_ne false (by decide)
          have e5 : (listed.setIfInBounds 2 true).getD 5 false = listed.getD 5 false := getD_set_ne false (by decide)
          have e6 : (listed.setIfInBounds 2 true).getD 6 false = listed.getD 6 false := getD_set_ne false (by decide)
          refine wpOp_step (o := _) rfl (fun K hK => ?_)
          refine step_load2 rfl _ rfl (B := w.heap.size + 1) rfl (HT2.out.below hb) ?_
          exact hK _ _ ⟨Ba, Bb, frB_put2 (L := fun k => listed.getD k false) (L' := fun k => (listed.setIfInBounds 2 true).getD k false) (getD_set_ne (listed := listed) (i := 2) (j := 0) false (by decide)) (getD_set_ne (listed := listed) (i := 2) (j := 1) false (by decide)) (getD_set_ne (listed := listed) (i := 2) (j := 3) false (by decide)) (getD_set_ne (listed := listed) (i := 2) (j := 4) false (by decide)) (getD_set_ne (listed := listed) (i := 2) (j := 5) false (by decide)) (hset 2 (by decide)), hb, by rw [e4, e6]; exact h4, by rw [e5]; exact h5, by rw [e4, e5]; exact hne, by rw [e6, e4]; exact h64⟩
      · as_aux_lemma =>
          have e4 : (listed.setIfInBounds 3 true).getD 4 false = listed.getD 4 false := getD_set_ne false (by decide)
          have e5 : (listed.setIfInBounds 3 true).getD 5 false = listed.getD 5 false := getD_set_ne false (by decide)
          have e6 : (listed.setIfInBounds 3 true).getD 6 false = listed.getD 6 false := getD_set_ne false (by decide)
          have k2 := ready_dep hi 2 (by kernel_rfl)
          refine wpOp_step (o := _) rfl (fun K hK => ?_)
          refine step_call30 rfl _ rfl (frB_tmp2 k2) (HN2.out W hb) (fun W' hb' => ?_)
          exact hK _ _ ⟨Ba, Bb, frB_put3 (L := fun k => listed.getD k false) (L' := fun k => (listed.setIfInBounds 3 true).getD k false) (getD_set_ne (listed := listed) (i := 3) (j := 0) false (by decide)) (getD_set_ne (listed := listed) (i := 3) (j := 1) false (by decide)) (getD_set_ne (listed := listed) (i := 3) (j := 2) false (by decide)) (getD_set_ne (listed := listed) (i := 3) (j := 4) false (by decide)) (getD_set_ne (listed := listed) (i := 3) (j := 5) false (by decide)) (hset 3 (by decide)), hb.trans (hb'.mono hb.size), by rw [e4, e6]; exact fun h => ⟨(h4 h).1, (h4 h).2.below hb'⟩, by rw [e5]; exact fun h => ⟨(h5 h).1, (h5 h).2.below hb'⟩, by rw [e4, e5]; exact hne, by rw [e6, e4]; exact h64⟩
      · as_aux_lemma =>
          have e5 : (listed.setIfInBounds 4 true).getD 5 false = listed.getD 5 false := getD_set_ne false (by decide)
          have e6 : (listed.setIfInBounds 4 true).getD 6 false = listed.getD 6 false := getD_set_ne false (by decide)
          have u4 := ready_un hi
          have u6 : listed.getD 6 false = false := by
            cases h : listed.getD 6 false with
            | false => rfl
            | true => rw [h64 h] at u4; cases u4
          refine wpOp_step (o := _) rfl (fun K hK => ?_)
          refine step_alloc2 rfl rfl ?_
          exact hK _ _ ⟨W.heap.size, Bb, frB_put4 (L := fun k => listed.getD k false) (L' := fun k => (listed.setIfInBounds 4 true).getD k false) (getD_set_ne (listed := listed) (i := 4) (j := 0) false (by decide)) (getD_set_ne (listed := listed) (i := 4) (j := 1) false (by decide)) (getD_set_ne (listed := listed) (i := 4) (j := 2) false (by decide)) (getD_set_ne (listed := listed) (i := 4) (j := 3) false (by decide)) (getD_set_ne (listed := listed) (i := 4) (j := 5) false (by decide)) (hset 4 (by decide)) u4, hb.trans ((alloc_below W _).mono hb.size), by rw [e6, u6]; exact fun _ => ⟨hb.size, Two.made W _ _ 30⟩, by rw [e5]; exact fun h => ⟨(h5 h).1, (h5 h).2.below (alloc_below W _)⟩, by rw [e5]; exact fun _ h => by have := (h5 h).2.lt; omega, fun _ => hset 4 (by decide)⟩
      · as_aux_lemma =>
          have e4 : (listed.setIfInBounds 5 true).getD 4 false = listed.getD 4 false := getD_set_ne false (by decide)
          have e6 : (listed.setIfInBounds 5 true).getD 6 false = listed.getD 6 false := getD_set_ne false (by decide)
          have u5 := ready_un hi
          refine wpOp_step (o := _) rfl (fun K hK => ?_)
          refine step_alloc2 rfl rfl ?_
          exact hK _ _ ⟨Ba, W.heap.size, frB_put5 (L := fun k => listed.getD k false) (L' := fun k => (listed.setIfInBounds 5 true).getD k false) (getD_set_ne (listed := listed) (i := 5) (j := 0) false (by decide)) (getD_set_ne (listed := listed) (i := 5) (j := 1) false (by decide)) (getD_set_ne (listed := listed) (i := 5) (j := 2) false (by decide)) (getD_set_ne (listed := listed) (i := 5) (j := 3) false (by decide)) (getD_set_ne (listed := listed) (i := 5) (j := 4) false (by decide)) (hset 5 (by decide)) u5, hb.trans ((alloc_below W _).mono hb.size), by rw [e4, e6]; exact fun h => ⟨(h4 h).1, (h4 h).2.below (alloc_below W _)⟩, fun _ => ⟨hb.size, Two.made W _ _ 30⟩, by rw [e4]; exact fun h _ => by have := (h4 h).2.lt; omega, by rw [e6, e4]; exact h64⟩
      · as_aux_lemma =>
          have e4 : (listed.setIfInBounds 6 true).getD 4 false = listed.getD 4 false := getD_set_ne false (by decide)
          have e5 : (listed.setIfInBounds 6 true).getD 5 false = listed.getD 5 false := getD_set_ne false (by decide)
          have k4 := ready_dep hi 4 (by kernel_rfl)
          have k5 := ready_dep hi 5 (by kernel_rfl)
          have k1 := ready_dep hi 1 (by kernel_rfl)
          have n45 := hne k4 k5
          refine wpOp_step (o := _) rfl (fun K hK => ?_)
          refine step_store2 rfl rfl _ _ rfl (frB_tmp4 k4) (frB_tmp1 k1) (h4 k4).2 ?_
          exact hK _ _ ⟨Ba, Bb, (frB_congr (L := fun k => listed.getD k false) (L' := fun k => (listed.setIfInBounds 6 true).getD k false) (getD_set_ne (listed := listed) (i := 6) (j := 0) false (by decide)) (getD_set_ne (listed := listed) (i := 6) (j := 1) false (by decide)) (getD_set_ne (listed := listed) (i := 6) (j := 2) false (by decide)) (getD_set_ne (listed := listed) (i := 6) (j := 3) false (by decide)) (getD_set_ne (listed := listed) (i := 6) (j := 4) false (by decide)) (getD_set_ne (listed := listed) (i := 6) (j := 5) false (by decide))).symm, (hb.setCell (p := ⟨Ba, 0, none⟩) (h4 k4).1 _).setCell (p := ⟨Ba, 1, none⟩) (h4 k4).1 _, by rw [hset 6 (by decide)]; exact fun _ => ⟨(h4 k4).1, (h4 k4).2.set _ _⟩, by rw [e5]; exact fun h => ⟨(h5 h).1, (h5 h).2.far2 (fun e => n45 e.symm)⟩, by rw [e4, e5]; exact hne, by rw [e4]; exact fun _ => k4⟩
    · intro listed a W hs hall hJ
      obtain ⟨Ba, Bb, rfl, hb, h4, h5, hne, h64⟩ := hJ
      have k4 := hall 4 (by decide)
      have k5 := hall 5 (by decide)
      have k6 := hall 6 (by decide)
      have t4 := (h4 k4).2
      rw [k6] at t4
      refine wpOp_step (o := _) rfl (fun K hK => ?_)
      refine step_store2 rfl rfl _ _ rfl (frB_tmp5 k5) (frB_tmp3 (hall 3 (by decide))) (h5 k5).2 ?_
      exact hK _ _ ⟨Ba, Bb, frB_congr (L := fun _ => true) (L' := fun k => listed.getD k false) (hall 0 (by decide)) (hall 1 (by decide)) (hall 2 (by decide)) (hall 3 (by decide)) (hall 4 (by decide)) (hall 5 (by decide)), (hb.setCell (p := ⟨Bb, 0, none⟩) (h5 k5).1 _).setCell (p := ⟨Bb, 1, none⟩) (h5 k5).1 _, (h4 k4).1, (h5 k5).1, hne k4 k5, t4.far2 (hne k4 k5), (h5 k5).2.set _ _⟩
    · rintro a W ⟨Ba, Bb, rfl, hb, hA, hB, hne, tA, tB⟩
      simp only [frB, pk, cond_true]
      go_wp2
      go_meet
      case rel => exact ⟨Ba, Bb, rfl, rfl, hne, hA, hB, tA, tB, hb⟩
  case rest =>
    obtain ⟨Ba, Bb, rfl, rfl, hne, hBa, hBb, tA, tB, hbc⟩ := hcut
    have HNE := Lib.hid hne
    have HBA := Lib.hid hBa
    have HBB := Lib.hid hBb
    have TA := Lib.hid tA
    have TB := Lib.hid tB
    have HW := Lib.hid (HB2.out.trans (hbc.mono HB2.out.size))
    have HTX := Lib.hid (ktext2 la da LA DA HLA.out HDA.out (by have := HLEN.out; omega) (by have := HLEN.out; omega))
    have HPX := Lib.hid (kparse2 la da LA DA HLA.out HDA.out HMA.out (by have := HLEN.out; omega) (by have := HLEN.out; omega))
    generalize hT : (⟨(textL (la, da)).toArray⟩ : ByteArray) = T at HTX HPX
    obtain ⟨-, a0, a1, f0, f1⟩ := tA
    clear hT hne hBa hBb tB hbc
    go_wp2_with fail
    refine (HTX.out _ (HE.out.below HW.out)).mono ?_
    rintro e x1 ⟨rfl, hx⟩
    have HW1 := Lib.hid (HW.out.trans (hx.mono HW.out.size))
    have TA1 := Lib.hid (TA.out.below hx)
    have TB1 := Lib.hid (TB.out.below hx)
    clear hx a0 a1 f0 f1
    go_wp2_with fail
    refine (HPX.out _ (HE.out.below HW1.out)).mono ?_
    rintro e x2 ⟨rfl, hx⟩
    have HW2 := Lib.hid (HW1.out.trans (hx.mono HW1.out.size))
    have TA2 := Lib.hid ((TA1.out.below hx).below (alloc_below x2 (.cells #[.string LA, .string DA] 30)))
    have TB2 := Lib.hid ((TB1.out.below hx).below (alloc_below x2 (.cells #[.string LA, .string DA] 30)))
    have TC2 := Lib.hid (Two.made x2 (.string LA) (.string DA) 30)
    have HW3 := Lib.hid (HW2.out.trans ((alloc_below x2 (.cells #[.string LA, .string DA] 30)).mono HW2.out.size))
    obtain ⟨-, a0, a1, f0, f1⟩ := TA2.out
    clear hx
    obtain ⟨na, nd, hn⟩ : ∃ na nd, normL (la, da) = (na, nd) := ⟨_, _, rfl⟩
    have hnm := norm_may HMA.out
    have hni := norm_idem (la, da)
    rw [hn] at hnm hni
    have hnl : na.length ≤ 64 ∧ nd.length ≤ 2197 := by
      have h1 := congrArg Prod.fst hn
      have h2 := congrArg Prod.snd hn
      unfold normL at h1 h2
      simp only at h1 h2
      have := HLEN.out
      refine ⟨?_, ?_⟩
      · rw [← h1]; split
        · decide
        · omega
      · rw [← h2]; simp [lowL]; omega
    obtain ⟨NA, hNA⟩ : ∃ NA : ByteArray, NA = ⟨na.toArray⟩ := ⟨_, rfl⟩
    obtain ⟨ND, hND⟩ : ∃ ND : ByteArray, ND = ⟨nd.toArray⟩ := ⟨_, rfl⟩
    have hLAs : LA.size ≤ 64 := by rw [HLA.out]; exact HLEN.out.1
    have hLBs : LB.size ≤ 64 := by rw [HLB.out]; exact HLEN.out.2.1
    have hDAs : DA.size ≤ 2197 := by rw [HDA.out]; exact HLEN.out.2.2.1
    have hNAs : NA.size ≤ 64 := by rw [hNA]; exact hnl.1
    have hNDs : ND.size ≤ 2197 := by rw [hND]; exact hnl.2
    have HNX := Lib.hid (knorm2 la da na nd LA DA NA ND HLA.out HDA.out hNA hND hn (by have := HLEN.out; omega) (by have := HLEN.out; omega))
    have HNN := Lib.hid (knorm2 na nd na nd NA ND NA ND hNA hND hNA hND hni (by omega) (by omega))
    have HMY := Lib.hid (kmay2 la da LA DA HLA.out HDA.out HMA.out (by have := HLEN.out; omega) (by have := HLEN.out; omega))
    have HMN := Lib.hid (kmay2 na nd NA ND hNA hND hnm (by omega) (by omega))
    have ho1 : decide (ordS LA DA NA ND = 0) = true := by
      rw [decide_eq_true_eq]
      unfold ordS
      rw [HLA.out, HDA.out, hNA, hND]
      show ordL (normL (la, da)) (normL (na, nd)) = 0
      rw [hn, hni]
      exact (ord_zero _ _).2 rfl
    have HSN := Lib.hid (ksame2 LA DA NA ND true ho1 (by omega) (by omega) (by omega) (by omega))
    have HSZ := Lib.hid (show LA.size ≤ 64 ∧ LB.size ≤ 64 ∧ DA.size ≤ 2197 from ⟨hLAs, hLBs, hDAs⟩)
    clear hn hnm hni hnl hNA hND hLAs hLBs hDAs hNAs hNDs ho1
    go_wp2_with fail
    refine (HNX.out _).mono ?_
    rintro e x3 ⟨rfl, hx⟩
    have hb3 := HW3.out.trans (hx.mono HW3.out.size)
    have HW5 := Lib.hid (hb3.trans ((alloc_below x3 (.cells #[.string NA, .string ND] 30)).mono hb3.size))
    have TA5 := Lib.hid ((TA2.out.below hx).below (alloc_below x3 (.cells #[.string NA, .string ND] 30)))
    have TB5 := Lib.hid ((TB2.out.below hx).below (alloc_below x3 (.cells #[.string NA, .string ND] 30)))
    have TC5 := Lib.hid ((TC2.out.below hx).below (alloc_below x3 (.cells #[.string NA, .string ND] 30)))
    have TD5 := Lib.hid (Two.made x3 (.string NA) (.string ND) 30)
    clear a0 a1 f0 f1 hx hb3
    go_wp2_with fail
    generalize hw5 : x3.alloc (.cells #[.string NA, .string ND] 30) = w5 at *
    generalize hC : x2.heap.size = C at *
    generalize hD : x3.heap.size = D at *
    have hbd := drew_below w5
    have HKS := Lib.hid (fun W (hb : Below w5.heap.size w5 W) => (show W.cell? ⟨Ba, 0, none⟩ = some (.string LA) ∧ W.cell? ⟨Ba, 1, none⟩ = some (.string DA) ∧ W.cell? ⟨C, 0, none⟩ = some (.string LA) ∧ W.cell? ⟨C, 1, none⟩ = some (.string DA) ∧ W.cell? ⟨D, 0, none⟩ = some (.string NA) ∧ W.cell? ⟨D, 1, none⟩ = some (.string ND) from
      ⟨(TA5.out.below hb).c0, (TA5.out.below hb).c1, (TC5.out.below hb).c0, (TC5.out.below hb).c1, (TD5.out.below hb).c0, (TD5.out.below hb).c1⟩))
    have hS := HKS.out w5.drew hbd
    have HEN := Lib.hid (fun W (hb : Below w5.heap.size w5 W) => HE.out.below (HW5.out.trans (hb.mono HW5.out.size)))
    clear hw5
    go_region_held3 (fun W => W.cell? ⟨Ba, 0, none⟩ = some (.string LA) ∧ W.cell? ⟨Ba, 1, none⟩ = some (.string DA) ∧ W.cell? ⟨C, 0, none⟩ = some (.string LA) ∧ W.cell? ⟨C, 1, none⟩ = some (.string DA) ∧ W.cell? ⟨D, 0, none⟩ = some (.string NA) ∧ W.cell? ⟨D, 1, none⟩ = some (.string ND))
      (first | exact hS | go_keep)
      (first
        | ((with_reducible refine (HMY.out _ (HEN.out _ hbd)).mono ?_); rintro e w7 ⟨rfl, hb7⟩; have hbd7 := hbd.trans (hb7.mono hbd.size); clear hbd hb7 hS; have hbd := hbd7; clear hbd7; have hS := HKS.out _ hbd)
        | ((with_reducible refine (HMN.out _ (HEN.out _ hbd)).mono ?_); rintro e w7 ⟨rfl, hb7⟩; have hbd7 := hbd.trans (hb7.mono hbd.size); clear hbd hb7 hS; have hbd := hbd7; clear hbd7; have hS := HKS.out _ hbd)
        | ((with_reducible refine (HNN.out _).mono ?_); rintro e w7 ⟨rfl, hb7⟩; have hbd7 := hbd.trans (hb7.mono hbd.size); clear hbd hb7 hS; have hbd := hbd7; clear hbd7; have hS := HKS.out _ hbd)
        | ((with_reducible refine (HSN.out _).mono ?_); rintro e w7 ⟨rfl, hb7⟩; have hbd7 := hbd.trans (hb7.mono hbd.size); clear hbd hb7 hS; have hbd := hbd7; clear hbd7; have hS := HKS.out _ hbd))
    have HW7 := Lib.hid (HW5.out.trans (hbd.mono HW5.out.size))
    have TA7 := Lib.hid (TA5.out.below hbd)
    have TB7 := Lib.hid (TB5.out.below hbd)
    obtain ⟨UA, hUA⟩ : ∃ UA : ByteArray, UA = ⟨(Lib.toUpperA da).toArray⟩ := ⟨_, rfl⟩
    have hUAs : UA.size ≤ 2197 := by rw [hUA]; show (Lib.toUpperA da).length ≤ _; simp only [Lib.toUpperA, List.length_map]; exact HLEN.out.2.2.1
    have HUA := Lib.hid hUA
    have HUAS := Lib.hid hUAs
    have HUP := Lib.hid (kup2 da DA UA HDA.out hUA HASC.out (by have := HLEN.out; omega))
    clear hbd hS hUA hUAs HKS HEN
    go_wp2_with fail
    go_cut [12] (fun v12 W => UpRel LA UA w7 v12 W)
    case first =>
      have TAd := TA7.out.below (drew_below w7)
      have TAz := TAd.below (alloc_below w7.drew (.cells #[.string ⟨#[]⟩, .string ⟨#[]⟩] 30))
      have hTZ : Two w7.heap.size (.string ⟨#[]⟩) (.string ⟨#[]⟩) (w7.drew.alloc (.cells #[.string ⟨#[]⟩, .string ⟨#[]⟩] 30)) := Two.made w7.drew _ _ 30
      have hS : w7.drew.cell? ⟨Ba, 0, none⟩ = some (.string LA) ∧ w7.drew.cell? ⟨Ba, 1, none⟩ = some (.string DA) := ⟨TAd.c0, TAd.c1⟩
      have hSz := And.intro TAz.c0 TAz.c1
      have HTL := Lib.hid TA7.out.lt
      have hbz : Below w7.heap.size w7 (w7.drew.alloc (.cells #[.string ⟨#[]⟩, .string ⟨#[]⟩] 30)) := (drew_below w7).trans (alloc_below w7.drew _)
      have HTAd := Lib.hid TAd
      have HTAz := Lib.hid TAz
      have HTZ := Lib.hid hTZ
      have HBZ := Lib.hid hbz
      clear TAd TAz hTZ hbz
      go_wp2_with fail
      go_region_held3 (fun W => W.cell? ⟨Ba, 0, none⟩ = some (.string LA) ∧ W.cell? ⟨Ba, 1, none⟩ = some (.string DA))
        (first | exact hS | exact hSz | exact ⟨TA8.out.c0, TA8.out.c1⟩ | exact ⟨(TA8.out.below (alloc_below _ _)).c0, (TA8.out.below (alloc_below _ _)).c1⟩ | exact ⟨(TA8.out.far2 (by have := HTL.out; omega)).c0, (TA8.out.far2 (by have := HTL.out; omega)).c1⟩ | exact ⟨((TA8.out.below (alloc_below _ _)).far2 (by have := TA8.out.lt; omega)).c0, ((TA8.out.below (alloc_below _ _)).far2 (by have := TA8.out.lt; omega)).c1⟩ | go_keep)
        (first
          | ((with_reducible refine (HUP.out _).mono ?_); rintro e w8 ⟨rfl, hb8⟩; have TA8 := Lib.hid (HTAz.out.below hb8); have TZ8 := Lib.hid (HTZ.out.below hb8); have HB8 := Lib.hid (HBZ.out.trans (hb8.mono HBZ.out.size)); obtain ⟨-, zc0, zc1, zf0, zf1⟩ := TZ8.out; clear hb8)
          | ((with_reducible refine (HUP.out _).mono ?_); rintro e w8 ⟨rfl, hb8⟩; have TA8 := Lib.hid (HTAd.out.below hb8); have HB8 := Lib.hid ((drew_below w7).trans hb8); clear hb8))
      all_goals
        go_wp2
        go_meet
        case rel =>
          first
            | exact ⟨_, rfl, Two.made w8 _ _ 30, HB8.out.trans ((alloc_below w8 _).mono HB8.out.size)⟩
            | exact ⟨_, rfl, TZ8.out.set _ _, (HB8.out.setCell (p := ⟨w7.heap.size, 0, none⟩) (Nat.le_refl _) _).setCell (p := ⟨w7.heap.size, 1, none⟩) (Nat.le_refl _) _⟩
    case rest =>
      obtain ⟨Bc, rfl, tE, hbe⟩ := hcut
      have HW9 := Lib.hid (HW7.out.trans (hbe.mono HW7.out.size))
      have TA9 := Lib.hid (TA7.out.below hbe)
      have TB9 := Lib.hid (TB7.out.below hbe)
      have TE9 := Lib.hid tE
      have ho2 : ordS LA DA LA UA = 0 := by
        unfold ordS
        rw [HLA.out, HDA.out, HUA.out]
        show ordL (normL (la, da)) (normL (la, Lib.toUpperA da)) = 0
        rw [norm_loud HASC.out]
        exact (ord_zero _ _).2 rfl
      have hz := HSZ.out
      have hu := HUAS.out
      have HS1 := Lib.hid (ksame2 LA DA LA UA true (by rw [ho2]; rfl) (by omega) (by omega) (by omega) (by omega))
      have HC1 := Lib.hid (kcmp2 LA DA LA UA ho2 (by omega) (by omega) (by omega) (by omega))
      have hpla := (may_plain _ HMA.out).1
      have hplb := (may_plain _ HMB.out).1
      have HEF1 := Lib.hid (kfold2 la LA HLA.out hpla (by have := HLEN.out; omega))
      have HEF2 := Lib.hid (kfold2 lb LB HLB.out hplb (by have := HLEN.out; omega))
      have hsm : decide (ordS LA DA LB DA = 0) = (decide (la = lb) || ((lowL la == pmL) && (lowL lb == pmL))) := by
        unfold ordS
        rw [HLA.out, HDA.out, HLB.out]
        show decide (ordL (normL (la, da)) (normL (lb, da)) = 0) = _
        rw [Bool.eq_iff_iff, decide_eq_true_eq, ord_zero, norm_same]
        simp
      have HS2 := Lib.hid (ksame2 LA DA LB DA _ hsm (by omega) (by omega) (by omega) (by omega))
      have HEQ := Lib.hid (show la = lb ↔ LA = LB by rw [HLA.out, HLB.out]; exact ⟨fun h => by rw [h], fun h => by injection h with h; simpa using h⟩)
      generalize (lowL la == pmL) = pa at HEF1 HS2
      generalize (lowL lb == pmL) = pb at HEF2 HS2
      obtain ⟨-, a0, a1, -, -⟩ := tE
      obtain ⟨-, c0, c1, -, -⟩ := TA9.out
      clear hz hu ho2 hsm hpla hplb hbe
      go_wp2_with fail
      refine (HS1.out _).mono ?_
      rintro e y1 ⟨rfl, hx⟩
      have HW10 := Lib.hid (HW9.out.trans (hx.mono HW9.out.size))
      have TA10 := Lib.hid (TA9.out.below hx)
      have TB10 := Lib.hid (TB9.out.below hx)
      have TE10 := Lib.hid (TE9.out.below hx)
      clear a0 a1 c0 c1 hx
      obtain ⟨-, a0, a1, -, -⟩ := TE10.out
      obtain ⟨-, c0, c1, -, -⟩ := TA10.out
      go_wp2_with fail
      refine (HC1.out _).mono ?_
      rintro e y2 ⟨rfl, hx⟩
      have HW11 := Lib.hid (HW10.out.trans (hx.mono HW10.out.size))
      have TA11 := Lib.hid (TA10.out.below hx)
      have TB11 := Lib.hid (TB10.out.below hx)
      clear a0 a1 c0 c1 hx
      have TA12 := Lib.hid (TA11.out.far (C := Bb) (o := 1) (v := .string DA) HNE.out)
      have TB12 := Lib.hid (TB11.out.set1 (.string DA))
      have HW12 := Lib.hid (HW11.out.setCell (p := ⟨Bb, 1, none⟩) (Nat.le_trans HB2.out.size HBB.out) (.string DA))
      obtain ⟨-, c0, c1, -, -⟩ := TA11.out
      obtain ⟨-, b0, b1, fb0, fb1⟩ := TB11.out
      obtain ⟨-, d0, d1, -, -⟩ := TA12.out
      obtain ⟨-, g0, g1, -, -⟩ := TB12.out
      go_wp2_with fail
      refine (HEF1.out _).mono ?_
      rintro e y3 ⟨rfl, hy⟩
      rw [hy]
      clear hy y3
      generalize hy4 : y2.setCell ⟨Bb, 1, none⟩ (.string DA) = y4 at *
      clear hy4 c0 c1 b0 b1 fb0 fb1
      cases pa with
      | false =>
        go_wp2_with fail
        by_cases heq : la = lb
        · have hLB : LA = LB := HEQ.out.1 heq
          have HS3 := HS2.out
          rw [show (decide (la = lb) || (false && pb)) = true by simp [heq]] at HS3
          have HS3 := Lib.hid HS3
          clear HS2 heq
          subst hLB
          have hS : (fun W => W.cell? ⟨Ba, 0, none⟩ = some (.string LA) ∧ W.cell? ⟨Ba, 1, none⟩ = some (.string DA) ∧ W.cell? ⟨Bb, 0, none⟩ = some (.string LA) ∧ W.cell? ⟨Bb, 1, none⟩ = some (.string DA)) y4.drew := ⟨d0, d1, g0, g1⟩
          refine wp_region_marked (S := (fun W => W.cell? ⟨Ba, 0, none⟩ = some (.string LA) ∧ W.cell? ⟨Ba, 1, none⟩ = some (.string DA) ∧ W.cell? ⟨Bb, 0, none⟩ = some (.string LA) ∧ W.cell? ⟨Bb, 1, none⟩ = some (.string DA))) 11 (by kernel_rfl) hS (fun hHeld => ?_)
          refine wpAnyM_take (i := 0) (oi := _) (v := .agg #[.string LA, .string DA]) rfl (by kernel_rfl) (by kernel_rfl) (by kernel_rfl) (fun _ _ _ h => h) (by kernel_rfl) (by kernel_rfl) (Or.inl ⟨by kernel_rfl, ?_⟩) (by assumption) ?_
          · (intro w hSw; (try dsimp only at hSw); go_simp)
          try simp only [List.getElem_toArray, List.getElem_cons_zero, List.getElem_cons_succ, Act.put, List.setIfInBounds_toArray, List.set_cons_zero, List.set_cons_succ]
          refine wpAnyM_take (i := 1) (oi := _) (v := .agg #[.string LA, .string DA]) rfl (by kernel_rfl) (by kernel_rfl) (by kernel_rfl) (fun _ _ _ h => h) (by kernel_rfl) (by kernel_rfl) (Or.inl ⟨by kernel_rfl, ?_⟩) (by assumption) ?_
          · (intro w hSw; (try dsimp only at hSw); go_simp)
          try simp only [List.getElem_toArray, List.getElem_cons_zero, List.getElem_cons_succ, Act.put, List.setIfInBounds_toArray, List.set_cons_zero, List.set_cons_succ]
          refine wpAnyM_take (i := 3) (oi := _) (v := .pointer (some ⟨Ba, 0, none⟩)) rfl (by kernel_rfl) (by kernel_rfl) (by kernel_rfl) (fun _ _ _ h => h) (by kernel_rfl) (by kernel_rfl) (Or.inl ⟨by kernel_rfl, ?_⟩) (by assumption) ?_
          · (intro w hSw; (try dsimp only at hSw); go_simp)
          try simp only [List.getElem_toArray, List.getElem_cons_zero, List.getElem_cons_succ, Act.put, List.setIfInBounds_toArray, List.set_cons_zero, List.set_cons_succ]
          refine wpAnyM_take (i := 4) (oi := _) (v := .string LA) rfl (by kernel_rfl) (by kernel_rfl) (by kernel_rfl) (fun _ _ _ h => h) (by kernel_rfl) (by kernel_rfl) (Or.inl ⟨by kernel_rfl, ?_⟩) (by assumption) ?_
          · (intro w hSw; (try dsimp only at hSw); go_simp)
          try simp only [List.getElem_toArray, List.getElem_cons_zero, List.getElem_cons_succ, Act.put, List.setIfInBounds_toArray, List.set_cons_zero, List.set_cons_succ]
          refine wpAnyM_take (i := 5) (oi := _) (v := .pointer (some ⟨Bb, 0, none⟩)) rfl (by kernel_rfl) (by kernel_rfl) (by kernel_rfl) (fun _ _ _ h => h) (by kernel_rfl) (by kernel_rfl) (Or.inl ⟨by kernel_rfl, ?_⟩) (by assumption) ?_
          · (intro w hSw; (try dsimp only at hSw); go_simp)
          try simp only [List.getElem_toArray, List.getElem_cons_zero, List.getElem_cons_succ, Act.put, List.setIfInBounds_toArray, List.set_cons_zero, List.set_cons_succ]
          refine wpAnyM_take (i := 6) (oi := _) (v := .string LA) rfl (by kernel_rfl) (by kernel_rfl) (by kernel_rfl) (fun _ _ _ h => h) (by kernel_rfl) (by kernel_rfl) (Or.inl ⟨by kernel_rfl, ?_⟩) (by assumption) ?_
          · (intro w hSw; (try dsimp only at hSw); go_simp)
          try simp only [List.getElem_toArray, List.getElem_cons_zero, List.getElem_cons_succ, Act.put, List.setIfInBounds_toArray, List.set_cons_zero, List.set_cons_succ]
          refine wpAnyM_take (i := 7) (oi := _) (v := .bool true) rfl (by kernel_rfl) (by kernel_rfl) (by kernel_rfl) (fun _ _ _ h => h) (by kernel_rfl) (by kernel_rfl) (Or.inl ⟨by kernel_rfl, ?_⟩) (by assumption) ?_
          · (intro w hSw; (try dsimp only at hSw); go_simp)
          try simp only [List.getElem_toArray, List.getElem_cons_zero, List.getElem_cons_succ, Act.put, List.setIfInBounds_toArray, List.set_cons_zero, List.set_cons_succ]
          refine wpAnyM_one (i := 2) (o := _) rfl (by kernel_rfl) (fun K hK => ?_)
          go_simp
          refine (HS3.out _).mono ?_
          rintro e y5 ⟨rfl, hb5⟩
          have hb5 := (drew_below y4).trans hb5
          have hS5 : (fun W => W.cell? ⟨Ba, 0, none⟩ = some (.string LA) ∧ W.cell? ⟨Ba, 1, none⟩ = some (.string DA) ∧ W.cell? ⟨Bb, 0, none⟩ = some (.string LA) ∧ W.cell? ⟨Bb, 1, none⟩ = some (.string DA)) y5 := ⟨(TA12.out.below hb5).c0, (TA12.out.below hb5).c1, (TB12.out.below hb5).c0, (TB12.out.below hb5).c1⟩
          refine hK.out _ _ (fun _ => hS5) (fun hHeld => ?_)
          clear hK K
          try have hHeld := hHeld (by decide)
          try simp only [List.getElem_toArray, List.getElem_cons_zero, List.getElem_cons_succ, Act.put, List.setIfInBounds_toArray, List.set_cons_zero, List.set_cons_succ]
          refine wpAnyM_take (i := 8) (oi := _) (v := .bool true) rfl (by kernel_rfl) (by kernel_rfl) (by kernel_rfl) (fun _ _ _ h => h) (by kernel_rfl) (by kernel_rfl) (Or.inl ⟨by kernel_rfl, ?_⟩) (by assumption) ?_
          · (intro w hSw; (try dsimp only at hSw); go_simp)
          try simp only [List.getElem_toArray, List.getElem_cons_zero, List.getElem_cons_succ, Act.put, List.setIfInBounds_toArray, List.set_cons_zero, List.set_cons_succ]
          refine wpAnyM_take (i := 9) (oi := _) (v := undef) rfl (by kernel_rfl) (by kernel_rfl) (by kernel_rfl) (fun _ _ _ h => h) (by kernel_rfl) (by kernel_rfl) (Or.inr ⟨by kernel_rfl, rfl⟩) (by assumption) ?_
          try simp only [List.getElem_toArray, List.getElem_cons_zero, List.getElem_cons_succ, Act.put, List.setIfInBounds_toArray, List.set_cons_zero, List.set_cons_succ]
          refine wpAnyM_take (i := 10) (oi := _) (v := .bool true) rfl (by kernel_rfl) (by kernel_rfl) (by kernel_rfl) (fun _ _ _ h => h) (by kernel_rfl) (by kernel_rfl) (Or.inl ⟨by kernel_rfl, ?_⟩) (by assumption) ?_
          · (intro w hSw; (try dsimp only at hSw); go_simp)
          try simp only [List.getElem_toArray, List.getElem_cons_zero, List.getElem_cons_succ, Act.put, List.setIfInBounds_toArray, List.set_cons_zero, List.set_cons_succ]
          refine wpAnyM_one (i := 11) (o := _) rfl (by kernel_rfl) (fun K hK => ?_)
          go_simp
          refine hK.out _ _ (fun h => absurd rfl h) (fun hHeld => ?_)
          clear hK K
          try have hHeld := hHeld (by decide)
          try simp only [List.getElem_toArray, List.getElem_cons_zero, List.getElem_cons_succ, Act.put, List.setIfInBounds_toArray, List.set_cons_zero, List.set_cons_succ]
          refine wpAnyM_done (by kernel_rfl) ?_ _
          have HW13 := Lib.hid (HW12.out.trans (hb5.mono HW12.out.size))
          clear hS hb5 hS5 d0 d1 g0 g1
          have i0 : (0 : Int) ≤ min (s0.size : Int) 400 := by omega
          have i1 : min (s0.size : Int) 400 ≤ (s0.size : Int) := by omega
          have hrc := Lib.hid (read_cases (s0.extract 0 (min (s0.size : Int) 400).toNat) (by rw [ByteArray.size_extract]; omega))
          have HWK := Lib.hid (fun W hE => wakes_any W hE)
          go_wp2_with fail
          generalize s0.extract 0 (min (s0.size : Int) 400).toNat = S at hrc ⊢
          have hrc2 := hrc.out
          clear hrc
          rcases hrc2 with ⟨er, her, hcall⟩ | ⟨p, q, hm, hp, hq, hcall⟩
          · have HC := Lib.hid hcall
            clear hcall
            rcases her with rfl | rfl
            all_goals
              refine (HC.out _ (HE.out.below HW13.out)).mono ?_
              rintro e v1 ⟨rfl, hx⟩
              have HV1 := Lib.hid (HW13.out.trans (hx.mono HW13.out.size))
              have HV2 := Lib.hid (HV1.out.trans ((alloc_below v1 (.cells #[.string ⟨#[]⟩, .string ⟨#[]⟩] 30)).mono HV1.out.size))
              obtain ⟨-, m0, m1, -, -⟩ := Two.made v1 (.string ⟨#[]⟩) (.string ⟨#[]⟩) 30
              clear hx
              go_wp2_with fail
              refine (HWK.out _ (HE.out.below HV2.out)).mono ?_
              rintro e v2 ⟨rfl, hx2⟩
              go_wp2
              go_ret
              exact ⟨rfl, HV2.out.trans (hx2.mono HV2.out.size)⟩
          · obtain ⟨P, hP⟩ : ∃ P : ByteArray, P = ⟨p.toArray⟩ := ⟨_, rfl⟩
            obtain ⟨Q, hQ⟩ : ∃ Q : ByteArray, Q = ⟨q.toArray⟩ := ⟨_, rfl⟩
            rw [← hP, ← hQ] at hcall
            have HC := Lib.hid hcall
            have HTX2 := Lib.hid (ktext2 p q P Q hP hQ (by omega) (by omega))
            have HPX2 := Lib.hid (kparse2 p q P Q hP hQ hm (by omega) (by omega))
            have HMY2 := Lib.hid (kmay2 p q P Q hP hQ hm (by omega) (by omega))
            generalize (⟨(textL (p, q)).toArray⟩ : ByteArray) = T2 at HTX2 HPX2
            clear hcall hP hQ hm hp hq
            refine (HC.out _ (HE.out.below HW13.out)).mono ?_
            rintro e v1 ⟨rfl, hx⟩
            have HV1 := Lib.hid (HW13.out.trans (hx.mono HW13.out.size))
            have HV2 := Lib.hid (HV1.out.trans ((alloc_below v1 (.cells #[.string P, .string Q] 30)).mono HV1.out.size))
            have TM := Lib.hid (Two.made v1 (.string P) (.string Q) 30)
            obtain ⟨-, m0, m1, -, -⟩ := TM.out
            clear hx
            go_wp2_with fail
            refine (HTX2.out _ (HE.out.below HV2.out)).mono ?_
            rintro e v3 ⟨rfl, hx⟩
            have HV3 := Lib.hid (HV2.out.trans (hx.mono HV2.out.size))
            have TM3 := Lib.hid (TM.out.below hx)
            clear hx m0 m1
            go_wp2_with fail
            refine (HPX2.out _ (HE.out.below HV3.out)).mono ?_
            rintro e v4 ⟨rfl, hx⟩
            have HV4 := Lib.hid (HV3.out.trans (hx.mono HV3.out.size))
            have TM4 := Lib.hid ((TM3.out.below hx).below (alloc_below v4 (.cells #[.string P, .string Q] 30)))
            have TN4 := Lib.hid (Two.made v4 (.string P) (.string Q) 30)
            have HV5 := Lib.hid (HV4.out.trans ((alloc_below v4 (.cells #[.string P, .string Q] 30)).mono HV4.out.size))
            obtain ⟨-, m0, m1, -, -⟩ := TM4.out
            clear hx
            go_wp2_with fail
            refine (HMY2.out _ (HE.out.below HV5.out)).mono ?_
            rintro e v6 ⟨rfl, hx⟩
            have HV6 := Lib.hid (HV5.out.trans (hx.mono HV5.out.size))
            have TM6 := TM4.out.below hx
            have TN6 := TN4.out.below hx
            clear hx m0 m1
            obtain ⟨-, m0, m1, -, -⟩ := TM6
            obtain ⟨-, n0, n1, -, -⟩ := TN6
            go_wp2_with fail
            refine (HWK.out _ (HE.out.below HV6.out)).mono ?_
            rintro e v7 ⟨rfl, hx2⟩
            go_wp2
            go_ret
            exact ⟨rfl, HV6.out.trans (hx2.mono HV6.out.size)⟩
        · have hLB : LA ≠ LB := fun h => heq (HEQ.out.2 h)
          have hne := text_ne hLB
          have HS3 := HS2.out
          rw [show (decide (la = lb) || (false && pb)) = false by simp [heq]] at HS3
          have HS3 := Lib.hid HS3
          clear HS2 heq
          have hS : (fun W => W.cell? ⟨Ba, 0, none⟩ = some (.string LA) ∧ W.cell? ⟨Ba, 1, none⟩ = some (.string DA) ∧ W.cell? ⟨Bb, 0, none⟩ = some (.string LB) ∧ W.cell? ⟨Bb, 1, none⟩ = some (.string DA)) y4.drew := ⟨d0, d1, g0, g1⟩
          refine wp_region_marked (S := (fun W => W.cell? ⟨Ba, 0, none⟩ = some (.string LA) ∧ W.cell? ⟨Ba, 1, none⟩ = some (.string DA) ∧ W.cell? ⟨Bb, 0, none⟩ = some (.string LB) ∧ W.cell? ⟨Bb, 1, none⟩ = some (.string DA))) 11 (by kernel_rfl) hS (fun hHeld => ?_)
          refine wpAnyM_take (i := 0) (oi := _) (v := .agg #[.string LA, .string DA]) rfl (by kernel_rfl) (by kernel_rfl) (by kernel_rfl) (fun _ _ _ h => h) (by kernel_rfl) (by kernel_rfl) (Or.inl ⟨by kernel_rfl, ?_⟩) (by assumption) ?_
          · (intro w hSw; (try dsimp only at hSw); go_simp)
          try simp only [List.getElem_toArray, List.getElem_cons_zero, List.getElem_cons_succ, Act.put, List.setIfInBounds_toArray, List.set_cons_zero, List.set_cons_succ]
          refine wpAnyM_take (i := 1) (oi := _) (v := .agg #[.string LB, .string DA]) rfl (by kernel_rfl) (by kernel_rfl) (by kernel_rfl) (fun _ _ _ h => h) (by kernel_rfl) (by kernel_rfl) (Or.inl ⟨by kernel_rfl, ?_⟩) (by assumption) ?_
          · (intro w hSw; (try dsimp only at hSw); go_simp)
          try simp only [List.getElem_toArray, List.getElem_cons_zero, List.getElem_cons_succ, Act.put, List.setIfInBounds_toArray, List.set_cons_zero, List.set_cons_succ]
          refine wpAnyM_take (i := 3) (oi := _) (v := .pointer (some ⟨Ba, 0, none⟩)) rfl (by kernel_rfl) (by kernel_rfl) (by kernel_rfl) (fun _ _ _ h => h) (by kernel_rfl) (by kernel_rfl) (Or.inl ⟨by kernel_rfl, ?_⟩) (by assumption) ?_
          · (intro w hSw; (try dsimp only at hSw); go_simp)
          try simp only [List.getElem_toArray, List.getElem_cons_zero, List.getElem_cons_succ, Act.put, List.setIfInBounds_toArray, List.set_cons_zero, List.set_cons_succ]
          refine wpAnyM_take (i := 4) (oi := _) (v := .string LA) rfl (by kernel_rfl) (by kernel_rfl) (by kernel_rfl) (fun _ _ _ h => h) (by kernel_rfl) (by kernel_rfl) (Or.inl ⟨by kernel_rfl, ?_⟩) (by assumption) ?_
          · (intro w hSw; (try dsimp only at hSw); go_simp)
          try simp only [List.getElem_toArray, List.getElem_cons_zero, List.getElem_cons_succ, Act.put, List.setIfInBounds_toArray, List.set_cons_zero, List.set_cons_succ]
          refine wpAnyM_take (i := 5) (oi := _) (v := .pointer (some ⟨Bb, 0, none⟩)) rfl (by kernel_rfl) (by kernel_rfl) (by kernel_rfl) (fun _ _ _ h => h) (by kernel_rfl) (by kernel_rfl) (Or.inl ⟨by kernel_rfl, ?_⟩) (by assumption) ?_
          · (intro w hSw; (try dsimp only at hSw); go_simp)
          try simp only [List.getElem_toArray, List.getElem_cons_zero, List.getElem_cons_succ, Act.put, List.setIfInBounds_toArray, List.set_cons_zero, List.set_cons_succ]
          refine wpAnyM_take (i := 6) (oi := _) (v := .string LB) rfl (by kernel_rfl) (by kernel_rfl) (by kernel_rfl) (fun _ _ _ h => h) (by kernel_rfl) (by kernel_rfl) (Or.inl ⟨by kernel_rfl, ?_⟩) (by assumption) ?_
          · (intro w hSw; (try dsimp only at hSw); go_simp)
          try simp only [List.getElem_toArray, List.getElem_cons_zero, List.getElem_cons_succ, Act.put, List.setIfInBounds_toArray, List.set_cons_zero, List.set_cons_succ]
          refine wpAnyM_take (i := 7) (oi := _) (v := .bool false) rfl (by kernel_rfl) (by kernel_rfl) (by kernel_rfl) (fun _ _ _ h => h) (by kernel_rfl) (by kernel_rfl) (Or.inl ⟨by kernel_rfl, ?_⟩) (by assumption) ?_
          · (intro w hSw; (try dsimp only at hSw); go_simp)
          try simp only [List.getElem_toArray, List.getElem_cons_zero, List.getElem_cons_succ, Act.put, List.setIfInBounds_toArray, List.set_cons_zero, List.set_cons_succ]
          refine wpAnyM_one (i := 2) (o := _) rfl (by kernel_rfl) (fun K hK => ?_)
          go_simp
          refine (HS3.out _).mono ?_
          rintro e y5 ⟨rfl, hb5⟩
          have hb5 := (drew_below y4).trans hb5
          have hS5 : (fun W => W.cell? ⟨Ba, 0, none⟩ = some (.string LA) ∧ W.cell? ⟨Ba, 1, none⟩ = some (.string DA) ∧ W.cell? ⟨Bb, 0, none⟩ = some (.string LB) ∧ W.cell? ⟨Bb, 1, none⟩ = some (.string DA)) y5 := ⟨(TA12.out.below hb5).c0, (TA12.out.below hb5).c1, (TB12.out.below hb5).c0, (TB12.out.below hb5).c1⟩
          refine hK.out _ _ (fun _ => hS5) (fun hHeld => ?_)
          clear hK K
          try have hHeld := hHeld (by decide)
          try simp only [List.getElem_toArray, List.getElem_cons_zero, List.getElem_cons_succ, Act.put, List.setIfInBounds_toArray, List.set_cons_zero, List.set_cons_succ]
          refine wpAnyM_take (i := 8) (oi := _) (v := .bool false) rfl (by kernel_rfl) (by kernel_rfl) (by kernel_rfl) (fun _ _ _ h => h) (by kernel_rfl) (by kernel_rfl) (Or.inl ⟨by kernel_rfl, ?_⟩) (by assumption) ?_
          · (intro w hSw; (try dsimp only at hSw); go_simp)
          try simp only [List.getElem_toArray, List.getElem_cons_zero, List.getElem_cons_succ, Act.put, List.setIfInBounds_toArray, List.set_cons_zero, List.set_cons_succ]
          refine wpAnyM_take (i := 9) (oi := _) (v := .bool false) rfl (by kernel_rfl) (by kernel_rfl) (by kernel_rfl) (fun _ _ _ h => h) (by kernel_rfl) (by kernel_rfl) (Or.inl ⟨by kernel_rfl, ?_⟩) (by assumption) ?_
          · (intro w hSw; (try dsimp only at hSw); go_simp)
          try simp only [List.getElem_toArray, List.getElem_cons_zero, List.getElem_cons_succ, Act.put, List.setIfInBounds_toArray, List.set_cons_zero, List.set_cons_succ]
          refine wpAnyM_take (i := 10) (oi := _) (v := .bool false) rfl (by kernel_rfl) (by kernel_rfl) (by kernel_rfl) (fun _ _ _ h => h) (by kernel_rfl) (by kernel_rfl) (Or.inl ⟨by kernel_rfl, ?_⟩) (by assumption) ?_
          · (intro w hSw; (try dsimp only at hSw); go_simp)
          try simp only [List.getElem_toArray, List.getElem_cons_zero, List.getElem_cons_succ, Act.put, List.setIfInBounds_toArray, List.set_cons_zero, List.set_cons_succ]
          refine wpAnyM_one (i := 11) (o := _) rfl (by kernel_rfl) (fun K hK => ?_)
          go_simp
          refine hK.out _ _ (fun h => absurd rfl h) (fun hHeld => ?_)
          clear hK K
          try have hHeld := hHeld (by decide)
          try simp only [List.getElem_toArray, List.getElem_cons_zero, List.getElem_cons_succ, Act.put, List.setIfInBounds_toArray, List.set_cons_zero, List.set_cons_succ]
          refine wpAnyM_done (by kernel_rfl) ?_ _
          have HW13 := Lib.hid (HW12.out.trans (hb5.mono HW12.out.size))
          clear hS hb5 hS5 d0 d1 g0 g1
          have i0 : (0 : Int) ≤ min (s0.size : Int) 400 := by omega
          have i1 : min (s0.size : Int) 400 ≤ (s0.size : Int) := by omega
          have hrc := Lib.hid (read_cases (s0.extract 0 (min (s0.size : Int) 400).toNat) (by rw [ByteArray.size_extract]; omega))
          have HWK := Lib.hid (fun W hE => wakes_any W hE)
          go_wp2_with fail
          generalize s0.extract 0 (min (s0.size : Int) 400).toNat = S at hrc ⊢
          have hrc2 := hrc.out
          clear hrc
          rcases hrc2 with ⟨er, her, hcall⟩ | ⟨p, q, hm, hp, hq, hcall⟩
          · have HC := Lib.hid hcall
            clear hcall
            rcases her with rfl | rfl
            all_goals
              refine (HC.out _ (HE.out.below HW13.out)).mono ?_
              rintro e v1 ⟨rfl, hx⟩
              have HV1 := Lib.hid (HW13.out.trans (hx.mono HW13.out.size))
              have HV2 := Lib.hid (HV1.out.trans ((alloc_below v1 (.cells #[.string ⟨#[]⟩, .string ⟨#[]⟩] 30)).mono HV1.out.size))
              obtain ⟨-, m0, m1, -, -⟩ := Two.made v1 (.string ⟨#[]⟩) (.string ⟨#[]⟩) 30
              clear hx
              go_wp2_with fail
              refine (HWK.out _ (HE.out.below HV2.out)).mono ?_
              rintro e v2 ⟨rfl, hx2⟩
              go_wp2
              go_ret
              exact ⟨rfl, HV2.out.trans (hx2.mono HV2.out.size)⟩
          · obtain ⟨P, hP⟩ : ∃ P : ByteArray, P = ⟨p.toArray⟩ := ⟨_, rfl⟩
            obtain ⟨Q, hQ⟩ : ∃ Q : ByteArray, Q = ⟨q.toArray⟩ := ⟨_, rfl⟩
            rw [← hP, ← hQ] at hcall
            have HC := Lib.hid hcall
            have HTX2 := Lib.hid (ktext2 p q P Q hP hQ (by omega) (by omega))
            have HPX2 := Lib.hid (kparse2 p q P Q hP hQ hm (by omega) (by omega))
            have HMY2 := Lib.hid (kmay2 p q P Q hP hQ hm (by omega) (by omega))
            generalize (⟨(textL (p, q)).toArray⟩ : ByteArray) = T2 at HTX2 HPX2
            clear hcall hP hQ hm hp hq
            refine (HC.out _ (HE.out.below HW13.out)).mono ?_
            rintro e v1 ⟨rfl, hx⟩
            have HV1 := Lib.hid (HW13.out.trans (hx.mono HW13.out.size))
            have HV2 := Lib.hid (HV1.out.trans ((alloc_below v1 (.cells #[.string P, .string Q] 30)).mono HV1.out.size))
            have TM := Lib.hid (Two.made v1 (.string P) (.string Q) 30)
            obtain ⟨-, m0, m1, -, -⟩ := TM.out
            clear hx
            go_wp2_with fail
            refine (HTX2.out _ (HE.out.below HV2.out)).mono ?_
            rintro e v3 ⟨rfl, hx⟩
            have HV3 := Lib.hid (HV2.out.trans (hx.mono HV2.out.size))
            have TM3 := Lib.hid (TM.out.below hx)
            clear hx m0 m1
            go_wp2_with fail
            refine (HPX2.out _ (HE.out.below HV3.out)).mono ?_
            rintro e v4 ⟨rfl, hx⟩
            have HV4 := Lib.hid (HV3.out.trans (hx.mono HV3.out.size))
            have TM4 := Lib.hid ((TM3.out.below hx).below (alloc_below v4 (.cells #[.string P, .string Q] 30)))
            have TN4 := Lib.hid (Two.made v4 (.string P) (.string Q) 30)
            have HV5 := Lib.hid (HV4.out.trans ((alloc_below v4 (.cells #[.string P, .string Q] 30)).mono HV4.out.size))
            obtain ⟨-, m0, m1, -, -⟩ := TM4.out
            clear hx
            go_wp2_with fail
            refine (HMY2.out _ (HE.out.below HV5.out)).mono ?_
            rintro e v6 ⟨rfl, hx⟩
            have HV6 := Lib.hid (HV5.out.trans (hx.mono HV5.out.size))
            have TM6 := TM4.out.below hx
            have TN6 := TN4.out.below hx
            clear hx m0 m1
            obtain ⟨-, m0, m1, -, -⟩ := TM6
            obtain ⟨-, n0, n1, -, -⟩ := TN6
            go_wp2_with fail
            refine (HWK.out _ (HE.out.below HV6.out)).mono ?_
            rintro e v7 ⟨rfl, hx2⟩
            go_wp2
            go_ret
            exact ⟨rfl, HV6.out.trans (hx2.mono HV6.out.size)⟩
      | true =>
        go_wp2_with fail
        refine (HEF2.out _).mono ?_
        rintro e y3 ⟨rfl, hy⟩
        rw [hy]
        clear hy y3
        go_wp2_with fail
        by_cases heq : la = lb
        · have hLB : LA = LB := HEQ.out.1 heq
          have HS3 := HS2.out
          rw [show (decide (la = lb) || (true && pb)) = true by simp [heq]] at HS3
          have HS3 := Lib.hid HS3
          clear HS2 heq
          subst hLB
          have hS : (fun W => W.cell? ⟨Ba, 0, none⟩ = some (.string LA) ∧ W.cell? ⟨Ba, 1, none⟩ = some (.string DA) ∧ W.cell? ⟨Bb, 0, none⟩ = some (.string LA) ∧ W.cell? ⟨Bb, 1, none⟩ = some (.string DA)) y4.drew := ⟨d0, d1, g0, g1⟩
          refine wp_region_marked (S := (fun W => W.cell? ⟨Ba, 0, none⟩ = some (.string LA) ∧ W.cell? ⟨Ba, 1, none⟩ = some (.string DA) ∧ W.cell? ⟨Bb, 0, none⟩ = some (.string LA) ∧ W.cell? ⟨Bb, 1, none⟩ = some (.string DA))) 11 (by kernel_rfl) hS (fun hHeld => ?_)
          refine wpAnyM_take (i := 0) (oi := _) (v := .agg #[.string LA, .string DA]) rfl (by kernel_rfl) (by kernel_rfl) (by kernel_rfl) (fun _ _ _ h => h) (by kernel_rfl) (by kernel_rfl) (Or.inl ⟨by kernel_rfl, ?_⟩) (by assumption) ?_
          · (intro w hSw; (try dsimp only at hSw); go_simp)
          try simp only [List.getElem_toArray, List.getElem_cons_zero, List.getElem_cons_succ, Act.put, List.setIfInBounds_toArray, List.set_cons_zero, List.set_cons_succ]
          refine wpAnyM_take (i := 1) (oi := _) (v := .agg #[.string LA, .string DA]) rfl (by kernel_rfl) (by kernel_rfl) (by kernel_rfl) (fun _ _ _ h => h) (by kernel_rfl) (by kernel_rfl) (Or.inl ⟨by kernel_rfl, ?_⟩) (by assumption) ?_
          · (intro w hSw; (try dsimp only at hSw); go_simp)
          try simp only [List.getElem_toArray, List.getElem_cons_zero, List.getElem_cons_succ, Act.put, List.setIfInBounds_toArray, List.set_cons_zero, List.set_cons_succ]
          refine wpAnyM_take (i := 3) (oi := _) (v := .pointer (some ⟨Ba, 0, none⟩)) rfl (by kernel_rfl) (by kernel_rfl) (by kernel_rfl) (fun _ _ _ h => h) (by kernel_rfl) (by kernel_rfl) (Or.inl ⟨by kernel_rfl, ?_⟩) (by assumption) ?_
          · (intro w hSw; (try dsimp only at hSw); go_simp)
          try simp only [List.getElem_toArray, List.getElem_cons_zero, List.getElem_cons_succ, Act.put, List.setIfInBounds_toArray, List.set_cons_zero, List.set_cons_succ]
          refine wpAnyM_take (i := 4) (oi := _) (v := .string LA) rfl (by kernel_rfl) (by kernel_rfl) (by kernel_rfl) (fun _ _ _ h => h) (by kernel_rfl) (by kernel_rfl) (Or.inl ⟨by kernel_rfl, ?_⟩) (by assumption) ?_
          · (intro w hSw; (try dsimp only at hSw); go_simp)
          try simp only [List.getElem_toArray, List.getElem_cons_zero, List.getElem_cons_succ, Act.put, List.setIfInBounds_toArray, List.set_cons_zero, List.set_cons_succ]
          refine wpAnyM_take (i := 5) (oi := _) (v := .pointer (some ⟨Bb, 0, none⟩)) rfl (by kernel_rfl) (by kernel_rfl) (by kernel_rfl) (fun _ _ _ h => h) (by kernel_rfl) (by kernel_rfl) (Or.inl ⟨by kernel_rfl, ?_⟩) (by assumption) ?_
          · (intro w hSw; (try dsimp only at hSw); go_simp)
          try simp only [List.getElem_toArray, List.getElem_cons_zero, List.getElem_cons_succ, Act.put, List.setIfInBounds_toArray, List.set_cons_zero, List.set_cons_succ]
          refine wpAnyM_take (i := 6) (oi := _) (v := .string LA) rfl (by kernel_rfl) (by kernel_rfl) (by kernel_rfl) (fun _ _ _ h => h) (by kernel_rfl) (by kernel_rfl) (Or.inl ⟨by kernel_rfl, ?_⟩) (by assumption) ?_
          · (intro w hSw; (try dsimp only at hSw); go_simp)
          try simp only [List.getElem_toArray, List.getElem_cons_zero, List.getElem_cons_succ, Act.put, List.setIfInBounds_toArray, List.set_cons_zero, List.set_cons_succ]
          refine wpAnyM_take (i := 7) (oi := _) (v := .bool true) rfl (by kernel_rfl) (by kernel_rfl) (by kernel_rfl) (fun _ _ _ h => h) (by kernel_rfl) (by kernel_rfl) (Or.inl ⟨by kernel_rfl, ?_⟩) (by assumption) ?_
          · (intro w hSw; (try dsimp only at hSw); go_simp)
          try simp only [List.getElem_toArray, List.getElem_cons_zero, List.getElem_cons_succ, Act.put, List.setIfInBounds_toArray, List.set_cons_zero, List.set_cons_succ]
          refine wpAnyM_one (i := 2) (o := _) rfl (by kernel_rfl) (fun K hK => ?_)
          go_simp
          refine (HS3.out _).mono ?_
          rintro e y5 ⟨rfl, hb5⟩
          have hb5 := (drew_below y4).trans hb5
          have hS5 : (fun W => W.cell? ⟨Ba, 0, none⟩ = some (.string LA) ∧ W.cell? ⟨Ba, 1, none⟩ = some (.string DA) ∧ W.cell? ⟨Bb, 0, none⟩ = some (.string LA) ∧ W.cell? ⟨Bb, 1, none⟩ = some (.string DA)) y5 := ⟨(TA12.out.below hb5).c0, (TA12.out.below hb5).c1, (TB12.out.below hb5).c0, (TB12.out.below hb5).c1⟩
          refine hK.out _ _ (fun _ => hS5) (fun hHeld => ?_)
          clear hK K
          try have hHeld := hHeld (by decide)
          try simp only [List.getElem_toArray, List.getElem_cons_zero, List.getElem_cons_succ, Act.put, List.setIfInBounds_toArray, List.set_cons_zero, List.set_cons_succ]
          refine wpAnyM_take (i := 8) (oi := _) (v := .bool true) rfl (by kernel_rfl) (by kernel_rfl) (by kernel_rfl) (fun _ _ _ h => h) (by kernel_rfl) (by kernel_rfl) (Or.inl ⟨by kernel_rfl, ?_⟩) (by assumption) ?_
          · (intro w hSw; (try dsimp only at hSw); go_simp)
          try simp only [List.getElem_toArray, List.getElem_cons_zero, List.getElem_cons_succ, Act.put, List.setIfInBounds_toArray, List.set_cons_zero, List.set_cons_succ]
          refine wpAnyM_take (i := 9) (oi := _) (v := undef) rfl (by kernel_rfl) (by kernel_rfl) (by kernel_rfl) (fun _ _ _ h => h) (by kernel_rfl) (by kernel_rfl) (Or.inr ⟨by kernel_rfl, rfl⟩) (by assumption) ?_
          try simp only [List.getElem_toArray, List.getElem_cons_zero, List.getElem_cons_succ, Act.put, List.setIfInBounds_toArray, List.set_cons_zero, List.set_cons_succ]
          refine wpAnyM_take (i := 10) (oi := _) (v := .bool true) rfl (by kernel_rfl) (by kernel_rfl) (by kernel_rfl) (fun _ _ _ h => h) (by kernel_rfl) (by kernel_rfl) (Or.inl ⟨by kernel_rfl, ?_⟩) (by assumption) ?_
          · (intro w hSw; (try dsimp only at hSw); go_simp)
          try simp only [List.getElem_toArray, List.getElem_cons_zero, List.getElem_cons_succ, Act.put, List.setIfInBounds_toArray, List.set_cons_zero, List.set_cons_succ]
          refine wpAnyM_one (i := 11) (o := _) rfl (by kernel_rfl) (fun K hK => ?_)
          go_simp
          refine hK.out _ _ (fun h => absurd rfl h) (fun hHeld => ?_)
          clear hK K
          try have hHeld := hHeld (by decide)
          try simp only [List.getElem_toArray, List.getElem_cons_zero, List.getElem_cons_succ, Act.put, List.setIfInBounds_toArray, List.set_cons_zero, List.set_cons_succ]
          refine wpAnyM_done (by kernel_rfl) ?_ _
          have HW13 := Lib.hid (HW12.out.trans (hb5.mono HW12.out.size))
          clear hS hb5 hS5 d0 d1 g0 g1
          have i0 : (0 : Int) ≤ min (s0.size : Int) 400 := by omega
          have i1 : min (s0.size : Int) 400 ≤ (s0.size : Int) := by omega
          have hrc := Lib.hid (read_cases (s0.extract 0 (min (s0.size : Int) 400).toNat) (by rw [ByteArray.size_extract]; omega))
          have HWK := Lib.hid (fun W hE => wakes_any W hE)
          go_wp2_with fail
          generalize s0.extract 0 (min (s0.size : Int) 400).toNat = S at hrc ⊢
          have hrc2 := hrc.out
          clear hrc
          rcases hrc2 with ⟨er, her, hcall⟩ | ⟨p, q, hm, hp, hq, hcall⟩
          · have HC := Lib.hid hcall
            clear hcall
            rcases her with rfl | rfl
            all_goals
              refine (HC.out _ (HE.out.below HW13.out)).mono ?_
              rintro e v1 ⟨rfl, hx⟩
              have HV1 := Lib.hid (HW13.out.trans (hx.mono HW13.out.size))
              have HV2 := Lib.hid (HV1.out.trans ((alloc_below v1 (.cells #[.string ⟨#[]⟩, .string ⟨#[]⟩] 30)).mono HV1.out.size))
              obtain ⟨-, m0, m1, -, -⟩ := Two.made v1 (.string ⟨#[]⟩) (.string ⟨#[]⟩) 30
              clear hx
              go_wp2_with fail
              refine (HWK.out _ (HE.out.below HV2.out)).mono ?_
              rintro e v2 ⟨rfl, hx2⟩
              go_wp2
              go_ret
              exact ⟨rfl, HV2.out.trans (hx2.mono HV2.out.size)⟩
          · obtain ⟨P, hP⟩ : ∃ P : ByteArray, P = ⟨p.toArray⟩ := ⟨_, rfl⟩
            obtain ⟨Q, hQ⟩ : ∃ Q : ByteArray, Q = ⟨q.toArray⟩ := ⟨_, rfl⟩
            rw [← hP, ← hQ] at hcall
            have HC := Lib.hid hcall
            have HTX2 := Lib.hid (ktext2 p q P Q hP hQ (by omega) (by omega))
            have HPX2 := Lib.hid (kparse2 p q P Q hP hQ hm (by omega) (by omega))
            have HMY2 := Lib.hid (kmay2 p q P Q hP hQ hm (by omega) (by omega))
            generalize (⟨(textL (p, q)).toArray⟩ : ByteArray) = T2 at HTX2 HPX2
            clear hcall hP hQ hm hp hq
            refine (HC.out _ (HE.out.below HW13.out)).mono ?_
            rintro e v1 ⟨rfl, hx⟩
            have HV1 := Lib.hid (HW13.out.trans (hx.mono HW13.out.size))
            have HV2 := Lib.hid (HV1.out.trans ((alloc_below v1 (.cells #[.string P, .string Q] 30)).mono HV1.out.size))
            have TM := Lib.hid (Two.made v1 (.string P) (.string Q) 30)
            obtain ⟨-, m0, m1, -, -⟩ := TM.out
            clear hx
            go_wp2_with fail
            refine (HTX2.out _ (HE.out.below HV2.out)).mono ?_
            rintro e v3 ⟨rfl, hx⟩
            have HV3 := Lib.hid (HV2.out.trans (hx.mono HV2.out.size))
            have TM3 := Lib.hid (TM.out.below hx)
            clear hx m0 m1
            go_wp2_with fail
            refine (HPX2.out _ (HE.out.below HV3.out)).mono ?_
            rintro e v4 ⟨rfl, hx⟩
            have HV4 := Lib.hid (HV3.out.trans (hx.mono HV3.out.size))
            have TM4 := Lib.hid ((TM3.out.below hx).below (alloc_below v4 (.cells #[.string P, .string Q] 30)))
            have TN4 := Lib.hid (Two.made v4 (.string P) (.string Q) 30)
            have HV5 := Lib.hid (HV4.out.trans ((alloc_below v4 (.cells #[.string P, .string Q] 30)).mono HV4.out.size))
            obtain ⟨-, m0, m1, -, -⟩ := TM4.out
            clear hx
            go_wp2_with fail
            refine (HMY2.out _ (HE.out.below HV5.out)).mono ?_
            rintro e v6 ⟨rfl, hx⟩
            have HV6 := Lib.hid (HV5.out.trans (hx.mono HV5.out.size))
            have TM6 := TM4.out.below hx
            have TN6 := TN4.out.below hx
            clear hx m0 m1
            obtain ⟨-, m0, m1, -, -⟩ := TM6
            obtain ⟨-, n0, n1, -, -⟩ := TN6
            go_wp2_with fail
            refine (HWK.out _ (HE.out.below HV6.out)).mono ?_
            rintro e v7 ⟨rfl, hx2⟩
            go_wp2
            go_ret
            exact ⟨rfl, HV6.out.trans (hx2.mono HV6.out.size)⟩
        · have hLB : LA ≠ LB := fun h => heq (HEQ.out.2 h)
          have hne := text_ne hLB
          have HS3 := HS2.out
          rw [show (decide (la = lb) || (true && pb)) = pb by simp [heq]] at HS3
          have HS3 := Lib.hid HS3
          clear HS2 heq
          have hS : (fun W => W.cell? ⟨Ba, 0, none⟩ = some (.string LA) ∧ W.cell? ⟨Ba, 1, none⟩ = some (.string DA) ∧ W.cell? ⟨Bb, 0, none⟩ = some (.string LB) ∧ W.cell? ⟨Bb, 1, none⟩ = some (.string DA)) y4.drew := ⟨d0, d1, g0, g1⟩
          refine wp_region_marked (S := (fun W => W.cell? ⟨Ba, 0, none⟩ = some (.string LA) ∧ W.cell? ⟨Ba, 1, none⟩ = some (.string DA) ∧ W.cell? ⟨Bb, 0, none⟩ = some (.string LB) ∧ W.cell? ⟨Bb, 1, none⟩ = some (.string DA))) 11 (by kernel_rfl) hS (fun hHeld => ?_)
          refine wpAnyM_take (i := 0) (oi := _) (v := .agg #[.string LA, .string DA]) rfl (by kernel_rfl) (by kernel_rfl) (by kernel_rfl) (fun _ _ _ h => h) (by kernel_rfl) (by kernel_rfl) (Or.inl ⟨by kernel_rfl, ?_⟩) (by assumption) ?_
          · (intro w hSw; (try dsimp only at hSw); go_simp)
          try simp only [List.getElem_toArray, List.getElem_cons_zero, List.getElem_cons_succ, Act.put, List.setIfInBounds_toArray, List.set_cons_zero, List.set_cons_succ]
          refine wpAnyM_take (i := 1) (oi := _) (v := .agg #[.string LB, .string DA]) rfl (by kernel_rfl) (by kernel_rfl) (by kernel_rfl) (fun _ _ _ h => h) (by kernel_rfl) (by kernel_rfl) (Or.inl ⟨by kernel_rfl, ?_⟩) (by assumption) ?_
          · (intro w hSw; (try dsimp only at hSw); go_simp)
          try simp only [List.getElem_toArray, List.getElem_cons_zero, List.getElem_cons_succ, Act.put, List.setIfInBounds_toArray, List.set_cons_zero, List.set_cons_succ]
          refine wpAnyM_take (i := 3) (oi := _) (v := .pointer (some ⟨Ba, 0, none⟩)) rfl (by kernel_rfl) (by kernel_rfl) (by kernel_rfl) (fun _ _ _ h => h) (by kernel_rfl) (by kernel_rfl) (Or.inl ⟨by kernel_rfl, ?_⟩) (by assumption) ?_
          · (intro w hSw; (try dsimp only at hSw); go_simp)
          try simp only [List.getElem_toArray, List.getElem_cons_zero, List.getElem_cons_succ, Act.put, List.setIfInBounds_toArray, List.set_cons_zero, List.set_cons_succ]
          refine wpAnyM_take (i := 4) (oi := _) (v := .string LA) rfl (by kernel_rfl) (by kernel_rfl) (by kernel_rfl) (fun _ _ _ h => h) (by kernel_rfl) (by kernel_rfl) (Or.inl ⟨by kernel_rfl, ?_⟩) (by assumption) ?_
          · (intro w hSw; (try dsimp only at hSw); go_simp)
          try simp only [List.getElem_toArray, List.getElem_cons_zero, List.getElem_cons_succ, Act.put, List.setIfInBounds_toArray, List.set_cons_zero, List.set_cons_succ]
          refine wpAnyM_take (i := 5) (oi := _) (v := .pointer (some ⟨Bb, 0, none⟩)) rfl (by kernel_rfl) (by kernel_rfl) (by kernel_rfl) (fun _ _ _ h => h) (by kernel_rfl) (by kernel_rfl) (Or.inl ⟨by kernel_rfl, ?_⟩) (by assumption) ?_
          · (intro w hSw; (try dsimp only at hSw); go_simp)
          try simp only [List.getElem_toArray, List.getElem_cons_zero, List.getElem_cons_succ, Act.put, List.setIfInBounds_toArray, List.set_cons_zero, List.set_cons_succ]
          refine wpAnyM_take (i := 6) (oi := _) (v := .string LB) rfl (by kernel_rfl) (by kernel_rfl) (by kernel_rfl) (fun _ _ _ h => h) (by kernel_rfl) (by kernel_rfl) (Or.inl ⟨by kernel_rfl, ?_⟩) (by assumption) ?_
          · (intro w hSw; (try dsimp only at hSw); go_simp)
          try simp only [List.getElem_toArray, List.getElem_cons_zero, List.getElem_cons_succ, Act.put, List.setIfInBounds_toArray, List.set_cons_zero, List.set_cons_succ]
          refine wpAnyM_take (i := 7) (oi := _) (v := .bool false) rfl (by kernel_rfl) (by kernel_rfl) (by kernel_rfl) (fun _ _ _ h => h) (by kernel_rfl) (by kernel_rfl) (Or.inl ⟨by kernel_rfl, ?_⟩) (by assumption) ?_
          · (intro w hSw; (try dsimp only at hSw); go_simp)
          try simp only [List.getElem_toArray, List.getElem_cons_zero, List.getElem_cons_succ, Act.put, List.setIfInBounds_toArray, List.set_cons_zero, List.set_cons_succ]
          refine wpAnyM_one (i := 2) (o := _) rfl (by kernel_rfl) (fun K hK => ?_)
          go_simp
          refine (HS3.out _).mono ?_
          rintro e y5 ⟨rfl, hb5⟩
          have hb5 := (drew_below y4).trans hb5
          have hS5 : (fun W => W.cell? ⟨Ba, 0, none⟩ = some (.string LA) ∧ W.cell? ⟨Ba, 1, none⟩ = some (.string DA) ∧ W.cell? ⟨Bb, 0, none⟩ = some (.string LB) ∧ W.cell? ⟨Bb, 1, none⟩ = some (.string DA)) y5 := ⟨(TA12.out.below hb5).c0, (TA12.out.below hb5).c1, (TB12.out.below hb5).c0, (TB12.out.below hb5).c1⟩
          refine hK.out _ _ (fun _ => hS5) (fun hHeld => ?_)
          clear hK K
          try have hHeld := hHeld (by decide)
          try simp only [List.getElem_toArray, List.getElem_cons_zero, List.getElem_cons_succ, Act.put, List.setIfInBounds_toArray, List.set_cons_zero, List.set_cons_succ]
          refine wpAnyM_take (i := 8) (oi := _) (v := .bool false) rfl (by kernel_rfl) (by kernel_rfl) (by kernel_rfl) (fun _ _ _ h => h) (by kernel_rfl) (by kernel_rfl) (Or.inl ⟨by kernel_rfl, ?_⟩) (by assumption) ?_
          · (intro w hSw; (try dsimp only at hSw); go_simp)
          try simp only [List.getElem_toArray, List.getElem_cons_zero, List.getElem_cons_succ, Act.put, List.setIfInBounds_toArray, List.set_cons_zero, List.set_cons_succ]
          refine wpAnyM_take (i := 9) (oi := _) (v := .bool pb) rfl (by kernel_rfl) (by kernel_rfl) (by kernel_rfl) (fun _ _ _ h => h) (by kernel_rfl) (by kernel_rfl) (Or.inl ⟨by kernel_rfl, ?_⟩) (by assumption) ?_
          · (intro w hSw; (try dsimp only at hSw); go_simp)
          try simp only [List.getElem_toArray, List.getElem_cons_zero, List.getElem_cons_succ, Act.put, List.setIfInBounds_toArray, List.set_cons_zero, List.set_cons_succ]
          refine wpAnyM_take (i := 10) (oi := _) (v := .bool pb) rfl (by kernel_rfl) (by kernel_rfl) (by kernel_rfl) (fun _ _ _ h => h) (by kernel_rfl) (by kernel_rfl) (Or.inl ⟨by kernel_rfl, ?_⟩) (by assumption) ?_
          · (intro w hSw; (try dsimp only at hSw); go_simp)
          try simp only [List.getElem_toArray, List.getElem_cons_zero, List.getElem_cons_succ, Act.put, List.setIfInBounds_toArray, List.set_cons_zero, List.set_cons_succ]
          refine wpAnyM_one (i := 11) (o := _) rfl (by kernel_rfl) (fun K hK => ?_)
          go_simp
          refine hK.out _ _ (fun h => absurd rfl h) (fun hHeld => ?_)
          clear hK K
          try have hHeld := hHeld (by decide)
          try simp only [List.getElem_toArray, List.getElem_cons_zero, List.getElem_cons_succ, Act.put, List.setIfInBounds_toArray, List.set_cons_zero, List.set_cons_succ]
          refine wpAnyM_done (by kernel_rfl) ?_ _
          have HW13 := Lib.hid (HW12.out.trans (hb5.mono HW12.out.size))
          clear hS hb5 hS5 d0 d1 g0 g1
          have i0 : (0 : Int) ≤ min (s0.size : Int) 400 := by omega
          have i1 : min (s0.size : Int) 400 ≤ (s0.size : Int) := by omega
          have hrc := Lib.hid (read_cases (s0.extract 0 (min (s0.size : Int) 400).toNat) (by rw [ByteArray.size_extract]; omega))
          have HWK := Lib.hid (fun W hE => wakes_any W hE)
          go_wp2_with fail
          generalize s0.extract 0 (min (s0.size : Int) 400).toNat = S at hrc ⊢
          have hrc2 := hrc.out
          clear hrc
          rcases hrc2 with ⟨er, her, hcall⟩ | ⟨p, q, hm, hp, hq, hcall⟩
          · have HC := Lib.hid hcall
            clear hcall
            rcases her with rfl | rfl
            all_goals
              refine (HC.out _ (HE.out.below HW13.out)).mono ?_
              rintro e v1 ⟨rfl, hx⟩
              have HV1 := Lib.hid (HW13.out.trans (hx.mono HW13.out.size))
              have HV2 := Lib.hid (HV1.out.trans ((alloc_below v1 (.cells #[.string ⟨#[]⟩, .string ⟨#[]⟩] 30)).mono HV1.out.size))
              obtain ⟨-, m0, m1, -, -⟩ := Two.made v1 (.string ⟨#[]⟩) (.string ⟨#[]⟩) 30
              clear hx
              go_wp2_with fail
              refine (HWK.out _ (HE.out.below HV2.out)).mono ?_
              rintro e v2 ⟨rfl, hx2⟩
              go_wp2
              go_ret
              exact ⟨rfl, HV2.out.trans (hx2.mono HV2.out.size)⟩
          · obtain ⟨P, hP⟩ : ∃ P : ByteArray, P = ⟨p.toArray⟩ := ⟨_, rfl⟩
            obtain ⟨Q, hQ⟩ : ∃ Q : ByteArray, Q = ⟨q.toArray⟩ := ⟨_, rfl⟩
            rw [← hP, ← hQ] at hcall
            have HC := Lib.hid hcall
            have HTX2 := Lib.hid (ktext2 p q P Q hP hQ (by omega) (by omega))
            have HPX2 := Lib.hid (kparse2 p q P Q hP hQ hm (by omega) (by omega))
            have HMY2 := Lib.hid (kmay2 p q P Q hP hQ hm (by omega) (by omega))
            generalize (⟨(textL (p, q)).toArray⟩ : ByteArray) = T2 at HTX2 HPX2
            clear hcall hP hQ hm hp hq
            refine (HC.out _ (HE.out.below HW13.out)).mono ?_
            rintro e v1 ⟨rfl, hx⟩
            have HV1 := Lib.hid (HW13.out.trans (hx.mono HW13.out.size))
            have HV2 := Lib.hid (HV1.out.trans ((alloc_below v1 (.cells #[.string P, .string Q] 30)).mono HV1.out.size))
            have TM := Lib.hid (Two.made v1 (.string P) (.string Q) 30)
            obtain ⟨-, m0, m1, -, -⟩ := TM.out
            clear hx
            go_wp2_with fail
            refine (HTX2.out _ (HE.out.below HV2.out)).mono ?_
            rintro e v3 ⟨rfl, hx⟩
            have HV3 := Lib.hid (HV2.out.trans (hx.mono HV2.out.size))
            have TM3 := Lib.hid (TM.out.below hx)
            clear hx m0 m1
            go_wp2_with fail
            refine (HPX2.out _ (HE.out.below HV3.out)).mono ?_
            rintro e v4 ⟨rfl, hx⟩
            have HV4 := Lib.hid (HV3.out.trans (hx.mono HV3.out.size))
            have TM4 := Lib.hid ((TM3.out.below hx).below (alloc_below v4 (.cells #[.string P, .string Q] 30)))
            have TN4 := Lib.hid (Two.made v4 (.string P) (.string Q) 30)
            have HV5 := Lib.hid (HV4.out.trans ((alloc_below v4 (.cells #[.string P, .string Q] 30)).mono HV4.out.size))
            obtain ⟨-, m0, m1, -, -⟩ := TM4.out
            clear hx
            go_wp2_with fail
            refine (HMY2.out _ (HE.out.below HV5.out)).mono ?_
            rintro e v6 ⟨rfl, hx⟩
            have HV6 := Lib.hid (HV5.out.trans (hx.mono HV5.out.size))
            have TM6 := TM4.out.below hx
            have TN6 := TN4.out.below hx
            clear hx m0 m1
            obtain ⟨-, m0, m1, -, -⟩ := TM6
            obtain ⟨-, n0, n1, -, -⟩ := TN6
            go_wp2_with fail
            refine (HWK.out _ (HE.out.below HV6.out)).mono ?_
            rintro e v7 ⟨rfl, hx2⟩
            go_wp2
            go_ret
            exact ⟨rfl, HV6.out.trans (hx2.mono HV6.out.size)⟩
end Go.Proofs.YtffngbjnbigipaaGreatDoor
