/- The law CodingBack, walked: it returns true for bytes that lie in memory and a text, each of at most 2^47 - 4096 bytes, where the package's table and unicode/utf8's two tables read as their texts lay them. -/
import Derived.Test.YthnohioamefbmaaDoorBackA
import Derived.Laws.EntriesVeiled
import Derived.Deep.RegionHeld3
import Derived.Deep.RegionLaw
namespace Go.Proofs.YthnohioamefbmaaDoor
open Go.RowKit Go.Lib
set_option linter.unusedSimpArgs false
set_option linter.unusedVariables false

theorem box_three (w W : World) (x y z : Value) (hb : Below (w.alloc (.cells #[x, y, z] 28)).heap.size (w.alloc (.cells #[x, y, z] 28)) W) : W.cell? ⟨w.heap.size, 0, none⟩ = some x ∧ W.cell? ⟨w.heap.size, 1, none⟩ = some y ∧ W.cell? ⟨w.heap.size, 2, none⟩ = some z := by
  have h : (w.alloc (.cells #[x, y, z] 28)).heap[w.heap.size]? = some (.cells #[x, y, z] 28 (0, 0)) := heap_last _ _
  refine ⟨?_, ?_, ?_⟩
  · rw [hb.cell (p := ⟨w.heap.size, 0, none⟩) (by rw [World.size_alloc]; show w.heap.size < _; omega)]
    simp only [World.cell?, h]; rfl
  · rw [hb.cell (p := ⟨w.heap.size, 1, none⟩) (by rw [World.size_alloc]; show w.heap.size < _; omega)]
    simp only [World.cell?, h]; rfl
  · rw [hb.cell (p := ⟨w.heap.size, 2, none⟩) (by rw [World.size_alloc]; show w.heap.size < _; omega)]
    simp only [World.cell?, h]; rfl
theorem tri_below {W W' : World} {B : Nat} {x y z : Value} (h : W.cell? ⟨B, 0, none⟩ = some x ∧ W.cell? ⟨B, 1, none⟩ = some y ∧ W.cell? ⟨B, 2, none⟩ = some z) (hB : B < W.heap.size) (hb : Below W.heap.size W W') :
    W'.cell? ⟨B, 0, none⟩ = some x ∧ W'.cell? ⟨B, 1, none⟩ = some y ∧ W'.cell? ⟨B, 2, none⟩ = some z :=
  ⟨(hb.cell (p := ⟨B, 0, none⟩) hB).trans h.1, (hb.cell (p := ⟨B, 1, none⟩) hB).trans h.2.1, (hb.cell (p := ⟨B, 2, none⟩) hB).trans h.2.2⟩
theorem lower_text (X : List UInt8) (hX : X.length ≤ 4000) (ha : ∀ b ∈ X, b.toNat < 128) (W : World) : Calls Tryd.prog 19 #[.string ⟨X.toArray⟩] W fun e w' => e = .returned (.string ⟨(X.map lowerB).toArray⟩) ∧ Below W.heap.size W w' := by
  have e1 : (⟨X.toArray⟩ : ByteArray).size = X.length := rfl
  have h := Tryd.strings_ToLower_ascii ⟨X.toArray⟩ W (by rw [e1]; omega) (fun j b hj => ha b (List.mem_of_getElem? (by simpa using hj)))
  simpa [toLowerA] using h
theorem upper_text (X : List UInt8) (hX : X.length ≤ 4000) (ha : ∀ b ∈ X, b.toNat < 128) (W : World) : Calls Tryd.prog 20 #[.string ⟨X.toArray⟩] W fun e w' => e = .returned (.string ⟨(X.map upperB).toArray⟩) ∧ Below W.heap.size W w' := by
  have e1 : (⟨X.toArray⟩ : ByteArray).size = X.length := rfl
  have h := Tryd.strings_ToUpper_ascii ⟨X.toArray⟩ W (by rw [e1]; omega) (fun j b hj => ha b (List.mem_of_getElem? (by simpa using hj)))
  simpa [toUpperA] using h
theorem same_six_b (s : ByteArray) (w : World) : Calls Tryd.prog 21 #[.string s, .string s, .int .i64 6] w fun e w' => e = .returned (.bool true) ∧ Below w.heap.size w w' := by
  refine (same_six s w).mono ?_
  rintro e w' ⟨rfl, rfl⟩
  exact ⟨rfl, Below.refl _ _⟩
theorem same_six_c (s : ByteArray) (w : World) : Calls Tryd.prog 21 #[.string ⟨s.data.toList.toArray⟩, .string s, .int .i64 6] w fun e w' => e = .returned (.bool true) ∧ Below w.heap.size w w' := by
  have h : (⟨s.data.toList.toArray⟩ : ByteArray) = s := by cases s; simp
  rw [h]
  exact same_six_b s w
theorem count_wf (x : Int) (h0 : 0 ≤ x) (h1 : x ≤ 100000) : (Lit.int .i64 x).wf = true := by
  have hmin : IntKind.i64.min = -9223372036854775808 := rfl
  have hmax : IntKind.i64.max = 9223372036854775807 := rfl
  simp only [Lit.wf, hmin, hmax, Bool.and_eq_true, decide_eq_true_eq]
  omega

set_option maxRecDepth 100000 in
set_option maxHeartbeats 8000000 in
theorem back_any (v0 : Value) (s0 : ByteArray) (w : World) (hT : Tabs w) (n cap0 : Nat) (p0 : Option Addr) (hv0 : v0 = .slice p0 n cap0) (l0 : List Nat) (hlf0 : ∀ x ∈ l0, x < 256) (hs0 : s0.size ≤ 140737488351232) (hn0 : n ≤ 140737488351232) (hcap : n ≤ cap0) (hcap2 : cap0 ≤ 140737488351232)
    (hsv0 : Bytes w v0 l0) : Calls Tryd.prog 6 #[.slice p0 n cap0, .string s0] w fun e w' => e = .returned (.bool true) ∧ Below w.heap.size w w' := by
  subst hv0
  have hmm := @run_makeMap Tryd.prog
  go_enter Tryd.func6, Tryd.ntmps6
  go_upto_region 1 with (fail)
  go_cut [0, 1] (fun v0 v1 wc => TruncRel w v0 v1 wc)
  case first =>
    by_cases hn : n ≤ 300
    · by_cases hs : s0.size ≤ 300
      · go_wp2_with fail
        go_quiet (fail)
        go_wp2_with fail
        go_meet
        case rel => exact trunc_rel w n cap0 p0 l0 s0 _ hlf0 hsv0
      · go_wp2_with fail
        go_quiet (fail)
        go_wp2_with fail
        go_meet
        case rel => exact trunc_rel w n cap0 p0 l0 s0 _ hlf0 hsv0
    · by_cases hs : s0.size ≤ 300
      · go_wp2_with fail
        go_quiet (fail)
        go_wp2_with fail
        go_meet
        case rel => exact trunc_rel w n cap0 p0 l0 s0 _ hlf0 hsv0
      · go_wp2_with fail
        go_quiet (fail)
        go_wp2_with fail
        go_meet
        case rel => exact trunc_rel w n cap0 p0 l0 s0 _ hlf0 hsv0
  case rest =>
    obtain ⟨l, s, p, cap, rfl, rfl, hsv, hll, hlf, hss, hbw⟩ := hcut
    have hTc : Tabs wc := hT.below hbw
    clear hcap hcap2 hn0 hs0 hsv0 hlf0
    obtain ⟨w1, w2, w3, r1, r2, r3, hb3, hlt3, hlook⟩ := three_map wc ((8 * (l.length : Int) + 4) / 5) (4 * (((l.length : Int) + 2) / 3)) (2 * (l.length : Int)) (count_wf _ (by omega) (by omega)) (count_wf _ (by omega) (by omega)) (count_wf _ (by omega) (by omega))
    go_wp2_with fail
    refine (kinds_any w3).mono ?_
    rintro e w' ⟨rfl, rfl⟩
    clear hmm r1 r2 r3
    go_wp2_with fail
    go_loopg [44] 3 (fun g v W => RoundRel w w3 g v W)
    case atStart => exact ⟨0, by omega, by omega, rfl, Below.refl _ _⟩
    case round =>
      obtain ⟨i, hi, hig, rfl, hbr⟩ := hrel
      have hb3r : Below w3.heap.size w3 wr := ((Below.refl _ w3).alloc (Nat.le_refl _) _).trans (hbr.mono (by rw [World.size_alloc]; omega))
      have hbcr : Below wc.heap.size wc wr := hb3.trans (hb3r.mono hb3.size)
      have hTr : Tabs wr := hTc.below hbcr
      have hsr := hsv.below hbcr
      have HIG := Lib.hid hig
      clear hig
      obtain rfl | rfl | rfl | rfl : i = 0 ∨ i = 1 ∨ i = 2 ∨ i = 3 := by omega
      · have k0 := kindsO_cell w3 wr hbr 0
        have k1 := kindsO_cell w3 wr hbr 1
        have k2 := kindsO_cell w3 wr hbr 2
        simp only [List.getElem?_toArray, List.getElem?_cons_zero, List.getElem?_cons_succ] at k0 k1 k2
        have hBox := Lib.hid (box_three wr _ (.int .i64 5) (.func (.func 12) #[] #[]) (.func (.func 14) #[] #[]) (Below.refl _ _))
        have hlen := len5 l hlf
        have HC1 := Lib.hid (fun W (hT : Tabs W) (hb : Bytes W (.slice p l.length cap) l) => base32_any _ l (by omega) W hT hlf hb)
        have HC2 := Lib.hid (fun W (hT : Tabs W) => back32_id l hlf hll W hT)
        have hXs : (tellL L32 5 1 l).length ≤ 4000 := small_len 5 (.inl rfl) l hlf hll
        have hXa : ∀ b ∈ tellL L32 5 1 l, b.toNat < 128 := tell_ascii 5 (.inl rfl) l hlf
        have HL := Lib.hid (lower_text _ hXs hXa)
        have HU := Lib.hid (upper_text _ hXs hXa)
        have HLr := Lib.hid (fun W (hT : Tabs W) => back32 l hlf hll lowerB (.inr (.inl rfl)) W hT)
        have HUr := Lib.hid (fun W (hT : Tabs W) => back32 l hlf hll upperB (.inr (.inr rfl)) W hT)
        clear hXs hXa
        generalize hX : tellL L32 5 1 l = X at HC1 HC2 hlen HL HU HLr HUr
        have HX := Lib.hid hX
        clear hX
        go_wp2_with fail
        refine (HC1.out _ (hTr.below (alloc_below wr _)) (hsr.below (alloc_below wr _))).mono ?_
        rintro e w4 ⟨rfl, hb4⟩
        have hS4 := box_three _ _ _ _ _ hb4
        have hb4w : Below wr.heap.size wr w4 := (alloc_below wr _).trans (hb4.mono (by rw [World.size_alloc]; omega))
        have hlt4 : wr.heap.size < w4.heap.size := by have := hb4.size; rw [World.size_alloc] at this; omega
        obtain ⟨q0, q1, q2⟩ := hS4
        go_wp2_with fail
        refine (HC2.out _ (hTr.below hb4w)).mono ?_
        rintro e w5 ⟨v5, rfl, hv5, hb5⟩
        have hS5 := tri_below ⟨q0, q1, q2⟩ hlt4 hb5
        have hb5w := hb4w.trans (hb5.mono hb4w.size)
        have hlt5 : wr.heap.size < w5.heap.size := Nat.lt_of_lt_of_le hlt4 hb5.size
        clear q0 q1 q2
        obtain ⟨q0, q1, q2⟩ := hS5
        have hE5 := equal_same _ _ l _ hv5 (hsr.below hb5w)
        have hg := (hlook w5 ((hb5w.block _ (by have := hbcr.size; have := hb3r.size; omega)).trans (hb3r.block _ hlt3))).1
        go_wp2_with fail
        refine hE5.mono ?_
        rintro e w6 ⟨rfl, hw6⟩
        rw [hw6]
        clear hw6 w6 hE5
        go_wp2_with fail
        have hTe := hTr.below hb5w
        have hT5 := hTe.drew
        have hS5d := tri_below ⟨q0, q1, q2⟩ hlt5 (drew_below _)
        have hsr5 := (hsr.below hb5w).drew
        clear q0 q1 q2
        go_region_held3 (fun W => W.cell? ⟨wr.heap.size, 0, none⟩ = some (.int .i64 5) ∧ W.cell? ⟨wr.heap.size, 1, none⟩ = some (.func (.func 12) #[] #[]) ∧ W.cell? ⟨wr.heap.size, 2, none⟩ = some (.func (.func 14) #[] #[]))
          (first | go_keep | exact hS8 | exact hS7)
          (first
            | (go_at_call 19; refine (HL.out _).mono ?_; rintro e w7 ⟨rfl, hb7⟩; have hS7 := tri_below hS5d hlt5 hb7; have hlt7 := Nat.lt_of_lt_of_le hlt5 hb7.size; have hT7 := hT5.below hb7)
            | (go_at_call 14; refine (HLr.out _ hT7).mono ?_; rintro e w8 ⟨v8, rfl, hv8, hb8⟩; have hS8 := tri_below hS7 hlt7 hb8; have hb8a := hb7.trans (hb8.mono hb7.size); have hlt8 := Nat.lt_of_lt_of_le hlt5 hb8a.size; have hT8 := hT5.below hb8a))
        have hT8d := hT8.drew
        have hS8d := tri_below hS8 hlt8 (drew_below _)
        go_wp2_with fail
        go_region_held3 (fun W => W.cell? ⟨wr.heap.size, 0, none⟩ = some (.int .i64 5) ∧ W.cell? ⟨wr.heap.size, 1, none⟩ = some (.func (.func 12) #[] #[]) ∧ W.cell? ⟨wr.heap.size, 2, none⟩ = some (.func (.func 14) #[] #[]))
          (first | go_keep | exact hS10 | exact hS9)
          (first
            | (go_at_call 20; refine (HU.out _).mono ?_; rintro e w9 ⟨rfl, hb9⟩; have hS9 := tri_below hS8d hlt8 hb9; have hlt9 := Nat.lt_of_lt_of_le hlt8 hb9.size; have hT9 := hT8d.below hb9)
            | (go_at_call 14; refine (HUr.out _ hT9).mono ?_; rintro e w10 ⟨v10, rfl, hv10, hb10⟩; have hS10 := tri_below hS9 hlt9 hb10; have hb10a := hb9.trans (hb10.mono hb9.size)))
        have hb10b : Below w5.heap.size w5 w10 := ((drew_below w5).trans (hb8a.mono (Nat.le_refl _))).trans (((drew_below w8).trans (hb10a.mono (Nat.le_refl _))).mono hb8a.size)
        have hE8 := equal_same _ _ l _ (hv8.below ((drew_below w8).trans (hb10a.mono (Nat.le_refl _)))) ((hsr.below hb5w).below hb10b)
        have hE10 := equal_same _ _ l _ hv10 ((hsr.below hb5w).below hb10b)
        have hb10w := hb5w.trans (hb10b.mono hb5w.size)
        have hlt10 : wr.heap.size < w10.heap.size := Nat.lt_of_lt_of_le hlt5 hb10b.size
        have hT10 := hTr.below hb10w
        clear hS5d hS7 hS8 hS8d hS9 hT5 hT7 hT8 hT8d hT9 hb7 hb8 hb8a hb9 hb10 hb10a hTe hsr5 hv8 hv10
        go_wp2_with fail
        refine hE8.mono ?_
        rintro e w6 ⟨rfl, hw6⟩
        rw [hw6]
        clear hw6 w6
        go_wp2_with fail
        refine hE10.mono ?_
        rintro e w6 ⟨rfl, hw6⟩
        rw [hw6]
        clear hw6 w6 hE8 hE10
        obtain ⟨q0, q1, q2⟩ := hS10
        go_wp2_with fail
        refine ((fun W (hT : Tabs W) => from32_any s (by omega) W hT (map_small greatF s hss)) _ (hTr.below hb10w)).mono ?_
        rintro e w11 ⟨v16, out, c, rfl, hv16, hcase, hb11⟩
        have hS11 := tri_below ⟨q0, q1, q2⟩ hlt10 hb11
        have hb11w := hb10w.trans (hb11.mono hb10w.size)
        have hlt11 : wr.heap.size < w11.heap.size := Nat.lt_of_lt_of_le hlt10 hb11.size
        clear q0 q1 q2
        rcases hcase with ⟨hr, rfl, rfl⟩ | ⟨hr, rfl⟩
        · obtain ⟨p16, c16, rfl⟩ := hv16.form
          obtain ⟨q0, q1, q2⟩ := hS11
          clear hr
          go_wp2_with fail
          go_quiet (fail)
          go_wp2_with fail
          go_roundg 2
          case rel => exact ⟨1, by omega, by omega, rfl, hbr.trans ((hb11w.trans ((drewN_below w11 _).mono hb11w.size)).mono hbr.size)⟩
          case measure => have := HIG.out; omega
        · have hu := read_lt 5 (.inl rfl) _ _ _ hr
          have hsm := same5 s.data.toList out hr
          have hln := len5 out hu
          rw [hsm.2] at hln
          have hss2 : (toUpperA s.data.toList).length = s.size := by simp [toUpperA, toLowerA]
          have HCu := fun W (hT : Tabs W) (hb : Bytes W v16 out) => base32_any v16 out (by omega) W hT hu hb
          rw [hsm.2] at HCu
          have HSm := Lib.hid (fun W => same_five s hss hsm.1 W)
          generalize toUpperA s.data.toList = U at HCu HSm hln hss2
          have HC := Lib.hid HCu
          clear HCu hr hsm
          have hT11 := (hTr.below hb11w).drew
          have hv16d := hv16.drew
          have hS11d := tri_below hS11 hlt11 (drew_below _)
          have hlt11d : wr.heap.size < w11.drew.heap.size := hlt11
          go_wp2_with fail
          refine wp_region_held_drew (S := fun W => W.cell? ⟨wr.heap.size, 0, none⟩ = some (.int .i64 5) ∧ W.cell? ⟨wr.heap.size, 1, none⟩ = some (.func (.func 12) #[] #[]) ∧ W.cell? ⟨wr.heap.size, 2, none⟩ = some (.func (.func 14) #[] #[])) (by kernel_rfl) hS11d (fun hHeld => ?_)
          refine wpAnyH_take (i := 0) (oi := _) (v := .int .i64 0) rfl (by kernel_rfl) (by kernel_rfl) (by kernel_rfl) (fun _ _ _ h => h) (Or.inl ⟨by kernel_rfl, ?_⟩) (by assumption) ?_
          · (intro w hSw; (try dsimp only at hSw); go_simp)
          try simp only [Act.put, List.setIfInBounds_toArray, List.set_cons_zero, List.set_cons_succ]
          refine wpAnyH_take (i := 1) (oi := _) (v := .bool false) rfl (by kernel_rfl) (by kernel_rfl) (by kernel_rfl) (fun _ _ _ h => h) (Or.inl ⟨by kernel_rfl, ?_⟩) (by assumption) ?_
          · (intro w hSw; (try dsimp only at hSw); go_simp)
          try simp only [Act.put, List.setIfInBounds_toArray, List.set_cons_zero, List.set_cons_succ]
          refine wpAnyH_take (i := 2) (oi := _) (v := .bool false) rfl (by kernel_rfl) (by kernel_rfl) (by kernel_rfl) (fun _ _ _ h => h) (Or.inl ⟨by kernel_rfl, ?_⟩) (by assumption) ?_
          · (intro w hSw; (try dsimp only at hSw); go_simp)
          try simp only [Act.put, List.setIfInBounds_toArray, List.set_cons_zero, List.set_cons_succ]
          refine wpAnyH_take (i := 3) (oi := _) (v := undef) rfl (by kernel_rfl) (by kernel_rfl) (by kernel_rfl) (fun _ _ _ h => h) (Or.inr ⟨by kernel_rfl, rfl⟩) (by assumption) ?_
          try simp only [Act.put, List.setIfInBounds_toArray, List.set_cons_zero, List.set_cons_succ]
          refine wpAnyH_take (i := 4) (oi := _) (v := undef) rfl (by kernel_rfl) (by kernel_rfl) (by kernel_rfl) (fun _ _ _ h => h) (Or.inr ⟨by kernel_rfl, rfl⟩) (by assumption) ?_
          try simp only [Act.put, List.setIfInBounds_toArray, List.set_cons_zero, List.set_cons_succ]
          refine wpAnyH_take (i := 5) (oi := _) (v := undef) rfl (by kernel_rfl) (by kernel_rfl) (by kernel_rfl) (fun _ _ _ h => h) (Or.inr ⟨by kernel_rfl, rfl⟩) (by assumption) ?_
          try simp only [Act.put, List.setIfInBounds_toArray, List.set_cons_zero, List.set_cons_succ]
          refine wpAnyH_take (i := 6) (oi := _) (v := undef) rfl (by kernel_rfl) (by kernel_rfl) (by kernel_rfl) (fun _ _ _ h => h) (Or.inr ⟨by kernel_rfl, rfl⟩) (by assumption) ?_
          try simp only [Act.put, List.setIfInBounds_toArray, List.set_cons_zero, List.set_cons_succ]
          refine wpAnyH_take (i := 7) (oi := _) (v := undef) rfl (by kernel_rfl) (by kernel_rfl) (by kernel_rfl) (fun _ _ _ h => h) (Or.inr ⟨by kernel_rfl, rfl⟩) (by assumption) ?_
          try simp only [Act.put, List.setIfInBounds_toArray, List.set_cons_zero, List.set_cons_succ]
          refine wpAnyH_take (i := 8) (oi := _) (v := undef) rfl (by kernel_rfl) (by kernel_rfl) (by kernel_rfl) (fun _ _ _ h => h) (Or.inr ⟨by kernel_rfl, rfl⟩) (by assumption) ?_
          try simp only [Act.put, List.setIfInBounds_toArray, List.set_cons_zero, List.set_cons_succ]
          refine wpAnyH_take (i := 9) (oi := _) (v := undef) rfl (by kernel_rfl) (by kernel_rfl) (by kernel_rfl) (fun _ _ _ h => h) (Or.inr ⟨by kernel_rfl, rfl⟩) (by assumption) ?_
          try simp only [Act.put, List.setIfInBounds_toArray, List.set_cons_zero, List.set_cons_succ]
          refine wpAnyH_take (i := 10) (oi := _) (v := .bool false) rfl (by kernel_rfl) (by kernel_rfl) (by kernel_rfl) (fun _ _ _ h => h) (Or.inl ⟨by kernel_rfl, ?_⟩) (by assumption) ?_
          · (intro w hSw; (try dsimp only at hSw); go_simp)
          try simp only [Act.put, List.setIfInBounds_toArray, List.set_cons_zero, List.set_cons_succ]
          refine wpAnyH_take (i := 11) (oi := _) (v := .bool false) rfl (by kernel_rfl) (by kernel_rfl) (by kernel_rfl) (fun _ _ _ h => h) (Or.inl ⟨by kernel_rfl, ?_⟩) (by assumption) ?_
          · (intro w hSw; (try dsimp only at hSw); go_simp)
          try simp only [Act.put, List.setIfInBounds_toArray, List.set_cons_zero, List.set_cons_succ]
          refine wpAnyH_take (i := 12) (oi := _) (v := .int .i64 0) rfl (by kernel_rfl) (by kernel_rfl) (by kernel_rfl) (fun _ _ _ h => h) (Or.inl ⟨by kernel_rfl, ?_⟩) (by assumption) ?_
          · (intro w hSw; (try dsimp only at hSw); go_simp)
          try simp only [Act.put, List.setIfInBounds_toArray, List.set_cons_zero, List.set_cons_succ]
          refine wpAnyH_take (i := 13) (oi := _) (v := .bool true) rfl (by kernel_rfl) (by kernel_rfl) (by kernel_rfl) (fun _ _ _ h => h) (Or.inl ⟨by kernel_rfl, ?_⟩) (by assumption) ?_
          · (intro w hSw; (try dsimp only at hSw); go_simp)
          try simp only [Act.put, List.setIfInBounds_toArray, List.set_cons_zero, List.set_cons_succ]
          refine wpAnyH_take (i := 14) (oi := _) (v := .bool true) rfl (by kernel_rfl) (by kernel_rfl) (by kernel_rfl) (fun _ _ _ h => h) (Or.inl ⟨by kernel_rfl, ?_⟩) (by assumption) ?_
          · (intro w hSw; (try dsimp only at hSw); go_simp)
          try simp only [Act.put, List.setIfInBounds_toArray, List.set_cons_zero, List.set_cons_succ]
          refine wpAnyH_take (i := 15) (oi := _) (v := .pointer (some ⟨wr.heap.size, 1, none⟩)) rfl (by kernel_rfl) (by kernel_rfl) (by kernel_rfl) (fun _ _ _ h => h) (Or.inl ⟨by kernel_rfl, ?_⟩) (by assumption) ?_
          · (intro w hSw; (try dsimp only at hSw); go_simp)
          try simp only [Act.put, List.setIfInBounds_toArray, List.set_cons_zero, List.set_cons_succ]
          refine wpAnyH_take (i := 16) (oi := _) (v := .func (.func 12) #[] #[]) rfl (by kernel_rfl) (by kernel_rfl) (by kernel_rfl) (fun _ _ _ h => h) (Or.inl ⟨by kernel_rfl, ?_⟩) (by assumption) ?_
          · (intro w hSw; (try dsimp only at hSw); go_simp)
          try simp only [Act.put, List.setIfInBounds_toArray, List.set_cons_zero, List.set_cons_succ]
          refine wpAnyH_take (i := 17) (oi := _) (v := v16) rfl (by kernel_rfl) (by kernel_rfl) (by kernel_rfl) (fun _ _ _ h => h) (Or.inl ⟨by kernel_rfl, ?_⟩) (by assumption) ?_
          · (intro w hSw; (try dsimp only at hSw); go_simp)
          try simp only [Act.put, List.setIfInBounds_toArray, List.set_cons_zero, List.set_cons_succ]
          refine wpAnyH_take (i := 19) (oi := _) (v := .string s) rfl (by kernel_rfl) (by kernel_rfl) (by kernel_rfl) (fun _ _ _ h => h) (Or.inl ⟨by kernel_rfl, ?_⟩) (by assumption) ?_
          · (intro w hSw; (try dsimp only at hSw); go_simp)
          try simp only [Act.put, List.setIfInBounds_toArray, List.set_cons_zero, List.set_cons_succ]
          refine wpAnyH_take (i := 20) (oi := _) (v := .pointer (some ⟨wr.heap.size, 0, none⟩)) rfl (by kernel_rfl) (by kernel_rfl) (by kernel_rfl) (fun _ _ _ h => h) (Or.inl ⟨by kernel_rfl, ?_⟩) (by assumption) ?_
          · (intro w hSw; (try dsimp only at hSw); go_simp)
          try simp only [Act.put, List.setIfInBounds_toArray, List.set_cons_zero, List.set_cons_succ]
          refine wpAnyH_take (i := 21) (oi := _) (v := .int .i64 5) rfl (by kernel_rfl) (by kernel_rfl) (by kernel_rfl) (fun _ _ _ h => h) (Or.inl ⟨by kernel_rfl, ?_⟩) (by assumption) ?_
          · (intro w hSw; (try dsimp only at hSw); go_simp)
          try simp only [Act.put, List.setIfInBounds_toArray, List.set_cons_zero, List.set_cons_succ]
          refine wpAnyH_ready (rs := [18]) (by kernel_rfl) (by simp) ?_
          refine AllReadyH.cons (o := _) rfl (fun K hK => ?_) AllReadyH.nil
          go_simp
          go_at_call 12
          refine (HC.out _ hT11 hv16d).mono ?_
          rintro e w12 ⟨rfl, hb12⟩
          have hS12 := tri_below hS11d hlt11d hb12
          refine hK.out _ _ hS12 (fun hHeld2 => ?_)
          clear hK K hHeld
          try simp only [Act.put, List.setIfInBounds_toArray, List.set_cons_zero, List.set_cons_succ]
          refine wpAnyH_ready (rs := [22]) (by kernel_rfl) (by simp) ?_
          refine AllReadyH.cons (o := _) rfl (fun K hK => ?_) AllReadyH.nil
          go_simp
          go_at_call 21
          refine (HSm.out _).mono ?_
          rintro e w13 ⟨rfl, hb13⟩
          have hb13a := hb12.trans (hb13.mono hb12.size)
          have hlt12 : wr.heap.size < w12.heap.size := Nat.lt_of_lt_of_le hlt11d hb12.size
          refine hK.out _ _ (tri_below hS12 hlt12 hb13) (fun hHeld3 => ?_)
          clear hK K hHeld2
          try simp only [Act.put, List.setIfInBounds_toArray, List.set_cons_zero, List.set_cons_succ]
          refine wpAnyH_take (i := 23) (oi := _) (v := .bool false) rfl (by kernel_rfl) (by kernel_rfl) (by kernel_rfl) (fun _ _ _ h => h) (Or.inl ⟨by kernel_rfl, ?_⟩) (by assumption) ?_
          · (intro w hSw; (try dsimp only at hSw); go_simp)
          try simp only [Act.put, List.setIfInBounds_toArray, List.set_cons_zero, List.set_cons_succ]
          refine wpAnyH_take (i := 24) (oi := _) (v := .bool false) rfl (by kernel_rfl) (by kernel_rfl) (by kernel_rfl) (fun _ _ _ h => h) (Or.inl ⟨by kernel_rfl, ?_⟩) (by assumption) ?_
          · (intro w hSw; (try dsimp only at hSw); go_simp)
          try simp only [Act.put, List.setIfInBounds_toArray, List.set_cons_zero, List.set_cons_succ]
          refine wpAnyH_take (i := 25) (oi := _) (v := .bool false) rfl (by kernel_rfl) (by kernel_rfl) (by kernel_rfl) (fun _ _ _ h => h) (Or.inl ⟨by kernel_rfl, ?_⟩) (by assumption) ?_
          · (intro w hSw; (try dsimp only at hSw); go_simp)
          try simp only [Act.put, List.setIfInBounds_toArray, List.set_cons_zero, List.set_cons_succ]
          refine wpAnyH_done (by kernel_rfl) ?_ _
          go_wp2_with fail
          go_roundg 2
          case rel => exact ⟨1, by omega, by omega, rfl, hbr.trans ((hb11w.trans (((drew_below w11).trans (hb13a.mono (Nat.le_refl _))).mono hb11w.size)).mono hbr.size)⟩
          case measure => have := HIG.out; omega
      · have k0 := kindsO_cell w3 wr hbr 3
        have k1 := kindsO_cell w3 wr hbr 4
        have k2 := kindsO_cell w3 wr hbr 5
        simp only [List.getElem?_toArray, List.getElem?_cons_zero, List.getElem?_cons_succ] at k0 k1 k2
        have hBox := Lib.hid (box_three wr _ (.int .i64 6) (.func (.func 13) #[] #[]) (.func (.func 15) #[] #[]) (Below.refl _ _))
        have hlen := len6 l hlf
        have HC1 := Lib.hid (fun W (hT : Tabs W) (hb : Bytes W (.slice p l.length cap) l) => base64_any _ l (by omega) W hT hlf hb)
        have HC2 := Lib.hid (fun W (hT : Tabs W) => back64 l hlf hll W hT)
        generalize hX : tellL L64 6 4 l = X at HC1 HC2 hlen
        have HX := Lib.hid hX
        clear hX
        go_wp2_with fail
        refine (HC1.out _ (hTr.below (alloc_below wr _)) (hsr.below (alloc_below wr _))).mono ?_
        rintro e w4 ⟨rfl, hb4⟩
        have hS4 := box_three _ _ _ _ _ hb4
        have hb4w : Below wr.heap.size wr w4 := (alloc_below wr _).trans (hb4.mono (by rw [World.size_alloc]; omega))
        have hlt4 : wr.heap.size < w4.heap.size := by have := hb4.size; rw [World.size_alloc] at this; omega
        obtain ⟨q0, q1, q2⟩ := hS4
        go_wp2_with fail
        refine (HC2.out _ (hTr.below hb4w)).mono ?_
        rintro e w5 ⟨v5, rfl, hv5, hb5⟩
        have hS5 := tri_below ⟨q0, q1, q2⟩ hlt4 hb5
        have hb5w := hb4w.trans (hb5.mono hb4w.size)
        have hlt5 : wr.heap.size < w5.heap.size := Nat.lt_of_lt_of_le hlt4 hb5.size
        clear q0 q1 q2
        obtain ⟨q0, q1, q2⟩ := hS5
        have hE5 := equal_same _ _ l _ hv5 (hsr.below hb5w)
        have hg := (hlook w5 ((hb5w.block _ (by have := hbcr.size; have := hb3r.size; omega)).trans (hb3r.block _ hlt3))).2.1
        go_wp2_with fail
        refine hE5.mono ?_
        rintro e w6 ⟨rfl, hw6⟩
        rw [hw6]
        clear hw6 w6 hE5
        go_wp2_with fail
        refine ((fun W (hT : Tabs W) => from64_any s (by omega) W hT) _ (hTr.below hb5w)).mono ?_
        rintro e w11 ⟨v16, out, c, rfl, hv16, hcase, hb11⟩
        have hS11 := tri_below ⟨q0, q1, q2⟩ hlt5 hb11
        have hb11w := hb5w.trans (hb11.mono hb5w.size)
        have hlt11 : wr.heap.size < w11.heap.size := Nat.lt_of_lt_of_le hlt5 hb11.size
        clear q0 q1 q2
        rcases hcase with ⟨hr, rfl, rfl⟩ | ⟨hr, rfl⟩
        · obtain ⟨p16, c16, rfl⟩ := hv16.form
          obtain ⟨q0, q1, q2⟩ := hS11
          clear hr
          go_wp2_with fail
          go_quiet (fail)
          go_wp2_with fail
          go_roundg 1
          case rel => exact ⟨2, by omega, by omega, rfl, hbr.trans ((hb11w.trans ((drewN_below w11 _).mono hb11w.size)).mono hbr.size)⟩
          case measure => have := HIG.out; omega
        · have hu := read_lt 6 (.inr (.inl rfl)) _ _ _ hr
          have hsm := same6 s.data.toList out hr
          have hln := len6 out hu
          rw [hsm] at hln
          have hss2 : s.data.toList.length = s.size := by simp
          have HCu := fun W (hT : Tabs W) (hb : Bytes W v16 out) => base64_any v16 out (by omega) W hT hu hb
          rw [hsm] at HCu
          have HSm := Lib.hid (fun W => same_six_c s W)
          generalize s.data.toList = U at HCu HSm hln hss2
          have HC := Lib.hid HCu
          clear HCu hr hsm
          have hT11 := (hTr.below hb11w).drew
          have hv16d := hv16.drew
          have hS11d := tri_below hS11 hlt11 (drew_below _)
          have hlt11d : wr.heap.size < w11.drew.heap.size := hlt11
          go_wp2_with fail
          refine wp_region_held_drew (S := fun W => W.cell? ⟨wr.heap.size, 0, none⟩ = some (.int .i64 6) ∧ W.cell? ⟨wr.heap.size, 1, none⟩ = some (.func (.func 13) #[] #[]) ∧ W.cell? ⟨wr.heap.size, 2, none⟩ = some (.func (.func 15) #[] #[])) (by kernel_rfl) hS11d (fun hHeld => ?_)
          refine wpAnyH_take (i := 0) (oi := _) (v := .int .i64 0) rfl (by kernel_rfl) (by kernel_rfl) (by kernel_rfl) (fun _ _ _ h => h) (Or.inl ⟨by kernel_rfl, ?_⟩) (by assumption) ?_
          · (intro w hSw; (try dsimp only at hSw); go_simp)
          try simp only [Act.put, List.setIfInBounds_toArray, List.set_cons_zero, List.set_cons_succ]
          refine wpAnyH_take (i := 1) (oi := _) (v := .bool false) rfl (by kernel_rfl) (by kernel_rfl) (by kernel_rfl) (fun _ _ _ h => h) (Or.inl ⟨by kernel_rfl, ?_⟩) (by assumption) ?_
          · (intro w hSw; (try dsimp only at hSw); go_simp)
          try simp only [Act.put, List.setIfInBounds_toArray, List.set_cons_zero, List.set_cons_succ]
          refine wpAnyH_take (i := 2) (oi := _) (v := .bool false) rfl (by kernel_rfl) (by kernel_rfl) (by kernel_rfl) (fun _ _ _ h => h) (Or.inl ⟨by kernel_rfl, ?_⟩) (by assumption) ?_
          · (intro w hSw; (try dsimp only at hSw); go_simp)
          try simp only [Act.put, List.setIfInBounds_toArray, List.set_cons_zero, List.set_cons_succ]
          refine wpAnyH_take (i := 3) (oi := _) (v := undef) rfl (by kernel_rfl) (by kernel_rfl) (by kernel_rfl) (fun _ _ _ h => h) (Or.inr ⟨by kernel_rfl, rfl⟩) (by assumption) ?_
          try simp only [Act.put, List.setIfInBounds_toArray, List.set_cons_zero, List.set_cons_succ]
          refine wpAnyH_take (i := 4) (oi := _) (v := undef) rfl (by kernel_rfl) (by kernel_rfl) (by kernel_rfl) (fun _ _ _ h => h) (Or.inr ⟨by kernel_rfl, rfl⟩) (by assumption) ?_
          try simp only [Act.put, List.setIfInBounds_toArray, List.set_cons_zero, List.set_cons_succ]
          refine wpAnyH_take (i := 5) (oi := _) (v := undef) rfl (by kernel_rfl) (by kernel_rfl) (by kernel_rfl) (fun _ _ _ h => h) (Or.inr ⟨by kernel_rfl, rfl⟩) (by assumption) ?_
          try simp only [Act.put, List.setIfInBounds_toArray, List.set_cons_zero, List.set_cons_succ]
          refine wpAnyH_take (i := 6) (oi := _) (v := undef) rfl (by kernel_rfl) (by kernel_rfl) (by kernel_rfl) (fun _ _ _ h => h) (Or.inr ⟨by kernel_rfl, rfl⟩) (by assumption) ?_
          try simp only [Act.put, List.setIfInBounds_toArray, List.set_cons_zero, List.set_cons_succ]
          refine wpAnyH_take (i := 7) (oi := _) (v := undef) rfl (by kernel_rfl) (by kernel_rfl) (by kernel_rfl) (fun _ _ _ h => h) (Or.inr ⟨by kernel_rfl, rfl⟩) (by assumption) ?_
          try simp only [Act.put, List.setIfInBounds_toArray, List.set_cons_zero, List.set_cons_succ]
          refine wpAnyH_take (i := 8) (oi := _) (v := undef) rfl (by kernel_rfl) (by kernel_rfl) (by kernel_rfl) (fun _ _ _ h => h) (Or.inr ⟨by kernel_rfl, rfl⟩) (by assumption) ?_
          try simp only [Act.put, List.setIfInBounds_toArray, List.set_cons_zero, List.set_cons_succ]
          refine wpAnyH_take (i := 9) (oi := _) (v := undef) rfl (by kernel_rfl) (by kernel_rfl) (by kernel_rfl) (fun _ _ _ h => h) (Or.inr ⟨by kernel_rfl, rfl⟩) (by assumption) ?_
          try simp only [Act.put, List.setIfInBounds_toArray, List.set_cons_zero, List.set_cons_succ]
          refine wpAnyH_take (i := 10) (oi := _) (v := .bool false) rfl (by kernel_rfl) (by kernel_rfl) (by kernel_rfl) (fun _ _ _ h => h) (Or.inl ⟨by kernel_rfl, ?_⟩) (by assumption) ?_
          · (intro w hSw; (try dsimp only at hSw); go_simp)
          try simp only [Act.put, List.setIfInBounds_toArray, List.set_cons_zero, List.set_cons_succ]
          refine wpAnyH_take (i := 11) (oi := _) (v := .bool false) rfl (by kernel_rfl) (by kernel_rfl) (by kernel_rfl) (fun _ _ _ h => h) (Or.inl ⟨by kernel_rfl, ?_⟩) (by assumption) ?_
          · (intro w hSw; (try dsimp only at hSw); go_simp)
          try simp only [Act.put, List.setIfInBounds_toArray, List.set_cons_zero, List.set_cons_succ]
          refine wpAnyH_take (i := 12) (oi := _) (v := .int .i64 0) rfl (by kernel_rfl) (by kernel_rfl) (by kernel_rfl) (fun _ _ _ h => h) (Or.inl ⟨by kernel_rfl, ?_⟩) (by assumption) ?_
          · (intro w hSw; (try dsimp only at hSw); go_simp)
          try simp only [Act.put, List.setIfInBounds_toArray, List.set_cons_zero, List.set_cons_succ]
          refine wpAnyH_take (i := 13) (oi := _) (v := .bool true) rfl (by kernel_rfl) (by kernel_rfl) (by kernel_rfl) (fun _ _ _ h => h) (Or.inl ⟨by kernel_rfl, ?_⟩) (by assumption) ?_
          · (intro w hSw; (try dsimp only at hSw); go_simp)
          try simp only [Act.put, List.setIfInBounds_toArray, List.set_cons_zero, List.set_cons_succ]
          refine wpAnyH_take (i := 14) (oi := _) (v := .bool true) rfl (by kernel_rfl) (by kernel_rfl) (by kernel_rfl) (fun _ _ _ h => h) (Or.inl ⟨by kernel_rfl, ?_⟩) (by assumption) ?_
          · (intro w hSw; (try dsimp only at hSw); go_simp)
          try simp only [Act.put, List.setIfInBounds_toArray, List.set_cons_zero, List.set_cons_succ]
          refine wpAnyH_take (i := 15) (oi := _) (v := .pointer (some ⟨wr.heap.size, 1, none⟩)) rfl (by kernel_rfl) (by kernel_rfl) (by kernel_rfl) (fun _ _ _ h => h) (Or.inl ⟨by kernel_rfl, ?_⟩) (by assumption) ?_
          · (intro w hSw; (try dsimp only at hSw); go_simp)
          try simp only [Act.put, List.setIfInBounds_toArray, List.set_cons_zero, List.set_cons_succ]
          refine wpAnyH_take (i := 16) (oi := _) (v := .func (.func 13) #[] #[]) rfl (by kernel_rfl) (by kernel_rfl) (by kernel_rfl) (fun _ _ _ h => h) (Or.inl ⟨by kernel_rfl, ?_⟩) (by assumption) ?_
          · (intro w hSw; (try dsimp only at hSw); go_simp)
          try simp only [Act.put, List.setIfInBounds_toArray, List.set_cons_zero, List.set_cons_succ]
          refine wpAnyH_take (i := 17) (oi := _) (v := v16) rfl (by kernel_rfl) (by kernel_rfl) (by kernel_rfl) (fun _ _ _ h => h) (Or.inl ⟨by kernel_rfl, ?_⟩) (by assumption) ?_
          · (intro w hSw; (try dsimp only at hSw); go_simp)
          try simp only [Act.put, List.setIfInBounds_toArray, List.set_cons_zero, List.set_cons_succ]
          refine wpAnyH_take (i := 19) (oi := _) (v := .string s) rfl (by kernel_rfl) (by kernel_rfl) (by kernel_rfl) (fun _ _ _ h => h) (Or.inl ⟨by kernel_rfl, ?_⟩) (by assumption) ?_
          · (intro w hSw; (try dsimp only at hSw); go_simp)
          try simp only [Act.put, List.setIfInBounds_toArray, List.set_cons_zero, List.set_cons_succ]
          refine wpAnyH_take (i := 20) (oi := _) (v := .pointer (some ⟨wr.heap.size, 0, none⟩)) rfl (by kernel_rfl) (by kernel_rfl) (by kernel_rfl) (fun _ _ _ h => h) (Or.inl ⟨by kernel_rfl, ?_⟩) (by assumption) ?_
          · (intro w hSw; (try dsimp only at hSw); go_simp)
          try simp only [Act.put, List.setIfInBounds_toArray, List.set_cons_zero, List.set_cons_succ]
          refine wpAnyH_take (i := 21) (oi := _) (v := .int .i64 6) rfl (by kernel_rfl) (by kernel_rfl) (by kernel_rfl) (fun _ _ _ h => h) (Or.inl ⟨by kernel_rfl, ?_⟩) (by assumption) ?_
          · (intro w hSw; (try dsimp only at hSw); go_simp)
          try simp only [Act.put, List.setIfInBounds_toArray, List.set_cons_zero, List.set_cons_succ]
          refine wpAnyH_ready (rs := [18]) (by kernel_rfl) (by simp) ?_
          refine AllReadyH.cons (o := _) rfl (fun K hK => ?_) AllReadyH.nil
          go_simp
          go_at_call 13
          refine (HC.out _ hT11 hv16d).mono ?_
          rintro e w12 ⟨rfl, hb12⟩
          have hS12 := tri_below hS11d hlt11d hb12
          refine hK.out _ _ hS12 (fun hHeld2 => ?_)
          clear hK K hHeld
          try simp only [Act.put, List.setIfInBounds_toArray, List.set_cons_zero, List.set_cons_succ]
          refine wpAnyH_ready (rs := [22]) (by kernel_rfl) (by simp) ?_
          refine AllReadyH.cons (o := _) rfl (fun K hK => ?_) AllReadyH.nil
          go_simp
          go_at_call 21
          refine (HSm.out _).mono ?_
          rintro e w13 ⟨rfl, hb13⟩
          have hb13a := hb12.trans (hb13.mono hb12.size)
          have hlt12 : wr.heap.size < w12.heap.size := Nat.lt_of_lt_of_le hlt11d hb12.size
          refine hK.out _ _ (tri_below hS12 hlt12 hb13) (fun hHeld3 => ?_)
          clear hK K hHeld2
          try simp only [Act.put, List.setIfInBounds_toArray, List.set_cons_zero, List.set_cons_succ]
          refine wpAnyH_take (i := 23) (oi := _) (v := .bool false) rfl (by kernel_rfl) (by kernel_rfl) (by kernel_rfl) (fun _ _ _ h => h) (Or.inl ⟨by kernel_rfl, ?_⟩) (by assumption) ?_
          · (intro w hSw; (try dsimp only at hSw); go_simp)
          try simp only [Act.put, List.setIfInBounds_toArray, List.set_cons_zero, List.set_cons_succ]
          refine wpAnyH_take (i := 24) (oi := _) (v := .bool false) rfl (by kernel_rfl) (by kernel_rfl) (by kernel_rfl) (fun _ _ _ h => h) (Or.inl ⟨by kernel_rfl, ?_⟩) (by assumption) ?_
          · (intro w hSw; (try dsimp only at hSw); go_simp)
          try simp only [Act.put, List.setIfInBounds_toArray, List.set_cons_zero, List.set_cons_succ]
          refine wpAnyH_take (i := 25) (oi := _) (v := .bool false) rfl (by kernel_rfl) (by kernel_rfl) (by kernel_rfl) (fun _ _ _ h => h) (Or.inl ⟨by kernel_rfl, ?_⟩) (by assumption) ?_
          · (intro w hSw; (try dsimp only at hSw); go_simp)
          try simp only [Act.put, List.setIfInBounds_toArray, List.set_cons_zero, List.set_cons_succ]
          refine wpAnyH_done (by kernel_rfl) ?_ _
          go_wp2_with fail
          go_roundg 1
          case rel => exact ⟨2, by omega, by omega, rfl, hbr.trans ((hb11w.trans (((drew_below w11).trans (hb13a.mono (Nat.le_refl _))).mono hb11w.size)).mono hbr.size)⟩
          case measure => have := HIG.out; omega
      · have k0 := kindsO_cell w3 wr hbr 6
        have k1 := kindsO_cell w3 wr hbr 7
        have k2 := kindsO_cell w3 wr hbr 8
        simp only [List.getElem?_toArray, List.getElem?_cons_zero, List.getElem?_cons_succ] at k0 k1 k2
        have hBox := Lib.hid (box_three wr _ (.int .i64 4) (.func (.func 17) #[] #[]) (.func (.func 16) #[] #[]) (Below.refl _ _))
        have hlen := len4 l hlf
        have HC1 := Lib.hid (fun W (hT : Tabs W) (hb : Bytes W (.slice p l.length cap) l) => hex_any _ l (by omega) W hT hlf hb)
        have HC2 := Lib.hid (fun W (hT : Tabs W) => back16_id l hlf hll W hT)
        have hXs : (tellL L16 4 1 l).length ≤ 4000 := small_len 4 (.inr (.inr rfl)) l hlf hll
        have hXa : ∀ b ∈ tellL L16 4 1 l, b.toNat < 128 := tell_ascii 4 (.inr (.inr rfl)) l hlf
        have HL := Lib.hid (lower_text _ hXs hXa)
        have HU := Lib.hid (upper_text _ hXs hXa)
        have HLr := Lib.hid (fun W (hT : Tabs W) => back16 l hlf hll lowerB (.inr (.inl rfl)) W hT)
        have HUr := Lib.hid (fun W (hT : Tabs W) => back16 l hlf hll upperB (.inr (.inr rfl)) W hT)
        clear hXs hXa
        generalize hX : tellL L16 4 1 l = X at HC1 HC2 hlen HL HU HLr HUr
        have HX := Lib.hid hX
        clear hX
        go_wp2_with fail
        refine (HC1.out _ (hTr.below (alloc_below wr _)) (hsr.below (alloc_below wr _))).mono ?_
        rintro e w4 ⟨rfl, hb4⟩
        have hS4 := box_three _ _ _ _ _ hb4
        have hb4w : Below wr.heap.size wr w4 := (alloc_below wr _).trans (hb4.mono (by rw [World.size_alloc]; omega))
        have hlt4 : wr.heap.size < w4.heap.size := by have := hb4.size; rw [World.size_alloc] at this; omega
        obtain ⟨q0, q1, q2⟩ := hS4
        go_wp2_with fail
        refine (HC2.out _ (hTr.below hb4w)).mono ?_
        rintro e w5 ⟨v5, rfl, hv5, hb5⟩
        have hS5 := tri_below ⟨q0, q1, q2⟩ hlt4 hb5
        have hb5w := hb4w.trans (hb5.mono hb4w.size)
        have hlt5 : wr.heap.size < w5.heap.size := Nat.lt_of_lt_of_le hlt4 hb5.size
        clear q0 q1 q2
        obtain ⟨q0, q1, q2⟩ := hS5
        have hE5 := equal_same _ _ l _ hv5 (hsr.below hb5w)
        have hg := (hlook w5 ((hb5w.block _ (by have := hbcr.size; have := hb3r.size; omega)).trans (hb3r.block _ hlt3))).2.2
        go_wp2_with fail
        refine hE5.mono ?_
        rintro e w6 ⟨rfl, hw6⟩
        rw [hw6]
        clear hw6 w6 hE5
        go_wp2_with fail
        have hTe := hTr.below hb5w
        have hT5 := hTe.drew
        have hS5d := tri_below ⟨q0, q1, q2⟩ hlt5 (drew_below _)
        have hsr5 := (hsr.below hb5w).drew
        clear q0 q1 q2
        go_region_held3 (fun W => W.cell? ⟨wr.heap.size, 0, none⟩ = some (.int .i64 4) ∧ W.cell? ⟨wr.heap.size, 1, none⟩ = some (.func (.func 17) #[] #[]) ∧ W.cell? ⟨wr.heap.size, 2, none⟩ = some (.func (.func 16) #[] #[]))
          (first | go_keep | exact hS8 | exact hS7)
          (first
            | (go_at_call 19; refine (HL.out _).mono ?_; rintro e w7 ⟨rfl, hb7⟩; have hS7 := tri_below hS5d hlt5 hb7; have hlt7 := Nat.lt_of_lt_of_le hlt5 hb7.size; have hT7 := hT5.below hb7)
            | (go_at_call 16; refine (HLr.out _ hT7).mono ?_; rintro e w8 ⟨v8, rfl, hv8, hb8⟩; have hS8 := tri_below hS7 hlt7 hb8; have hb8a := hb7.trans (hb8.mono hb7.size); have hlt8 := Nat.lt_of_lt_of_le hlt5 hb8a.size; have hT8 := hT5.below hb8a))
        have hT8d := hT8.drew
        have hS8d := tri_below hS8 hlt8 (drew_below _)
        go_wp2_with fail
        go_region_held3 (fun W => W.cell? ⟨wr.heap.size, 0, none⟩ = some (.int .i64 4) ∧ W.cell? ⟨wr.heap.size, 1, none⟩ = some (.func (.func 17) #[] #[]) ∧ W.cell? ⟨wr.heap.size, 2, none⟩ = some (.func (.func 16) #[] #[]))
          (first | go_keep | exact hS10 | exact hS9)
          (first
            | (go_at_call 20; refine (HU.out _).mono ?_; rintro e w9 ⟨rfl, hb9⟩; have hS9 := tri_below hS8d hlt8 hb9; have hlt9 := Nat.lt_of_lt_of_le hlt8 hb9.size; have hT9 := hT8d.below hb9)
            | (go_at_call 16; refine (HUr.out _ hT9).mono ?_; rintro e w10 ⟨v10, rfl, hv10, hb10⟩; have hS10 := tri_below hS9 hlt9 hb10; have hb10a := hb9.trans (hb10.mono hb9.size)))
        have hb10b : Below w5.heap.size w5 w10 := ((drew_below w5).trans (hb8a.mono (Nat.le_refl _))).trans (((drew_below w8).trans (hb10a.mono (Nat.le_refl _))).mono hb8a.size)
        have hE8 := equal_same _ _ l _ (hv8.below ((drew_below w8).trans (hb10a.mono (Nat.le_refl _)))) ((hsr.below hb5w).below hb10b)
        have hE10 := equal_same _ _ l _ hv10 ((hsr.below hb5w).below hb10b)
        have hb10w := hb5w.trans (hb10b.mono hb5w.size)
        have hlt10 : wr.heap.size < w10.heap.size := Nat.lt_of_lt_of_le hlt5 hb10b.size
        have hT10 := hTr.below hb10w
        clear hS5d hS7 hS8 hS8d hS9 hT5 hT7 hT8 hT8d hT9 hb7 hb8 hb8a hb9 hb10 hb10a hTe hsr5 hv8 hv10
        go_wp2_with fail
        refine hE8.mono ?_
        rintro e w6 ⟨rfl, hw6⟩
        rw [hw6]
        clear hw6 w6
        go_wp2_with fail
        refine hE10.mono ?_
        rintro e w6 ⟨rfl, hw6⟩
        rw [hw6]
        clear hw6 w6 hE8 hE10
        obtain ⟨q0, q1, q2⟩ := hS10
        go_wp2_with fail
        refine ((fun W (hT : Tabs W) => fromHex_any s (by omega) W hT (map_small smallF s hss)) _ (hTr.below hb10w)).mono ?_
        rintro e w11 ⟨v16, out, c, rfl, hv16, hcase, hb11⟩
        have hS11 := tri_below ⟨q0, q1, q2⟩ hlt10 hb11
        have hb11w := hb10w.trans (hb11.mono hb10w.size)
        have hlt11 : wr.heap.size < w11.heap.size := Nat.lt_of_lt_of_le hlt10 hb11.size
        clear q0 q1 q2
        rcases hcase with ⟨hr, rfl, rfl⟩ | ⟨hr, rfl⟩
        · obtain ⟨p16, c16, rfl⟩ := hv16.form
          obtain ⟨q0, q1, q2⟩ := hS11
          clear hr
          go_wp2_with fail
          go_quiet (fail)
          go_wp2_with fail
          go_roundg 0
          case rel => exact ⟨3, by omega, by omega, rfl, hbr.trans ((hb11w.trans ((drewN_below w11 _).mono hb11w.size)).mono hbr.size)⟩
          case measure => have := HIG.out; omega
        · have hu := read_lt 4 (.inr (.inr rfl)) _ _ _ hr
          have hsm := same4 s.data.toList out hr
          have hln := len4 out hu
          rw [hsm.2] at hln
          have hss2 : (toLowerA s.data.toList).length = s.size := by simp [toUpperA, toLowerA]
          have HCu := fun W (hT : Tabs W) (hb : Bytes W v16 out) => hex_any v16 out (by omega) W hT hu hb
          rw [hsm.2] at HCu
          have HSm := Lib.hid (fun W => same_four s hss hsm.1 W)
          generalize toLowerA s.data.toList = U at HCu HSm hln hss2
          have HC := Lib.hid HCu
          clear HCu hr hsm
          have hT11 := (hTr.below hb11w).drew
          have hv16d := hv16.drew
          have hS11d := tri_below hS11 hlt11 (drew_below _)
          have hlt11d : wr.heap.size < w11.drew.heap.size := hlt11
          go_wp2_with fail
          refine wp_region_held_drew (S := fun W => W.cell? ⟨wr.heap.size, 0, none⟩ = some (.int .i64 4) ∧ W.cell? ⟨wr.heap.size, 1, none⟩ = some (.func (.func 17) #[] #[]) ∧ W.cell? ⟨wr.heap.size, 2, none⟩ = some (.func (.func 16) #[] #[])) (by kernel_rfl) hS11d (fun hHeld => ?_)
          refine wpAnyH_take (i := 0) (oi := _) (v := .int .i64 0) rfl (by kernel_rfl) (by kernel_rfl) (by kernel_rfl) (fun _ _ _ h => h) (Or.inl ⟨by kernel_rfl, ?_⟩) (by assumption) ?_
          · (intro w hSw; (try dsimp only at hSw); go_simp)
          try simp only [Act.put, List.setIfInBounds_toArray, List.set_cons_zero, List.set_cons_succ]
          refine wpAnyH_take (i := 1) (oi := _) (v := .bool false) rfl (by kernel_rfl) (by kernel_rfl) (by kernel_rfl) (fun _ _ _ h => h) (Or.inl ⟨by kernel_rfl, ?_⟩) (by assumption) ?_
          · (intro w hSw; (try dsimp only at hSw); go_simp)
          try simp only [Act.put, List.setIfInBounds_toArray, List.set_cons_zero, List.set_cons_succ]
          refine wpAnyH_take (i := 2) (oi := _) (v := .bool false) rfl (by kernel_rfl) (by kernel_rfl) (by kernel_rfl) (fun _ _ _ h => h) (Or.inl ⟨by kernel_rfl, ?_⟩) (by assumption) ?_
          · (intro w hSw; (try dsimp only at hSw); go_simp)
          try simp only [Act.put, List.setIfInBounds_toArray, List.set_cons_zero, List.set_cons_succ]
          refine wpAnyH_take (i := 3) (oi := _) (v := undef) rfl (by kernel_rfl) (by kernel_rfl) (by kernel_rfl) (fun _ _ _ h => h) (Or.inr ⟨by kernel_rfl, rfl⟩) (by assumption) ?_
          try simp only [Act.put, List.setIfInBounds_toArray, List.set_cons_zero, List.set_cons_succ]
          refine wpAnyH_take (i := 4) (oi := _) (v := undef) rfl (by kernel_rfl) (by kernel_rfl) (by kernel_rfl) (fun _ _ _ h => h) (Or.inr ⟨by kernel_rfl, rfl⟩) (by assumption) ?_
          try simp only [Act.put, List.setIfInBounds_toArray, List.set_cons_zero, List.set_cons_succ]
          refine wpAnyH_take (i := 5) (oi := _) (v := undef) rfl (by kernel_rfl) (by kernel_rfl) (by kernel_rfl) (fun _ _ _ h => h) (Or.inr ⟨by kernel_rfl, rfl⟩) (by assumption) ?_
          try simp only [Act.put, List.setIfInBounds_toArray, List.set_cons_zero, List.set_cons_succ]
          refine wpAnyH_take (i := 6) (oi := _) (v := undef) rfl (by kernel_rfl) (by kernel_rfl) (by kernel_rfl) (fun _ _ _ h => h) (Or.inr ⟨by kernel_rfl, rfl⟩) (by assumption) ?_
          try simp only [Act.put, List.setIfInBounds_toArray, List.set_cons_zero, List.set_cons_succ]
          refine wpAnyH_take (i := 7) (oi := _) (v := undef) rfl (by kernel_rfl) (by kernel_rfl) (by kernel_rfl) (fun _ _ _ h => h) (Or.inr ⟨by kernel_rfl, rfl⟩) (by assumption) ?_
          try simp only [Act.put, List.setIfInBounds_toArray, List.set_cons_zero, List.set_cons_succ]
          refine wpAnyH_take (i := 8) (oi := _) (v := undef) rfl (by kernel_rfl) (by kernel_rfl) (by kernel_rfl) (fun _ _ _ h => h) (Or.inr ⟨by kernel_rfl, rfl⟩) (by assumption) ?_
          try simp only [Act.put, List.setIfInBounds_toArray, List.set_cons_zero, List.set_cons_succ]
          refine wpAnyH_take (i := 9) (oi := _) (v := undef) rfl (by kernel_rfl) (by kernel_rfl) (by kernel_rfl) (fun _ _ _ h => h) (Or.inr ⟨by kernel_rfl, rfl⟩) (by assumption) ?_
          try simp only [Act.put, List.setIfInBounds_toArray, List.set_cons_zero, List.set_cons_succ]
          refine wpAnyH_take (i := 10) (oi := _) (v := .bool false) rfl (by kernel_rfl) (by kernel_rfl) (by kernel_rfl) (fun _ _ _ h => h) (Or.inl ⟨by kernel_rfl, ?_⟩) (by assumption) ?_
          · (intro w hSw; (try dsimp only at hSw); go_simp)
          try simp only [Act.put, List.setIfInBounds_toArray, List.set_cons_zero, List.set_cons_succ]
          refine wpAnyH_take (i := 11) (oi := _) (v := .bool false) rfl (by kernel_rfl) (by kernel_rfl) (by kernel_rfl) (fun _ _ _ h => h) (Or.inl ⟨by kernel_rfl, ?_⟩) (by assumption) ?_
          · (intro w hSw; (try dsimp only at hSw); go_simp)
          try simp only [Act.put, List.setIfInBounds_toArray, List.set_cons_zero, List.set_cons_succ]
          refine wpAnyH_take (i := 12) (oi := _) (v := .int .i64 0) rfl (by kernel_rfl) (by kernel_rfl) (by kernel_rfl) (fun _ _ _ h => h) (Or.inl ⟨by kernel_rfl, ?_⟩) (by assumption) ?_
          · (intro w hSw; (try dsimp only at hSw); go_simp)
          try simp only [Act.put, List.setIfInBounds_toArray, List.set_cons_zero, List.set_cons_succ]
          refine wpAnyH_take (i := 13) (oi := _) (v := .bool true) rfl (by kernel_rfl) (by kernel_rfl) (by kernel_rfl) (fun _ _ _ h => h) (Or.inl ⟨by kernel_rfl, ?_⟩) (by assumption) ?_
          · (intro w hSw; (try dsimp only at hSw); go_simp)
          try simp only [Act.put, List.setIfInBounds_toArray, List.set_cons_zero, List.set_cons_succ]
          refine wpAnyH_take (i := 14) (oi := _) (v := .bool true) rfl (by kernel_rfl) (by kernel_rfl) (by kernel_rfl) (fun _ _ _ h => h) (Or.inl ⟨by kernel_rfl, ?_⟩) (by assumption) ?_
          · (intro w hSw; (try dsimp only at hSw); go_simp)
          try simp only [Act.put, List.setIfInBounds_toArray, List.set_cons_zero, List.set_cons_succ]
          refine wpAnyH_take (i := 15) (oi := _) (v := .pointer (some ⟨wr.heap.size, 1, none⟩)) rfl (by kernel_rfl) (by kernel_rfl) (by kernel_rfl) (fun _ _ _ h => h) (Or.inl ⟨by kernel_rfl, ?_⟩) (by assumption) ?_
          · (intro w hSw; (try dsimp only at hSw); go_simp)
          try simp only [Act.put, List.setIfInBounds_toArray, List.set_cons_zero, List.set_cons_succ]
          refine wpAnyH_take (i := 16) (oi := _) (v := .func (.func 17) #[] #[]) rfl (by kernel_rfl) (by kernel_rfl) (by kernel_rfl) (fun _ _ _ h => h) (Or.inl ⟨by kernel_rfl, ?_⟩) (by assumption) ?_
          · (intro w hSw; (try dsimp only at hSw); go_simp)
          try simp only [Act.put, List.setIfInBounds_toArray, List.set_cons_zero, List.set_cons_succ]
          refine wpAnyH_take (i := 17) (oi := _) (v := v16) rfl (by kernel_rfl) (by kernel_rfl) (by kernel_rfl) (fun _ _ _ h => h) (Or.inl ⟨by kernel_rfl, ?_⟩) (by assumption) ?_
          · (intro w hSw; (try dsimp only at hSw); go_simp)
          try simp only [Act.put, List.setIfInBounds_toArray, List.set_cons_zero, List.set_cons_succ]
          refine wpAnyH_take (i := 19) (oi := _) (v := .string s) rfl (by kernel_rfl) (by kernel_rfl) (by kernel_rfl) (fun _ _ _ h => h) (Or.inl ⟨by kernel_rfl, ?_⟩) (by assumption) ?_
          · (intro w hSw; (try dsimp only at hSw); go_simp)
          try simp only [Act.put, List.setIfInBounds_toArray, List.set_cons_zero, List.set_cons_succ]
          refine wpAnyH_take (i := 20) (oi := _) (v := .pointer (some ⟨wr.heap.size, 0, none⟩)) rfl (by kernel_rfl) (by kernel_rfl) (by kernel_rfl) (fun _ _ _ h => h) (Or.inl ⟨by kernel_rfl, ?_⟩) (by assumption) ?_
          · (intro w hSw; (try dsimp only at hSw); go_simp)
          try simp only [Act.put, List.setIfInBounds_toArray, List.set_cons_zero, List.set_cons_succ]
          refine wpAnyH_take (i := 21) (oi := _) (v := .int .i64 4) rfl (by kernel_rfl) (by kernel_rfl) (by kernel_rfl) (fun _ _ _ h => h) (Or.inl ⟨by kernel_rfl, ?_⟩) (by assumption) ?_
          · (intro w hSw; (try dsimp only at hSw); go_simp)
          try simp only [Act.put, List.setIfInBounds_toArray, List.set_cons_zero, List.set_cons_succ]
          refine wpAnyH_ready (rs := [18]) (by kernel_rfl) (by simp) ?_
          refine AllReadyH.cons (o := _) rfl (fun K hK => ?_) AllReadyH.nil
          go_simp
          go_at_call 17
          refine (HC.out _ hT11 hv16d).mono ?_
          rintro e w12 ⟨rfl, hb12⟩
          have hS12 := tri_below hS11d hlt11d hb12
          refine hK.out _ _ hS12 (fun hHeld2 => ?_)
          clear hK K hHeld
          try simp only [Act.put, List.setIfInBounds_toArray, List.set_cons_zero, List.set_cons_succ]
          refine wpAnyH_ready (rs := [22]) (by kernel_rfl) (by simp) ?_
          refine AllReadyH.cons (o := _) rfl (fun K hK => ?_) AllReadyH.nil
          go_simp
          go_at_call 21
          refine (HSm.out _).mono ?_
          rintro e w13 ⟨rfl, hb13⟩
          have hb13a := hb12.trans (hb13.mono hb12.size)
          have hlt12 : wr.heap.size < w12.heap.size := Nat.lt_of_lt_of_le hlt11d hb12.size
          refine hK.out _ _ (tri_below hS12 hlt12 hb13) (fun hHeld3 => ?_)
          clear hK K hHeld2
          try simp only [Act.put, List.setIfInBounds_toArray, List.set_cons_zero, List.set_cons_succ]
          refine wpAnyH_take (i := 23) (oi := _) (v := .bool false) rfl (by kernel_rfl) (by kernel_rfl) (by kernel_rfl) (fun _ _ _ h => h) (Or.inl ⟨by kernel_rfl, ?_⟩) (by assumption) ?_
          · (intro w hSw; (try dsimp only at hSw); go_simp)
          try simp only [Act.put, List.setIfInBounds_toArray, List.set_cons_zero, List.set_cons_succ]
          refine wpAnyH_take (i := 24) (oi := _) (v := .bool false) rfl (by kernel_rfl) (by kernel_rfl) (by kernel_rfl) (fun _ _ _ h => h) (Or.inl ⟨by kernel_rfl, ?_⟩) (by assumption) ?_
          · (intro w hSw; (try dsimp only at hSw); go_simp)
          try simp only [Act.put, List.setIfInBounds_toArray, List.set_cons_zero, List.set_cons_succ]
          refine wpAnyH_take (i := 25) (oi := _) (v := .bool false) rfl (by kernel_rfl) (by kernel_rfl) (by kernel_rfl) (fun _ _ _ h => h) (Or.inl ⟨by kernel_rfl, ?_⟩) (by assumption) ?_
          · (intro w hSw; (try dsimp only at hSw); go_simp)
          try simp only [Act.put, List.setIfInBounds_toArray, List.set_cons_zero, List.set_cons_succ]
          refine wpAnyH_done (by kernel_rfl) ?_ _
          go_wp2_with fail
          go_roundg 0
          case rel => exact ⟨3, by omega, by omega, rfl, hbr.trans ((hb11w.trans (((drew_below w11).trans (hb13a.mono (Nat.le_refl _))).mono hb11w.size)).mono hbr.size)⟩
          case measure => have := HIG.out; omega
      · go_wp2_with fail
        refine (wakes_any _ hTr).mono ?_
        rintro e w9 ⟨rfl, hb9⟩
        go_wp2
        go_ret
        exact ⟨rfl, (hbw.trans (hbcr.mono hbw.size)).trans (hb9.mono (hbw.trans (hbcr.mono hbw.size)).size)⟩
end Go.Proofs.YthnohioamefbmaaDoor
