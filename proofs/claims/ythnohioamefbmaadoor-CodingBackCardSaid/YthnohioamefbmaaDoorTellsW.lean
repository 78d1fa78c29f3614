/- The law CodingTells, walked: it returns true for bytes that lie in memory and a text, each of at most 2^47 - 4096 bytes, where the package's table and unicode/utf8's two tables read as their texts lay them. -/
import Derived.Test.YthnohioamefbmaaDoorWakes
import Derived.Laws.EntriesVeiled
namespace Go.Proofs.YthnohioamefbmaaDoor
open Go.RowKit Go.Lib
set_option linter.unusedSimpArgs false
set_option linter.unusedVariables false

theorem Bytes.isIn {w : World} {p : Option Addr} {n cap : Nat} {l : List Nat} (h : Bytes w (.slice p n cap) l) : l.length = n ∧ Lib.BytesIn w p n (l.map fun (x : Nat) => (x : Int)) := by
  obtain ⟨p', cap', he, hh⟩ := h
  cases he
  refine ⟨rfl, fun hpos => ?_⟩
  rcases hh with rfl | ⟨b, o, rfl, _, hc⟩
  · simp at hpos
  · refine ⟨b, o, rfl, fun i hi => ?_⟩
    rw [hc i hi]
    simp [List.getD_eq_getElem?_getD, hi]
theorem Bytes.form {w : World} {v : Value} {l : List Nat} (h : Bytes w v l) : ∃ p cap, v = .slice p l.length cap := by
  obtain ⟨p, cap, rfl, _⟩ := h
  exact ⟨p, cap, rfl⟩
theorem equal_same (v1 v2 : Value) (l : List Nat) (w : World) (h1 : Bytes w v1 l) (h2 : Bytes w v2 l) :
    Calls Tryd.prog 10 #[v1, v2] w fun e w' => e = .returned (.bool true) ∧ w' = w := by
  obtain ⟨p1, c1, rfl⟩ := h1.form
  obtain ⟨p2, c2, rfl⟩ := h2.form
  refine (Tryd.bytes_Equal_all p1 p2 _ c1 _ c2 _ _ w (by simp) (by simp) h1.isIn.2 h2.isIn.2).mono ?_
  rintro e w' ⟨rfl, hw⟩
  exact ⟨by simp, hw⟩

/-- what the law works on: some bytes, and a text, of at most 300. -/
def TruncRel (w : World) (v0 v1 : Value) (wc : World) : Prop :=
  ∃ (l : List Nat) (s : ByteArray) (p : Option Addr) (cap : Nat), v0 = .slice p l.length cap ∧ v1 = .string s ∧ Bytes wc (.slice p l.length cap) l ∧ l.length ≤ 300 ∧ (∀ x ∈ l, x < 256) ∧ s.size ≤ 300 ∧ Below w.heap.size w wc
def kindsO : Obj := .cells #[.int .i64 5, .func (.func 12) #[] #[], .func (.func 14) #[] #[], .int .i64 6, .func (.func 13) #[] #[], .func (.func 15) #[] #[], .int .i64 4, .func (.func 17) #[] #[], .func (.func 16) #[] #[]] 28
theorem kinds_any (w : World) : Calls Tryd.prog 7 #[] w fun e w' => e = .returned (.slice (some ⟨w.heap.size, 0, none⟩) 3 3) ∧ w' = w.alloc kindsO := kinds_cells w
theorem kindsO_cell (w W : World) (hb : Below (w.alloc kindsO).heap.size (w.alloc kindsO) W) (k : Nat) : W.cell? ⟨w.heap.size, k, none⟩ = (#[Value.int .i64 5, .func (.func 12) #[] #[], .func (.func 14) #[] #[], .int .i64 6, .func (.func 13) #[] #[], .func (.func 15) #[] #[], .int .i64 4, .func (.func 17) #[] #[], .func (.func 16) #[] #[]])[k]? := by
  rw [hb.cell (p := ⟨w.heap.size, k, none⟩) (by rw [World.size_alloc]; show w.heap.size < _; omega)]
  have h : (w.alloc kindsO).heap[w.heap.size]? = some (.cells #[.int .i64 5, .func (.func 12) #[] #[], .func (.func 14) #[] #[], .int .i64 6, .func (.func 13) #[] #[], .func (.func 15) #[] #[], .int .i64 4, .func (.func 17) #[] #[], .func (.func 16) #[] #[]] 28 (0, 0)) := heap_last _ _
  simp only [World.cell?, h]; rfl
def RoundRel (w wk : World) (g : Nat) (v23 : Value) (W : World) : Prop := ∃ i : Nat, i ≤ 3 ∧ g = 3 - i ∧ v23 = .int .i64 i ∧ Below (wk.alloc kindsO).heap.size (wk.alloc kindsO) W
theorem alloc_below (w : World) (o : Obj) : Below w.heap.size w (w.alloc o) := (Below.refl _ w).alloc (Nat.le_refl _) _
theorem box_two (w W : World) (x y z : Value) (hb : Below (w.alloc (.cells #[x, y, z] 28)).heap.size (w.alloc (.cells #[x, y, z] 28)) W) : W.cell? ⟨w.heap.size, 0, none⟩ = some x ∧ W.cell? ⟨w.heap.size, 1, none⟩ = some y := by
  have h : (w.alloc (.cells #[x, y, z] 28)).heap[w.heap.size]? = some (.cells #[x, y, z] 28 (0, 0)) := heap_last _ _
  constructor
  · rw [hb.cell (p := ⟨w.heap.size, 0, none⟩) (by rw [World.size_alloc]; show w.heap.size < _; omega)]
    simp only [World.cell?, h]; rfl
  · rw [hb.cell (p := ⟨w.heap.size, 1, none⟩) (by rw [World.size_alloc]; show w.heap.size < _; omega)]
    simp only [World.cell?, h]; rfl
theorem two_below {W W' : World} {B : Nat} {x y : Value} (h : W.cell? ⟨B, 0, none⟩ = some x ∧ W.cell? ⟨B, 1, none⟩ = some y) (hB : B < W.heap.size) (hb : Below W.heap.size W W') : W'.cell? ⟨B, 0, none⟩ = some x ∧ W'.cell? ⟨B, 1, none⟩ = some y :=
  ⟨(hb.cell (p := ⟨B, 0, none⟩) hB).trans h.1, (hb.cell (p := ⟨B, 1, none⟩) hB).trans h.2⟩
theorem drew_below (W : World) : Below W.heap.size W W.drew := ⟨rfl, rfl, rfl, Nat.le_refl _, fun _ _ => rfl⟩
theorem two_drew {W : World} {B : Nat} {x y : Value} (h : W.cell? ⟨B, 0, none⟩ = some x ∧ W.cell? ⟨B, 1, none⟩ = some y) : W.drew.cell? ⟨B, 0, none⟩ = some x ∧ W.drew.cell? ⟨B, 1, none⟩ = some y := h
theorem Bytes.drew {W : World} {v : Value} {l : List Nat} (h : Bytes W v l) : Bytes W.drew v l := h.below (drew_below W)
theorem same_out {r : Option (List Nat)} {out out' : List Nat} {c c' : Int} (h : (r = none ∧ out = [] ∧ c = 5) ∨ (r = some out ∧ c = 0)) (h' : (r = none ∧ out' = [] ∧ c' = 5) ∨ (r = some out' ∧ c' = 0)) : out = out' ∧ c = c' := by
  rcases h with ⟨rfl, rfl, rfl⟩ | ⟨rfl, rfl⟩
  · rcases h' with ⟨_, rfl, rfl⟩ | ⟨h, _⟩
    · exact ⟨rfl, rfl⟩
    · cases h
  · rcases h' with ⟨h, _⟩ | ⟨h, rfl⟩
    · cases h
    · cases h; exact ⟨rfl, rfl⟩
theorem map_small (F : Int → Int) (s : ByteArray) (hs : s.size ≤ 300) : (mapD F s.data.toList).length ≤ 30000 := by
  have := mapD_len F _ s.data.toList (Nat.le_refl _)
  have e : s.data.toList.length = s.size := by simp
  omega

theorem take_bytes {w : World} {p : Option Addr} {n cap m : Nat} {l : List Nat} (h : Bytes w (.slice p n cap) l) (hm : m ≤ n) : Bytes w (.slice p m cap) (l.take m) := by
  obtain ⟨p', cap', he, hh⟩ := h
  cases he
  have hlen : (l.take m).length = m := by rw [List.length_take]; omega
  refine ⟨p, cap, by rw [hlen], ?_⟩
  rcases hh with rfl | ⟨b', o', rfl, hb, hc⟩
  · left; simp
  · right
    refine ⟨b', o', rfl, hb, fun i hi => ?_⟩
    rw [hlen] at hi
    rw [hc i (by omega)]
    simp [List.getD_eq_getElem?_getD, List.getElem?_take, hi]
theorem drewN_below (W : World) (n : Nat) : Below W.heap.size W (W.drewN n) := ⟨rfl, rfl, rfl, Nat.le_refl _, fun _ _ => rfl⟩
theorem trunc_rel (w : World) (n cap0 : Nat) (p0 : Option Addr) (l0 : List Nat) (s0 : ByteArray) (nq : Nat) (hlf : ∀ x ∈ l0, x < 256) (hsv : Bytes w (.slice p0 n cap0) l0) :
    TruncRel w (.slice p0 (min (n : Int) 300).toNat cap0) (.string (s0.extract 0 (min (s0.size : Int) 300).toNat)) (w.drewN nq) := by
  have hl0 : l0.length = n := by obtain ⟨p', cap', he, _⟩ := hsv; cases he; rfl
  have hm : (min (n : Int) 300).toNat = min n 300 := by omega
  have hm2 : (min (s0.size : Int) 300).toNat = min s0.size 300 := by omega
  have hlen : (l0.take (min n 300)).length = min n 300 := by rw [List.length_take]; omega
  rw [hm, hm2]
  refine ⟨l0.take (min n 300), _, p0, cap0, by rw [hlen], rfl, ?_, by omega, fun x hx => hlf x (List.mem_of_mem_take hx), by simp [ByteArray.size_extract]; omega, drewN_below w nq⟩
  rw [hlen]
  exact (take_bytes hsv (by omega)).below (drewN_below w nq)

set_option maxRecDepth 100000 in
set_option maxHeartbeats 8000000 in
theorem tells_any (v0 : Value) (s0 : ByteArray) (w : World) (hT : Tabs w) (n cap0 : Nat) (p0 : Option Addr) (hv0 : v0 = .slice p0 n cap0) (l0 : List Nat) (hlf0 : ∀ x ∈ l0, x < 256) (hs0 : s0.size ≤ 140737488351232) (hn0 : n ≤ 140737488351232) (hcap : n ≤ cap0) (hcap2 : cap0 ≤ 140737488351232)
    (hsv0 : Bytes w v0 l0) : Calls Tryd.prog 3 #[.slice p0 n cap0, .string s0] w fun e w' => e = .returned (.bool true) ∧ Below w.heap.size w w' := by
  subst hv0
  go_enter Tryd.func3, Tryd.ntmps3
  go_upto_region 1 with (fail)
  go_cut [0, 1] (fun v0 v1 wc => TruncRel w v0 v1 wc)
  case first =>
    by_cases hn : n ≤ 300
    · by_cases hs : s0.size ≤ 300
      · go_wp2_with fail
        go_quiet (fail)
        go_wp2_with fail
        go_meet
        case rel => exact trunc_rel w n cap0 p0 l0 s0 _ hlf0 hsv0
      · go_wp2_with fail
        go_quiet (fail)
        go_wp2_with fail
        go_meet
        case rel => exact trunc_rel w n cap0 p0 l0 s0 _ hlf0 hsv0
    · by_cases hs : s0.size ≤ 300
      · go_wp2_with fail
        go_quiet (fail)
        go_wp2_with fail
        go_meet
        case rel => exact trunc_rel w n cap0 p0 l0 s0 _ hlf0 hsv0
      · go_wp2_with fail
        go_quiet (fail)
        go_wp2_with fail
        go_meet
        case rel => exact trunc_rel w n cap0 p0 l0 s0 _ hlf0 hsv0
  case rest =>
    obtain ⟨l, s, p, cap, rfl, rfl, hsv, hll, hlf, hss, hbw⟩ := hcut
    have hTc : Tabs wc := hT.below hbw
    have hK := kinds_any wc
    go_wp2_with fail
    refine hK.mono ?_
    rintro e w' ⟨rfl, rfl⟩
    clear hK hcap hcap2 hn0 hs0 hsv0 hlf0
    go_wp2_with fail
    go_loopg [23] 3 (fun g v23 W => RoundRel w wc g v23 W)
    case atStart => exact ⟨0, by omega, by omega, rfl, Below.refl _ _⟩
    case round =>
      obtain ⟨i, hi, hig, rfl, hbr⟩ := hrel
      have hbc : Below wc.heap.size wc wr := ((Below.refl _ wc).alloc (Nat.le_refl _) _).trans (hbr.mono (by rw [World.size_alloc]; omega))
      have hTr : Tabs wr := hTc.below hbc
      have hsr := hsv.below hbc
      have HIG := Lib.hid hig
      clear hig
      obtain rfl | rfl | rfl | rfl : i = 0 ∨ i = 1 ∨ i = 2 ∨ i = 3 := by omega
      · have k0 := kindsO_cell wc wr hbr 0
        have k1 := kindsO_cell wc wr hbr 1
        have k2 := kindsO_cell wc wr hbr 2
        simp only [List.getElem?_toArray, List.getElem?_cons_zero, List.getElem?_cons_succ] at k0 k1 k2
        have e1 := enters_of Tryd.func14 (by kernel_rfl) rfl
        have e2 := enters_of Tryd.func12 (by kernel_rfl) rfl
        have hrr : readL L32 5 1 (Lib.mapD greatF s.data.toList) = refRead s.data.toList 5 := read_ref 5 (.inl rfl) s.data.toList
        have htt : tellL L32 5 1 l = refTell l 5 := tell_ref 5 (.inl rfl) l hlf
        have HC1 := Lib.hid (fun W (hT : Tabs W) => from32_any s (by omega) W hT (map_small greatF s hss))
        rw [hrr] at HC1
        have HC2 := Lib.hid (fun W => refRead_any s (by omega) 5 (.inl rfl) W)
        have HC3 := Lib.hid (fun W (hT : Tabs W) (hsv : Bytes W (.slice p l.length cap) l) => base32_any (.slice p l.length cap) l (by omega) W hT hlf hsv)
        rw [htt] at HC3
        have HC4 := Lib.hid (fun W (hsv : Bytes W (.slice p l.length cap) l) => refTell_any (.slice p l.length cap) l.length l rfl 5 (.inl rfl) W hsv (by omega) hlf p cap rfl)
        clear hrr htt
        go_wp2_with fail
        refine (HC1.out _ (hTr.below (alloc_below _ _))).mono ?_
        rintro e w2 ⟨v, out, c, rfl, hv, hcase, hb2⟩
        have hb2w : Below wr.heap.size wr w2 := (alloc_below _ _).trans (hb2.mono (by rw [World.size_alloc]; omega))
        have hS2 := box_two _ _ _ _ _ hb2
        have hlt2 : wr.heap.size < w2.heap.size := by have := hb2.size; rw [World.size_alloc] at this; omega
        have q0 := hS2.1
        go_wp2_with fail
        refine (HC2.out _).mono ?_
        rintro e w3 ⟨v', out', c', rfl, hv', hcase', hb3⟩
        obtain ⟨rfl, rfl⟩ : out = out' ∧ c = c' := same_out hcase hcase'
        clear hcase hcase' q0
        have hS3 := two_below hS2 hlt2 hb3
        have hlt3 : wr.heap.size < w3.heap.size := Nat.lt_of_lt_of_le hlt2 hb3.size
        have hb3w : Below wr.heap.size wr w3 := hb2w.trans (hb3.mono hb2w.size)
        have hT3 := (hTr.below hb3w).drew
        have hs3 := (hsr.below hb3w).drew
        have hv3 := (hv.below hb3).drew
        have hv3' := hv'.drew
        have hS3d := two_drew hS3
        have q0 := hS3.1
        have q1 := hS3.2
        go_wp2_with fail
        go_region_held3 (fun W => W.cell? ⟨wr.heap.size, 0, none⟩ = some (.int .i64 5) ∧ W.cell? ⟨wr.heap.size, 1, none⟩ = some (.func (.func 12) #[] #[]))
          (first | go_keep | exact hS5 | exact hS4)
          (first
            | (go_at_call 12; refine (HC3.out _ hT3 hs3).mono ?_; rintro e w4 ⟨rfl, hb4⟩; have hS4 := two_below hS3d hlt3 hb4)
            | (go_at_call 9; refine (HC4.out _ (hs3.below hb4)).mono ?_; rintro e w5 ⟨rfl, hb5⟩; have hS5 := two_below hS4 (Nat.lt_of_lt_of_le hlt3 hb4.size) hb5)
            | (go_at_call 10; refine (equal_same _ _ out _ ((hv3.below hb4).below hb5) ((hv3'.below hb4).below hb5)).mono ?_; rintro e w6 ⟨rfl, rfl⟩))
        go_wp2
        go_roundg 2
        case rel => exact ⟨1, by omega, by omega, rfl, hbr.trans ((hb3w.trans (Below.trans (drew_below _) ((hb4.trans (hb5.mono hb4.size))) |>.mono hb3w.size)).mono hbr.size)⟩
        case measure => have := HIG.out; omega
      · have k0 := kindsO_cell wc wr hbr 3
        have k1 := kindsO_cell wc wr hbr 4
        have k2 := kindsO_cell wc wr hbr 5
        simp only [List.getElem?_toArray, List.getElem?_cons_zero, List.getElem?_cons_succ] at k0 k1 k2
        have e1 := enters_of Tryd.func15 (by kernel_rfl) rfl
        have e2 := enters_of Tryd.func13 (by kernel_rfl) rfl
        have hrr : readL L64 6 4 (s.data.toList) = refRead s.data.toList 6 := read_ref 6 (.inr (.inl rfl)) s.data.toList
        have htt : tellL L64 6 4 l = refTell l 6 := tell_ref 6 (.inr (.inl rfl)) l hlf
        have HC1 := Lib.hid (fun W (hT : Tabs W) => from64_any s (by omega) W hT)
        rw [hrr] at HC1
        have HC2 := Lib.hid (fun W => refRead_any s (by omega) 6 (.inr (.inl rfl)) W)
        have HC3 := Lib.hid (fun W (hT : Tabs W) (hsv : Bytes W (.slice p l.length cap) l) => base64_any (.slice p l.length cap) l (by omega) W hT hlf hsv)
        rw [htt] at HC3
        have HC4 := Lib.hid (fun W (hsv : Bytes W (.slice p l.length cap) l) => refTell_any (.slice p l.length cap) l.length l rfl 6 (.inr (.inl rfl)) W hsv (by omega) hlf p cap rfl)
        clear hrr htt
        go_wp2_with fail
        refine (HC1.out _ (hTr.below (alloc_below _ _))).mono ?_
        rintro e w2 ⟨v, out, c, rfl, hv, hcase, hb2⟩
        have hb2w : Below wr.heap.size wr w2 := (alloc_below _ _).trans (hb2.mono (by rw [World.size_alloc]; omega))
        have hS2 := box_two _ _ _ _ _ hb2
        have hlt2 : wr.heap.size < w2.heap.size := by have := hb2.size; rw [World.size_alloc] at this; omega
        have q0 := hS2.1
        go_wp2_with fail
        refine (HC2.out _).mono ?_
        rintro e w3 ⟨v', out', c', rfl, hv', hcase', hb3⟩
        obtain ⟨rfl, rfl⟩ : out = out' ∧ c = c' := same_out hcase hcase'
        clear hcase hcase' q0
        have hS3 := two_below hS2 hlt2 hb3
        have hlt3 : wr.heap.size < w3.heap.size := Nat.lt_of_lt_of_le hlt2 hb3.size
        have hb3w : Below wr.heap.size wr w3 := hb2w.trans (hb3.mono hb2w.size)
        have hT3 := (hTr.below hb3w).drew
        have hs3 := (hsr.below hb3w).drew
        have hv3 := (hv.below hb3).drew
        have hv3' := hv'.drew
        have hS3d := two_drew hS3
        have q0 := hS3.1
        have q1 := hS3.2
        go_wp2_with fail
        go_region_held3 (fun W => W.cell? ⟨wr.heap.size, 0, none⟩ = some (.int .i64 6) ∧ W.cell? ⟨wr.heap.size, 1, none⟩ = some (.func (.func 13) #[] #[]))
          (first | go_keep | exact hS5 | exact hS4)
          (first
            | (go_at_call 13; refine (HC3.out _ hT3 hs3).mono ?_; rintro e w4 ⟨rfl, hb4⟩; have hS4 := two_below hS3d hlt3 hb4)
            | (go_at_call 9; refine (HC4.out _ (hs3.below hb4)).mono ?_; rintro e w5 ⟨rfl, hb5⟩; have hS5 := two_below hS4 (Nat.lt_of_lt_of_le hlt3 hb4.size) hb5)
            | (go_at_call 10; refine (equal_same _ _ out _ ((hv3.below hb4).below hb5) ((hv3'.below hb4).below hb5)).mono ?_; rintro e w6 ⟨rfl, rfl⟩))
        go_wp2
        go_roundg 1
        case rel => exact ⟨2, by omega, by omega, rfl, hbr.trans ((hb3w.trans (Below.trans (drew_below _) ((hb4.trans (hb5.mono hb4.size))) |>.mono hb3w.size)).mono hbr.size)⟩
        case measure => have := HIG.out; omega
      · have k0 := kindsO_cell wc wr hbr 6
        have k1 := kindsO_cell wc wr hbr 7
        have k2 := kindsO_cell wc wr hbr 8
        simp only [List.getElem?_toArray, List.getElem?_cons_zero, List.getElem?_cons_succ] at k0 k1 k2
        have e1 := enters_of Tryd.func16 (by kernel_rfl) rfl
        have e2 := enters_of Tryd.func17 (by kernel_rfl) rfl
        have hrr : readL L16 4 1 (Lib.mapD smallF s.data.toList) = refRead s.data.toList 4 := read_ref 4 (.inr (.inr rfl)) s.data.toList
        have htt : tellL L16 4 1 l = refTell l 4 := tell_ref 4 (.inr (.inr rfl)) l hlf
        have HC1 := Lib.hid (fun W (hT : Tabs W) => fromHex_any s (by omega) W hT (map_small smallF s hss))
        rw [hrr] at HC1
        have HC2 := Lib.hid (fun W => refRead_any s (by omega) 4 (.inr (.inr rfl)) W)
        have HC3 := Lib.hid (fun W (hT : Tabs W) (hsv : Bytes W (.slice p l.length cap) l) => hex_any (.slice p l.length cap) l (by omega) W hT hlf hsv)
        rw [htt] at HC3
        have HC4 := Lib.hid (fun W (hsv : Bytes W (.slice p l.length cap) l) => refTell_any (.slice p l.length cap) l.length l rfl 4 (.inr (.inr rfl)) W hsv (by omega) hlf p cap rfl)
        clear hrr htt
        go_wp2_with fail
        refine (HC1.out _ (hTr.below (alloc_below _ _))).mono ?_
        rintro e w2 ⟨v, out, c, rfl, hv, hcase, hb2⟩
        have hb2w : Below wr.heap.size wr w2 := (alloc_below _ _).trans (hb2.mono (by rw [World.size_alloc]; omega))
        have hS2 := box_two _ _ _ _ _ hb2
        have hlt2 : wr.heap.size < w2.heap.size := by have := hb2.size; rw [World.size_alloc] at this; omega
        have q0 := hS2.1
        go_wp2_with fail
        refine (HC2.out _).mono ?_
        rintro e w3 ⟨v', out', c', rfl, hv', hcase', hb3⟩
        obtain ⟨rfl, rfl⟩ : out = out' ∧ c = c' := same_out hcase hcase'
        clear hcase hcase' q0
        have hS3 := two_below hS2 hlt2 hb3
        have hlt3 : wr.heap.size < w3.heap.size := Nat.lt_of_lt_of_le hlt2 hb3.size
        have hb3w : Below wr.heap.size wr w3 := hb2w.trans (hb3.mono hb2w.size)
        have hT3 := (hTr.below hb3w).drew
        have hs3 := (hsr.below hb3w).drew
        have hv3 := (hv.below hb3).drew
        have hv3' := hv'.drew
        have hS3d := two_drew hS3
        have q0 := hS3.1
        have q1 := hS3.2
        go_wp2_with fail
        go_region_held3 (fun W => W.cell? ⟨wr.heap.size, 0, none⟩ = some (.int .i64 4) ∧ W.cell? ⟨wr.heap.size, 1, none⟩ = some (.func (.func 17) #[] #[]))
          (first | go_keep | exact hS5 | exact hS4)
          (first
            | (go_at_call 17; refine (HC3.out _ hT3 hs3).mono ?_; rintro e w4 ⟨rfl, hb4⟩; have hS4 := two_below hS3d hlt3 hb4)
            | (go_at_call 9; refine (HC4.out _ (hs3.below hb4)).mono ?_; rintro e w5 ⟨rfl, hb5⟩; have hS5 := two_below hS4 (Nat.lt_of_lt_of_le hlt3 hb4.size) hb5)
            | (go_at_call 10; refine (equal_same _ _ out _ ((hv3.below hb4).below hb5) ((hv3'.below hb4).below hb5)).mono ?_; rintro e w6 ⟨rfl, rfl⟩))
        go_wp2
        go_roundg 0
        case rel => exact ⟨3, by omega, by omega, rfl, hbr.trans ((hb3w.trans (Below.trans (drew_below _) ((hb4.trans (hb5.mono hb4.size))) |>.mono hb3w.size)).mono hbr.size)⟩
        case measure => have := HIG.out; omega
      · go_wp2_with fail
        refine (wakes_any _ hTr).mono ?_
        rintro e w9 ⟨rfl, hb9⟩
        go_wp2
        go_ret
        exact ⟨rfl, (hbw.trans (hbc.mono hbw.size)).trans (hb9.mono (hbw.trans (hbc.mono hbw.size)).size)⟩
end Go.Proofs.YthnohioamefbmaaDoor
