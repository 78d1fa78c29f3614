/- The law ListJoins, walked: it returns true for every two texts of at most 2^47 bytes, where the package-level variables read as their texts lay them. -/
import Derived.Test.YtffngbjnbigipaaDoorSpots
import Derived.Test.YtffngbjnbigipaaDoorListJ
import Derived.Test.YtffngbjnbigipaaDoorListG
namespace Go.Proofs.YtffngbjnbigipaaDoor
open Go.RowKit Go.Lib
set_option linter.unusedSimpArgs false
set_option linter.unusedVariables false
set_option linter.unnecessarySimpa false
set_option maxRecDepth 100000

structure JFacts (n : Nat) (A B C D : List Sp) (ea eb ec ed : Nat) : Prop where
  hj : ea = 0 → eb = 0 → A.length + B.length ≤ 64 → ec = 0 ∧ C = A ++ B.map (shSp (n + 1))
  hd : ea ≠ 5 → ed = ea ∧ (ea = 0 → D = A.map (shSp 4))
  la : A.length ≤ 64
  lb : B.length ≤ 64
  lc : C.length ≤ 64
  ld : D.length ≤ 64
  ba : ∀ x ∈ A, x.1 ≤ 300 ∧ x.2.1 ≤ 300
  bb : ∀ x ∈ B, x.1 ≤ 300 ∧ x.2.1 ≤ 300
theorem findL_places (l : List UInt8) (h : l.length ≤ 300) : ∀ x ∈ (findL l).1, x.1 ≤ 300 ∧ x.2.1 ≤ 300 := by
  intro x hx
  have hx := (findL_good l).each x hx
  have h1 := hx.lt
  have h2 := hx.le
  exact ⟨by omega, by omega⟩
theorem joins_facts (S T : ByteArray) (hS : S.size ≤ 300) (hT : T.size ≤ 300) :
    JFacts S.size (findL S.data.toList).1 (findL T.data.toList).1 (findL (S.data.toList ++ 44 :: T.data.toList)).1 (findL (aheadS ++ (S.data.toList ++ behindS))).1
      (findL S.data.toList).2 (findL T.data.toList).2 (findL (S.data.toList ++ 44 :: T.data.toList)).2 (findL (aheadS ++ (S.data.toList ++ behindS))).2 := by
  refine ⟨fun h1 h2 h3 => ?_, fun h => ?_, findL_len _, findL_len _, findL_len _, findL_len _, findL_places _ (by rw [list_len]; exact hS), findL_places _ (by rw [list_len]; exact hT)⟩
  · have := join_law (a := S.data.toList) (b := T.data.toList) (Prod.ext rfl h1) (Prod.ext rfl h2) h3
    rw [this, list_len]
    exact ⟨rfl, rfl⟩
  · exact about_law (s := S.data.toList) (Prod.ext rfl rfl) h
def JOk (P : Bool) (ea eb n : Nat) : Prop := P = true ↔ ea = 0 ∧ eb = 0 ∧ n ≤ 64
theorem jok_yes {n : Nat} (h : n ≤ 64) : JOk true 0 0 n := ⟨fun _ => ⟨rfl, rfl, h⟩, fun _ => rfl⟩
theorem jok_no {ea eb n : Nat} (h : ¬ (ea = 0 ∧ eb = 0 ∧ n ≤ 64)) : JOk false ea eb n := ⟨fun h => (by cases h), fun h' => absurd h' h⟩
theorem row_block {w : World} {p : Option Addr} {l : List Sp} {k : Nat} (h : l = [] ∨ ∃ b, p = some ⟨b, 0, none⟩ ∧ ∀ (i : Nat) (x : Sp), l[i]? = some x → SpAt w b (i * 4) x) (hk : k < l.length) :
    ∃ b, p = some ⟨b, 0, none⟩ ∧ ∀ (i : Nat) (x : Sp), l[i]? = some x → SpAt w b (i * 4) x := by
  rcases h with rfl | h
  · simp at hk
  · exact h
/-- the four cells of a spot, said by their values. -/
structure Four4 (w : World) (b o : Nat) (i j : Int) (X Y : ByteArray) : Prop where
  c0 : w.cell? ⟨b, o, none⟩ = some (.int .i64 i)
  c1 : w.cell? ⟨b, o + 1, none⟩ = some (.int .i64 j)
  c2 : w.cell? ⟨b, o + 2, none⟩ = some (.string X)
  c3 : w.cell? ⟨b, o + 3, none⟩ = some (.string Y)
theorem Four4.below {w W : World} {b o : Nat} {i j : Int} {X Y : ByteArray} (h : Four4 w b o i j X Y) (hb : Below w.heap.size w W) : Four4 W b o i j X Y :=
  have hl := World.block_lt_of_cell? w _ h.c0
  ⟨(hb.cell (p := ⟨b, o, none⟩) hl).trans h.c0, (hb.cell (p := ⟨b, o + 1, none⟩) hl).trans h.c1, (hb.cell (p := ⟨b, o + 2, none⟩) hl).trans h.c2, (hb.cell (p := ⟨b, o + 3, none⟩) hl).trans h.c3⟩
theorem SpAt.four {w : World} {b o : Nat} {x : Sp} (h : SpAt w b o x) : Four4 w b o (x.1 : Int) (x.2.1 : Int) ⟨x.2.2.1.toArray⟩ ⟨x.2.2.2.toArray⟩ := ⟨h.c0, h.c1, h.c2, h.c3⟩
theorem Four4.made (w : World) (i j : Int) (X Y : ByteArray) (t : TypeId) : Four4 (w.alloc (.cells #[.int .i64 i, .int .i64 j, .string X, .string Y] t)) w.heap.size 0 i j X Y :=
  ⟨by simp, by simp, by simp, by simp⟩
def JR (w : World) (n g : Nat) (v : Value) (W : World) : Prop := ∃ k : Nat, v = .int .i64 (k : Int) ∧ k ≤ n ∧ g = n - k ∧ Below w.heap.size w W
def JCut (w : World) (v0 v1 : Value) (wc : World) : Prop := (∃ t : ByteArray, v0 = .string t ∧ t.size ≤ 300) ∧ (∃ t : ByteArray, v1 = .string t ∧ t.size ≤ 300) ∧ Below w.heap.size w wc
set_option maxHeartbeats 8000000 in
theorem joins_any (s0 t0 : ByteArray) (hs0 : s0.size ≤ 140737488351232) (ht0 : t0.size ≤ 140737488351232) (w : World) (hE : Env w) : Calls Tryd.prog 5 #[.string s0, .string t0] w fun e w' => e = .returned (.bool true) ∧ Below w.heap.size w w' := by
  go_enter Tryd.func5, Tryd.ntmps5
  go_upto_region 1 with (fail)
  go_cut [0, 1] (fun v0 v1 wc => JCut w v0 v1 wc)
  case first =>
    have h0 : (0 : Int) ≤ min (s0.size : Int) 300 := by omega
    have h1 : min (s0.size : Int) 300 ≤ (s0.size : Int) := by omega
    have h2 : (0 : Int) ≤ min (t0.size : Int) 300 := by omega
    have h3 : min (t0.size : Int) 300 ≤ (t0.size : Int) := by omega
    go_wp2_with fail
    go_quiet (fail)
    go_wp2_with fail
    go_meet
    case rel => exact ⟨⟨_, rfl, by simp; omega⟩, ⟨_, rfl, by simp; omega⟩, drewN_below w _⟩
  case rest =>
    obtain ⟨⟨S, rfl, hS⟩, ⟨T, rfl, hT⟩, hbw⟩ := hcut
    have HE := Lib.hid (hE.below hbw)
    have HBW := Lib.hid hbw
    clear hs0 ht0 hE hbw
    have HA := Lib.hid (fun W (hE : Env W) => Find_row S (by omega) W hE)
    have HB := Lib.hid (fun W (hE : Env W) => Find_row T (by omega) W hE)
    have HC := Lib.hid (fun W (hE : Env W) => Find_row ((S ++ ⟨#[44]⟩) ++ T) (by rw [ByteArray.size_append, ByteArray.size_append]; show S.size + 1 + T.size ≤ _; omega) W hE)
    have HD := Lib.hid (fun W (hE : Env W) => Find_row ((⟨#[32, 40, 120, 41]⟩ ++ S) ++ ⟨#[9, 40, 121, 40, 122, 41, 41, 32]⟩) (by rw [ByteArray.size_append, ByteArray.size_append]; show 4 + S.size + 8 ≤ _; omega) W hE)
    have e1 : ((S ++ ⟨#[44]⟩) ++ T : ByteArray).data.toList = S.data.toList ++ 44 :: T.data.toList := by simp
    have e2 : ((⟨#[32, 40, 120, 41]⟩ ++ S) ++ ⟨#[9, 40, 121, 40, 122, 41, 41, 32]⟩ : ByteArray).data.toList = aheadS ++ (S.data.toList ++ behindS) := by simp [aheadS, behindS]
    rw [e1] at HC
    rw [e2] at HD
    have HJ := joins_facts S T hS hT
    have hn0 : S.data.toList.length = S.size := list_len S
    generalize findL S.data.toList = FA at HA HJ
    generalize findL T.data.toList = FB at HB HJ
    generalize findL (S.data.toList ++ 44 :: T.data.toList) = FC at HC HJ
    generalize findL (aheadS ++ (S.data.toList ++ behindS)) = FD at HD HJ
    obtain ⟨A, ea⟩ := FA
    obtain ⟨B, eb⟩ := FB
    obtain ⟨C, ec⟩ := FC
    obtain ⟨D, ed⟩ := FD
    simp only at HA HB HC HD HJ
    have HJJ := Lib.hid HJ
    have q1 : ¬ 9223372036854775807 < S.size + 1 := by omega
    have q2 : ¬ 9223372036854775807 < S.size + 1 + T.size := by omega
    have q3 : ¬ 9223372036854775807 < 4 + S.size := by omega
    have q4 : ¬ 9223372036854775807 < 4 + S.size + 8 := by omega
    clear HJ e1 e2 hn0
    go_wp2_with fail
    refine (HA.out wc HE.out).mono ?_
    rintro e w1 ⟨va, rfl, hra, hb1⟩
    have RA := Lib.hid hra
    clear hra
    go_wp2_with fail
    refine (HB.out _ (HE.out.below hb1)).mono ?_
    rintro e w2 ⟨vb, rfl, hrb, hb2⟩
    have hb12 := hb1.trans (hb2.mono hb1.size)
    have RB := Lib.hid hrb
    clear hrb
    go_wp2_with fail
    refine (HC.out _ (HE.out.below hb12)).mono ?_
    rintro e w3 ⟨vc, rfl, hrc, hb3⟩
    have hb13 := hb12.trans (hb3.mono hb12.size)
    have RA3 := Lib.hid ((RA.out.below hb2).below hb3)
    have RB3 := Lib.hid (RB.out.below hb3)
    have RC3 := Lib.hid hrc
    clear hrc RA RB
    obtain ⟨pa, capa, rfl, hA⟩ := RA3.out
    obtain ⟨pb, capb, rfl, hB⟩ := RB3.out
    obtain ⟨pc, capc, rfl, hC⟩ := RC3.out
    have HAA := Lib.hid hA
    have HBB := Lib.hid hB
    have HCC := Lib.hid hC
    have la : (A.length : Int) ≤ 64 := by have := HJJ.out.la; omega
    have lb : (B.length : Int) ≤ 64 := by have := HJJ.out.lb; omega
    have lc : (C.length : Int) ≤ 64 := by have := HJJ.out.lc; omega
    clear hA hB hC
    go_upto_region 5 with (fail)
    go_cut [59] (fun v59 W => (∃ P : Bool, v59 = .bool P ∧ JOk P ea eb (A.length + B.length)) ∧ W = w3)
    case first =>
      as_aux_lemma =>
        by_cases ha : ea = 0
        · by_cases hb : eb = 0
          · by_cases hl : A.length + B.length ≤ 64
            · have hl2 : (A.length : Int) + (B.length : Int) ≤ 64 := by omega
              have HL := Lib.hid hl
              subst ha; subst hb
              clear hl
              go_wp2_with fail
              go_meet
              case rel => exact ⟨⟨true, rfl, jok_yes HL.out⟩, rfl⟩
            · have hl2 : ¬ (A.length : Int) + (B.length : Int) ≤ 64 := by omega
              have HL := Lib.hid hl
              subst ha; subst hb
              clear hl
              go_wp2_with fail
              go_meet
              case rel => exact ⟨⟨false, rfl, jok_no (fun h => HL.out h.2.2)⟩, rfl⟩
          · have hq : ((eb : Int) == 0) = false := by rw [beq_eq_false_iff_ne]; omega
            have HL := Lib.hid hb
            subst ha
            clear hb
            go_wp2_with fail
            go_meet
            case rel => exact ⟨⟨false, rfl, jok_no (fun h => HL.out h.2.1)⟩, rfl⟩
        · have hq : ((ea : Int) == 0) = false := by rw [beq_eq_false_iff_ne]; omega
          have HL := Lib.hid ha
          clear ha
          go_wp2_with fail
          go_meet
          case rel => exact ⟨⟨false, rfl, jok_no (fun h => HL.out h.1)⟩, rfl⟩
    case rest =>
      obtain ⟨⟨P, rfl, hP⟩, hw⟩ := hcut
      rw [hw]
      clear hw
      go_upto_if 59 with (fail)
      go_cut [0, 5, 6] (fun v0 v5 v6 W => v0 = .string S ∧ v5 = .slice pa A.length capa ∧ v6 = .int .i64 (ea : Int) ∧ Below w3.heap.size w3 W)
      case first =>
        as_aux_lemma =>
          cases P with
          | false =>
            go_wp2_with fail
            go_meet
            case rel => exact ⟨rfl, rfl, rfl, Below.refl _ _⟩
          | true =>
            obtain ⟨ha, hb, hl⟩ := hP.1 rfl
            obtain ⟨hec, hCe⟩ := HJJ.out.hj ha hb hl
            subst ha; subst hb; subst hec
            have hcl : C.length = A.length + B.length := by rw [hCe]; simp
            have hne : ((C.length : Int) != (A.length : Int) + (B.length : Int)) = false := by rw [hcl]; simp
            have HCL := Lib.hid hcl
            have HCE := Lib.hid hCe
            clear hcl hCe hl
            go_wp2_with fail
            go_loopg [74] C.length (fun g v74 W => JR w3 C.length g v74 W)
            case atStart => exact ⟨0, rfl, Nat.zero_le _, rfl, Below.refl _ _⟩
            case round =>
              obtain ⟨k, rfl, hk, hg, hb⟩ := hrel
              have HG := Lib.hid hg
              have HB3 := Lib.hid hb
              clear hg hb
              by_cases hlt : k < C.length
              · have hk0 : (0 : Int) ≤ (k : Int) := by omega
                have hk1 : (k : Int) < (C.length : Int) := by omega
                have hwk : IntKind.i64.wrap ((k : Int) + 1) = (k : Int) + 1 := by rw [IntKind.wrap_i64]; omega
                obtain ⟨bc, rfl, hC⟩ := row_block HCC.out hlt
                by_cases hka : k < A.length
                · as_aux_lemma =>
                    obtain ⟨ba, rfl, hA⟩ := row_block HAA.out hka
                    have hCk : C[k]? = some A[k] := by rw [HCE.out, List.getElem?_append_left hka, List.getElem?_eq_getElem hka]
                    have hCc := ((hC k _ hCk).below HB3.out).four
                    have hAc := ((hA k _ (List.getElem?_eq_getElem hka)).below HB3.out).four
                    generalize A[k] = x at hCc hAc
                    obtain ⟨i0, i1, i2, i3⟩ := x
                    simp only at hCc hAc
                    generalize (⟨i2.toArray⟩ : ByteArray) = X at hCc hAc
                    generalize (⟨i3.toArray⟩ : ByteArray) = Y at hCc hAc
                    have hN := Four4.made wr (i0 : Int) (i1 : Int) X Y 46
                    have hbN := alloc_below wr (.cells #[.int .i64 (i0 : Int), .int .i64 (i1 : Int), .string X, .string Y] 46)
                    have hAN := Lib.hid (hAc.below hbN)
                    obtain ⟨c0, c1, c2, c3⟩ := hCc
                    have hka1 : (k : Int) < (A.length : Int) := by omega
                    clear hC hA hCk hAc
                    have HN := Lib.hid hN
                    clear hN
                    go_wp2_with fail
                    generalize hwx : wr.alloc (.cells #[.int .i64 (i0 : Int), .int .i64 (i1 : Int), .string X, .string Y] 46) = wx at hAN HN hbN
                    have HWX := Lib.hid hwx
                    have HBN := Lib.hid hbN
                    obtain ⟨a0, a1, a2, a3⟩ := hAN.out
                    obtain ⟨n0, n1, n2, n3⟩ := HN.out
                    simp only [Nat.zero_add] at n1 n2 n3
                    clear hwx hbN c0 c1 c2 c3
                    have hd : decide (k < A.length) = true := by simpa using hka
                    go_quiet (fail)
                    go_wp2_with fail
                    go_roundg (C.length - (k + 1))
                    case rel => exact ⟨k + 1, by go_num, by omega, rfl, (HB3.out.trans (HBN.out.mono HB3.out.size)).trans ((drewN_below wx _).mono (Nat.le_trans HB3.out.size HBN.out.size))⟩
                    case measure => have := HG.out; omega
                · as_aux_lemma =>
                    obtain ⟨j, rfl⟩ : ∃ j, k = A.length + j := ⟨k - A.length, by omega⟩
                    have hjb : j < B.length := by have := HCL.out; omega
                    obtain ⟨bb, rfl, hB⟩ := row_block HBB.out hjb
                    have hCk : C[A.length + j]? = some (shSp (S.size + 1) B[j]) := by
                      rw [HCE.out, List.getElem?_append_right (by omega)]
                      simp [List.getElem?_eq_getElem hjb]
                    have hCc := ((hC _ _ hCk).below HB3.out).four
                    have hBc := ((hB j _ (List.getElem?_eq_getElem hjb)).below HB3.out).four
                    have hyb := HJJ.out.bb B[j] (List.getElem_mem hjb)
                    generalize B[j] = y at hCc hBc hyb
                    obtain ⟨i0, i1, i2, i3⟩ := y
                    simp only [shSp] at hCc hBc hyb
                    generalize (⟨i2.toArray⟩ : ByteArray) = X at hCc hBc
                    generalize (⟨i3.toArray⟩ : ByteArray) = Y at hCc hBc
                    rw [show ((S.size + 1 + i0 : Nat) : Int) = (i0 : Int) + (S.size : Int) + 1 by omega, show ((S.size + 1 + i1 : Nat) : Int) = (i1 : Int) + (S.size : Int) + 1 by omega] at hCc
                    have hN := Four4.made wr ((i0 : Int) + (S.size : Int) + 1) ((i1 : Int) + (S.size : Int) + 1) X Y 46
                    have hbN := alloc_below wr (.cells #[.int .i64 ((i0 : Int) + (S.size : Int) + 1), .int .i64 ((i1 : Int) + (S.size : Int) + 1), .string X, .string Y] 46)
                    have HBN2 := Lib.hid (hBc.below hbN)
                    obtain ⟨c0, c1, c2, c3⟩ := hCc
                    have y0 : (i0 : Int) ≤ 300 := by have := hyb.1; omega
                    have y1 : (i1 : Int) ≤ 300 := by have := hyb.2; omega
                    have hS2 : (S.size : Int) ≤ 300 := by omega
                    have z0 : (0 : Int) ≤ (i0 : Int) := by omega
                    have z1 : (0 : Int) ≤ (i1 : Int) := by omega
                    have hj0 : (0 : Int) ≤ (j : Int) := by omega
                    have hj1 : (j : Int) < (B.length : Int) := by omega
                    have hjs : IntKind.i64.wrap (((A.length + j : Nat) : Int) - (A.length : Int)) = (j : Int) := by rw [IntKind.wrap_i64]; omega
                    have hd : decide (A.length + j < A.length) = false := by simp
                    have HN := Lib.hid hN
                    clear hC hB hCk hBc hyb hN hka
                    go_wp2_with fail
                    generalize hwx : wr.alloc (.cells #[.int .i64 ((i0 : Int) + (S.size : Int) + 1), .int .i64 ((i1 : Int) + (S.size : Int) + 1), .string X, .string Y] 46) = wx at HBN2 HN hbN
                    have HWX := Lib.hid hwx
                    have HBN := Lib.hid hbN
                    have hN := HN.out
                    have hBN := HBN2.out
                    obtain ⟨m0, m1, m2, m3⟩ := Four4.made wx (i0 : Int) (i1 : Int) X Y 46
                    obtain ⟨n0, n1, n2, n3⟩ := hN.below (alloc_below wx (.cells #[.int .i64 (i0 : Int), .int .i64 (i1 : Int), .string X, .string Y] 46))
                    have HB5 := Lib.hid (alloc_below wx (.cells #[.int .i64 (i0 : Int), .int .i64 (i1 : Int), .string X, .string Y] 46))
                    obtain ⟨b0, b1, b2, b3⟩ := hBN
                    simp only [Nat.zero_add] at m1 m2 m3 n1 n2 n3
                    have hge2 : (A.length : Int) ≤ (A.length : Int) + (j : Int) := by omega
                    clear hwx hbN c0 c1 c2 c3 hN
                    refine wp_region_held_drew (S := (fun _ => True)) (by kernel_rfl) trivial (fun hHeld => ?_)
                    refine wpAnyH_take (i := 0) (oi := _) (v := .int .i64 ((A.length + j : Nat) : Int)) rfl (by kernel_rfl) (by kernel_rfl) (by kernel_rfl) (fun _ _ _ h => h) (Or.inl ⟨by kernel_rfl, ?_⟩) (by assumption) ?_
                    · (intro w hSw; (try dsimp only at hSw); go_simp)
                    try simp only [List.getElem_toArray, List.getElem_cons_zero, List.getElem_cons_succ, Act.put, List.setIfInBounds_toArray, List.set_cons_zero, List.set_cons_succ]
                    refine wpAnyH_take (i := 1) (oi := _) (v := .slice pa A.length capa) rfl (by kernel_rfl) (by kernel_rfl) (by kernel_rfl) (fun _ _ _ h => h) (Or.inl ⟨by kernel_rfl, ?_⟩) (by assumption) ?_
                    · (intro w hSw; (try dsimp only at hSw); go_simp)
                    try simp only [List.getElem_toArray, List.getElem_cons_zero, List.getElem_cons_succ, Act.put, List.setIfInBounds_toArray, List.set_cons_zero, List.set_cons_succ]
                    refine wpAnyH_take (i := 2) (oi := _) (v := .int .i64 (A.length : Int)) rfl (by kernel_rfl) (by kernel_rfl) (by kernel_rfl) (fun _ _ _ h => h) (Or.inl ⟨by kernel_rfl, ?_⟩) (by assumption) ?_
                    · (intro w hSw; (try dsimp only at hSw); go_simp)
                    try simp only [List.getElem_toArray, List.getElem_cons_zero, List.getElem_cons_succ, Act.put, List.setIfInBounds_toArray, List.set_cons_zero, List.set_cons_succ]
                    refine wpAnyH_take (i := 3) (oi := _) (v := .bool false) rfl (by kernel_rfl) (by kernel_rfl) (by kernel_rfl) (fun _ _ _ h => h) (Or.inl ⟨by kernel_rfl, ?_⟩) (by assumption) ?_
                    · (intro w hSw; (try dsimp only at hSw); go_simp)
                    try simp only [List.getElem_toArray, List.getElem_cons_zero, List.getElem_cons_succ, Act.put, List.setIfInBounds_toArray, List.set_cons_zero, List.set_cons_succ]
                    refine wpAnyH_take (i := 4) (oi := _) (v := .bool false) rfl (by kernel_rfl) (by kernel_rfl) (by kernel_rfl) (fun _ _ _ h => h) (Or.inl ⟨by kernel_rfl, ?_⟩) (by assumption) ?_
                    · (intro w hSw; (try dsimp only at hSw); go_simp)
                    try simp only [List.getElem_toArray, List.getElem_cons_zero, List.getElem_cons_succ, Act.put, List.setIfInBounds_toArray, List.set_cons_zero, List.set_cons_succ]
                    refine wpAnyH_take (i := 5) (oi := _) (v := undef) rfl (by kernel_rfl) (by kernel_rfl) (by kernel_rfl) (fun _ _ _ h => h) (Or.inr ⟨by kernel_rfl, rfl⟩) (by assumption) ?_
                    try simp only [List.getElem_toArray, List.getElem_cons_zero, List.getElem_cons_succ, Act.put, List.setIfInBounds_toArray, List.set_cons_zero, List.set_cons_succ]
                    refine wpAnyH_take (i := 6) (oi := _) (v := undef) rfl (by kernel_rfl) (by kernel_rfl) (by kernel_rfl) (fun _ _ _ h => h) (Or.inr ⟨by kernel_rfl, rfl⟩) (by assumption) ?_
                    try simp only [List.getElem_toArray, List.getElem_cons_zero, List.getElem_cons_succ, Act.put, List.setIfInBounds_toArray, List.set_cons_zero, List.set_cons_succ]
                    refine wpAnyH_take (i := 7) (oi := _) (v := undef) rfl (by kernel_rfl) (by kernel_rfl) (by kernel_rfl) (fun _ _ _ h => h) (Or.inr ⟨by kernel_rfl, rfl⟩) (by assumption) ?_
                    try simp only [List.getElem_toArray, List.getElem_cons_zero, List.getElem_cons_succ, Act.put, List.setIfInBounds_toArray, List.set_cons_zero, List.set_cons_succ]
                    refine wpAnyH_take (i := 8) (oi := _) (v := undef) rfl (by kernel_rfl) (by kernel_rfl) (by kernel_rfl) (fun _ _ _ h => h) (Or.inr ⟨by kernel_rfl, rfl⟩) (by assumption) ?_
                    try simp only [List.getElem_toArray, List.getElem_cons_zero, List.getElem_cons_succ, Act.put, List.setIfInBounds_toArray, List.set_cons_zero, List.set_cons_succ]
                    refine wpAnyH_take (i := 9) (oi := _) (v := undef) rfl (by kernel_rfl) (by kernel_rfl) (by kernel_rfl) (fun _ _ _ h => h) (Or.inr ⟨by kernel_rfl, rfl⟩) (by assumption) ?_
                    try simp only [List.getElem_toArray, List.getElem_cons_zero, List.getElem_cons_succ, Act.put, List.setIfInBounds_toArray, List.set_cons_zero, List.set_cons_succ]
                    refine wpAnyH_take (i := 10) (oi := _) (v := undef) rfl (by kernel_rfl) (by kernel_rfl) (by kernel_rfl) (fun _ _ _ h => h) (Or.inr ⟨by kernel_rfl, rfl⟩) (by assumption) ?_
                    try simp only [List.getElem_toArray, List.getElem_cons_zero, List.getElem_cons_succ, Act.put, List.setIfInBounds_toArray, List.set_cons_zero, List.set_cons_succ]
                    refine wpAnyH_take (i := 11) (oi := _) (v := .bool false) rfl (by kernel_rfl) (by kernel_rfl) (by kernel_rfl) (fun _ _ _ h => h) (Or.inl ⟨by kernel_rfl, ?_⟩) (by assumption) ?_
                    · (intro w hSw; (try dsimp only at hSw); go_simp)
                    try simp only [List.getElem_toArray, List.getElem_cons_zero, List.getElem_cons_succ, Act.put, List.setIfInBounds_toArray, List.set_cons_zero, List.set_cons_succ]
                    refine wpAnyH_done (by kernel_rfl) ?_ _
                    go_wp2_with fail
                    go_roundg (C.length - (A.length + j + 1))
                    case rel => exact ⟨A.length + j + 1, by go_num, by omega, rfl, ((HB3.out.trans (HBN.out.mono HB3.out.size)).trans (HB5.out.mono (Nat.le_trans HB3.out.size HBN.out.size))).drew⟩
                    case measure => have := HG.out; omega
              · have hge : ¬ (k : Int) < (C.length : Int) := by omega
                go_wp2_with fail
                go_meet
                case rel => exact ⟨rfl, rfl, rfl, HB3.out⟩
      case rest =>
        as_aux_lemma =>
          obtain ⟨rfl, rfl, rfl, hb4⟩ := hcut
          rename_i W4
          have hbw4 := hb13.trans (hb4.mono hb13.size)
          have HB4 := Lib.hid hb4
          clear hb4 la lb lc
          go_wp2_with fail
          refine (HD.out _ (HE.out.below hbw4)).mono ?_
          rintro e w5 ⟨vd, rfl, hrd, hb5⟩
          obtain ⟨pd, capd, rfl, hD⟩ := hrd
          have HDD := Lib.hid hD
          have hbw5 := hbw4.trans (hb5.mono hbw4.size)
          have HW5 := Lib.hid (HBW.out.trans (hbw5.mono HBW.out.size))
          have HE5 := Lib.hid (HE.out.below hbw5)
          have hA5 := fun (k : Nat) (b : Nat) (x : Sp) (h : SpAt w3 b (k * 4) x) => (h.below HB4.out).below hb5
          have HA5 := Lib.hid hA5
          have la : (A.length : Int) ≤ 64 := by have := HJJ.out.la; omega
          have ld : (D.length : Int) ≤ 64 := by have := HJJ.out.ld; omega
          clear hD hA5 hb5 hbw5 hbw4 hb12 hb13 hb1 hb2 hb3
          go_upto_region 19 with (fail)
          go_cut [144] (fun v144 W => v144 = .bool false ∧ W = w5)
          case first =>
            as_aux_lemma =>
              by_cases h5 : ea = 5
              · have e5 : ((ea : Int) != 5) = false := by rw [h5]; rfl
                have e0 : ((ea : Int) == 0) = false := by rw [h5]; rfl
                by_cases hd : ed = ea
                · have ne : ((ed : Int) != (ea : Int)) = false := by rw [hd]; simp
                  by_cases hl : D.length = A.length
                  · have hq : ((D.length : Int) != (A.length : Int)) = false := by rw [hl]; simp
                    clear hd h5 hl
                    go_wp2_with fail
                    go_meet
                    case rel => exact ⟨rfl, rfl⟩
                  · have hq : ((D.length : Int) != (A.length : Int)) = true := by rw [bne_iff_ne]; omega
                    clear hd h5 hl
                    go_wp2_with fail
                    go_meet
                    case rel => exact ⟨rfl, rfl⟩
                · have ne : ((ed : Int) != (ea : Int)) = true := by rw [bne_iff_ne]; omega
                  by_cases hl : D.length = A.length
                  · have hq : ((D.length : Int) != (A.length : Int)) = false := by rw [hl]; simp
                    clear hd h5 hl
                    go_wp2_with fail
                    go_meet
                    case rel => exact ⟨rfl, rfl⟩
                  · have hq : ((D.length : Int) != (A.length : Int)) = true := by rw [bne_iff_ne]; omega
                    clear hd h5 hl
                    go_wp2_with fail
                    go_meet
                    case rel => exact ⟨rfl, rfl⟩
              · have e5 : ((ea : Int) != 5) = true := by rw [bne_iff_ne]; omega
                obtain ⟨hed, hDe⟩ := HJJ.out.hd h5
                have ne : ((ed : Int) != (ea : Int)) = false := by rw [hed]; simp
                by_cases h0 : ea = 0
                · have e0 : ((ea : Int) == 0) = true := by rw [h0]; rfl
                  have hq : ((D.length : Int) != (A.length : Int)) = false := by rw [hDe h0]; simp
                  clear hDe h5 h0 hed
                  go_wp2_with fail
                  go_meet
                  case rel => exact ⟨rfl, rfl⟩
                · have e0 : ((ea : Int) == 0) = false := by rw [beq_eq_false_iff_ne]; omega
                  by_cases hl : D.length = A.length
                  · have hq : ((D.length : Int) != (A.length : Int)) = false := by rw [hl]; simp
                    clear hDe h5 h0 hed hl
                    go_wp2_with fail
                    go_meet
                    case rel => exact ⟨rfl, rfl⟩
                  · have hq : ((D.length : Int) != (A.length : Int)) = true := by rw [bne_iff_ne]; omega
                    clear hDe h5 h0 hed hl
                    go_wp2_with fail
                    go_meet
                    case rel => exact ⟨rfl, rfl⟩
          case rest =>
            obtain ⟨rfl, hw⟩ := hcut
            rw [hw]
            clear hw
            by_cases h0 : ea = 0
            · as_aux_lemma =>
                obtain ⟨hed, hDe⟩ := HJJ.out.hd (by omega)
                have HDE := Lib.hid (hDe h0)
                subst h0
                clear hDe hed
                go_wp2_with fail
                go_loopg [147] D.length (fun g v147 W => JR w5 D.length g v147 W)
                case atStart => exact ⟨0, rfl, Nat.zero_le _, rfl, Below.refl _ _⟩
                case round =>
                  obtain ⟨k, rfl, hk, hg, hb⟩ := hrel
                  have HG := Lib.hid hg
                  have HB3 := Lib.hid hb
                  clear hg hb
                  by_cases hlt : k < D.length
                  · have hk0 : (0 : Int) ≤ (k : Int) := by omega
                    have hk1 : (k : Int) < (D.length : Int) := by omega
                    have hka : k < A.length := by have := HDE.out; have h2 := congrArg List.length this; rw [List.length_map] at h2; omega
                    have hka1 : (k : Int) < (A.length : Int) := by omega
                    obtain ⟨bd, rfl, hD⟩ := row_block HDD.out hlt
                    obtain ⟨ba, rfl, hA⟩ := row_block HAA.out hka
                    have hDk : D[k]? = some (shSp 4 A[k]) := by rw [HDE.out]; simp [List.getElem?_eq_getElem hka]
                    have hDc := ((hD k _ hDk).below HB3.out).four
                    have hAc := ((HA5.out k ba _ (hA k _ (List.getElem?_eq_getElem hka))).below HB3.out).four
                    have hyb := HJJ.out.ba A[k] (List.getElem_mem hka)
                    generalize A[k] = y at hDc hAc hyb
                    obtain ⟨i0, i1, i2, i3⟩ := y
                    simp only [shSp] at hDc hAc hyb
                    generalize (⟨i2.toArray⟩ : ByteArray) = X at hDc hAc
                    generalize (⟨i3.toArray⟩ : ByteArray) = Y at hDc hAc
                    rw [show ((4 + i0 : Nat) : Int) = (i0 : Int) + 4 by omega, show ((4 + i1 : Nat) : Int) = (i1 : Int) + 4 by omega] at hDc
                    have hN := Four4.made wr ((i0 : Int) + 4) ((i1 : Int) + 4) X Y 46
                    have hbN := alloc_below wr (.cells #[.int .i64 ((i0 : Int) + 4), .int .i64 ((i1 : Int) + 4), .string X, .string Y] 46)
                    have HAN := Lib.hid (hAc.below hbN)
                    obtain ⟨c0, c1, c2, c3⟩ := hDc
                    have y0 : (i0 : Int) ≤ 300 := by have := hyb.1; omega
                    have y1 : (i1 : Int) ≤ 300 := by have := hyb.2; omega
                    have z0 : (0 : Int) ≤ (i0 : Int) := by omega
                    have z1 : (0 : Int) ≤ (i1 : Int) := by omega
                    have r0 : IntKind.i64.wrap ((i0 : Int) + 4) = (i0 : Int) + 4 := by rw [IntKind.wrap_i64]; omega
                    have r1 : IntKind.i64.wrap ((i1 : Int) + 4) = (i1 : Int) + 4 := by rw [IntKind.wrap_i64]; omega
                    have HN := Lib.hid hN
                    clear hD hA hDk hAc hyb hN
                    go_wp2_with fail
                    generalize hwx : wr.alloc (.cells #[.int .i64 ((i0 : Int) + 4), .int .i64 ((i1 : Int) + 4), .string X, .string Y] 46) = wx at HAN HN hbN
                    have HWX := Lib.hid hwx
                    have HBN := Lib.hid hbN
                    obtain ⟨a0, a1, a2, a3⟩ := HAN.out
                    obtain ⟨n0, n1, n2, n3⟩ := HN.out
                    simp only [Nat.zero_add] at n1 n2 n3
                    clear hwx hbN c0 c1 c2 c3
                    go_quiet (fail)
                    go_wp2_with fail
                    go_roundg (D.length - (k + 1))
                    case rel => exact ⟨k + 1, by go_num, by omega, rfl, (HB3.out.trans (HBN.out.mono HB3.out.size)).trans ((drewN_below wx _).mono (Nat.le_trans HB3.out.size HBN.out.size))⟩
                    case measure => have := HG.out; omega
                  · have hge : ¬ (k : Int) < (D.length : Int) := by omega
                    go_wp2_with fail
                    refine (tells_any wr (HE5.out.below HB3.out)).mono ?_
                    rintro e w9 ⟨rfl, hb9⟩
                    go_wp2
                    go_ret
                    exact ⟨rfl, (HW5.out.trans (HB3.out.mono HW5.out.size)).trans (hb9.mono (Nat.le_trans HW5.out.size HB3.out.size))⟩
            · as_aux_lemma =>
                have hz : ((ea : Int) == 0) = false := by rw [beq_eq_false_iff_ne]; omega
                clear h0
                go_wp2_with fail
                go_loopg [147] D.length (fun g v147 W => JR w5 D.length g v147 W)
                case atStart => exact ⟨0, rfl, Nat.zero_le _, rfl, Below.refl _ _⟩
                case round =>
                  obtain ⟨k, rfl, hk, hg, hb⟩ := hrel
                  have HG := Lib.hid hg
                  have HB3 := Lib.hid hb
                  clear hg hb
                  by_cases hlt : k < D.length
                  · have hk0 : (0 : Int) ≤ (k : Int) := by omega
                    have hk1 : (k : Int) < (D.length : Int) := by omega
                    obtain ⟨bd, rfl, hD⟩ := row_block HDD.out hlt
                    have hDc := ((hD k _ (List.getElem?_eq_getElem hlt)).below HB3.out).four
                    generalize D[k] = y at hDc
                    obtain ⟨i0, i1, i2, i3⟩ := y
                    simp only at hDc
                    generalize (⟨i2.toArray⟩ : ByteArray) = X at hDc
                    generalize (⟨i3.toArray⟩ : ByteArray) = Y at hDc
                    have hbN := alloc_below wr (.cells #[.int .i64 (i0 : Int), .int .i64 (i1 : Int), .string X, .string Y] 46)
                    obtain ⟨c0, c1, c2, c3⟩ := hDc
                    clear hD
                    go_wp2_with fail
                    generalize hwx : wr.alloc (.cells #[.int .i64 (i0 : Int), .int .i64 (i1 : Int), .string X, .string Y] 46) = wx at hbN
                    have HWX := Lib.hid hwx
                    have HBN := Lib.hid hbN
                    clear hwx hbN c0 c1 c2 c3
                    refine wp_region_held_drew (S := (fun _ => True)) (by kernel_rfl) trivial (fun hHeld => ?_)
                    refine wpAnyH_take (i := 0) (oi := _) (v := .int .i64 (ea : Int)) rfl (by kernel_rfl) (by kernel_rfl) (by kernel_rfl) (fun _ _ _ h => h) (Or.inl ⟨by kernel_rfl, ?_⟩) (by assumption) ?_
                    · (intro w hSw; (try dsimp only at hSw); go_simp)
                    try simp only [List.getElem_toArray, List.getElem_cons_zero, List.getElem_cons_succ, Act.put, List.setIfInBounds_toArray, List.set_cons_zero, List.set_cons_succ]
                    refine wpAnyH_take (i := 1) (oi := _) (v := .bool false) rfl (by kernel_rfl) (by kernel_rfl) (by kernel_rfl) (fun _ _ _ h => h) (Or.inl ⟨by kernel_rfl, ?_⟩) (by assumption) ?_
                    · (intro w hSw; (try dsimp only at hSw); go_simp)
                    try simp only [List.getElem_toArray, List.getElem_cons_zero, List.getElem_cons_succ, Act.put, List.setIfInBounds_toArray, List.set_cons_zero, List.set_cons_succ]
                    refine wpAnyH_take (i := 2) (oi := _) (v := .bool false) rfl (by kernel_rfl) (by kernel_rfl) (by kernel_rfl) (fun _ _ _ h => h) (Or.inl ⟨by kernel_rfl, ?_⟩) (by assumption) ?_
                    · (intro w hSw; (try dsimp only at hSw); go_simp)
                    try simp only [List.getElem_toArray, List.getElem_cons_zero, List.getElem_cons_succ, Act.put, List.setIfInBounds_toArray, List.set_cons_zero, List.set_cons_succ]
                    refine wpAnyH_take (i := 3) (oi := _) (v := undef) rfl (by kernel_rfl) (by kernel_rfl) (by kernel_rfl) (fun _ _ _ h => h) (Or.inr ⟨by kernel_rfl, rfl⟩) (by assumption) ?_
                    try simp only [List.getElem_toArray, List.getElem_cons_zero, List.getElem_cons_succ, Act.put, List.setIfInBounds_toArray, List.set_cons_zero, List.set_cons_succ]
                    refine wpAnyH_take (i := 4) (oi := _) (v := undef) rfl (by kernel_rfl) (by kernel_rfl) (by kernel_rfl) (fun _ _ _ h => h) (Or.inr ⟨by kernel_rfl, rfl⟩) (by assumption) ?_
                    try simp only [List.getElem_toArray, List.getElem_cons_zero, List.getElem_cons_succ, Act.put, List.setIfInBounds_toArray, List.set_cons_zero, List.set_cons_succ]
                    refine wpAnyH_take (i := 5) (oi := _) (v := undef) rfl (by kernel_rfl) (by kernel_rfl) (by kernel_rfl) (fun _ _ _ h => h) (Or.inr ⟨by kernel_rfl, rfl⟩) (by assumption) ?_
                    try simp only [List.getElem_toArray, List.getElem_cons_zero, List.getElem_cons_succ, Act.put, List.setIfInBounds_toArray, List.set_cons_zero, List.set_cons_succ]
                    refine wpAnyH_take (i := 6) (oi := _) (v := undef) rfl (by kernel_rfl) (by kernel_rfl) (by kernel_rfl) (fun _ _ _ h => h) (Or.inr ⟨by kernel_rfl, rfl⟩) (by assumption) ?_
                    try simp only [List.getElem_toArray, List.getElem_cons_zero, List.getElem_cons_succ, Act.put, List.setIfInBounds_toArray, List.set_cons_zero, List.set_cons_succ]
                    refine wpAnyH_take (i := 7) (oi := _) (v := undef) rfl (by kernel_rfl) (by kernel_rfl) (by kernel_rfl) (fun _ _ _ h => h) (Or.inr ⟨by kernel_rfl, rfl⟩) (by assumption) ?_
                    try simp only [List.getElem_toArray, List.getElem_cons_zero, List.getElem_cons_succ, Act.put, List.setIfInBounds_toArray, List.set_cons_zero, List.set_cons_succ]
                    refine wpAnyH_take (i := 8) (oi := _) (v := undef) rfl (by kernel_rfl) (by kernel_rfl) (by kernel_rfl) (fun _ _ _ h => h) (Or.inr ⟨by kernel_rfl, rfl⟩) (by assumption) ?_
                    try simp only [List.getElem_toArray, List.getElem_cons_zero, List.getElem_cons_succ, Act.put, List.setIfInBounds_toArray, List.set_cons_zero, List.set_cons_succ]
                    refine wpAnyH_take (i := 9) (oi := _) (v := undef) rfl (by kernel_rfl) (by kernel_rfl) (by kernel_rfl) (fun _ _ _ h => h) (Or.inr ⟨by kernel_rfl, rfl⟩) (by assumption) ?_
                    try simp only [List.getElem_toArray, List.getElem_cons_zero, List.getElem_cons_succ, Act.put, List.setIfInBounds_toArray, List.set_cons_zero, List.set_cons_succ]
                    refine wpAnyH_take (i := 10) (oi := _) (v := undef) rfl (by kernel_rfl) (by kernel_rfl) (by kernel_rfl) (fun _ _ _ h => h) (Or.inr ⟨by kernel_rfl, rfl⟩) (by assumption) ?_
                    try simp only [List.getElem_toArray, List.getElem_cons_zero, List.getElem_cons_succ, Act.put, List.setIfInBounds_toArray, List.set_cons_zero, List.set_cons_succ]
                    refine wpAnyH_take (i := 11) (oi := _) (v := undef) rfl (by kernel_rfl) (by kernel_rfl) (by kernel_rfl) (fun _ _ _ h => h) (Or.inr ⟨by kernel_rfl, rfl⟩) (by assumption) ?_
                    try simp only [List.getElem_toArray, List.getElem_cons_zero, List.getElem_cons_succ, Act.put, List.setIfInBounds_toArray, List.set_cons_zero, List.set_cons_succ]
                    refine wpAnyH_take (i := 12) (oi := _) (v := undef) rfl (by kernel_rfl) (by kernel_rfl) (by kernel_rfl) (fun _ _ _ h => h) (Or.inr ⟨by kernel_rfl, rfl⟩) (by assumption) ?_
                    try simp only [List.getElem_toArray, List.getElem_cons_zero, List.getElem_cons_succ, Act.put, List.setIfInBounds_toArray, List.set_cons_zero, List.set_cons_succ]
                    refine wpAnyH_take (i := 13) (oi := _) (v := undef) rfl (by kernel_rfl) (by kernel_rfl) (by kernel_rfl) (fun _ _ _ h => h) (Or.inr ⟨by kernel_rfl, rfl⟩) (by assumption) ?_
                    try simp only [List.getElem_toArray, List.getElem_cons_zero, List.getElem_cons_succ, Act.put, List.setIfInBounds_toArray, List.set_cons_zero, List.set_cons_succ]
                    refine wpAnyH_take (i := 14) (oi := _) (v := undef) rfl (by kernel_rfl) (by kernel_rfl) (by kernel_rfl) (fun _ _ _ h => h) (Or.inr ⟨by kernel_rfl, rfl⟩) (by assumption) ?_
                    try simp only [List.getElem_toArray, List.getElem_cons_zero, List.getElem_cons_succ, Act.put, List.setIfInBounds_toArray, List.set_cons_zero, List.set_cons_succ]
                    refine wpAnyH_take (i := 15) (oi := _) (v := undef) rfl (by kernel_rfl) (by kernel_rfl) (by kernel_rfl) (fun _ _ _ h => h) (Or.inr ⟨by kernel_rfl, rfl⟩) (by assumption) ?_
                    try simp only [List.getElem_toArray, List.getElem_cons_zero, List.getElem_cons_succ, Act.put, List.setIfInBounds_toArray, List.set_cons_zero, List.set_cons_succ]
                    refine wpAnyH_take (i := 16) (oi := _) (v := undef) rfl (by kernel_rfl) (by kernel_rfl) (by kernel_rfl) (fun _ _ _ h => h) (Or.inr ⟨by kernel_rfl, rfl⟩) (by assumption) ?_
                    try simp only [List.getElem_toArray, List.getElem_cons_zero, List.getElem_cons_succ, Act.put, List.setIfInBounds_toArray, List.set_cons_zero, List.set_cons_succ]
                    refine wpAnyH_take (i := 17) (oi := _) (v := undef) rfl (by kernel_rfl) (by kernel_rfl) (by kernel_rfl) (fun _ _ _ h => h) (Or.inr ⟨by kernel_rfl, rfl⟩) (by assumption) ?_
                    try simp only [List.getElem_toArray, List.getElem_cons_zero, List.getElem_cons_succ, Act.put, List.setIfInBounds_toArray, List.set_cons_zero, List.set_cons_succ]
                    refine wpAnyH_take (i := 18) (oi := _) (v := undef) rfl (by kernel_rfl) (by kernel_rfl) (by kernel_rfl) (fun _ _ _ h => h) (Or.inr ⟨by kernel_rfl, rfl⟩) (by assumption) ?_
                    try simp only [List.getElem_toArray, List.getElem_cons_zero, List.getElem_cons_succ, Act.put, List.setIfInBounds_toArray, List.set_cons_zero, List.set_cons_succ]
                    refine wpAnyH_take (i := 19) (oi := _) (v := undef) rfl (by kernel_rfl) (by kernel_rfl) (by kernel_rfl) (fun _ _ _ h => h) (Or.inr ⟨by kernel_rfl, rfl⟩) (by assumption) ?_
                    try simp only [List.getElem_toArray, List.getElem_cons_zero, List.getElem_cons_succ, Act.put, List.setIfInBounds_toArray, List.set_cons_zero, List.set_cons_succ]
                    refine wpAnyH_take (i := 20) (oi := _) (v := undef) rfl (by kernel_rfl) (by kernel_rfl) (by kernel_rfl) (fun _ _ _ h => h) (Or.inr ⟨by kernel_rfl, rfl⟩) (by assumption) ?_
                    try simp only [List.getElem_toArray, List.getElem_cons_zero, List.getElem_cons_succ, Act.put, List.setIfInBounds_toArray, List.set_cons_zero, List.set_cons_succ]
                    refine wpAnyH_take (i := 21) (oi := _) (v := undef) rfl (by kernel_rfl) (by kernel_rfl) (by kernel_rfl) (fun _ _ _ h => h) (Or.inr ⟨by kernel_rfl, rfl⟩) (by assumption) ?_
                    try simp only [List.getElem_toArray, List.getElem_cons_zero, List.getElem_cons_succ, Act.put, List.setIfInBounds_toArray, List.set_cons_zero, List.set_cons_succ]
                    refine wpAnyH_take (i := 22) (oi := _) (v := undef) rfl (by kernel_rfl) (by kernel_rfl) (by kernel_rfl) (fun _ _ _ h => h) (Or.inr ⟨by kernel_rfl, rfl⟩) (by assumption) ?_
                    try simp only [List.getElem_toArray, List.getElem_cons_zero, List.getElem_cons_succ, Act.put, List.setIfInBounds_toArray, List.set_cons_zero, List.set_cons_succ]
                    refine wpAnyH_take (i := 23) (oi := _) (v := .bool false) rfl (by kernel_rfl) (by kernel_rfl) (by kernel_rfl) (fun _ _ _ h => h) (Or.inl ⟨by kernel_rfl, ?_⟩) (by assumption) ?_
                    · (intro w hSw; (try dsimp only at hSw); go_simp)
                    try simp only [List.getElem_toArray, List.getElem_cons_zero, List.getElem_cons_succ, Act.put, List.setIfInBounds_toArray, List.set_cons_zero, List.set_cons_succ]
                    refine wpAnyH_done (by kernel_rfl) ?_ _
                    go_wp2_with fail
                    go_roundg (D.length - (k + 1))
                    case rel => exact ⟨k + 1, by go_num, by omega, rfl, (HB3.out.trans (HBN.out.mono HB3.out.size)).drew⟩
                    case measure => have := HG.out; omega
                  · have hge : ¬ (k : Int) < (D.length : Int) := by omega
                    go_wp2_with fail
                    refine (tells_any wr (HE5.out.below HB3.out)).mono ?_
                    rintro e w9 ⟨rfl, hb9⟩
                    go_wp2
                    go_ret
                    exact ⟨rfl, (HW5.out.trans (HB3.out.mono HW5.out.size)).trans (hb9.mono (Nat.le_trans HW5.out.size HB3.out.size))⟩
end Go.Proofs.YtffngbjnbigipaaDoor
