/- Several texts joined into one (a claim has a limit of files). -/
import Derived.Test.YtffngbjnbigipaaGreatDoorRefC
import Derived.Test.YtffngbjnbigipaaGreatDoorRSpot
import Derived.Test.YtffngbjnbigipaaGreatDoorParS
import Derived.Test.YtffngbjnbigipaaGreatDoorRMember
import Derived.Test.YtffngbjnbigipaaGreatDoorSpots
/- The document's lists: its function address. -/
namespace Go.Proofs.YtffngbjnbigipaaGreatDoor
open Go.RowKit Go.Lib
set_option linter.unusedSimpArgs false
set_option linter.unusedVariables false
set_option linter.unnecessarySimpa false
set_option maxRecDepth 100000

/-- the document's row at block B: its spots, whether one was too long. -/
structure RR (B : Nat) (v : Value) (long : Bool) (W : World) : Prop where
  lt : B < W.heap.size
  c0 : W.cell? ⟨B, 0, none⟩ = some v
  c1 : W.cell? ⟨B, 1, none⟩ = some (.bool long)
  fr : ∀ o, o < 2 → W.frozen? ⟨B, o, none⟩ = false
theorem RR.below {B : Nat} {v : Value} {long : Bool} {w W : World} (h : RR B v long w) (hb : Below w.heap.size w W) : RR B v long W :=
  ⟨Nat.lt_of_lt_of_le h.lt hb.size, (hb.cell (p := ⟨B, 0, none⟩) h.lt).trans h.c0, (hb.cell (p := ⟨B, 1, none⟩) h.lt).trans h.c1, fun o ho => (hb.frozen (p := ⟨B, o, none⟩) h.lt).trans (h.fr o ho)⟩
theorem RR.long_ {B : Nat} {v : Value} {long : Bool} {W : World} (h : RR B v long W) (long' : Bool) : RR B v long' (W.setCell ⟨B, 1, none⟩ (.bool long')) :=
  ⟨by simpa [World.setCell] using h.lt, by rw [cell_far _ _ _ _ _ (by decide)]; exact h.c0, set_same _ _ _ _ h.c1, fun o ho => by rw [World.frozen?_setCell]; exact h.fr o ho⟩
theorem RR.spots {B : Nat} {v : Value} {long : Bool} {W : World} (h : RR B v long W) (v' : Value) : RR B v' long (W.setCell ⟨B, 0, none⟩ v') :=
  ⟨by simpa [World.setCell] using h.lt, set_same _ _ _ _ h.c0, by rw [cell_far _ _ _ _ _ (by decide)]; exact h.c1, fun o ho => by rw [World.frozen?_setCell]; exact h.fr o ho⟩
theorem RR.grown {B : Nat} {v : Value} {long : Bool} {w W : World} {row : Option Nat} (h : RR B v long w) (hg : w.grownBy W row) (hr : ∀ g, row = some g → B + 1 ≤ g) : RR B v long W := by
  have hB : W.heap[B]? = w.heap[B]? := hg.block B h.lt (fun e => by have := hr B e.symm; omega)
  have hc : ∀ o, W.cell? ⟨B, o, none⟩ = w.cell? ⟨B, o, none⟩ := fun o => World.cell?_of_block (w := w) hB
  have hf : ∀ o, W.frozen? ⟨B, o, none⟩ = w.frozen? ⟨B, o, none⟩ := fun o => World.frozen?_of_block (w := w) hB
  exact ⟨Nat.lt_of_lt_of_le h.lt hg.size, (hc 0).trans h.c0, (hc 1).trans h.c1, fun o ho => (hf o).trans (h.fr o ho)⟩
def RO (B : Nat) (st : LSt) (W : World) : Prop := ∃ v, RR B v st.2 W ∧ W.ownsRow (B + 1) 35 4 v st.1.length (spsC st.1)
theorem RO.below {B : Nat} {st : LSt} {w W : World} (h : RO B st w) (hb : Below w.heap.size w W) : RO B st W := by
  obtain ⟨v, h, ho⟩ := h
  exact ⟨v, h.below hb, own_but ho (But.of_below hb)⟩
theorem RO.lt {B : Nat} {st : LSt} {w : World} (h : RO B st w) : B < w.heap.size := by
  obtain ⟨v, h, ho⟩ := h
  exact h.lt
/-- what the document's functions hand back: a place, or -1. -/
def endP : Option (Nat × LSt) → Int
  | none => -1
  | some (n, _) => (n : Int)
def AdP (B : Nat) (R : Option (Nat × LSt)) (W : World) : Prop := match R with
  | none => True
  | some (_, st) => RO B st W
theorem info_ref : (Tryz.prog.info? 35).map (fun i => (i.zero, i.size, i.bytes)) = some (some (.agg #[.int .i64 0, .int .i64 0, .string ⟨#[]⟩, .string ⟨#[]⟩]), 4, 48) := by kernel_rfl
theorem app_ref_eq (w : World) (B : Nat) (v : Value) (n : Nat) (xs : List Value) (hown : w.ownsRow B 35 4 v n xs) (a b c d : Value) (h1 : ∀ u ∈ [a, b, c, d], u.oneCell' = true) (hlen : n + 1 ≤ 2000000000000) (hbase : B ≤ w.heap.size) :
    ∃ g cap w', (Builtin.append_ #[26, 26] 26 #[v, .slice (some ⟨w.heap.size, 0, none⟩) 1 1]).run Tryz.prog (w.alloc (.cells #[a, b, c, d] 35)) = .ok (.slice (some ⟨g, 0, none⟩) (n + 1) cap) w' ∧ w'.ownsRow B 35 4 (.slice (some ⟨g, 0, none⟩) (n + 1) cap) (n + 1) (xs ++ [a, b, c, d]) ∧
      (w.alloc (.cells #[a, b, c, d] 35)).grownBy w' v.ownBlock := by
  obtain ⟨i0, hi, hz0, hz1, hz2⟩ := info_parts info_ref
  obtain ⟨v', w', hrun, hown', hgr, _⟩ := run_append_own (w.alloc (.cells #[a, b, c, d] 35)) B 26 26 35 i0 _ 4 48 Tryz.underlying26 hi hz0 hz1 hz2 rfl (by decide) v n xs (hown.alloc _) ⟨w.heap.size, 0, none⟩ 1 1 [a, b, c, d] rfl (cells4 w a b c d 35) h1 (by unfold maxLen; omega) (by omega) (by rw [World.size_alloc]; omega)
  have h2 := hown'
  obtain ⟨_, ⟨_, h0⟩ | ⟨g, cap, cur, rfl, _⟩⟩ := h2
  · omega
  · exact ⟨g, cap, w', hrun, hown', hgr⟩
theorem step_append_ref {ops : Array Oper} {o : Oper} {a : Act} {w : World} {K : Act → World → Prop} {Q : Exit → Act → World → Prop} {E : Prop}
    (hg : o.guard = none) (s x : Operand) (hop : o.op = Op.call { callee := Callee.builtin Builtin.append, args := #[s, x], argTypes := #[26, 26] }) (hty : o.type = 26)
    (v xv v' : Value) (w' : World) (hs : a.eval s = v) (hx : a.eval x = xv) (hrun : (Builtin.append_ #[26, 26] 26 #[v, xv]).run Tryz.prog w = .ok v' w') (hK : K (a.put o.dst v') w') :
    if Region.wanted o (yielded ops a.tmps) = true then Oper.wp Tryz.prog o a w K Q else E := by
  have hw : Region.wanted o (yielded ops a.tmps) = true := by simp [Region.wanted, hg]
  rw [if_pos hw]
  unfold Oper.wp
  simp [execOp, hop, hty, resolve, invoke, builtin, hs, hx, hrun, Result.andThen]
  exact hK
theorem own_base_ref {w : World} {B : Nat} {v : Value} {n : Nat} {xs : List Value} (h : w.ownsRow B 35 4 v n xs) : ∀ k, v.ownBlock = some k → B ≤ k := by
  intro k hk
  obtain ⟨_, ⟨rfl, _⟩ | ⟨g', cap', cur, rfl, hg, _⟩⟩ := h
  · simp [Value.ownBlock] at hk
  · simp only [Value.ownBlock, Option.some.injEq] at hk
    omega
/-- behind the region that appends: the lemma of its worlds. -/
structure AppW (B T : Nat) (v : Value) (sp : List Sp) (a t : Nat) (x y : List UInt8) (g : Bool) (W wa : World) (ga capa : Nat) : Prop where
  run : (Builtin.append_ #[26, 26] 26 #[v, .slice (some ⟨W.heap.size, 0, none⟩) 1 1]).run Tryz.prog (W.alloc (.cells #[.int .i64 (a : Int), .int .i64 (t : Int), .string ⟨x.toArray⟩, .string ⟨y.toArray⟩] 35)) = .ok (.slice (some ⟨ga, 0, none⟩) (sp.length + 1) capa) wa
  sA : (W.alloc (.cells #[.int .i64 (a : Int), .int .i64 (t : Int), .string ⟨x.toArray⟩, .string ⟨y.toArray⟩] 35)).cell? ⟨B, 0, none⟩ = some v ∧ (W.alloc (.cells #[.int .i64 (a : Int), .int .i64 (t : Int), .string ⟨x.toArray⟩, .string ⟨y.toArray⟩] 35)).cell? ⟨T, 0, none⟩ = some (.string ⟨x.toArray⟩) ∧ (W.alloc (.cells #[.int .i64 (a : Int), .int .i64 (t : Int), .string ⟨x.toArray⟩, .string ⟨y.toArray⟩] 35)).cell? ⟨T, 1, none⟩ = some (.string ⟨y.toArray⟩)
  s6 : wa.cell? ⟨B, 0, none⟩ = some v ∧ wa.cell? ⟨T, 0, none⟩ = some (.string ⟨x.toArray⟩) ∧ wa.cell? ⟨T, 1, none⟩ = some (.string ⟨y.toArray⟩)
  f6 : wa.frozen? ⟨B, 0, none⟩ = false
  ro : RO B (sp ++ [(a, t, x, y)], g) (wa.setCell ⟨B, 0, none⟩ (.slice (some ⟨ga, 0, none⟩) (sp.length + 1) capa))
  below : Below B W (wa.setCell ⟨B, 0, none⟩ (.slice (some ⟨ga, 0, none⟩) (sp.length + 1) capa))
theorem appW {B T : Nat} {v : Value} {sp : List Sp} (a t : Nat) {x y : List UInt8} {g : Bool} {W : World} (h : RR B v g W) (ho : W.ownsRow (B + 1) 35 4 v sp.length (spsC sp)) (hst : sp.length ≤ 1000000000000)
    (hT : Two T (.string ⟨x.toArray⟩) (.string ⟨y.toArray⟩) W) (hne : v.ownBlock ≠ some T) : ∃ wa ga capa, AppW B T v sp a t x y g W wa ga capa := by
  obtain ⟨ga, capa, wa, hrun, hown, hgr⟩ := app_ref_eq W (B + 1) v sp.length (spsC sp) ho (.int .i64 (a : Int)) (.int .i64 (t : Int)) (.string ⟨x.toArray⟩) (.string ⟨y.toArray⟩) (by simp [Value.oneCell']) (by omega) h.lt
  have hA := h.below (alloc_below W (.cells #[.int .i64 (a : Int), .int .i64 (t : Int), .string ⟨x.toArray⟩, .string ⟨y.toArray⟩] 35))
  have hTA := hT.below (alloc_below W (.cells #[.int .i64 (a : Int), .int .i64 (t : Int), .string ⟨x.toArray⟩, .string ⟨y.toArray⟩] 35))
  have h6 := hA.grown hgr (own_base_ref ho)
  have hTb := hgr.block T hTA.lt (fun e => hne e.symm)
  have hTb := hgr.block T hTA.lt (fun e => hne e.symm)
  refine ⟨wa, ga, capa, hrun, ⟨hA.c0, hTA.c0, hTA.c1⟩, ⟨h6.c0, (World.cell?_of_block (w := W.alloc _) hTb).trans hTA.c0, (World.cell?_of_block (w := W.alloc _) hTb).trans hTA.c1⟩, h6.fr 0 (by decide), ⟨_, h6.spots _, ?_⟩, ?_⟩
  · have := own_set (o := 0) (u := .slice (some ⟨ga, 0, none⟩) (sp.length + 1) capa) hown
    simp only [List.length_append, List.length_cons, List.length_nil, Nat.zero_add]
    rw [spsC_snoc]
    exact this
  · have h7 := (Below.refl B W).alloc (Nat.le_of_lt h.lt) (.cells #[.int .i64 (a : Int), .int .i64 (t : Int), .string ⟨x.toArray⟩, .string ⟨y.toArray⟩] 35)
    have h8 := h7.grown hgr (by rw [World.size_alloc]; exact Nat.le_succ_of_le (Nat.le_of_lt h.lt)) (fun k hk => Nat.le_of_succ_le (own_base_ref ho k hk))
    exact h8.setCell (p := ⟨B, 0, none⟩) (Nat.le_refl _) _
set_option maxHeartbeats 4000000 in
theorem address_any (B : Nat) (s : ByteArray) (a b : Nat) (st : LSt) (w : World) (h : RO B st w) (hb : b ≤ s.size) (hs : s.size ≤ 900000000) (hst : st.1.length ≤ 1000000000000) :
    Calls Tryz.prog 125 #[.pointer (some ⟨B, 0, none⟩), .string s, .int .i64 (a : Int), .int .i64 (b : Int)] w fun e w' => e = .returned (.int .i64 (endP (addrE s.data.toList a b st))) ∧ AdP B (addrE s.data.toList a b st) w' ∧ Below B w w' := by
  obtain ⟨v, h, hown⟩ := h
  obtain ⟨sp, g⟩ := st
  simp only at h hown hst
  have HR := Lib.hid h
  have HO := Lib.hid hown
  clear h hown
  have HA := Lib.hid (fun W => at_ref s b (by omega) (by omega) W)
  have hN : addrE s.data.toList a b (sp, g) = addrE s.data.toList a b (sp, g) := rfl
  conv at hN => rhs; unfold addrE
  generalize addrE s.data.toList a b (sp, g) = R at hN ⊢
  by_cases hab : b ≤ a
  · have hab1 : (b : Int) ≤ (a : Int) := by omega
    rw [if_pos hab] at hN
    have HN := Lib.hid hN
    clear hN hab
    go_enter Tryz.func125, Tryz.ntmps125
    go_wp2
    go_ret
    rw [HN.out]
    exact ⟨rfl, trivial, Below.refl _ _⟩
  · have hab1 : ¬ (b : Int) ≤ (a : Int) := by omega
    rw [if_neg hab] at hN
    by_cases h64 : s.data.toList[b]? = some 64
    · rw [if_neg (by simp [h64])] at hN
      rw [nextB_yes h64] at HA
      have hq : (((64 : UInt8).toNat : Int) != 64) = false := rfl
      have hbl := at_lt h64
      rw [list_len] at hbl
      have hwb : IntKind.i64.wrap ((b : Int) + 1) = ((b + 1 : Nat) : Int) := by rw [IntKind.wrap_i64]; omega
      have HD := Lib.hid (fun W => domain_ref2 s (b + 1) (by omega) hs W)
      cases hdom : domE s.data.toList (b + 1) with
      | none =>
        rw [hdom] at hN HD
        simp only [endI] at HD hN
        have HN := Lib.hid hN
        clear hN hdom h64
        go_enter Tryz.func125, Tryz.ntmps125
        go_wp2_with fail
        refine (HA.out _).mono ?_
        rintro e w2 ⟨rfl, hw2⟩
        rw [hw2]
        clear hw2
        go_wp2_with fail
        refine (HD.out _).mono ?_
        rintro e w3 ⟨rfl, hw3⟩
        rw [hw3]
        clear hw3
        go_wp2
        go_ret
        rw [HN.out]
        exact ⟨rfl, trivial, Below.refl _ _⟩
      | some t =>
        have hdl := domE_le (l := s.data.toList) (k := b + 1) (by rw [list_len]; omega) hdom
        rw [list_len] at hdl
        rw [hdom] at hN HD
        simp only [endI] at HD hN
        have ha0 : (0 : Int) ≤ (a : Int) := by omega
        have hat : (a : Int) ≤ (t : Int) := by omega
        have hts : (t : Int) ≤ (s.size : Int) := by omega
        have ht0 : ¬ (t : Int) < 0 := by omega
        have HP := Lib.hid (fun W => Parse_ref (s.extract a t) (by simp; omega) W)
        rw [slc_ext] at HP
        have her := parse_errs (slc s.data.toList a t)
        generalize parseL (slc s.data.toList a t) = X at HP hN her
        obtain ⟨x, y, er⟩ := X
        simp only [parV, addrV] at HP hN her
        rcases her with rfl | rfl | rfl
        · rw [if_neg (by decide)] at hN
          simp only [bne_self_eq_false, Bool.or_false] at hN
          have HN := Lib.hid hN
          clear hN hdom h64
          go_enter Tryz.func125, Tryz.ntmps125
          go_wp2_with fail
          refine (HA.out _).mono ?_
          rintro e w2 ⟨rfl, hw2⟩
          rw [hw2]
          clear hw2
          go_wp2_with fail
          refine (HD.out _).mono ?_
          rintro e w3 ⟨rfl, hw3⟩
          rw [hw3]
          clear hw3
          go_wp2_with fail
          refine (HP.out _).mono ?_
          rintro e w4 ⟨rfl, hb4⟩
          have hbA := alloc_below w4 (.cells #[.string ⟨x.toArray⟩, .string ⟨y.toArray⟩] 33)
          have hT0 := Two.made w4 (.string ⟨x.toArray⟩) (.string ⟨y.toArray⟩) 33
          have hR4 := HR.out.below hb4
          have hO4 := own_but HO.out (But.of_below (B := B) hb4)
          have hneT : v.ownBlock ≠ some w4.heap.size := fun e => by
            have := (World.ownsRow.lt hO4 _ e).2
            omega
          have hTB : B ≠ w4.heap.size := by have := hR4.lt; omega
          have hRA := hR4.below hbA
          have hOA := own_but hO4 (But.of_below (B := B) hbA)
          have hlA := (hb4.mono (Nat.le_of_lt HR.out.lt)).trans (hbA.mono (Nat.le_of_lt hR4.lt))
          generalize hTn : w4.heap.size = T at *
          go_wp2_with fail
          generalize hWX : (w4.alloc (.cells #[.string ⟨x.toArray⟩, .string ⟨y.toArray⟩] 33)) = WX at *
          have HRX := Lib.hid (hRA.below (drew_below WX))
          have HOX := Lib.hid (own_but hOA (But.of_below (B := B) (drew_below WX)))
          have HTX := Lib.hid (hT0.below (drew_below WX))
          have HLX := Lib.hid (hlA.drew)
          obtain ⟨wa, ga, capa, hW⟩ := appW a t HRX.out HOX.out hst HTX.out hneT
          have HW := Lib.hid hW
          have hS : WX.drew.cell? ⟨B, 0, none⟩ = some v ∧ WX.drew.cell? ⟨T, 0, none⟩ = some (.string ⟨x.toArray⟩) ∧ WX.drew.cell? ⟨T, 1, none⟩ = some (.string ⟨y.toArray⟩) := ⟨HRX.out.c0, HTX.out.c0, HTX.out.c1⟩
          clear hW
          refine wp_region_marked (S := (fun W => W.cell? ⟨B, 0, none⟩ = some v ∧ W.cell? ⟨T, 0, none⟩ = some (.string ⟨x.toArray⟩) ∧ W.cell? ⟨T, 1, none⟩ = some (.string ⟨y.toArray⟩))) 13 (by kernel_rfl) hS (fun hHeld => ?_)
          refine wpAnyM_take (i := 0) (oi := _) (v := .pointer (some ⟨B, 0, none⟩)) rfl (by kernel_rfl) (by kernel_rfl) (by kernel_rfl) (fun _ _ _ h => h) (by kernel_rfl) (by kernel_rfl) (Or.inl ⟨by kernel_rfl, ?_⟩) (by assumption) ?_
          · (intro w hSw; (try dsimp only at hSw); go_simp)
          try simp only [List.getElem_toArray, List.getElem_cons_zero, List.getElem_cons_succ, Act.put, List.setIfInBounds_toArray, List.set_cons_zero, List.set_cons_succ]
          refine wpAnyM_take (i := 1) (oi := _) (v := .pointer (some ⟨B, 0, none⟩)) rfl (by kernel_rfl) (by kernel_rfl) (by kernel_rfl) (fun _ _ _ h => h) (by kernel_rfl) (by kernel_rfl) (Or.inl ⟨by kernel_rfl, ?_⟩) (by assumption) ?_
          · (intro w hSw; (try dsimp only at hSw); go_simp)
          try simp only [List.getElem_toArray, List.getElem_cons_zero, List.getElem_cons_succ, Act.put, List.setIfInBounds_toArray, List.set_cons_zero, List.set_cons_succ]
          refine wpAnyM_take (i := 2) (oi := _) (v := .pointer (some ⟨B, 0, none⟩)) rfl (by kernel_rfl) (by kernel_rfl) (by kernel_rfl) (fun _ _ _ h => h) (by kernel_rfl) (by kernel_rfl) (Or.inl ⟨by kernel_rfl, ?_⟩) (by assumption) ?_
          · (intro w hSw; (try dsimp only at hSw); go_simp)
          try simp only [List.getElem_toArray, List.getElem_cons_zero, List.getElem_cons_succ, Act.put, List.setIfInBounds_toArray, List.set_cons_zero, List.set_cons_succ]
          refine wpAnyM_take (i := 3) (oi := _) (v := .pointer (some ⟨B, 0, none⟩)) rfl (by kernel_rfl) (by kernel_rfl) (by kernel_rfl) (fun _ _ _ h => h) (by kernel_rfl) (by kernel_rfl) (Or.inl ⟨by kernel_rfl, ?_⟩) (by assumption) ?_
          · (intro w hSw; (try dsimp only at hSw); go_simp)
          try simp only [List.getElem_toArray, List.getElem_cons_zero, List.getElem_cons_succ, Act.put, List.setIfInBounds_toArray, List.set_cons_zero, List.set_cons_succ]
          refine wpAnyM_take (i := 4) (oi := _) (v := v) rfl (by kernel_rfl) (by kernel_rfl) (by kernel_rfl) (fun _ _ _ h => h) (by kernel_rfl) (by kernel_rfl) (Or.inl ⟨by kernel_rfl, ?_⟩) (by assumption) ?_
          · (intro w hSw; (try dsimp only at hSw); go_simp)
          try simp only [List.getElem_toArray, List.getElem_cons_zero, List.getElem_cons_succ, Act.put, List.setIfInBounds_toArray, List.set_cons_zero, List.set_cons_succ]
          refine wpAnyM_take (i := 5) (oi := _) (v := .int .i64 (a : Int)) rfl (by kernel_rfl) (by kernel_rfl) (by kernel_rfl) (fun _ _ _ h => h) (by kernel_rfl) (by kernel_rfl) (Or.inl ⟨by kernel_rfl, ?_⟩) (by assumption) ?_
          · (intro w hSw; (try dsimp only at hSw); go_simp)
          try simp only [List.getElem_toArray, List.getElem_cons_zero, List.getElem_cons_succ, Act.put, List.setIfInBounds_toArray, List.set_cons_zero, List.set_cons_succ]
          refine wpAnyM_take (i := 6) (oi := _) (v := .int .i64 (t : Int)) rfl (by kernel_rfl) (by kernel_rfl) (by kernel_rfl) (fun _ _ _ h => h) (by kernel_rfl) (by kernel_rfl) (Or.inl ⟨by kernel_rfl, ?_⟩) (by assumption) ?_
          · (intro w hSw; (try dsimp only at hSw); go_simp)
          try simp only [List.getElem_toArray, List.getElem_cons_zero, List.getElem_cons_succ, Act.put, List.setIfInBounds_toArray, List.set_cons_zero, List.set_cons_succ]
          refine wpAnyM_take (i := 7) (oi := _) (v := .agg #[.string ⟨x.toArray⟩, .string ⟨y.toArray⟩]) rfl (by kernel_rfl) (by kernel_rfl) (by kernel_rfl) (fun _ _ _ h => h) (by kernel_rfl) (by kernel_rfl) (Or.inl ⟨by kernel_rfl, ?_⟩) (by assumption) ?_
          · (intro w hSw; (try dsimp only at hSw); go_simp)
          try simp only [List.getElem_toArray, List.getElem_cons_zero, List.getElem_cons_succ, Act.put, List.setIfInBounds_toArray, List.set_cons_zero, List.set_cons_succ]
          refine wpAnyM_take (i := 8) (oi := _) (v := .agg #[.int .i64 (a : Int), .int .i64 (t : Int), .string ⟨x.toArray⟩, .string ⟨y.toArray⟩]) rfl (by kernel_rfl) (by kernel_rfl) (by kernel_rfl) (fun _ _ _ h => h) (by kernel_rfl) (by kernel_rfl) (Or.inl ⟨by kernel_rfl, ?_⟩) (by assumption) ?_
          · (intro w hSw; (try dsimp only at hSw); go_simp)
          try simp only [List.getElem_toArray, List.getElem_cons_zero, List.getElem_cons_succ, Act.put, List.setIfInBounds_toArray, List.set_cons_zero, List.set_cons_succ]
          refine wpAnyM_one (i := 9) (o := _) rfl (by kernel_rfl) (fun K hK => ?_)
          go_simp
          refine hK.out _ _ (fun _ => HW.out.sA) (fun hHeld => ?_)
          clear hK K
          try have hHeld := hHeld (by decide)
          try simp only [List.getElem_toArray, List.getElem_cons_zero, List.getElem_cons_succ, Act.put, List.setIfInBounds_toArray, List.set_cons_zero, List.set_cons_succ]
          refine wpAnyM_one (i := 10) (o := _) rfl (by kernel_rfl) (fun K hK => ?_)
          refine step_append_ref rfl _ _ rfl rfl _ _ _ _ rfl rfl HW.out.run ?_
          refine hK.out _ _ (fun _ => HW.out.s6) (fun hHeld => ?_)
          clear hK K
          try have hHeld := hHeld (by decide)
          try simp only [List.getElem_toArray, List.getElem_cons_zero, List.getElem_cons_succ, Act.put, List.setIfInBounds_toArray, List.set_cons_zero, List.set_cons_succ]
          refine wpAnyM_take (i := 11) (oi := _) (v := .pointer (some ⟨B, 0, none⟩)) rfl (by kernel_rfl) (by kernel_rfl) (by kernel_rfl) (fun _ _ _ h => h) (by kernel_rfl) (by kernel_rfl) (Or.inl ⟨by kernel_rfl, ?_⟩) (by assumption) ?_
          · (intro w hSw; (try dsimp only at hSw); go_simp)
          try simp only [List.getElem_toArray, List.getElem_cons_zero, List.getElem_cons_succ, Act.put, List.setIfInBounds_toArray, List.set_cons_zero, List.set_cons_succ]
          refine wpAnyM_take (i := 12) (oi := _) (v := .pointer (some ⟨B, 0, none⟩)) rfl (by kernel_rfl) (by kernel_rfl) (by kernel_rfl) (fun _ _ _ h => h) (by kernel_rfl) (by kernel_rfl) (Or.inl ⟨by kernel_rfl, ?_⟩) (by assumption) ?_
          · (intro w hSw; (try dsimp only at hSw); go_simp)
          try simp only [List.getElem_toArray, List.getElem_cons_zero, List.getElem_cons_succ, Act.put, List.setIfInBounds_toArray, List.set_cons_zero, List.set_cons_succ]
          refine wpAnyM_one (i := 13) (o := _) rfl (by kernel_rfl) (fun K hK => ?_)
          have c6 := HW.out.s6.1
          have f6 := HW.out.f6
          go_simp
          refine hK.out _ _ (fun h => absurd rfl h) (fun hHeld => ?_)
          clear hK K
          try have hHeld := hHeld (by decide)
          try simp only [List.getElem_toArray, List.getElem_cons_zero, List.getElem_cons_succ, Act.put, List.setIfInBounds_toArray, List.set_cons_zero, List.set_cons_succ]
          refine wpAnyM_done (by kernel_rfl) ?_ _
          go_wp2
          go_ret
          rw [HN.out]
          exact ⟨rfl, HW.out.ro, HLX.out.trans HW.out.below⟩
        · rw [if_neg (by decide)] at hN
          have hN2 : R = some (t, sp ++ [(a, t, x, y)], true) := by rw [hN]; simp
          have HN := Lib.hid hN2
          clear hN hN2 hdom h64
          go_enter Tryz.func125, Tryz.ntmps125
          go_wp2_with fail
          refine (HA.out _).mono ?_
          rintro e w2 ⟨rfl, hw2⟩
          rw [hw2]
          clear hw2
          go_wp2_with fail
          refine (HD.out _).mono ?_
          rintro e w3 ⟨rfl, hw3⟩
          rw [hw3]
          clear hw3
          go_wp2_with fail
          refine (HP.out _).mono ?_
          rintro e w4 ⟨rfl, hb4⟩
          have hbA := alloc_below w4 (.cells #[.string ⟨x.toArray⟩, .string ⟨y.toArray⟩] 33)
          have hT0 := Two.made w4 (.string ⟨x.toArray⟩) (.string ⟨y.toArray⟩) 33
          have hR4 := HR.out.below hb4
          have hO4 := own_but HO.out (But.of_below (B := B) hb4)
          have hneT : v.ownBlock ≠ some w4.heap.size := fun e => by
            have := (World.ownsRow.lt hO4 _ e).2
            omega
          have hTB : B ≠ w4.heap.size := by have := hR4.lt; omega
          have hRA := hR4.below hbA
          have hOA := own_but hO4 (But.of_below (B := B) hbA)
          have hlA := (hb4.mono (Nat.le_of_lt HR.out.lt)).trans (hbA.mono (Nat.le_of_lt hR4.lt))
          have c1 := hRA.c1
          have f1 := hRA.fr 1 (by decide)
          have hRB := hRA.long_ true
          have hOB := own_set (o := 1) (u := .bool true) hOA
          have hTBB := hT0.far (o := 1) (v := .bool true) (Ne.symm hTB)
          have hlB := hlA.setCell (p := ⟨B, 1, none⟩) (Nat.le_refl _) (.bool true)
          generalize hTn : w4.heap.size = T at *
          go_wp2_with fail
          generalize hWX : ((w4.alloc (.cells #[.string ⟨x.toArray⟩, .string ⟨y.toArray⟩] 33)).setCell ⟨B, 1, none⟩ (.bool true)) = WX at *
          have HRX := Lib.hid (hRB.below (drew_below WX))
          have HOX := Lib.hid (own_but hOB (But.of_below (B := B) (drew_below WX)))
          have HTX := Lib.hid (hTBB.below (drew_below WX))
          have HLX := Lib.hid (hlB.drew)
          obtain ⟨wa, ga, capa, hW⟩ := appW a t HRX.out HOX.out hst HTX.out hneT
          have HW := Lib.hid hW
          have hS : WX.drew.cell? ⟨B, 0, none⟩ = some v ∧ WX.drew.cell? ⟨T, 0, none⟩ = some (.string ⟨x.toArray⟩) ∧ WX.drew.cell? ⟨T, 1, none⟩ = some (.string ⟨y.toArray⟩) := ⟨HRX.out.c0, HTX.out.c0, HTX.out.c1⟩
          clear hW
          refine wp_region_marked (S := (fun W => W.cell? ⟨B, 0, none⟩ = some v ∧ W.cell? ⟨T, 0, none⟩ = some (.string ⟨x.toArray⟩) ∧ W.cell? ⟨T, 1, none⟩ = some (.string ⟨y.toArray⟩))) 13 (by kernel_rfl) hS (fun hHeld => ?_)
          refine wpAnyM_take (i := 0) (oi := _) (v := .pointer (some ⟨B, 0, none⟩)) rfl (by kernel_rfl) (by kernel_rfl) (by kernel_rfl) (fun _ _ _ h => h) (by kernel_rfl) (by kernel_rfl) (Or.inl ⟨by kernel_rfl, ?_⟩) (by assumption) ?_
          · (intro w hSw; (try dsimp only at hSw); go_simp)
          try simp only [List.getElem_toArray, List.getElem_cons_zero, List.getElem_cons_succ, Act.put, List.setIfInBounds_toArray, List.set_cons_zero, List.set_cons_succ]
          refine wpAnyM_take (i := 1) (oi := _) (v := .pointer (some ⟨B, 0, none⟩)) rfl (by kernel_rfl) (by kernel_rfl) (by kernel_rfl) (fun _ _ _ h => h) (by kernel_rfl) (by kernel_rfl) (Or.inl ⟨by kernel_rfl, ?_⟩) (by assumption) ?_
          · (intro w hSw; (try dsimp only at hSw); go_simp)
          try simp only [List.getElem_toArray, List.getElem_cons_zero, List.getElem_cons_succ, Act.put, List.setIfInBounds_toArray, List.set_cons_zero, List.set_cons_succ]
          refine wpAnyM_take (i := 2) (oi := _) (v := .pointer (some ⟨B, 0, none⟩)) rfl (by kernel_rfl) (by kernel_rfl) (by kernel_rfl) (fun _ _ _ h => h) (by kernel_rfl) (by kernel_rfl) (Or.inl ⟨by kernel_rfl, ?_⟩) (by assumption) ?_
          · (intro w hSw; (try dsimp only at hSw); go_simp)
          try simp only [List.getElem_toArray, List.getElem_cons_zero, List.getElem_cons_succ, Act.put, List.setIfInBounds_toArray, List.set_cons_zero, List.set_cons_succ]
          refine wpAnyM_take (i := 3) (oi := _) (v := .pointer (some ⟨B, 0, none⟩)) rfl (by kernel_rfl) (by kernel_rfl) (by kernel_rfl) (fun _ _ _ h => h) (by kernel_rfl) (by kernel_rfl) (Or.inl ⟨by kernel_rfl, ?_⟩) (by assumption) ?_
          · (intro w hSw; (try dsimp only at hSw); go_simp)
          try simp only [List.getElem_toArray, List.getElem_cons_zero, List.getElem_cons_succ, Act.put, List.setIfInBounds_toArray, List.set_cons_zero, List.set_cons_succ]
          refine wpAnyM_take (i := 4) (oi := _) (v := v) rfl (by kernel_rfl) (by kernel_rfl) (by kernel_rfl) (fun _ _ _ h => h) (by kernel_rfl) (by kernel_rfl) (Or.inl ⟨by kernel_rfl, ?_⟩) (by assumption) ?_
          · (intro w hSw; (try dsimp only at hSw); go_simp)
          try simp only [List.getElem_toArray, List.getElem_cons_zero, List.getElem_cons_succ, Act.put, List.setIfInBounds_toArray, List.set_cons_zero, List.set_cons_succ]
          refine wpAnyM_take (i := 5) (oi := _) (v := .int .i64 (a : Int)) rfl (by kernel_rfl) (by kernel_rfl) (by kernel_rfl) (fun _ _ _ h => h) (by kernel_rfl) (by kernel_rfl) (Or.inl ⟨by kernel_rfl, ?_⟩) (by assumption) ?_
          · (intro w hSw; (try dsimp only at hSw); go_simp)
          try simp only [List.getElem_toArray, List.getElem_cons_zero, List.getElem_cons_succ, Act.put, List.setIfInBounds_toArray, List.set_cons_zero, List.set_cons_succ]
          refine wpAnyM_take (i := 6) (oi := _) (v := .int .i64 (t : Int)) rfl (by kernel_rfl) (by kernel_rfl) (by kernel_rfl) (fun _ _ _ h => h) (by kernel_rfl) (by kernel_rfl) (Or.inl ⟨by kernel_rfl, ?_⟩) (by assumption) ?_
          · (intro w hSw; (try dsimp only at hSw); go_simp)
          try simp only [List.getElem_toArray, List.getElem_cons_zero, List.getElem_cons_succ, Act.put, List.setIfInBounds_toArray, List.set_cons_zero, List.set_cons_succ]
          refine wpAnyM_take (i := 7) (oi := _) (v := .agg #[.string ⟨x.toArray⟩, .string ⟨y.toArray⟩]) rfl (by kernel_rfl) (by kernel_rfl) (by kernel_rfl) (fun _ _ _ h => h) (by kernel_rfl) (by kernel_rfl) (Or.inl ⟨by kernel_rfl, ?_⟩) (by assumption) ?_
          · (intro w hSw; (try dsimp only at hSw); go_simp)
          try simp only [List.getElem_toArray, List.getElem_cons_zero, List.getElem_cons_succ, Act.put, List.setIfInBounds_toArray, List.set_cons_zero, List.set_cons_succ]
          refine wpAnyM_take (i := 8) (oi := _) (v := .agg #[.int .i64 (a : Int), .int .i64 (t : Int), .string ⟨x.toArray⟩, .string ⟨y.toArray⟩]) rfl (by kernel_rfl) (by kernel_rfl) (by kernel_rfl) (fun _ _ _ h => h) (by kernel_rfl) (by kernel_rfl) (Or.inl ⟨by kernel_rfl, ?_⟩) (by assumption) ?_
          · (intro w hSw; (try dsimp only at hSw); go_simp)
          try simp only [List.getElem_toArray, List.getElem_cons_zero, List.getElem_cons_succ, Act.put, List.setIfInBounds_toArray, List.set_cons_zero, List.set_cons_succ]
          refine wpAnyM_one (i := 9) (o := _) rfl (by kernel_rfl) (fun K hK => ?_)
          go_simp
          refine hK.out _ _ (fun _ => HW.out.sA) (fun hHeld => ?_)
          clear hK K
          try have hHeld := hHeld (by decide)
          try simp only [List.getElem_toArray, List.getElem_cons_zero, List.getElem_cons_succ, Act.put, List.setIfInBounds_toArray, List.set_cons_zero, List.set_cons_succ]
          refine wpAnyM_one (i := 10) (o := _) rfl (by kernel_rfl) (fun K hK => ?_)
          refine step_append_ref rfl _ _ rfl rfl _ _ _ _ rfl rfl HW.out.run ?_
          refine hK.out _ _ (fun _ => HW.out.s6) (fun hHeld => ?_)
          clear hK K
          try have hHeld := hHeld (by decide)
          try simp only [List.getElem_toArray, List.getElem_cons_zero, List.getElem_cons_succ, Act.put, List.setIfInBounds_toArray, List.set_cons_zero, List.set_cons_succ]
          refine wpAnyM_take (i := 11) (oi := _) (v := .pointer (some ⟨B, 0, none⟩)) rfl (by kernel_rfl) (by kernel_rfl) (by kernel_rfl) (fun _ _ _ h => h) (by kernel_rfl) (by kernel_rfl) (Or.inl ⟨by kernel_rfl, ?_⟩) (by assumption) ?_
          · (intro w hSw; (try dsimp only at hSw); go_simp)
          try simp only [List.getElem_toArray, List.getElem_cons_zero, List.getElem_cons_succ, Act.put, List.setIfInBounds_toArray, List.set_cons_zero, List.set_cons_succ]
          refine wpAnyM_take (i := 12) (oi := _) (v := .pointer (some ⟨B, 0, none⟩)) rfl (by kernel_rfl) (by kernel_rfl) (by kernel_rfl) (fun _ _ _ h => h) (by kernel_rfl) (by kernel_rfl) (Or.inl ⟨by kernel_rfl, ?_⟩) (by assumption) ?_
          · (intro w hSw; (try dsimp only at hSw); go_simp)
          try simp only [List.getElem_toArray, List.getElem_cons_zero, List.getElem_cons_succ, Act.put, List.setIfInBounds_toArray, List.set_cons_zero, List.set_cons_succ]
          refine wpAnyM_one (i := 13) (o := _) rfl (by kernel_rfl) (fun K hK => ?_)
          have c6 := HW.out.s6.1
          have f6 := HW.out.f6
          go_simp
          refine hK.out _ _ (fun h => absurd rfl h) (fun hHeld => ?_)
          clear hK K
          try have hHeld := hHeld (by decide)
          try simp only [List.getElem_toArray, List.getElem_cons_zero, List.getElem_cons_succ, Act.put, List.setIfInBounds_toArray, List.set_cons_zero, List.set_cons_succ]
          refine wpAnyM_done (by kernel_rfl) ?_ _
          go_wp2
          go_ret
          rw [HN.out]
          exact ⟨rfl, HW.out.ro, HLX.out.trans HW.out.below⟩
        · rw [if_pos rfl] at hN
          have HN := Lib.hid hN
          clear hN hdom h64
          go_enter Tryz.func125, Tryz.ntmps125
          go_wp2_with fail
          refine (HA.out _).mono ?_
          rintro e w2 ⟨rfl, hw2⟩
          rw [hw2]
          clear hw2
          go_wp2_with fail
          refine (HD.out _).mono ?_
          rintro e w3 ⟨rfl, hw3⟩
          rw [hw3]
          clear hw3
          go_wp2_with fail
          refine (HP.out _).mono ?_
          rintro e w4 ⟨rfl, hb4⟩
          have hbA := alloc_below w4 (.cells #[.string ⟨x.toArray⟩, .string ⟨y.toArray⟩] 33)
          have HL := Lib.hid ((hb4.mono (Nat.le_of_lt HR.out.lt)).trans (hbA.mono (Nat.le_of_lt (Nat.lt_of_lt_of_le HR.out.lt hb4.size))))
          go_wp2
          go_ret
          rw [HN.out]
          exact ⟨rfl, trivial, HL.out⟩
    · rw [if_pos (by simpa using h64)] at hN
      have hq : ((nextB s.data.toList b : Int) != 64) = true := by have := int_ne (nextB_no h64 (by decide)); simpa [bne] using this
      generalize nextB s.data.toList b = nb at HA hq
      have HN := Lib.hid hN
      clear hN h64
      go_enter Tryz.func125, Tryz.ntmps125
      go_wp2_with fail
      refine (HA.out _).mono ?_
      rintro e w2 ⟨rfl, hw2⟩
      rw [hw2]
      clear hw2
      go_wp2
      go_ret
      rw [HN.out]
      exact ⟨rfl, trivial, Below.refl _ _⟩
end Go.Proofs.YtffngbjnbigipaaGreatDoor

/- The document's lists: its function route. -/
namespace Go.Proofs.YtffngbjnbigipaaGreatDoor
open Go.RowKit Go.Lib
set_option linter.unusedSimpArgs false
set_option linter.unusedVariables false
set_option linter.unnecessarySimpa false
set_option maxRecDepth 100000

/-- a route's end as an address' end. -/
def rouP (sp : List Sp) : Option (Nat × Bool) → Option (Nat × LSt)
  | none => none
  | some (n, g) => some (n, (sp, g))
def RoRel (B : Nat) (s : ByteArray) (sp : List Sp) (R : Option (Nat × Bool)) (w : World) (n : Nat) (v2 : Value) (W : World) : Prop :=
  Below B w W ∧ ∃ (f i : Nat) (g : Bool), v2 = .int .i64 (i : Int) ∧ i ≤ s.size ∧ n = s.size + 1 - i ∧ routeE f s.data.toList i g = R ∧ RO B (sp, g) W ∧ s.size - i < f
set_option maxHeartbeats 4000000 in
theorem route_ref (B : Nat) (s : ByteArray) (k : Nat) (sp : List Sp) (g : Bool) (w : World) (h : RO B (sp, g) w) (hk : k ≤ s.size) (hs : s.size ≤ 900000000) :
    Calls Tryz.prog 162 #[.pointer (some ⟨B, 0, none⟩), .string s, .int .i64 (k : Int)] w fun e w' => e = .returned (.int .i64 (endP (rouP sp (routeE (s.data.toList.length + 1) s.data.toList k g)))) ∧ AdP B (rouP sp (routeE (s.data.toList.length + 1) s.data.toList k g)) w' ∧ Below B w w' := by
  generalize hRR : routeE (s.data.toList.length + 1) s.data.toList k g = R
  have HR := Lib.hid hRR
  have HH := Lib.hid h
  clear hRR h
  go_enter Tryz.func162, Tryz.ntmps162
  go_wp2_with fail
  go_loopg [2, 7, 8, 9] (s.size + 1 - k) (fun n v2 v7 v8 v9 W => RoRel B s sp R w n v2 W)
  case atStart => exact ⟨Below.refl _ _, s.data.toList.length + 1, k, g, rfl, hk, rfl, HR.out, HH.out, by rw [list_len]; omega⟩
  case round =>
    obtain ⟨hb, f, i, g, rfl, hi, hn, hR, hr, hf⟩ := hrel
    have HB := Lib.hid hb
    have HN0 := Lib.hid hn
    have HR0 := Lib.hid hr
    obtain ⟨f, rfl⟩ : ∃ m, f = m + 1 := ⟨f - 1, by omega⟩
    have HF := Lib.hid hf
    rw [routeE] at hR
    have HA := Lib.hid (fun W => at_ref s i (by omega) (by omega) W)
    clear hn hf hb hr
    by_cases h64 : s.data.toList[i]? = some 64
    · rw [if_neg (by simp [h64])] at hR
      rw [nextB_yes h64] at HA
      have hq : (((64 : UInt8).toNat : Int) != 64) = false := rfl
      have hil := at_lt h64
      rw [list_len] at hil
      have hwb : IntKind.i64.wrap ((i : Int) + 1) = ((i + 1 : Nat) : Int) := by rw [IntKind.wrap_i64]; omega
      have HD := Lib.hid (fun W => domain_ref2 s (i + 1) (by omega) hs W)
      cases hdom : domE s.data.toList (i + 1) with
      | none =>
        rw [hdom] at hR HD
        simp only [endI] at HD hR
        have HRN := Lib.hid hR
        clear hR hdom h64
        go_wp2_with fail
        refine (HA.out _).mono ?_
        rintro e w2 ⟨rfl, hw2⟩
        rw [hw2]
        clear hw2
        go_wp2_with fail
        refine (HD.out _).mono ?_
        rintro e w3 ⟨rfl, hw3⟩
        rw [hw3]
        clear hw3
        go_wp2
        go_ret
        rw [← HRN.out]
        exact ⟨rfl, trivial, HB.out⟩
      | some t =>
        have hdl := domE_le (l := s.data.toList) (k := i + 1) (by rw [list_len]; omega) hdom
        rw [list_len] at hdl
        rw [hdom] at hR HD
        simp only [endI] at HD hR
        have hi0 : (0 : Int) ≤ (i : Int) := by omega
        have hit : (i : Int) ≤ (t : Int) := by omega
        have hts : (t : Int) ≤ (s.size : Int) := by omega
        have ht0 : ¬ (t : Int) < 0 := by omega
        have hwt : IntKind.i64.wrap ((t : Int) + 1) = ((t + 1 : Nat) : Int) := by rw [IntKind.wrap_i64]; omega
        have hxz : (⟨#[120]⟩ ++ s.extract i t : ByteArray).size ≤ 1000000000 := by
          have h1 : (⟨#[120]⟩ : ByteArray).size = 1 := rfl
          have h2 : (s.extract i t).size ≤ s.size := by simp; omega
          rw [ByteArray.size_append]; omega
        have hadd : ∀ w, (Op.stringOp .add ⟨#[120]⟩ (s.extract i t)).run Tryz.prog w = .ok (.string (⟨#[120]⟩ ++ s.extract i t)) w := fun w => run_string_add_sum w _ _ (by have h1 : (⟨#[120]⟩ : ByteArray).size = 1 := rfl; have h2 : (s.extract i t).size ≤ s.size := (by simp; omega); omega)
        have HP := Lib.hid (fun W => Parse_ref (⟨#[120]⟩ ++ s.extract i t) hxz W)
        have hxs : (⟨#[120]⟩ ++ s.extract i t : ByteArray).data.toList = 120 :: slc s.data.toList i t := by
          rw [ByteArray.data_append, Array.toList_append, slc_ext]; rfl
        rw [hxs] at HP
        clear hxz hxs
        have her := parse_errs (120 :: slc s.data.toList i t)
        generalize parseL (120 :: slc s.data.toList i t) = X at HP hR her
        obtain ⟨x, y, er⟩ := X
        simp only [parV, addrV] at HP hR her
        have HA2 := Lib.hid (fun W => at_ref s t (by omega) (by omega) W)
        rcases her with rfl | rfl | rfl
        · rw [if_neg (by decide)] at hR
          simp only [bne_self_eq_false, Bool.or_false] at hR
          by_cases h58 : s.data.toList[t]? = some 58
          · rw [if_pos h58] at hR
            have HRN := Lib.hid hR
            rw [nextB_yes h58] at HA2
            have hq2 : (((58 : UInt8).toNat : Int) == 58) = true := rfl
            clear hR hdom h64 h58
            go_wp2_with fail
            refine (HA.out _).mono ?_
            rintro e w2 ⟨rfl, hw2⟩
            rw [hw2]
            clear hw2
            go_wp2_with fail
            refine (HD.out _).mono ?_
            rintro e w3 ⟨rfl, hw3⟩
            rw [hw3]
            clear hw3
            go_wp2_with fail
            refine (HP.out _).mono ?_
            rintro e w4 ⟨rfl, hb4⟩
            have hbA := alloc_below w4 (.cells #[.string ⟨x.toArray⟩, .string ⟨y.toArray⟩] 33)
            obtain ⟨v, hRv, hOv⟩ := HR0.out
            simp only at hRv hOv
            have hR4 := hRv.below hb4
            have hO4 := own_but hOv (But.of_below (B := B) hb4)
            have hRA := hR4.below hbA
            have hOA := own_but hO4 (But.of_below (B := B) hbA)
            have hlA := HB.out.trans ((hb4.mono (Nat.le_of_lt hRv.lt)).trans (hbA.mono (Nat.le_of_lt hR4.lt)))
            have HRX := Lib.hid (show RO B (sp, g) (w4.alloc (.cells #[.string ⟨x.toArray⟩, .string ⟨y.toArray⟩] 33)) from ⟨v, hRA, hOA⟩)
            have HLX := Lib.hid hlA
            clear hRv hOv hR4 hO4 hOA hlA
            go_wp2_with fail
            refine (HA2.out _).mono ?_
            rintro e w5 ⟨rfl, hw5⟩
            rw [hw5]
            clear hw5
            go_wp2
            go_ret
            rw [← HRN.out]
            exact ⟨rfl, HRX.out, HLX.out⟩
          · rw [if_neg h58] at hR
            have hq2 : ((nextB s.data.toList t : Int) == 58) = false := int_ne (nextB_no h58 (by decide))
            by_cases h44 : s.data.toList[t]? = some 44
            · rw [if_pos h44] at hR
              have HRN := Lib.hid hR
              have htl := at_lt h44
              rw [list_len] at htl
              have hq3 : ((nextB s.data.toList t : Int) != 44) = false := by rw [nextB_yes h44]; rfl
              generalize nextB s.data.toList t = nb at HA2 hq2 hq3
              clear hR hdom h64 h58 h44
              go_wp2_with fail
              refine (HA.out _).mono ?_
              rintro e w2 ⟨rfl, hw2⟩
              rw [hw2]
              clear hw2
              go_wp2_with fail
              refine (HD.out _).mono ?_
              rintro e w3 ⟨rfl, hw3⟩
              rw [hw3]
              clear hw3
              go_wp2_with fail
              refine (HP.out _).mono ?_
              rintro e w4 ⟨rfl, hb4⟩
              have hbA := alloc_below w4 (.cells #[.string ⟨x.toArray⟩, .string ⟨y.toArray⟩] 33)
              obtain ⟨v, hRv, hOv⟩ := HR0.out
              simp only at hRv hOv
              have hR4 := hRv.below hb4
              have hO4 := own_but hOv (But.of_below (B := B) hb4)
              have hRA := hR4.below hbA
              have hOA := own_but hO4 (But.of_below (B := B) hbA)
              have hlA := HB.out.trans ((hb4.mono (Nat.le_of_lt hRv.lt)).trans (hbA.mono (Nat.le_of_lt hR4.lt)))
              have HRX := Lib.hid (show RO B (sp, g) (w4.alloc (.cells #[.string ⟨x.toArray⟩, .string ⟨y.toArray⟩] 33)) from ⟨v, hRA, hOA⟩)
              have HLX := Lib.hid hlA
              clear hRv hOv hR4 hO4 hOA hlA
              go_wp2_with fail
              refine (HA2.out _).mono ?_
              rintro e w5 ⟨rfl, hw5⟩
              rw [hw5]
              clear hw5
              go_wp2_with fail
              refine (HA2.out _).mono ?_
              rintro e w6 ⟨rfl, hw6⟩
              rw [hw6]
              clear hw6
              go_wp2_with fail
              go_roundg (s.size + 1 - (t + 1))
              case rel => exact ⟨HLX.out, f, t + 1, _, rfl, by omega, rfl, HRN.out, HRX.out, by have := HF.out; omega⟩
              case measure => have := HN0.out; omega
            · rw [if_neg h44] at hR
              have HRN := Lib.hid hR
              have hq3 : ((nextB s.data.toList t : Int) != 44) = true := by have := int_ne (nextB_no h44 (by decide)); simpa [bne] using this
              generalize nextB s.data.toList t = nb at HA2 hq2 hq3
              clear hR hdom h64 h58 h44
              go_wp2_with fail
              refine (HA.out _).mono ?_
              rintro e w2 ⟨rfl, hw2⟩
              rw [hw2]
              clear hw2
              go_wp2_with fail
              refine (HD.out _).mono ?_
              rintro e w3 ⟨rfl, hw3⟩
              rw [hw3]
              clear hw3
              go_wp2_with fail
              refine (HP.out _).mono ?_
              rintro e w4 ⟨rfl, hb4⟩
              have hbA := alloc_below w4 (.cells #[.string ⟨x.toArray⟩, .string ⟨y.toArray⟩] 33)
              obtain ⟨v, hRv, hOv⟩ := HR0.out
              simp only at hRv hOv
              have hR4 := hRv.below hb4
              have hO4 := own_but hOv (But.of_below (B := B) hb4)
              have hRA := hR4.below hbA
              have hOA := own_but hO4 (But.of_below (B := B) hbA)
              have hlA := HB.out.trans ((hb4.mono (Nat.le_of_lt hRv.lt)).trans (hbA.mono (Nat.le_of_lt hR4.lt)))
              have HRX := Lib.hid (show RO B (sp, g) (w4.alloc (.cells #[.string ⟨x.toArray⟩, .string ⟨y.toArray⟩] 33)) from ⟨v, hRA, hOA⟩)
              have HLX := Lib.hid hlA
              clear hRv hOv hR4 hO4 hOA hlA
              go_wp2_with fail
              refine (HA2.out _).mono ?_
              rintro e w5 ⟨rfl, hw5⟩
              rw [hw5]
              clear hw5
              go_wp2_with fail
              refine (HA2.out _).mono ?_
              rintro e w6 ⟨rfl, hw6⟩
              rw [hw6]
              clear hw6
              go_wp2
              go_ret
              rw [← HRN.out]
              exact ⟨rfl, trivial, HLX.out⟩
        · rw [if_neg (by decide), show (g || ((3 : Nat) != 0)) = true by cases g <;> rfl] at hR
          by_cases h58 : s.data.toList[t]? = some 58
          · rw [if_pos h58] at hR
            have HRN := Lib.hid hR
            rw [nextB_yes h58] at HA2
            have hq2 : (((58 : UInt8).toNat : Int) == 58) = true := rfl
            clear hR hdom h64 h58
            go_wp2_with fail
            refine (HA.out _).mono ?_
            rintro e w2 ⟨rfl, hw2⟩
            rw [hw2]
            clear hw2
            go_wp2_with fail
            refine (HD.out _).mono ?_
            rintro e w3 ⟨rfl, hw3⟩
            rw [hw3]
            clear hw3
            go_wp2_with fail
            refine (HP.out _).mono ?_
            rintro e w4 ⟨rfl, hb4⟩
            have hbA := alloc_below w4 (.cells #[.string ⟨x.toArray⟩, .string ⟨y.toArray⟩] 33)
            obtain ⟨v, hRv, hOv⟩ := HR0.out
            simp only at hRv hOv
            have hR4 := hRv.below hb4
            have hO4 := own_but hOv (But.of_below (B := B) hb4)
            have hRA := hR4.below hbA
            have hOA := own_but hO4 (But.of_below (B := B) hbA)
            have hlA := HB.out.trans ((hb4.mono (Nat.le_of_lt hRv.lt)).trans (hbA.mono (Nat.le_of_lt hR4.lt)))
            have c1 := hRA.c1
            have f1 := hRA.fr 1 (by decide)
            have HRX := Lib.hid (show RO B (sp, true) ((w4.alloc (.cells #[.string ⟨x.toArray⟩, .string ⟨y.toArray⟩] 33)).setCell ⟨B, 1, none⟩ (.bool true)) from ⟨v, hRA.long_ true, own_set (o := 1) (u := .bool true) hOA⟩)
            have HLX := Lib.hid (hlA.setCell (p := ⟨B, 1, none⟩) (Nat.le_refl _) (.bool true))
            clear hRv hOv hR4 hO4 hOA hlA
            go_wp2_with fail
            refine (HA2.out _).mono ?_
            rintro e w5 ⟨rfl, hw5⟩
            rw [hw5]
            clear hw5
            go_wp2
            go_ret
            rw [← HRN.out]
            exact ⟨rfl, HRX.out, HLX.out⟩
          · rw [if_neg h58] at hR
            have hq2 : ((nextB s.data.toList t : Int) == 58) = false := int_ne (nextB_no h58 (by decide))
            by_cases h44 : s.data.toList[t]? = some 44
            · rw [if_pos h44] at hR
              have HRN := Lib.hid hR
              have htl := at_lt h44
              rw [list_len] at htl
              have hq3 : ((nextB s.data.toList t : Int) != 44) = false := by rw [nextB_yes h44]; rfl
              generalize nextB s.data.toList t = nb at HA2 hq2 hq3
              clear hR hdom h64 h58 h44
              go_wp2_with fail
              refine (HA.out _).mono ?_
              rintro e w2 ⟨rfl, hw2⟩
              rw [hw2]
              clear hw2
              go_wp2_with fail
              refine (HD.out _).mono ?_
              rintro e w3 ⟨rfl, hw3⟩
              rw [hw3]
              clear hw3
              go_wp2_with fail
              refine (HP.out _).mono ?_
              rintro e w4 ⟨rfl, hb4⟩
              have hbA := alloc_below w4 (.cells #[.string ⟨x.toArray⟩, .string ⟨y.toArray⟩] 33)
              obtain ⟨v, hRv, hOv⟩ := HR0.out
              simp only at hRv hOv
              have hR4 := hRv.below hb4
              have hO4 := own_but hOv (But.of_below (B := B) hb4)
              have hRA := hR4.below hbA
              have hOA := own_but hO4 (But.of_below (B := B) hbA)
              have hlA := HB.out.trans ((hb4.mono (Nat.le_of_lt hRv.lt)).trans (hbA.mono (Nat.le_of_lt hR4.lt)))
              have c1 := hRA.c1
              have f1 := hRA.fr 1 (by decide)
              have HRX := Lib.hid (show RO B (sp, true) ((w4.alloc (.cells #[.string ⟨x.toArray⟩, .string ⟨y.toArray⟩] 33)).setCell ⟨B, 1, none⟩ (.bool true)) from ⟨v, hRA.long_ true, own_set (o := 1) (u := .bool true) hOA⟩)
              have HLX := Lib.hid (hlA.setCell (p := ⟨B, 1, none⟩) (Nat.le_refl _) (.bool true))
              clear hRv hOv hR4 hO4 hOA hlA
              go_wp2_with fail
              refine (HA2.out _).mono ?_
              rintro e w5 ⟨rfl, hw5⟩
              rw [hw5]
              clear hw5
              go_wp2_with fail
              refine (HA2.out _).mono ?_
              rintro e w6 ⟨rfl, hw6⟩
              rw [hw6]
              clear hw6
              go_wp2_with fail
              go_roundg (s.size + 1 - (t + 1))
              case rel => exact ⟨HLX.out, f, t + 1, _, rfl, by omega, rfl, HRN.out, HRX.out, by have := HF.out; omega⟩
              case measure => have := HN0.out; omega
            · rw [if_neg h44] at hR
              have HRN := Lib.hid hR
              have hq3 : ((nextB s.data.toList t : Int) != 44) = true := by have := int_ne (nextB_no h44 (by decide)); simpa [bne] using this
              generalize nextB s.data.toList t = nb at HA2 hq2 hq3
              clear hR hdom h64 h58 h44
              go_wp2_with fail
              refine (HA.out _).mono ?_
              rintro e w2 ⟨rfl, hw2⟩
              rw [hw2]
              clear hw2
              go_wp2_with fail
              refine (HD.out _).mono ?_
              rintro e w3 ⟨rfl, hw3⟩
              rw [hw3]
              clear hw3
              go_wp2_with fail
              refine (HP.out _).mono ?_
              rintro e w4 ⟨rfl, hb4⟩
              have hbA := alloc_below w4 (.cells #[.string ⟨x.toArray⟩, .string ⟨y.toArray⟩] 33)
              obtain ⟨v, hRv, hOv⟩ := HR0.out
              simp only at hRv hOv
              have hR4 := hRv.below hb4
              have hO4 := own_but hOv (But.of_below (B := B) hb4)
              have hRA := hR4.below hbA
              have hOA := own_but hO4 (But.of_below (B := B) hbA)
              have hlA := HB.out.trans ((hb4.mono (Nat.le_of_lt hRv.lt)).trans (hbA.mono (Nat.le_of_lt hR4.lt)))
              have c1 := hRA.c1
              have f1 := hRA.fr 1 (by decide)
              have HRX := Lib.hid (show RO B (sp, true) ((w4.alloc (.cells #[.string ⟨x.toArray⟩, .string ⟨y.toArray⟩] 33)).setCell ⟨B, 1, none⟩ (.bool true)) from ⟨v, hRA.long_ true, own_set (o := 1) (u := .bool true) hOA⟩)
              have HLX := Lib.hid (hlA.setCell (p := ⟨B, 1, none⟩) (Nat.le_refl _) (.bool true))
              clear hRv hOv hR4 hO4 hOA hlA
              go_wp2_with fail
              refine (HA2.out _).mono ?_
              rintro e w5 ⟨rfl, hw5⟩
              rw [hw5]
              clear hw5
              go_wp2_with fail
              refine (HA2.out _).mono ?_
              rintro e w6 ⟨rfl, hw6⟩
              rw [hw6]
              clear hw6
              go_wp2
              go_ret
              rw [← HRN.out]
              exact ⟨rfl, trivial, HLX.out⟩
        · rw [if_pos rfl] at hR
          have HRN := Lib.hid hR
          clear hR hdom h64
          go_wp2_with fail
          refine (HA.out _).mono ?_
          rintro e w2 ⟨rfl, hw2⟩
          rw [hw2]
          clear hw2
          go_wp2_with fail
          refine (HD.out _).mono ?_
          rintro e w3 ⟨rfl, hw3⟩
          rw [hw3]
          clear hw3
          go_wp2_with fail
          refine (HP.out _).mono ?_
          rintro e w4 ⟨rfl, hb4⟩
          have hbA := alloc_below w4 (.cells #[.string ⟨x.toArray⟩, .string ⟨y.toArray⟩] 33)
          have HL := Lib.hid (HB.out.trans ((hb4.mono (Nat.le_of_lt HR0.out.lt)).trans (hbA.mono (Nat.le_of_lt (Nat.lt_of_lt_of_le HR0.out.lt hb4.size)))))
          go_wp2
          go_ret
          rw [← HRN.out]
          exact ⟨rfl, trivial, HL.out⟩
    · rw [if_pos (by simpa using h64)] at hR
      have hq : ((nextB s.data.toList i : Int) != 64) = true := by have := int_ne (nextB_no h64 (by decide)); simpa [bne] using this
      generalize nextB s.data.toList i = nb at HA hq
      have HRN := Lib.hid hR
      clear hR h64
      go_wp2_with fail
      refine (HA.out _).mono ?_
      rintro e w2 ⟨rfl, hw2⟩
      rw [hw2]
      clear hw2
      go_wp2
      go_ret
      rw [← HRN.out]
      exact ⟨rfl, trivial, HB.out⟩
end Go.Proofs.YtffngbjnbigipaaGreatDoor

/- The document's lists: its function angle. -/
namespace Go.Proofs.YtffngbjnbigipaaGreatDoor
open Go.RowKit Go.Lib
set_option linter.unusedSimpArgs false
set_option linter.unusedVariables false
set_option linter.unnecessarySimpa false
set_option maxRecDepth 100000

set_option maxHeartbeats 4000000 in
theorem angle_ref (B : Nat) (s : ByteArray) (k : Nat) (st : LSt) (w : World) (h : RO B st w) (hk : k ≤ s.size) (hs : s.size ≤ 900000000) (hst : st.1.length ≤ 1000000000000) :
    Calls Tryz.prog 126 #[.pointer (some ⟨B, 0, none⟩), .string s, .int .i64 (k : Int)] w fun e w' => e = .returned (.int .i64 (endP (angleE s.data.toList k st))) ∧ AdP B (angleE s.data.toList k st) w' ∧ Below B w w' := by
  obtain ⟨sp, g⟩ := st
  simp only at hst
  have hR : angleE s.data.toList k (sp, g) = angleE s.data.toList k (sp, g) := rfl
  conv at hR => rhs; unfold angleE
  generalize angleE s.data.toList k (sp, g) = R at hR ⊢
  have HO := Lib.hid h
  clear h
  have HBL := Lib.hid (fun W => blank_ref2 s k hk hs W)
  cases hb1 : blankE s.data.toList k with
  | none =>
    rw [hb1] at HBL hR
    simp only [endI] at HBL hR
    have HRN := Lib.hid hR
    clear hR hb1
    go_enter Tryz.func126, Tryz.ntmps126
    go_wp2_with fail
    refine (HBL.out _).mono ?_
    rintro e w1 ⟨rfl, hw1⟩
    rw [hw1]
    clear hw1
    go_wp2
    go_ret
    rw [HRN.out]
    exact ⟨rfl, trivial, Below.refl _ _⟩
  | some k1 =>
    have hk1 := (blankE_le (by rw [list_len]; exact hk) hb1).2
    rw [list_len] at hk1
    rw [hb1] at HBL hR
    simp only [endI] at HBL hR
    have hn1 : ¬ (k1 : Int) < 0 := by omega
    have HA := Lib.hid (fun W => at_ref s k1 (by omega) (by omega) W)
    clear hb1
    by_cases h64 : s.data.toList[k1]? = some 64
    · have hrou : rouE s.data.toList k1 g = routeE (s.data.toList.length + 1) s.data.toList k1 g := by unfold rouE; rw [if_pos h64]
      rw [nextB_yes h64] at HA
      have hq : (((64 : UInt8).toNat : Int) == 64) = true := rfl
      have HRO := Lib.hid (fun W (h : RO B (sp, g) W) => route_ref B s k1 sp g W h hk1 hs)
      rw [← hrou] at HRO
      clear h64 hrou
      cases hro : rouE s.data.toList k1 g with
      | none =>
        rw [hro] at HRO hR
        simp only [rouP, endP, AdP] at HRO hR
        have HRN := Lib.hid hR
        clear hR hro
        go_enter Tryz.func126, Tryz.ntmps126
        go_wp2_with fail
        refine (HBL.out _).mono ?_
        rintro e w1 ⟨rfl, hw1⟩
        rw [hw1]
        clear hw1
        go_wp2_with fail
        refine (HA.out _).mono ?_
        rintro e w2 ⟨rfl, hw2⟩
        rw [hw2]
        clear hw2
        go_wp2_with fail
        refine (HRO.out _ HO.out).mono ?_
        rintro e w8 ⟨rfl, hr8, hb8⟩
        have HX8 := Lib.hid hr8
        have HB8 := Lib.hid hb8
        clear hr8 hb8
        go_wp2
        go_ret
        rw [HRN.out]
        exact ⟨rfl, trivial, HB8.out⟩
      | some p =>
        obtain ⟨k2, g2⟩ := p
        have hk2 := (rouE_le (by rw [list_len]; exact hk1) hro).2
        rw [list_len] at hk2
        rw [hro] at HRO hR
        simp only [rouP, endP, AdP] at HRO hR
        have hn2 : ¬ (k2 : Int) < 0 := by omega
        clear hro
        unfold angE2 at hR
        have HBL2 := Lib.hid (fun W => blank_ref2 s k2 hk2 hs W)
        cases hb2 : blankE s.data.toList k2 with
        | none =>
          rw [hb2] at HBL2 hR
          simp only [endI] at HBL2 hR
          have HRN := Lib.hid hR
          clear hR hb2
          go_enter Tryz.func126, Tryz.ntmps126
          go_wp2_with fail
          refine (HBL.out _).mono ?_
          rintro e w1 ⟨rfl, hw1⟩
          rw [hw1]
          clear hw1
          go_wp2_with fail
          refine (HA.out _).mono ?_
          rintro e w2 ⟨rfl, hw2⟩
          rw [hw2]
          clear hw2
          go_wp2_with fail
          refine (HRO.out _ HO.out).mono ?_
          rintro e w8 ⟨rfl, hr8, hb8⟩
          have HX8 := Lib.hid hr8
          have HB8 := Lib.hid hb8
          clear hr8 hb8
          go_wp2_with fail
          refine (HBL2.out _).mono ?_
          rintro e w3 ⟨rfl, hw3⟩
          rw [hw3]
          clear hw3
          go_wp2
          go_ret
          rw [HRN.out]
          exact ⟨rfl, trivial, HB8.out⟩
        | some k3 =>
          have hk3 := (blankE_le (by rw [list_len]; exact hk2) hb2).2
          rw [list_len] at hk3
          rw [hb2] at HBL2 hR
          simp only [endI] at HBL2 hR
          have hn3 : ¬ (k3 : Int) < 0 := by omega
          have HWD := Lib.hid (fun W => word_ref2 s k3 hk3 hs W)
          clear hb2
          cases hwd : wordE s.data.toList k3 with
          | none =>
            rw [hwd] at HWD hR
            simp only [endI] at HWD hR
            have HRN := Lib.hid hR
            clear hR hwd
            go_enter Tryz.func126, Tryz.ntmps126
            go_wp2_with fail
            refine (HBL.out _).mono ?_
            rintro e w1 ⟨rfl, hw1⟩
            rw [hw1]
            clear hw1
            go_wp2_with fail
            refine (HA.out _).mono ?_
            rintro e w2 ⟨rfl, hw2⟩
            rw [hw2]
            clear hw2
            go_wp2_with fail
            refine (HRO.out _ HO.out).mono ?_
            rintro e w8 ⟨rfl, hr8, hb8⟩
            have HX8 := Lib.hid hr8
            have HB8 := Lib.hid hb8
            clear hr8 hb8
            go_wp2_with fail
            refine (HBL2.out _).mono ?_
            rintro e w3 ⟨rfl, hw3⟩
            rw [hw3]
            clear hw3
            go_wp2_with fail
            refine (HWD.out _).mono ?_
            rintro e w4 ⟨rfl, hw4⟩
            rw [hw4]
            clear hw4
            go_wp2
            go_ret
            rw [HRN.out]
            exact ⟨rfl, trivial, HB8.out⟩
          | some ew =>
            have hew := wordE_le (by rw [list_len]; exact hk3) hwd
            rw [list_len] at hew
            rw [hwd] at HWD hR
            simp only [endI] at HWD hR
            have hn4 : ¬ (ew : Int) < 0 := by omega
            have HAD := Lib.hid (fun W (h : RO B (sp, g2) W) => address_any B s k3 ew (sp, g2) W h hew.2 hs hst)
            clear hwd
            cases had : addrE s.data.toList k3 ew (sp, g2) with
            | none =>
              rw [had] at HAD hR
              simp only [endP, AdP] at HAD hR
              have HRN := Lib.hid hR
              clear hR had
              go_enter Tryz.func126, Tryz.ntmps126
              go_wp2_with fail
              refine (HBL.out _).mono ?_
              rintro e w1 ⟨rfl, hw1⟩
              rw [hw1]
              clear hw1
              go_wp2_with fail
              refine (HA.out _).mono ?_
              rintro e w2 ⟨rfl, hw2⟩
              rw [hw2]
              clear hw2
              go_wp2_with fail
              refine (HRO.out _ HO.out).mono ?_
              rintro e w8 ⟨rfl, hr8, hb8⟩
              have HX8 := Lib.hid hr8
              have HB8 := Lib.hid hb8
              clear hr8 hb8
              go_wp2_with fail
              refine (HBL2.out _).mono ?_
              rintro e w3 ⟨rfl, hw3⟩
              rw [hw3]
              clear hw3
              go_wp2_with fail
              refine (HWD.out _).mono ?_
              rintro e w4 ⟨rfl, hw4⟩
              rw [hw4]
              clear hw4
              go_wp2_with fail
              refine (HAD.out _ HX8.out).mono ?_
              rintro e w5 ⟨rfl, hr5, hb5⟩
              have HX5 := Lib.hid hr5
              have HB5 := Lib.hid hb5
              clear hr5 hb5
              go_wp2
              go_ret
              rw [HRN.out]
              exact ⟨rfl, trivial, (HB8.out).trans HB5.out⟩
            | some p =>
              obtain ⟨k4, st4⟩ := p
              have hk4 := addrE_le had
              rw [list_len] at hk4
              rw [had] at HAD hR
              simp only [endP, AdP] at HAD hR
              have hn5 : ¬ (k4 : Int) < 0 := by omega
              have HBL5 := Lib.hid (fun W => blank_ref2 s k4 hk4.2.2 hs W)
              unfold closE at hR
              clear had
              cases hb5 : blankE s.data.toList k4 with
              | none =>
                rw [hb5] at HBL5 hR
                simp only [endI] at HBL5 hR
                have HRN := Lib.hid hR
                clear hR hb5
                go_enter Tryz.func126, Tryz.ntmps126
                go_wp2_with fail
                refine (HBL.out _).mono ?_
                rintro e w1 ⟨rfl, hw1⟩
                rw [hw1]
                clear hw1
                go_wp2_with fail
                refine (HA.out _).mono ?_
                rintro e w2 ⟨rfl, hw2⟩
                rw [hw2]
                clear hw2
                go_wp2_with fail
                refine (HRO.out _ HO.out).mono ?_
                rintro e w8 ⟨rfl, hr8, hb8⟩
                have HX8 := Lib.hid hr8
                have HB8 := Lib.hid hb8
                clear hr8 hb8
                go_wp2_with fail
                refine (HBL2.out _).mono ?_
                rintro e w3 ⟨rfl, hw3⟩
                rw [hw3]
                clear hw3
                go_wp2_with fail
                refine (HWD.out _).mono ?_
                rintro e w4 ⟨rfl, hw4⟩
                rw [hw4]
                clear hw4
                go_wp2_with fail
                refine (HAD.out _ HX8.out).mono ?_
                rintro e w5 ⟨rfl, hr5, hb5⟩
                have HX5 := Lib.hid hr5
                have HB5 := Lib.hid hb5
                clear hr5 hb5
                go_wp2_with fail
                refine (HBL5.out _).mono ?_
                rintro e w6 ⟨rfl, hw6⟩
                rw [hw6]
                clear hw6
                go_wp2
                go_ret
                rw [HRN.out]
                exact ⟨rfl, trivial, (HB8.out).trans HB5.out⟩
              | some k5 =>
                have hk5 := (blankE_le (by rw [list_len]; exact hk4.2.2) hb5).2
                rw [list_len] at hk5
                rw [hb5] at HBL5 hR
                simp only [endI] at HBL5 hR
                have hn6 : ¬ (k5 : Int) < 0 := by omega
                have hwk : IntKind.i64.wrap ((k5 : Int) + 1) = ((k5 + 1 : Nat) : Int) := by rw [IntKind.wrap_i64]; omega
                have HA6 := Lib.hid (fun W => at_ref s k5 (by omega) (by omega) W)
                clear hb5
                by_cases h62 : s.data.toList[k5]? = some 62
                · rw [if_pos h62] at hR
                  rw [nextB_yes h62] at HA6
                  have hq6 : (((62 : UInt8).toNat : Int) != 62) = false := rfl
                  have HRN := Lib.hid hR
                  clear hR h62
                  go_enter Tryz.func126, Tryz.ntmps126
                  go_wp2_with fail
                  refine (HBL.out _).mono ?_
                  rintro e w1 ⟨rfl, hw1⟩
                  rw [hw1]
                  clear hw1
                  go_wp2_with fail
                  refine (HA.out _).mono ?_
                  rintro e w2 ⟨rfl, hw2⟩
                  rw [hw2]
                  clear hw2
                  go_wp2_with fail
                  refine (HRO.out _ HO.out).mono ?_
                  rintro e w8 ⟨rfl, hr8, hb8⟩
                  have HX8 := Lib.hid hr8
                  have HB8 := Lib.hid hb8
                  clear hr8 hb8
                  go_wp2_with fail
                  refine (HBL2.out _).mono ?_
                  rintro e w3 ⟨rfl, hw3⟩
                  rw [hw3]
                  clear hw3
                  go_wp2_with fail
                  refine (HWD.out _).mono ?_
                  rintro e w4 ⟨rfl, hw4⟩
                  rw [hw4]
                  clear hw4
                  go_wp2_with fail
                  refine (HAD.out _ HX8.out).mono ?_
                  rintro e w5 ⟨rfl, hr5, hb5⟩
                  have HX5 := Lib.hid hr5
                  have HB5 := Lib.hid hb5
                  clear hr5 hb5
                  go_wp2_with fail
                  refine (HBL5.out _).mono ?_
                  rintro e w6 ⟨rfl, hw6⟩
                  rw [hw6]
                  clear hw6
                  go_wp2_with fail
                  refine (HA6.out _).mono ?_
                  rintro e w7 ⟨rfl, hw7⟩
                  rw [hw7]
                  clear hw7
                  go_wp2
                  go_ret
                  rw [HRN.out]
                  exact ⟨rfl, HX5.out, (HB8.out).trans HB5.out⟩
                · rw [if_neg h62] at hR
                  have hq6 : ((nextB s.data.toList k5 : Int) != 62) = true := by have := int_ne (nextB_no h62 (by decide)); simpa [bne] using this
                  generalize nextB s.data.toList k5 = nb6 at HA6 hq6
                  have HRN := Lib.hid hR
                  clear hR h62
                  go_enter Tryz.func126, Tryz.ntmps126
                  go_wp2_with fail
                  refine (HBL.out _).mono ?_
                  rintro e w1 ⟨rfl, hw1⟩
                  rw [hw1]
                  clear hw1
                  go_wp2_with fail
                  refine (HA.out _).mono ?_
                  rintro e w2 ⟨rfl, hw2⟩
                  rw [hw2]
                  clear hw2
                  go_wp2_with fail
                  refine (HRO.out _ HO.out).mono ?_
                  rintro e w8 ⟨rfl, hr8, hb8⟩
                  have HX8 := Lib.hid hr8
                  have HB8 := Lib.hid hb8
                  clear hr8 hb8
                  go_wp2_with fail
                  refine (HBL2.out _).mono ?_
                  rintro e w3 ⟨rfl, hw3⟩
                  rw [hw3]
                  clear hw3
                  go_wp2_with fail
                  refine (HWD.out _).mono ?_
                  rintro e w4 ⟨rfl, hw4⟩
                  rw [hw4]
                  clear hw4
                  go_wp2_with fail
                  refine (HAD.out _ HX8.out).mono ?_
                  rintro e w5 ⟨rfl, hr5, hb5⟩
                  have HX5 := Lib.hid hr5
                  have HB5 := Lib.hid hb5
                  clear hr5 hb5
                  go_wp2_with fail
                  refine (HBL5.out _).mono ?_
                  rintro e w6 ⟨rfl, hw6⟩
                  rw [hw6]
                  clear hw6
                  go_wp2_with fail
                  refine (HA6.out _).mono ?_
                  rintro e w7 ⟨rfl, hw7⟩
                  rw [hw7]
                  clear hw7
                  go_wp2
                  go_ret
                  rw [HRN.out]
                  exact ⟨rfl, trivial, (HB8.out).trans HB5.out⟩
    · have hrou : rouE s.data.toList k1 g = some (k1, g) := by unfold rouE; rw [if_neg h64]
      have hq : ((nextB s.data.toList k1 : Int) == 64) = false := int_ne (nextB_no h64 (by decide))
      generalize nextB s.data.toList k1 = nb at HA hq
      rw [hrou] at hR
      simp only at hR
      clear h64 hrou
      unfold angE2 at hR
      have HBL2 := Lib.hid (fun W => blank_ref2 s k1 hk1 hs W)
      cases hb2 : blankE s.data.toList k1 with
      | none =>
        rw [hb2] at HBL2 hR
        simp only [endI] at HBL2 hR
        have HRN := Lib.hid hR
        clear hR hb2
        go_enter Tryz.func126, Tryz.ntmps126
        go_wp2_with fail
        refine (HBL.out _).mono ?_
        rintro e w1 ⟨rfl, hw1⟩
        rw [hw1]
        clear hw1
        go_wp2_with fail
        refine (HA.out _).mono ?_
        rintro e w2 ⟨rfl, hw2⟩
        rw [hw2]
        clear hw2
        go_wp2_with fail
        refine (HBL2.out _).mono ?_
        rintro e w3 ⟨rfl, hw3⟩
        rw [hw3]
        clear hw3
        go_wp2
        go_ret
        rw [HRN.out]
        exact ⟨rfl, trivial, (Below.refl _ _)⟩
      | some k3 =>
        have hk3 := (blankE_le (by rw [list_len]; exact hk1) hb2).2
        rw [list_len] at hk3
        rw [hb2] at HBL2 hR
        simp only [endI] at HBL2 hR
        have hn3 : ¬ (k3 : Int) < 0 := by omega
        have HWD := Lib.hid (fun W => word_ref2 s k3 hk3 hs W)
        clear hb2
        cases hwd : wordE s.data.toList k3 with
        | none =>
          rw [hwd] at HWD hR
          simp only [endI] at HWD hR
          have HRN := Lib.hid hR
          clear hR hwd
          go_enter Tryz.func126, Tryz.ntmps126
          go_wp2_with fail
          refine (HBL.out _).mono ?_
          rintro e w1 ⟨rfl, hw1⟩
          rw [hw1]
          clear hw1
          go_wp2_with fail
          refine (HA.out _).mono ?_
          rintro e w2 ⟨rfl, hw2⟩
          rw [hw2]
          clear hw2
          go_wp2_with fail
          refine (HBL2.out _).mono ?_
          rintro e w3 ⟨rfl, hw3⟩
          rw [hw3]
          clear hw3
          go_wp2_with fail
          refine (HWD.out _).mono ?_
          rintro e w4 ⟨rfl, hw4⟩
          rw [hw4]
          clear hw4
          go_wp2
          go_ret
          rw [HRN.out]
          exact ⟨rfl, trivial, (Below.refl _ _)⟩
        | some ew =>
          have hew := wordE_le (by rw [list_len]; exact hk3) hwd
          rw [list_len] at hew
          rw [hwd] at HWD hR
          simp only [endI] at HWD hR
          have hn4 : ¬ (ew : Int) < 0 := by omega
          have HAD := Lib.hid (fun W (h : RO B (sp, g) W) => address_any B s k3 ew (sp, g) W h hew.2 hs hst)
          clear hwd
          cases had : addrE s.data.toList k3 ew (sp, g) with
          | none =>
            rw [had] at HAD hR
            simp only [endP, AdP] at HAD hR
            have HRN := Lib.hid hR
            clear hR had
            go_enter Tryz.func126, Tryz.ntmps126
            go_wp2_with fail
            refine (HBL.out _).mono ?_
            rintro e w1 ⟨rfl, hw1⟩
            rw [hw1]
            clear hw1
            go_wp2_with fail
            refine (HA.out _).mono ?_
            rintro e w2 ⟨rfl, hw2⟩
            rw [hw2]
            clear hw2
            go_wp2_with fail
            refine (HBL2.out _).mono ?_
            rintro e w3 ⟨rfl, hw3⟩
            rw [hw3]
            clear hw3
            go_wp2_with fail
            refine (HWD.out _).mono ?_
            rintro e w4 ⟨rfl, hw4⟩
            rw [hw4]
            clear hw4
            go_wp2_with fail
            refine (HAD.out _ HO.out).mono ?_
            rintro e w5 ⟨rfl, hr5, hb5⟩
            have HX5 := Lib.hid hr5
            have HB5 := Lib.hid hb5
            clear hr5 hb5
            go_wp2
            go_ret
            rw [HRN.out]
            exact ⟨rfl, trivial, ((Below.refl _ _)).trans HB5.out⟩
          | some p =>
            obtain ⟨k4, st4⟩ := p
            have hk4 := addrE_le had
            rw [list_len] at hk4
            rw [had] at HAD hR
            simp only [endP, AdP] at HAD hR
            have hn5 : ¬ (k4 : Int) < 0 := by omega
            have HBL5 := Lib.hid (fun W => blank_ref2 s k4 hk4.2.2 hs W)
            unfold closE at hR
            clear had
            cases hb5 : blankE s.data.toList k4 with
            | none =>
              rw [hb5] at HBL5 hR
              simp only [endI] at HBL5 hR
              have HRN := Lib.hid hR
              clear hR hb5
              go_enter Tryz.func126, Tryz.ntmps126
              go_wp2_with fail
              refine (HBL.out _).mono ?_
              rintro e w1 ⟨rfl, hw1⟩
              rw [hw1]
              clear hw1
              go_wp2_with fail
              refine (HA.out _).mono ?_
              rintro e w2 ⟨rfl, hw2⟩
              rw [hw2]
              clear hw2
              go_wp2_with fail
              refine (HBL2.out _).mono ?_
              rintro e w3 ⟨rfl, hw3⟩
              rw [hw3]
              clear hw3
              go_wp2_with fail
              refine (HWD.out _).mono ?_
              rintro e w4 ⟨rfl, hw4⟩
              rw [hw4]
              clear hw4
              go_wp2_with fail
              refine (HAD.out _ HO.out).mono ?_
              rintro e w5 ⟨rfl, hr5, hb5⟩
              have HX5 := Lib.hid hr5
              have HB5 := Lib.hid hb5
              clear hr5 hb5
              go_wp2_with fail
              refine (HBL5.out _).mono ?_
              rintro e w6 ⟨rfl, hw6⟩
              rw [hw6]
              clear hw6
              go_wp2
              go_ret
              rw [HRN.out]
              exact ⟨rfl, trivial, ((Below.refl _ _)).trans HB5.out⟩
            | some k5 =>
              have hk5 := (blankE_le (by rw [list_len]; exact hk4.2.2) hb5).2
              rw [list_len] at hk5
              rw [hb5] at HBL5 hR
              simp only [endI] at HBL5 hR
              have hn6 : ¬ (k5 : Int) < 0 := by omega
              have hwk : IntKind.i64.wrap ((k5 : Int) + 1) = ((k5 + 1 : Nat) : Int) := by rw [IntKind.wrap_i64]; omega
              have HA6 := Lib.hid (fun W => at_ref s k5 (by omega) (by omega) W)
              clear hb5
              by_cases h62 : s.data.toList[k5]? = some 62
              · rw [if_pos h62] at hR
                rw [nextB_yes h62] at HA6
                have hq6 : (((62 : UInt8).toNat : Int) != 62) = false := rfl
                have HRN := Lib.hid hR
                clear hR h62
                go_enter Tryz.func126, Tryz.ntmps126
                go_wp2_with fail
                refine (HBL.out _).mono ?_
                rintro e w1 ⟨rfl, hw1⟩
                rw [hw1]
                clear hw1
                go_wp2_with fail
                refine (HA.out _).mono ?_
                rintro e w2 ⟨rfl, hw2⟩
                rw [hw2]
                clear hw2
                go_wp2_with fail
                refine (HBL2.out _).mono ?_
                rintro e w3 ⟨rfl, hw3⟩
                rw [hw3]
                clear hw3
                go_wp2_with fail
                refine (HWD.out _).mono ?_
                rintro e w4 ⟨rfl, hw4⟩
                rw [hw4]
                clear hw4
                go_wp2_with fail
                refine (HAD.out _ HO.out).mono ?_
                rintro e w5 ⟨rfl, hr5, hb5⟩
                have HX5 := Lib.hid hr5
                have HB5 := Lib.hid hb5
                clear hr5 hb5
                go_wp2_with fail
                refine (HBL5.out _).mono ?_
                rintro e w6 ⟨rfl, hw6⟩
                rw [hw6]
                clear hw6
                go_wp2_with fail
                refine (HA6.out _).mono ?_
                rintro e w7 ⟨rfl, hw7⟩
                rw [hw7]
                clear hw7
                go_wp2
                go_ret
                rw [HRN.out]
                exact ⟨rfl, HX5.out, ((Below.refl _ _)).trans HB5.out⟩
              · rw [if_neg h62] at hR
                have hq6 : ((nextB s.data.toList k5 : Int) != 62) = true := by have := int_ne (nextB_no h62 (by decide)); simpa [bne] using this
                generalize nextB s.data.toList k5 = nb6 at HA6 hq6
                have HRN := Lib.hid hR
                clear hR h62
                go_enter Tryz.func126, Tryz.ntmps126
                go_wp2_with fail
                refine (HBL.out _).mono ?_
                rintro e w1 ⟨rfl, hw1⟩
                rw [hw1]
                clear hw1
                go_wp2_with fail
                refine (HA.out _).mono ?_
                rintro e w2 ⟨rfl, hw2⟩
                rw [hw2]
                clear hw2
                go_wp2_with fail
                refine (HBL2.out _).mono ?_
                rintro e w3 ⟨rfl, hw3⟩
                rw [hw3]
                clear hw3
                go_wp2_with fail
                refine (HWD.out _).mono ?_
                rintro e w4 ⟨rfl, hw4⟩
                rw [hw4]
                clear hw4
                go_wp2_with fail
                refine (HAD.out _ HO.out).mono ?_
                rintro e w5 ⟨rfl, hr5, hb5⟩
                have HX5 := Lib.hid hr5
                have HB5 := Lib.hid hb5
                clear hr5 hb5
                go_wp2_with fail
                refine (HBL5.out _).mono ?_
                rintro e w6 ⟨rfl, hw6⟩
                rw [hw6]
                clear hw6
                go_wp2_with fail
                refine (HA6.out _).mono ?_
                rintro e w7 ⟨rfl, hw7⟩
                rw [hw7]
                clear hw7
                go_wp2
                go_ret
                rw [HRN.out]
                exact ⟨rfl, trivial, ((Below.refl _ _)).trans HB5.out⟩
end Go.Proofs.YtffngbjnbigipaaGreatDoor

/- The document's lists: its function member, the inner members by their contract. -/
namespace Go.Proofs.YtffngbjnbigipaaGreatDoor
open Go.RowKit Go.Lib
set_option linter.unusedSimpArgs false
set_option linter.unusedVariables false
set_option linter.unnecessarySimpa false
set_option maxRecDepth 100000

theorem last_end (l : List UInt8) (k : Nat) (st : LSt) : endP (lastE l (some (k, st))) = endI (blankE l k) := by
  cases hb : blankE l k <;> simp only [lastE, hb] <;> rfl
theorem last_ad {B : Nat} (l : List UInt8) (k : Nat) {st : LSt} {W : World} (h : RO B st W) : AdP B (lastE l (some (k, st))) W := by
  cases hb : blankE l k with
  | none => simp only [lastE, hb]; trivial
  | some n => simp only [lastE, hb]; exact h
def MeRel (s : ByteArray) (fr : Nat) (X : Option (Nat × Nat × Nat)) (w : World) (n : Nat) (v2 v10 v11 : Value) (W : World) : Prop :=
  W = w ∧ ∃ (f i many e : Nat), v2 = .int .i64 (i : Int) ∧ v10 = .int .i64 (many : Int) ∧ v11 = .int .i64 (e : Int) ∧ i ≤ s.size ∧ n = s.size + 1 - i ∧ wordsE f s.data.toList i many e = X ∧ s.size - i < f ∧ e ≤ i ∧ fr + many ≤ i
set_option maxHeartbeats 8000000 in
theorem member_ref (within : Bool) (inn : Nat → LSt → Option (Nat × LSt)) (B : Nat) (s : ByteArray) (k : Nat) (st : LSt) (w : World) (h : RO B st w) (hk : k ≤ s.size) (hs : s.size ≤ 900000000) (hst : st.1.length ≤ k)
    (hinn : within = false → inn = innerE s.data.toList)
    (hin : within = false → ∀ (W : World) (k : Nat), st.1.length ≤ k → RO B st W → k ≤ s.size → Calls Tryz.prog 37 #[.pointer (some ⟨B, 0, none⟩), .string s, .int .i64 (k : Int), .bool true] W fun e w' => e = .returned (.int .i64 (endP (memsT s.data.toList k st))) ∧ AdP B (memsT s.data.toList k st) w' ∧ Below B W w') :
    Calls Tryz.prog 74 #[.pointer (some ⟨B, 0, none⟩), .string s, .int .i64 (k : Int), .bool within] w fun e w' => e = .returned (.int .i64 (endP (memE inn within s.data.toList k st))) ∧ AdP B (memE inn within s.data.toList k st) w' ∧ Below B w w' := by
  obtain ⟨sp, g⟩ := st
  simp only at hst
  have hst2 : sp.length ≤ 1000000000000 := by omega
  have HO := Lib.hid h
  have HIN := Lib.hid hin
  have HINN := Lib.hid hinn
  clear h hin hinn
  have HBL := Lib.hid (fun W => blank_ref2 s k hk hs W)
  have hR : memE inn within s.data.toList k (sp, g) = memE inn within s.data.toList k (sp, g) := rfl
  conv at hR => rhs; unfold memE
  generalize memE inn within s.data.toList k (sp, g) = R at hR ⊢
  cases hbl0 : blankE s.data.toList k with
  | none =>
    rw [hbl0] at hR HBL
    simp only [endI] at hR HBL
    have HRN := Lib.hid hR
    clear hR hbl0
    go_enter Tryz.func74, Tryz.ntmps74
    go_wp2_with fail
    refine (HBL.out _).mono ?_
    rintro e w1 ⟨rfl, hw1⟩
    rw [hw1]
    clear hw1
    go_wp2
    go_ret
    rw [HRN.out]
    exact ⟨rfl, trivial, Below.refl _ _⟩
  | some fr =>
    have hfr := blankE_le (by rw [list_len]; exact hk) hbl0
    rw [list_len] at hfr
    rw [hbl0] at hR HBL
    simp only [endI] at hR HBL
    have hn0 : ¬ (fr : Int) < 0 := by omega
    have hWL : ∀ i m e, wordsE (s.data.toList.length + 1) s.data.toList fr 0 fr = some (i, m, e) → R = lastE s.data.toList (afterE inn within s.data.toList fr i m e (sp, g)) := by
      intro i m e he
      rw [hR, he]
    have hWN : wordsE (s.data.toList.length + 1) s.data.toList fr 0 fr = none → R = none := by
      intro he
      rw [hR, he]
    generalize hX : wordsE (s.data.toList.length + 1) s.data.toList fr 0 fr = X at hWL hWN
    have HX := Lib.hid hX
    have HWL := Lib.hid hWL
    have HWN := Lib.hid hWN
    clear hR hX hWL hWN hbl0
    go_enter Tryz.func74, Tryz.ntmps74
    go_wp2_with fail
    refine (HBL.out _).mono ?_
    rintro e w1 ⟨rfl, hw1⟩
    rw [hw1]
    clear hw1
    go_wp2_with fail
    go_loopg [2, 10, 11, 12] (s.size + 1 - fr) (fun n v2 v10 v11 v12 W => MeRel s fr X w n v2 v10 v11 W)
    case atStart => exact ⟨rfl, s.data.toList.length + 1, fr, 0, fr, rfl, rfl, rfl, hfr.2, rfl, HX.out, by rw [list_len]; omega, Nat.le_refl _, by omega⟩
    case round =>
      obtain ⟨rfl, f, i, many, e, rfl, rfl, rfl, hi, hn, hX, hf, hei, hfm⟩ := hrel
      have HN0 := Lib.hid hn
      have HF := Lib.hid hf
      obtain ⟨f, rfl⟩ : ∃ m, f = m + 1 := ⟨f - 1, by omega⟩
      rw [wordsE] at hX
      have HWD := Lib.hid (fun W => word_ref2 s i hi hs W)
      clear hn hf
      cases hwd : wordE s.data.toList i with
      | none =>
        rw [hwd] at hX HWD
        simp only [endI] at hX HWD
        have HRN := Lib.hid (HWN.out hX.symm)
        clear hX hwd
        go_wp2_with fail
        refine (HWD.out _).mono ?_
        rintro e w2 ⟨rfl, hw2⟩
        rw [hw2]
        clear hw2
        go_wp2
        go_ret
        rw [HRN.out]
        exact ⟨rfl, trivial, Below.refl _ _⟩
      | some ke =>
        have hke := wordE_le (by rw [list_len]; exact hi) hwd
        rw [list_len] at hke
        rw [hwd] at hX HWD
        simp only [endI] at hX HWD
        have hn2 : ¬ (ke : Int) < 0 := by omega
        clear hwd
        by_cases hki : ke = i
        · -- the words end
          rw [if_pos hki] at hX
          have hkq : ((ke : Int) == (i : Int)) = true := by rw [beq_iff_eq]; omega
          have hRR := HWL.out i many e hX.symm
          have HA := Lib.hid (fun W => at_ref s i (by omega) (by omega) W)
          have hwi : IntKind.i64.wrap ((i : Int) + 1) = ((i + 1 : Nat) : Int) := by rw [IntKind.wrap_i64]; omega
          clear hX hki
          by_cases h64 : s.data.toList[i]? = some 64
          · rw [afterE_64 h64] at hRR
            rw [nextB_yes h64] at HA
            have hq64 : (((64 : UInt8).toNat : Int) == 64) = true := rfl
            clear h64
            by_cases hm : many = 1
            · have hmq : ((many : Int) != 1) = false := by rw [hm]; rfl
              by_cases he : e = i
              · have heq : ((e : Int) != (i : Int)) = false := by rw [he]; simp
                rw [if_pos ⟨hm, he⟩] at hRR
                have HAD := Lib.hid (fun W (h : RO B (sp, g) W) => address_any B s fr i (sp, g) W h hi hs hst2)
                clear hm he
                cases had : addrE s.data.toList fr i (sp, g) with
                | none =>
                  rw [had] at HAD hRR
                  simp only [endP, AdP] at HAD
                  have HRN := Lib.hid (show R = none by rw [hRR]; rfl)
                  clear hRR had
                  go_wp2_with fail
                  refine (HWD.out _).mono ?_
                  rintro e w2 ⟨rfl, hw2⟩
                  rw [hw2]
                  clear hw2
                  go_wp2_with fail
                  refine (HA.out _).mono ?_
                  rintro e w3 ⟨rfl, hw3⟩
                  rw [hw3]
                  clear hw3
                  go_wp2_with fail
                  refine (HAD.out _ HO.out).mono ?_
                  rintro e w5 ⟨rfl, hr5, hb5⟩
                  have HX5 := Lib.hid hr5
                  have HB5 := Lib.hid hb5
                  clear hr5 hb5
                  go_wp2
                  go_ret
                  rw [HRN.out]
                  exact ⟨rfl, trivial, HB5.out⟩
                | some p =>
                  obtain ⟨n5, st5⟩ := p
                  have hn5 := (addrE_le had).2.2
                  rw [list_len] at hn5
                  rw [had] at HAD hRR
                  simp only [endP, AdP] at HAD
                  clear had
                  have HRN := Lib.hid hRR
                  have hnn : ¬ ((n5 : Nat) : Int) < 0 := by omega
                  have HBZ := Lib.hid (fun W => blank_ref2 s n5 hn5 hs W)
                  clear hRR
                  go_wp2_with fail
                  refine (HWD.out _).mono ?_
                  rintro e w2 ⟨rfl, hw2⟩
                  rw [hw2]
                  clear hw2
                  go_wp2_with fail
                  refine (HA.out _).mono ?_
                  rintro e w3 ⟨rfl, hw3⟩
                  rw [hw3]
                  clear hw3
                  go_wp2_with fail
                  refine (HAD.out _ HO.out).mono ?_
                  rintro e w5 ⟨rfl, hr5, hb5⟩
                  have HX5 := Lib.hid hr5
                  have HB5 := Lib.hid hb5
                  clear hr5 hb5
                  go_wp2_with fail
                  refine (HBZ.out _).mono ?_
                  rintro e w9 ⟨rfl, hw9⟩
                  rw [hw9]
                  clear hw9
                  go_wp2
                  go_ret
                  rw [HRN.out, last_end]
                  exact ⟨rfl, last_ad _ _ HX5.out, HB5.out⟩
              · have heq : ((e : Int) != (i : Int)) = true := by rw [bne_iff_ne]; omega
                rw [if_neg (fun h => he h.2)] at hRR
                have HRN := Lib.hid (show R = none by rw [hRR]; rfl)
                clear hRR hm he
                go_wp2_with fail
                refine (HWD.out _).mono ?_
                rintro e w2 ⟨rfl, hw2⟩
                rw [hw2]
                clear hw2
                go_wp2_with fail
                refine (HA.out _).mono ?_
                rintro e w3 ⟨rfl, hw3⟩
                rw [hw3]
                clear hw3
                go_wp2
                go_ret
                rw [HRN.out]
                exact ⟨rfl, trivial, Below.refl _ _⟩
            · have hmq : ((many : Int) != 1) = true := by rw [bne_iff_ne]; omega
              rw [if_neg (fun h => hm h.1)] at hRR
              have HRN := Lib.hid (show R = none by rw [hRR]; rfl)
              clear hRR hm
              go_wp2_with fail
              refine (HWD.out _).mono ?_
              rintro e w2 ⟨rfl, hw2⟩
              rw [hw2]
              clear hw2
              go_wp2_with fail
              refine (HA.out _).mono ?_
              rintro e w3 ⟨rfl, hw3⟩
              rw [hw3]
              clear hw3
              go_wp2
              go_ret
              rw [HRN.out]
              exact ⟨rfl, trivial, Below.refl _ _⟩
          · by_cases h60 : s.data.toList[i]? = some 60
            · have hq64 : (((60 : UInt8).toNat : Int) == 64) = false := rfl
              have hq60 : (((60 : UInt8).toNat : Int) == 60) = true := rfl
              rw [afterE_60 h60] at hRR
              rw [nextB_yes h60] at HA
              have hil := at_lt h60
              rw [list_len] at hil
              have HAN := Lib.hid (fun W (h : RO B (sp, g) W) => angle_ref B s (i + 1) (sp, g) W h (by omega) hs hst2)
              clear h60 h64
              cases han : angleE s.data.toList (i + 1) (sp, g) with
              | none =>
                rw [han] at HAN hRR
                simp only [endP, AdP] at HAN
                have HRN := Lib.hid (show R = none by rw [hRR]; rfl)
                clear hRR han
                go_wp2_with fail
                refine (HWD.out _).mono ?_
                rintro e w2 ⟨rfl, hw2⟩
                rw [hw2]
                clear hw2
                go_wp2_with fail
                refine (HA.out _).mono ?_
                rintro e w3 ⟨rfl, hw3⟩
                rw [hw3]
                clear hw3
                go_wp2_with fail
                refine (HA.out _).mono ?_
                rintro e w4 ⟨rfl, hw4⟩
                rw [hw4]
                clear hw4
                go_wp2_with fail
                refine (HAN.out _ HO.out).mono ?_
                rintro e w5 ⟨rfl, hr5, hb5⟩
                have HX5 := Lib.hid hr5
                have HB5 := Lib.hid hb5
                clear hr5 hb5
                go_wp2
                go_ret
                rw [HRN.out]
                exact ⟨rfl, trivial, HB5.out⟩
              | some p =>
                obtain ⟨n5, st5⟩ := p
                have hn5 := (angleE_le (by rw [list_len]; omega) han).2
                rw [list_len] at hn5
                rw [han] at HAN hRR
                simp only [endP, AdP] at HAN
                clear han
                have HRN := Lib.hid hRR
                have hnn : ¬ ((n5 : Nat) : Int) < 0 := by omega
                have HBZ := Lib.hid (fun W => blank_ref2 s n5 hn5 hs W)
                clear hRR
                go_wp2_with fail
                refine (HWD.out _).mono ?_
                rintro e w2 ⟨rfl, hw2⟩
                rw [hw2]
                clear hw2
                go_wp2_with fail
                refine (HA.out _).mono ?_
                rintro e w3 ⟨rfl, hw3⟩
                rw [hw3]
                clear hw3
                go_wp2_with fail
                refine (HA.out _).mono ?_
                rintro e w4 ⟨rfl, hw4⟩
                rw [hw4]
                clear hw4
                go_wp2_with fail
                refine (HAN.out _ HO.out).mono ?_
                rintro e w5 ⟨rfl, hr5, hb5⟩
                have HX5 := Lib.hid hr5
                have HB5 := Lib.hid hb5
                clear hr5 hb5
                go_wp2_with fail
                refine (HBZ.out _).mono ?_
                rintro e w9 ⟨rfl, hw9⟩
                rw [hw9]
                clear hw9
                go_wp2
                go_ret
                rw [HRN.out, last_end]
                exact ⟨rfl, last_ad _ _ HX5.out, HB5.out⟩
            · have hq64 : ((nextB s.data.toList i : Int) == 64) = false := int_ne (nextB_no h64 (by decide))
              have hq60 : ((nextB s.data.toList i : Int) == 60) = false := int_ne (nextB_no h60 (by decide))
              by_cases h58 : s.data.toList[i]? = some 58 ∧ 0 < many ∧ within = false
              · obtain ⟨h58, hm0, hwn⟩ := h58
                subst hwn
                rw [afterE_58 h58 hm0 rfl, HINN.out rfl] at hRR
                have hq58 : ((nextB s.data.toList i : Int) == 58) = true := by rw [nextB_yes h58]; rfl
                have hil := at_lt h58
                rw [list_len] at hil
                have hmg : (0 : Int) < (many : Int) := by omega
                have HME := Lib.hid (fun W (h : RO B (sp, g) W) => HIN.out rfl W (i + 1) (by show sp.length ≤ i + 1; omega) h hil)
                generalize nextB s.data.toList i = nb at HA hq64 hq60 hq58
                clear h58 h60 h64
                unfold innerE at hRR
                cases hme : memsT s.data.toList (i + 1) (sp, g) with
                | none =>
                  rw [hme] at HME hRR
                  simp only [endP, AdP] at HME
                  have HRN := Lib.hid (show R = none by rw [hRR]; rfl)
                  clear hRR hme
                  go_wp2_with fail
                  refine (HWD.out _).mono ?_
                  rintro e w2 ⟨rfl, hw2⟩
                  rw [hw2]
                  clear hw2
                  go_wp2_with fail
                  refine (HA.out _).mono ?_
                  rintro e w3 ⟨rfl, hw3⟩
                  rw [hw3]
                  clear hw3
                  go_wp2_with fail
                  refine (HA.out _).mono ?_
                  rintro e w4 ⟨rfl, hw4⟩
                  rw [hw4]
                  clear hw4
                  go_wp2_with fail
                  refine (HA.out _).mono ?_
                  rintro e w6 ⟨rfl, hw6⟩
                  rw [hw6]
                  clear hw6
                  go_wp2_with fail
                  refine (HME.out _ HO.out).mono ?_
                  rintro e w5 ⟨rfl, hr5, hb5⟩
                  have HX5 := Lib.hid hr5
                  have HB5 := Lib.hid hb5
                  clear hr5 hb5
                  go_wp2
                  go_ret
                  rw [HRN.out]
                  exact ⟨rfl, trivial, HB5.out⟩
                | some p =>
                  obtain ⟨n5, st5⟩ := p
                  have hn5 := (memsT_le s.data.toList _ _ _ _ (by rw [list_len]; omega) hme).2
                  rw [list_len] at hn5
                  rw [hme] at HME hRR
                  simp only [endP, AdP] at HME hRR
                  have hn5n : ¬ (n5 : Int) < 0 := by omega
                  have HA7 := Lib.hid (fun W => at_ref s n5 (by omega) (by omega) W)
                  have hw5 : IntKind.i64.wrap ((n5 : Int) + 1) = ((n5 + 1 : Nat) : Int) := by rw [IntKind.wrap_i64]; omega
                  clear hme
                  by_cases h59 : s.data.toList[n5]? = some 59
                  · rw [if_pos h59] at hRR
                    rw [nextB_yes h59] at HA7
                    have hq59 : (((59 : UInt8).toNat : Int) != 59) = false := rfl
                    have hl5 := at_lt h59
                    rw [list_len] at hl5
                    clear h59
                    have HRN := Lib.hid hRR
                    have hnn : ¬ (((n5 + 1) : Nat) : Int) < 0 := by omega
                    have HBZ := Lib.hid (fun W => blank_ref2 s (n5 + 1) hl5 hs W)
                    clear hRR
                    go_wp2_with fail
                    refine (HWD.out _).mono ?_
                    rintro e w2 ⟨rfl, hw2⟩
                    rw [hw2]
                    clear hw2
                    go_wp2_with fail
                    refine (HA.out _).mono ?_
                    rintro e w3 ⟨rfl, hw3⟩
                    rw [hw3]
                    clear hw3
                    go_wp2_with fail
                    refine (HA.out _).mono ?_
                    rintro e w4 ⟨rfl, hw4⟩
                    rw [hw4]
                    clear hw4
                    go_wp2_with fail
                    refine (HA.out _).mono ?_
                    rintro e w6 ⟨rfl, hw6⟩
                    rw [hw6]
                    clear hw6
                    go_wp2_with fail
                    refine (HME.out _ HO.out).mono ?_
                    rintro e w5 ⟨rfl, hr5, hb5⟩
                    have HX5 := Lib.hid hr5
                    have HB5 := Lib.hid hb5
                    clear hr5 hb5
                    go_wp2_with fail
                    refine (HA7.out _).mono ?_
                    rintro e w7 ⟨rfl, hw7⟩
                    rw [hw7]
                    clear hw7
                    go_wp2_with fail
                    refine (HBZ.out _).mono ?_
                    rintro e w9 ⟨rfl, hw9⟩
                    rw [hw9]
                    clear hw9
                    go_wp2
                    go_ret
                    rw [HRN.out, last_end]
                    exact ⟨rfl, last_ad _ _ HX5.out, HB5.out⟩
                  · rw [if_neg h59] at hRR
                    have hq59 : ((nextB s.data.toList n5 : Int) != 59) = true := by have := int_ne (nextB_no h59 (by decide)); simpa [bne] using this
                    generalize nextB s.data.toList n5 = nb7 at HA7 hq59
                    have HRN := Lib.hid (show R = none by rw [hRR]; rfl)
                    clear hRR h59
                    go_wp2_with fail
                    refine (HWD.out _).mono ?_
                    rintro e w2 ⟨rfl, hw2⟩
                    rw [hw2]
                    clear hw2
                    go_wp2_with fail
                    refine (HA.out _).mono ?_
                    rintro e w3 ⟨rfl, hw3⟩
                    rw [hw3]
                    clear hw3
                    go_wp2_with fail
                    refine (HA.out _).mono ?_
                    rintro e w4 ⟨rfl, hw4⟩
                    rw [hw4]
                    clear hw4
                    go_wp2_with fail
                    refine (HA.out _).mono ?_
                    rintro e w6 ⟨rfl, hw6⟩
                    rw [hw6]
                    clear hw6
                    go_wp2_with fail
                    refine (HME.out _ HO.out).mono ?_
                    rintro e w5 ⟨rfl, hr5, hb5⟩
                    have HX5 := Lib.hid hr5
                    have HB5 := Lib.hid hb5
                    clear hr5 hb5
                    go_wp2_with fail
                    refine (HA7.out _).mono ?_
                    rintro e w7 ⟨rfl, hw7⟩
                    rw [hw7]
                    clear hw7
                    go_wp2
                    go_ret
                    rw [HRN.out]
                    exact ⟨rfl, trivial, HB5.out⟩
              · rw [afterE_no h64 h60 h58] at hRR
                have hgd : s.data.toList[i]? = some 58 → 0 < many → within = true := fun a b => by
                  cases hw : within with
                  | true => rfl
                  | false => exact absurd ⟨a, b, hw⟩ h58
                clear h58
                have key : ((nextB s.data.toList i : Int) == 58) = false ∨ (((nextB s.data.toList i : Int) == 58) = true ∧ (¬ 0 < many ∨ (0 < many ∧ within = true))) := by
                  by_cases hc : s.data.toList[i]? = some 58
                  · refine .inr ⟨by rw [nextB_yes hc]; rfl, ?_⟩
                    by_cases hm : 0 < many
                    · exact .inr ⟨hm, hgd hc hm⟩
                    · exact .inl hm
                  · exact .inl (int_ne (nextB_no hc (by decide)))
                clear hgd
                generalize nextB s.data.toList i = nb at HA hq64 hq60 key
                clear h60 h64
                rcases key with hq58 | ⟨hq58, hm | ⟨hm, hwt⟩⟩
                · by_cases hm : 0 < many
                  · skip
                    have hmg : (0 : Int) < (many : Int) := by omega
                    rw [if_pos hm] at hRR
                    have HRN := Lib.hid (show R = none by rw [hRR]; rfl)
                    clear hRR hm
                    go_wp2_with fail
                    refine (HWD.out _).mono ?_
                    rintro e w2 ⟨rfl, hw2⟩
                    rw [hw2]
                    clear hw2
                    go_wp2_with fail
                    refine (HA.out _).mono ?_
                    rintro e w3 ⟨rfl, hw3⟩
                    rw [hw3]
                    clear hw3
                    go_wp2_with fail
                    refine (HA.out _).mono ?_
                    rintro e w4 ⟨rfl, hw4⟩
                    rw [hw4]
                    clear hw4
                    go_wp2_with fail
                    refine (HA.out _).mono ?_
                    rintro e w6 ⟨rfl, hw6⟩
                    rw [hw6]
                    clear hw6
                    go_wp2
                    go_ret
                    rw [HRN.out]
                    exact ⟨rfl, trivial, Below.refl _ _⟩
                  · skip
                    have hmg : ¬ (0 : Int) < (many : Int) := by omega
                    rw [if_neg hm] at hRR
                    have hi2 := hi
                    clear hm
                    have HRN := Lib.hid hRR
                    have hnn : ¬ ((i : Nat) : Int) < 0 := by omega
                    have HBZ := Lib.hid (fun W => blank_ref2 s i hi hs W)
                    clear hRR
                    go_wp2_with fail
                    refine (HWD.out _).mono ?_
                    rintro e w2 ⟨rfl, hw2⟩
                    rw [hw2]
                    clear hw2
                    go_wp2_with fail
                    refine (HA.out _).mono ?_
                    rintro e w3 ⟨rfl, hw3⟩
                    rw [hw3]
                    clear hw3
                    go_wp2_with fail
                    refine (HA.out _).mono ?_
                    rintro e w4 ⟨rfl, hw4⟩
                    rw [hw4]
                    clear hw4
                    go_wp2_with fail
                    refine (HA.out _).mono ?_
                    rintro e w6 ⟨rfl, hw6⟩
                    rw [hw6]
                    clear hw6
                    go_wp2_with fail
                    refine (HBZ.out _).mono ?_
                    rintro e w9 ⟨rfl, hw9⟩
                    rw [hw9]
                    clear hw9
                    go_wp2
                    go_ret
                    rw [HRN.out, last_end]
                    exact ⟨rfl, last_ad _ _ HO.out, (Below.refl _ _)⟩
                · skip
                  have hmg : ¬ (0 : Int) < (many : Int) := by omega
                  rw [if_neg hm] at hRR
                  have hi2 := hi
                  clear hm
                  have HRN := Lib.hid hRR
                  have hnn : ¬ ((i : Nat) : Int) < 0 := by omega
                  have HBZ := Lib.hid (fun W => blank_ref2 s i hi hs W)
                  clear hRR
                  go_wp2_with fail
                  refine (HWD.out _).mono ?_
                  rintro e w2 ⟨rfl, hw2⟩
                  rw [hw2]
                  clear hw2
                  go_wp2_with fail
                  refine (HA.out _).mono ?_
                  rintro e w3 ⟨rfl, hw3⟩
                  rw [hw3]
                  clear hw3
                  go_wp2_with fail
                  refine (HA.out _).mono ?_
                  rintro e w4 ⟨rfl, hw4⟩
                  rw [hw4]
                  clear hw4
                  go_wp2_with fail
                  refine (HA.out _).mono ?_
                  rintro e w6 ⟨rfl, hw6⟩
                  rw [hw6]
                  clear hw6
                  go_wp2_with fail
                  refine (HBZ.out _).mono ?_
                  rintro e w9 ⟨rfl, hw9⟩
                  rw [hw9]
                  clear hw9
                  go_wp2
                  go_ret
                  rw [HRN.out, last_end]
                  exact ⟨rfl, last_ad _ _ HO.out, (Below.refl _ _)⟩
                · subst hwt
                  have hmg : (0 : Int) < (many : Int) := by omega
                  rw [if_pos hm] at hRR
                  have HRN := Lib.hid (show R = none by rw [hRR]; rfl)
                  clear hRR hm
                  go_wp2_with fail
                  refine (HWD.out _).mono ?_
                  rintro e w2 ⟨rfl, hw2⟩
                  rw [hw2]
                  clear hw2
                  go_wp2_with fail
                  refine (HA.out _).mono ?_
                  rintro e w3 ⟨rfl, hw3⟩
                  rw [hw3]
                  clear hw3
                  go_wp2_with fail
                  refine (HA.out _).mono ?_
                  rintro e w4 ⟨rfl, hw4⟩
                  rw [hw4]
                  clear hw4
                  go_wp2_with fail
                  refine (HA.out _).mono ?_
                  rintro e w6 ⟨rfl, hw6⟩
                  rw [hw6]
                  clear hw6
                  go_wp2
                  go_ret
                  rw [HRN.out]
                  exact ⟨rfl, trivial, Below.refl _ _⟩
        · rw [if_neg hki] at hX
          have hkq : ((ke : Int) == (i : Int)) = false := by rw [beq_eq_false_iff_ne]; omega
          have hwm : IntKind.i64.wrap ((many : Int) + 1) = ((many + 1 : Nat) : Int) := by rw [IntKind.wrap_i64]; omega
          have HBK := Lib.hid (fun W => blank_ref2 s ke hke.2 hs W)
          cases hbk : blankE s.data.toList ke with
          | none =>
            rw [hbk] at hX HBK
            simp only [endI] at hX HBK
            have HRN := Lib.hid (HWN.out hX.symm)
            clear hX hbk hki
            go_wp2_with fail
            refine (HWD.out _).mono ?_
            rintro e w2 ⟨rfl, hw2⟩
            rw [hw2]
            clear hw2
            go_wp2_with fail
            refine (HBK.out _).mono ?_
            rintro e w3 ⟨rfl, hw3⟩
            rw [hw3]
            clear hw3
            go_wp2
            go_ret
            rw [HRN.out]
            exact ⟨rfl, trivial, Below.refl _ _⟩
          | some i2 =>
            have hi2 := blankE_le (by rw [list_len]; exact hke.2) hbk
            rw [list_len] at hi2
            rw [hbk] at hX HBK
            simp only [endI] at hX HBK
            have hn3 : ¬ (i2 : Int) < 0 := by omega
            have HXX := Lib.hid hX
            clear hX hbk
            go_wp2_with fail
            refine (HWD.out _).mono ?_
            rintro e w2 ⟨rfl, hw2⟩
            rw [hw2]
            clear hw2
            go_wp2_with fail
            refine (HBK.out _).mono ?_
            rintro e w3 ⟨rfl, hw3⟩
            rw [hw3]
            clear hw3
            go_wp2_with fail
            go_roundg (s.size + 1 - i2)
            case rel => exact ⟨rfl, f, i2, many + 1, ke, rfl, rfl, rfl, hi2.2, rfl, HXX.out, by have := HF.out; omega, hi2.1, by omega⟩
            case measure => have := HN0.out; omega
end Go.Proofs.YtffngbjnbigipaaGreatDoor

/- The document's lists: its functions members and Find, for every text of at most 9 10^8 bytes; the spots as they are read. -/
namespace Go.Proofs.YtffngbjnbigipaaGreatDoor
open Go.RowKit Go.Lib
set_option linter.unusedSimpArgs false
set_option linter.unusedVariables false
set_option linter.unnecessarySimpa false
set_option maxRecDepth 100000

def MsRel (B : Nat) (s : ByteArray) (mem : Nat → LSt → Option (Nat × LSt)) (R : Option (Nat × LSt)) (w : World) (n : Nat) (v2 : Value) (W : World) : Prop :=
  Below B w W ∧ ∃ (f k : Nat) (st : LSt), v2 = .int .i64 (k : Int) ∧ k ≤ s.size ∧ n = s.size + 1 - k ∧ st.1.length ≤ k ∧ memsE mem s.data.toList f k st = R ∧ RO B st W ∧ s.size - k < f
set_option maxHeartbeats 4000000 in
theorem members_ref (within : Bool) (mem : Nat → LSt → Option (Nat × LSt)) (B : Nat) (s : ByteArray) (k : Nat) (st : LSt) (w : World) (h : RO B st w) (hk : k ≤ s.size) (hs : s.size ≤ 900000000) (hst : st.1.length ≤ k)
    (hle : InnerLe s.data.toList mem) (hln : InnerLen s.data.toList mem)
    (hM : ∀ (W : World) (k : Nat) (st : LSt), RO B st W → k ≤ s.size → st.1.length ≤ k → Calls Tryz.prog 74 #[.pointer (some ⟨B, 0, none⟩), .string s, .int .i64 (k : Int), .bool within] W fun e w' => e = .returned (.int .i64 (endP (mem k st))) ∧ AdP B (mem k st) w' ∧ Below B W w') :
    Calls Tryz.prog 37 #[.pointer (some ⟨B, 0, none⟩), .string s, .int .i64 (k : Int), .bool within] w fun e w' => e = .returned (.int .i64 (endP (memsE mem s.data.toList (s.data.toList.length + 1) k st))) ∧ AdP B (memsE mem s.data.toList (s.data.toList.length + 1) k st) w' ∧ Below B w w' := by
  generalize hX : memsE mem s.data.toList (s.data.toList.length + 1) k st = R
  have HX := Lib.hid hX
  have HZ := Lib.hid h
  have HM := Lib.hid hM
  have HLE := Lib.hid hle
  have HLN := Lib.hid hln
  clear hX h hM hle hln
  go_enter Tryz.func37, Tryz.ntmps37
  go_wp2_with fail
  go_loopg [2] (s.size + 1 - k) (fun n v2 W => MsRel B s mem R w n v2 W)
  case atStart => exact ⟨Below.refl _ _, s.data.toList.length + 1, k, st, rfl, hk, rfl, hst, HX.out, HZ.out, by rw [list_len]; omega⟩
  case round =>
    obtain ⟨hb, f, k, st, rfl, hk, hn, hst, hX, hz, hf⟩ := hrel
    have HB := Lib.hid hb
    have HN0 := Lib.hid hn
    have HF := Lib.hid hf
    obtain ⟨f, rfl⟩ : ∃ m, f = m + 1 := ⟨f - 1, by omega⟩
    rw [memsE] at hX
    have HC := Lib.hid (HM.out wr k st hz hk hst)
    clear hb hn hf hz
    cases hm : mem k st with
    | none =>
      rw [hm] at hX HC
      simp only [endP, AdP] at HC
      have HRN := Lib.hid (show R = none from hX.symm)
      clear hX hm
      go_wp2_with fail
      refine HC.out.mono ?_
      rintro e w2 ⟨rfl, hr2, hb2⟩
      clear hr2
      go_wp2
      go_ret
      rw [HRN.out]
      exact ⟨rfl, trivial, HB.out.trans hb2⟩
    | some x =>
      obtain ⟨k2, st2⟩ := x
      rw [hm] at hX HC
      simp only [endP, AdP] at HC hX
      have hk2 := HLE.out k st k2 st2 (by rw [list_len]; exact hk) hm
      rw [list_len] at hk2
      have hst2 := HLN.out k st k2 st2 (by rw [list_len]; exact hk) hst hm
      have hn2 : ¬ (k2 : Int) < 0 := by omega
      have HA := Lib.hid (fun W => at_ref s k2 (by omega) (by omega) W)
      have hw2 : IntKind.i64.wrap ((k2 : Int) + 1) = ((k2 + 1 : Nat) : Int) := by rw [IntKind.wrap_i64]; omega
      by_cases h44 : s.data.toList[k2]? = some 44
      · rw [if_pos h44] at hX
        rw [nextB_yes h44] at HA
        have hq : (((44 : UInt8).toNat : Int) != 44) = false := rfl
        have HXN := Lib.hid hX
        have hl2 := at_lt h44
        rw [list_len] at hl2
        clear hX hm h44
        go_wp2_with fail
        refine HC.out.mono ?_
        rintro e w2 ⟨rfl, hr2, hb2⟩
        have H2 := Lib.hid hr2
        clear hr2
        go_wp2_with fail
        refine (HA.out _).mono ?_
        rintro e w3 ⟨rfl, hw3⟩
        rw [hw3]
        clear hw3
        go_wp2_with fail
        go_roundg (s.size + 1 - (k2 + 1))
        case rel => exact ⟨HB.out.trans hb2, f, k2 + 1, st2, rfl, by omega, rfl, by omega, HXN.out, H2.out, by have := HF.out; omega⟩
        case measure => have := HN0.out; omega
      · rw [if_neg h44] at hX
        have hq : ((nextB s.data.toList k2 : Int) != 44) = true := by have := int_ne (nextB_no h44 (by decide)); simpa [bne] using this
        generalize nextB s.data.toList k2 = nb at HA hq
        have HXN := Lib.hid (show R = some (k2, st2) from hX.symm)
        clear hX hm h44
        go_wp2_with fail
        refine HC.out.mono ?_
        rintro e w2 ⟨rfl, hr2, hb2⟩
        have H2 := Lib.hid hr2
        clear hr2
        go_wp2_with fail
        refine (HA.out _).mono ?_
        rintro e w3 ⟨rfl, hw3⟩
        rw [hw3]
        clear hw3
        go_wp2
        go_ret
        rw [HXN.out]
        exact ⟨rfl, H2.out, HB.out.trans hb2⟩
theorem membersR_T (B : Nat) (s : ByteArray) (hs : s.size ≤ 900000000) (W : World) (k : Nat) (st : LSt) (hst : st.1.length ≤ k) (h : RO B st W) (hk : k ≤ s.size) :
    Calls Tryz.prog 37 #[.pointer (some ⟨B, 0, none⟩), .string s, .int .i64 (k : Int), .bool true] W fun e w' => e = .returned (.int .i64 (endP (memsT s.data.toList k st))) ∧ AdP B (memsT s.data.toList k st) w' ∧ Below B W w' :=
  members_ref true (memT s.data.toList) B s k st W h hk hs hst (memT_le _) (memT_len _) (fun W k st h hk hst => member_ref true _ B s k st W h hk hs hst (fun h => by cases h) (fun h => by cases h))
theorem membersR_F (B : Nat) (s : ByteArray) (hs : s.size ≤ 900000000) (W : World) (k : Nat) (st : LSt) (hst : st.1.length ≤ k) (h : RO B st W) (hk : k ≤ s.size) :
    Calls Tryz.prog 37 #[.pointer (some ⟨B, 0, none⟩), .string s, .int .i64 (k : Int), .bool false] W fun e w' => e = .returned (.int .i64 (endP (memsF s.data.toList k st))) ∧ AdP B (memsF s.data.toList k st) w' ∧ Below B W w' :=
  members_ref false (memF s.data.toList) B s k st W h hk hs hst (memF_le _) (memF_len _) (fun W k st h hk hst => member_ref false _ B s k st W h hk hs hst (fun _ => rfl) (fun _ W k hst h hk => membersR_T B s hs W k st hst h hk))
theorem RR.of {B : Nat} {t : TypeId} {W : World} (h : W.heap[B]? = some (.cells #[.slice none 0 0, .bool false] t (0, 0))) : RR B (.slice none 0 0) false W := by
  refine ⟨(Array.getElem?_eq_some_iff.1 h).1, ?_, ?_, fun o ho => ?_⟩
  · simp [World.cell?, h]
  · simp [World.cell?, h]
  · obtain rfl | rfl : o = 0 ∨ o = 1 := by omega
    all_goals simp [World.frozen?, h]
theorem RR.made (w : World) (t : TypeId) : RR w.heap.size (.slice none 0 0) false (w.alloc (.cells #[.slice none 0 0, .bool false] t)) := RR.of (heap_alloc_new w _)
theorem SRow.ofR {w : World} {v : Value} {l : List Sp} {B : Nat} (ho : w.ownsRow B 35 4 v l.length (spsC l)) : SRow w v l := by
  have hc := fun (g : Nat) (hg : v.ownBlock = some g) => World.ownsRow.cells ho (g := g) hg
  obtain ⟨_, ⟨rfl, h0⟩ | ⟨g, cap, cur, rfl, _⟩⟩ := ho
  · exact ⟨none, 0, by rw [h0], .inl (List.eq_nil_of_length_eq_zero h0)⟩
  · refine ⟨_, cap, rfl, .inr ⟨g, rfl, fun i x hx => ?_⟩⟩
    have hadd : ∀ j, (⟨g, 0, none⟩ : Addr).add j = ⟨g, j, none⟩ := fun j => by unfold Addr.add; split <;> simp_all
    have key : ∀ j u, j < 4 → (spC x)[j]? = some u → w.cell? ⟨g, i * 4 + j, none⟩ = some u := fun j u hj hu => by
      have := hc g rfl (i * 4 + j) u (by rw [spsC_get l i j x hx hj]; exact hu)
      rwa [hadd] at this
    exact ⟨key 0 _ (by omega) rfl, key 1 _ (by omega) rfl, key 2 _ (by omega) rfl, key 3 _ (by omega) rfl⟩
set_option maxHeartbeats 4000000 in
theorem Find_ref (s : ByteArray) (hs : s.size ≤ 900000000) (w : World) :
    Calls Tryz.prog 12 #[.string s] w fun e w' => (∃ v, e = .returned (.tuple #[v, .int .i64 ((findL s.data.toList).2 : Int)]) ∧ SRow w' v (findL s.data.toList).1) ∧ Below w.heap.size w w' := by
  have hb0 := alloc_below w (.cells #[.slice none 0 0, .bool false] 74)
  have hR := RR.made w 74
  have hZ : RO w.heap.size ([], false) (w.alloc (.cells #[.slice none 0 0, .bool false] 74)) := ⟨_, hR, World.ownsRow_nil _ _ _ _⟩
  have HC := Lib.hid (membersR_F w.heap.size s hs _ 0 ([], false) (Nat.zero_le _) hZ (Nat.zero_le _))
  have HB0 := Lib.hid hb0
  have hF : findL s.data.toList = findL s.data.toList := rfl
  conv at hF => rhs; unfold findL
  generalize findL s.data.toList = F at hF ⊢
  obtain ⟨L, er⟩ := F
  simp only
  clear hb0 hR hZ
  cases hm : memsF s.data.toList 0 ([], false) with
  | none =>
    rw [hm] at HC hF
    simp only [endP, AdP] at HC hF
    have hne : ((-1 : Int) != (s.size : Int)) = true := by rw [bne_iff_ne]; omega
    injection hF with h1 h2
    subst h1; subst h2
    go_enter Tryz.func12, Tryz.ntmps12
    go_wp2_with fail
    refine HC.out.mono ?_
    rintro e w2 ⟨rfl, -, hb2⟩
    go_wp2
    go_ret2
    exact ⟨⟨_, rfl, .ofR (World.ownsRow_nil _ 0 _ _)⟩, HB0.out.trans hb2⟩
  | some x =>
    obtain ⟨k, sp, long⟩ := x
    rw [hm] at HC hF
    simp only [endP, AdP] at HC hF
    rw [list_len] at hF
    have HF := Lib.hid hF
    clear hF hm
    go_enter Tryz.func12, Tryz.ntmps12
    go_wp2_with fail
    refine HC.out.mono ?_
    rintro e w2 ⟨rfl, ⟨v, hq, ho⟩, hb2⟩
    have HO := Lib.hid ho
    obtain ⟨-, c0, c1, -⟩ := hq
    clear ho
    by_cases hk : k ≠ s.size
    · have hne : ((k : Int) != (s.size : Int)) = true := by rw [bne_iff_ne]; omega
      have hF := HF.out
      rw [if_pos hk] at hF
      injection hF with h1 h2
      subst h1; subst h2
      clear hk
      go_wp2
      go_ret2
      exact ⟨⟨_, rfl, .ofR (World.ownsRow_nil _ 0 _ _)⟩, HB0.out.trans hb2⟩
    · have hne : ((k : Int) != (s.size : Int)) = false := by rw [bne_eq_false_iff_eq]; omega
      have hF := HF.out
      rw [if_neg hk] at hF
      have HF2 := Lib.hid hF
      clear hk hF
      cases long with
      | true =>
        have hF := HF2.out
        simp only [if_true] at hF
        injection hF with h1 h2
        subst h1; subst h2
        go_wp2
        go_ret2
        exact ⟨⟨_, rfl, .ofR (World.ownsRow_nil _ 0 _ _)⟩, HB0.out.trans hb2⟩
      | false =>
        have hF := HF2.out
        simp only [Bool.false_eq_true, if_false] at hF
        obtain ⟨q, cap, rfl⟩ : ∃ q cap, v = .slice q sp.length cap := by
          obtain ⟨_, ⟨rfl, h⟩ | ⟨g, cap, cur, rfl, _⟩⟩ := HO.out
          · exact ⟨none, 0, by rw [h]⟩
          · exact ⟨_, _, rfl⟩
        by_cases h64 : 64 < sp.length
        · rw [if_pos h64] at hF
          injection hF with h1 h2
          subst h1; subst h2
          have h64i : (64 : Int) < (sp.length : Int) := by omega
          go_wp2
          go_ret2
          exact ⟨⟨_, rfl, .ofR (World.ownsRow_nil _ 0 _ _)⟩, HB0.out.trans hb2⟩
        · rw [if_neg h64] at hF
          injection hF with h1 h2
          subst h1; subst h2
          have h64i : ¬ (64 : Int) < (L.length : Int) := by omega
          go_wp2
          go_ret2
          exact ⟨⟨_, rfl, .ofR HO.out⟩, HB0.out.trans hb2⟩
theorem Find_refrow (s : ByteArray) (hs : s.size ≤ 900000000) (w : World) :
    Calls Tryz.prog 12 #[.string s] w fun e w' => ∃ v, e = .returned (.tuple #[v, .int .i64 ((findL s.data.toList).2 : Int)]) ∧ SRow w' v (findL s.data.toList).1 ∧ Below w.heap.size w w' :=
  (Find_ref s hs w).mono fun _ _ ⟨⟨v, h1, h2⟩, h3⟩ => ⟨v, h1, h2, h3⟩
end Go.Proofs.YtffngbjnbigipaaGreatDoor
