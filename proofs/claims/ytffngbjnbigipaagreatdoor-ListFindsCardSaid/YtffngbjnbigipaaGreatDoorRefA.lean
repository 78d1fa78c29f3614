/- The document's lists: its function address. -/
import Derived.Test.YtffngbjnbigipaaGreatDoorRefL
import Derived.Test.YtffngbjnbigipaaGreatDoorRSpot
import Derived.Test.YtffngbjnbigipaaGreatDoorParR
namespace Go.Proofs.YtffngbjnbigipaaGreatDoor
open Go.RowKit Go.Lib
set_option linter.unusedSimpArgs false
set_option linter.unusedVariables false
set_option linter.unnecessarySimpa false
set_option maxRecDepth 100000

/-- the document's row at block B: its spots, whether one was too long. -/
structure RR (B : Nat) (v : Value) (long : Bool) (W : World) : Prop where
  lt : B < W.heap.size
  c0 : W.cell? ⟨B, 0, none⟩ = some v
  c1 : W.cell? ⟨B, 1, none⟩ = some (.bool long)
  fr : ∀ o, o < 2 → W.frozen? ⟨B, o, none⟩ = false
theorem RR.below {B : Nat} {v : Value} {long : Bool} {w W : World} (h : RR B v long w) (hb : Below w.heap.size w W) : RR B v long W :=
  ⟨Nat.lt_of_lt_of_le h.lt hb.size, (hb.cell (p := ⟨B, 0, none⟩) h.lt).trans h.c0, (hb.cell (p := ⟨B, 1, none⟩) h.lt).trans h.c1, fun o ho => (hb.frozen (p := ⟨B, o, none⟩) h.lt).trans (h.fr o ho)⟩
theorem RR.long_ {B : Nat} {v : Value} {long : Bool} {W : World} (h : RR B v long W) (long' : Bool) : RR B v long' (W.setCell ⟨B, 1, none⟩ (.bool long')) :=
  ⟨by simpa [World.setCell] using h.lt, by rw [cell_far _ _ _ _ _ (by decide)]; exact h.c0, set_same _ _ _ _ h.c1, fun o ho => by rw [World.frozen?_setCell]; exact h.fr o ho⟩
theorem RR.spots {B : Nat} {v : Value} {long : Bool} {W : World} (h : RR B v long W) (v' : Value) : RR B v' long (W.setCell ⟨B, 0, none⟩ v') :=
  ⟨by simpa [World.setCell] using h.lt, set_same _ _ _ _ h.c0, by rw [cell_far _ _ _ _ _ (by decide)]; exact h.c1, fun o ho => by rw [World.frozen?_setCell]; exact h.fr o ho⟩
theorem RR.grown {B : Nat} {v : Value} {long : Bool} {w W : World} {row : Option Nat} (h : RR B v long w) (hg : w.grownBy W row) (hr : ∀ g, row = some g → B + 1 ≤ g) : RR B v long W := by
  have hB : W.heap[B]? = w.heap[B]? := hg.block B h.lt (fun e => by have := hr B e.symm; omega)
  have hc : ∀ o, W.cell? ⟨B, o, none⟩ = w.cell? ⟨B, o, none⟩ := fun o => World.cell?_of_block (w := w) hB
  have hf : ∀ o, W.frozen? ⟨B, o, none⟩ = w.frozen? ⟨B, o, none⟩ := fun o => World.frozen?_of_block (w := w) hB
  exact ⟨Nat.lt_of_lt_of_le h.lt hg.size, (hc 0).trans h.c0, (hc 1).trans h.c1, fun o ho => (hf o).trans (h.fr o ho)⟩
def RO (B : Nat) (st : LSt) (W : World) : Prop := ∃ v, RR B v st.2 W ∧ W.ownsRow (B + 1) 35 4 v st.1.length (spsC st.1)
theorem RO.below {B : Nat} {st : LSt} {w W : World} (h : RO B st w) (hb : Below w.heap.size w W) : RO B st W := by
  obtain ⟨v, h, ho⟩ := h
  exact ⟨v, h.below hb, own_but ho (But.of_below hb)⟩
theorem RO.lt {B : Nat} {st : LSt} {w : World} (h : RO B st w) : B < w.heap.size := by
  obtain ⟨v, h, ho⟩ := h
  exact h.lt
/-- what the document's functions hand back: a place, or -1. -/
def endP : Option (Nat × LSt) → Int
  | none => -1
  | some (n, _) => (n : Int)
def AdP (B : Nat) (R : Option (Nat × LSt)) (W : World) : Prop := match R with
  | none => True
  | some (_, st) => RO B st W
theorem info_ref : (Tryz.prog.info? 35).map (fun i => (i.zero, i.size, i.bytes)) = some (some (.agg #[.int .i64 0, .int .i64 0, .string ⟨#[]⟩, .string ⟨#[]⟩]), 4, 48) := by kernel_rfl
theorem app_ref_eq (w : World) (B : Nat) (v : Value) (n : Nat) (xs : List Value) (hown : w.ownsRow B 35 4 v n xs) (a b c d : Value) (h1 : ∀ u ∈ [a, b, c, d], u.oneCell' = true) (hlen : n + 1 ≤ 2000000000000) (hbase : B ≤ w.heap.size) :
    ∃ g cap w', (Builtin.append_ #[26, 26] 26 #[v, .slice (some ⟨w.heap.size, 0, none⟩) 1 1]).run Tryz.prog (w.alloc (.cells #[a, b, c, d] 35)) = .ok (.slice (some ⟨g, 0, none⟩) (n + 1) cap) w' ∧ w'.ownsRow B 35 4 (.slice (some ⟨g, 0, none⟩) (n + 1) cap) (n + 1) (xs ++ [a, b, c, d]) ∧
      (w.alloc (.cells #[a, b, c, d] 35)).grownBy w' v.ownBlock := by
  obtain ⟨i0, hi, hz0, hz1, hz2⟩ := info_parts info_ref
  obtain ⟨v', w', hrun, hown', hgr, _⟩ := run_append_own (w.alloc (.cells #[a, b, c, d] 35)) B 26 26 35 i0 _ 4 48 Tryz.underlying26 hi hz0 hz1 hz2 rfl (by decide) v n xs (hown.alloc _) ⟨w.heap.size, 0, none⟩ 1 1 [a, b, c, d] rfl (cells4 w a b c d 35) h1 (by unfold maxLen; omega) (by omega) (by rw [World.size_alloc]; omega)
  have h2 := hown'
  obtain ⟨_, ⟨_, h0⟩ | ⟨g, cap, cur, rfl, _⟩⟩ := h2
  · omega
  · exact ⟨g, cap, w', hrun, hown', hgr⟩
theorem step_append_ref {ops : Array Oper} {o : Oper} {a : Act} {w : World} {K : Act → World → Prop} {Q : Exit → Act → World → Prop} {E : Prop}
    (hg : o.guard = none) (s x : Operand) (hop : o.op = Op.call { callee := Callee.builtin Builtin.append, args := #[s, x], argTypes := #[26, 26] }) (hty : o.type = 26)
    (v xv v' : Value) (w' : World) (hs : a.eval s = v) (hx : a.eval x = xv) (hrun : (Builtin.append_ #[26, 26] 26 #[v, xv]).run Tryz.prog w = .ok v' w') (hK : K (a.put o.dst v') w') :
    if Region.wanted o (yielded ops a.tmps) = true then Oper.wp Tryz.prog o a w K Q else E := by
  have hw : Region.wanted o (yielded ops a.tmps) = true := by simp [Region.wanted, hg]
  rw [if_pos hw]
  unfold Oper.wp
  simp [execOp, hop, hty, resolve, invoke, builtin, hs, hx, hrun, Result.andThen]
  exact hK
theorem own_base_ref {w : World} {B : Nat} {v : Value} {n : Nat} {xs : List Value} (h : w.ownsRow B 35 4 v n xs) : ∀ k, v.ownBlock = some k → B ≤ k := by
  intro k hk
  obtain ⟨_, ⟨rfl, _⟩ | ⟨g', cap', cur, rfl, hg, _⟩⟩ := h
  · simp [Value.ownBlock] at hk
  · simp only [Value.ownBlock, Option.some.injEq] at hk
    omega
/-- behind the region that appends: the lemma of its worlds. -/
structure AppW (B T : Nat) (v : Value) (sp : List Sp) (a t : Nat) (x y : List UInt8) (g : Bool) (W wa : World) (ga capa : Nat) : Prop where
  run : (Builtin.append_ #[26, 26] 26 #[v, .slice (some ⟨W.heap.size, 0, none⟩) 1 1]).run Tryz.prog (W.alloc (.cells #[.int .i64 (a : Int), .int .i64 (t : Int), .string ⟨x.toArray⟩, .string ⟨y.toArray⟩] 35)) = .ok (.slice (some ⟨ga, 0, none⟩) (sp.length + 1) capa) wa
  sA : (W.alloc (.cells #[.int .i64 (a : Int), .int .i64 (t : Int), .string ⟨x.toArray⟩, .string ⟨y.toArray⟩] 35)).cell? ⟨B, 0, none⟩ = some v ∧ (W.alloc (.cells #[.int .i64 (a : Int), .int .i64 (t : Int), .string ⟨x.toArray⟩, .string ⟨y.toArray⟩] 35)).cell? ⟨T, 0, none⟩ = some (.string ⟨x.toArray⟩) ∧ (W.alloc (.cells #[.int .i64 (a : Int), .int .i64 (t : Int), .string ⟨x.toArray⟩, .string ⟨y.toArray⟩] 35)).cell? ⟨T, 1, none⟩ = some (.string ⟨y.toArray⟩)
  s6 : wa.cell? ⟨B, 0, none⟩ = some v ∧ wa.cell? ⟨T, 0, none⟩ = some (.string ⟨x.toArray⟩) ∧ wa.cell? ⟨T, 1, none⟩ = some (.string ⟨y.toArray⟩)
  f6 : wa.frozen? ⟨B, 0, none⟩ = false
  ro : RO B (sp ++ [(a, t, x, y)], g) (wa.setCell ⟨B, 0, none⟩ (.slice (some ⟨ga, 0, none⟩) (sp.length + 1) capa))
  below : Below B W (wa.setCell ⟨B, 0, none⟩ (.slice (some ⟨ga, 0, none⟩) (sp.length + 1) capa))
theorem appW {B T : Nat} {v : Value} {sp : List Sp} (a t : Nat) {x y : List UInt8} {g : Bool} {W : World} (h : RR B v g W) (ho : W.ownsRow (B + 1) 35 4 v sp.length (spsC sp)) (hst : sp.length ≤ 1000000000000)
    (hT : Two T (.string ⟨x.toArray⟩) (.string ⟨y.toArray⟩) W) (hne : v.ownBlock ≠ some T) : ∃ wa ga capa, AppW B T v sp a t x y g W wa ga capa := by
  obtain ⟨ga, capa, wa, hrun, hown, hgr⟩ := app_ref_eq W (B + 1) v sp.length (spsC sp) ho (.int .i64 (a : Int)) (.int .i64 (t : Int)) (.string ⟨x.toArray⟩) (.string ⟨y.toArray⟩) (by simp [Value.oneCell']) (by omega) h.lt
  have hA := h.below (alloc_below W (.cells #[.int .i64 (a : Int), .int .i64 (t : Int), .string ⟨x.toArray⟩, .string ⟨y.toArray⟩] 35))
  have hTA := hT.below (alloc_below W (.cells #[.int .i64 (a : Int), .int .i64 (t : Int), .string ⟨x.toArray⟩, .string ⟨y.toArray⟩] 35))
  have h6 := hA.grown hgr (own_base_ref ho)
  have hTb := hgr.block T hTA.lt (fun e => hne e.symm)
  have hTb := hgr.block T hTA.lt (fun e => hne e.symm)
  refine ⟨wa, ga, capa, hrun, ⟨hA.c0, hTA.c0, hTA.c1⟩, ⟨h6.c0, (World.cell?_of_block (w := W.alloc _) hTb).trans hTA.c0, (World.cell?_of_block (w := W.alloc _) hTb).trans hTA.c1⟩, h6.fr 0 (by decide), ⟨_, h6.spots _, ?_⟩, ?_⟩
  · have := own_set (o := 0) (u := .slice (some ⟨ga, 0, none⟩) (sp.length + 1) capa) hown
    simp only [List.length_append, List.length_cons, List.length_nil, Nat.zero_add]
    rw [spsC_snoc]
    exact this
  · have h7 := (Below.refl B W).alloc (Nat.le_of_lt h.lt) (.cells #[.int .i64 (a : Int), .int .i64 (t : Int), .string ⟨x.toArray⟩, .string ⟨y.toArray⟩] 35)
    have h8 := h7.grown hgr (by rw [World.size_alloc]; exact Nat.le_succ_of_le (Nat.le_of_lt h.lt)) (fun k hk => Nat.le_of_succ_le (own_base_ref ho k hk))
    exact h8.setCell (p := ⟨B, 0, none⟩) (Nat.le_refl _) _
set_option maxHeartbeats 4000000 in
theorem address_any (B : Nat) (s : ByteArray) (a b : Nat) (st : LSt) (w : World) (h : RO B st w) (hb : b ≤ s.size) (hs : s.size ≤ 900000000) (hst : st.1.length ≤ 1000000000000) :
    Calls Tryz.prog 125 #[.pointer (some ⟨B, 0, none⟩), .string s, .int .i64 (a : Int), .int .i64 (b : Int)] w fun e w' => e = .returned (.int .i64 (endP (addrE s.data.toList a b st))) ∧ AdP B (addrE s.data.toList a b st) w' ∧ Below B w w' := by
  obtain ⟨v, h, hown⟩ := h
  obtain ⟨sp, g⟩ := st
  simp only at h hown hst
  have HR := Lib.hid h
  have HO := Lib.hid hown
  clear h hown
  have HA := Lib.hid (fun W => at_ref s b (by omega) (by omega) W)
  have hN : addrE s.data.toList a b (sp, g) = addrE s.data.toList a b (sp, g) := rfl
  conv at hN => rhs; unfold addrE
  generalize addrE s.data.toList a b (sp, g) = R at hN ⊢
  by_cases hab : b ≤ a
  · have hab1 : (b : Int) ≤ (a : Int) := by omega
    rw [if_pos hab] at hN
    have HN := Lib.hid hN
    clear hN hab
    go_enter Tryz.func125, Tryz.ntmps125
    go_wp2
    go_ret
    rw [HN.out]
    exact ⟨rfl, trivial, Below.refl _ _⟩
  · have hab1 : ¬ (b : Int) ≤ (a : Int) := by omega
    rw [if_neg hab] at hN
    by_cases h64 : s.data.toList[b]? = some 64
    · rw [if_neg (by simp [h64])] at hN
      rw [nextB_yes h64] at HA
      have hq : (((64 : UInt8).toNat : Int) != 64) = false := rfl
      have hbl := at_lt h64
      rw [list_len] at hbl
      have hwb : IntKind.i64.wrap ((b : Int) + 1) = ((b + 1 : Nat) : Int) := by rw [IntKind.wrap_i64]; omega
      have HD := Lib.hid (fun W => domain_ref2 s (b + 1) (by omega) hs W)
      cases hdom : domE s.data.toList (b + 1) with
      | none =>
        rw [hdom] at hN HD
        simp only [endI] at HD hN
        have HN := Lib.hid hN
        clear hN hdom h64
        go_enter Tryz.func125, Tryz.ntmps125
        go_wp2_with fail
        refine (HA.out _).mono ?_
        rintro e w2 ⟨rfl, hw2⟩
        rw [hw2]
        clear hw2
        go_wp2_with fail
        refine (HD.out _).mono ?_
        rintro e w3 ⟨rfl, hw3⟩
        rw [hw3]
        clear hw3
        go_wp2
        go_ret
        rw [HN.out]
        exact ⟨rfl, trivial, Below.refl _ _⟩
      | some t =>
        have hdl := domE_le (l := s.data.toList) (k := b + 1) (by rw [list_len]; omega) hdom
        rw [list_len] at hdl
        rw [hdom] at hN HD
        simp only [endI] at HD hN
        have ha0 : (0 : Int) ≤ (a : Int) := by omega
        have hat : (a : Int) ≤ (t : Int) := by omega
        have hts : (t : Int) ≤ (s.size : Int) := by omega
        have ht0 : ¬ (t : Int) < 0 := by omega
        have HP := Lib.hid (fun W => Parse_ref (s.extract a t) (by simp; omega) W)
        rw [slc_ext] at HP
        have her := parse_errs (slc s.data.toList a t)
        generalize parseL (slc s.data.toList a t) = X at HP hN her
        obtain ⟨x, y, er⟩ := X
        simp only [parV, addrV] at HP hN her
        rcases her with rfl | rfl | rfl
        · rw [if_neg (by decide)] at hN
          simp only [bne_self_eq_false, Bool.or_false] at hN
          have HN := Lib.hid hN
          clear hN hdom h64
          go_enter Tryz.func125, Tryz.ntmps125
          go_wp2_with fail
          refine (HA.out _).mono ?_
          rintro e w2 ⟨rfl, hw2⟩
          rw [hw2]
          clear hw2
          go_wp2_with fail
          refine (HD.out _).mono ?_
          rintro e w3 ⟨rfl, hw3⟩
          rw [hw3]
          clear hw3
          go_wp2_with fail
          refine (HP.out _).mono ?_
          rintro e w4 ⟨rfl, hb4⟩
          have hbA := alloc_below w4 (.cells #[.string ⟨x.toArray⟩, .string ⟨y.toArray⟩] 33)
          have hT0 := Two.made w4 (.string ⟨x.toArray⟩) (.string ⟨y.toArray⟩) 33
          have hR4 := HR.out.below hb4
          have hO4 := own_but HO.out (But.of_below (B := B) hb4)
          have hneT : v.ownBlock ≠ some w4.heap.size := fun e => by
            have := (World.ownsRow.lt hO4 _ e).2
            omega
          have hTB : B ≠ w4.heap.size := by have := hR4.lt; omega
          have hRA := hR4.below hbA
          have hOA := own_but hO4 (But.of_below (B := B) hbA)
          have hlA := (hb4.mono (Nat.le_of_lt HR.out.lt)).trans (hbA.mono (Nat.le_of_lt hR4.lt))
          generalize hTn : w4.heap.size = T at *
          go_wp2_with fail
          generalize hWX : (w4.alloc (.cells #[.string ⟨x.toArray⟩, .string ⟨y.toArray⟩] 33)) = WX at *
          have HRX := Lib.hid (hRA.below (drew_below WX))
          have HOX := Lib.hid (own_but hOA (But.of_below (B := B) (drew_below WX)))
          have HTX := Lib.hid (hT0.below (drew_below WX))
          have HLX := Lib.hid (hlA.drew)
          obtain ⟨wa, ga, capa, hW⟩ := appW a t HRX.out HOX.out hst HTX.out hneT
          have HW := Lib.hid hW
          have hS : WX.drew.cell? ⟨B, 0, none⟩ = some v ∧ WX.drew.cell? ⟨T, 0, none⟩ = some (.string ⟨x.toArray⟩) ∧ WX.drew.cell? ⟨T, 1, none⟩ = some (.string ⟨y.toArray⟩) := ⟨HRX.out.c0, HTX.out.c0, HTX.out.c1⟩
          clear hW
          refine wp_region_marked (S := (fun W => W.cell? ⟨B, 0, none⟩ = some v ∧ W.cell? ⟨T, 0, none⟩ = some (.string ⟨x.toArray⟩) ∧ W.cell? ⟨T, 1, none⟩ = some (.string ⟨y.toArray⟩))) 13 (by kernel_rfl) hS (fun hHeld => ?_)
          refine wpAnyM_take (i := 0) (oi := _) (v := .pointer (some ⟨B, 0, none⟩)) rfl (by kernel_rfl) (by kernel_rfl) (by kernel_rfl) (fun _ _ _ h => h) (by kernel_rfl) (by kernel_rfl) (Or.inl ⟨by kernel_rfl, ?_⟩) (by assumption) ?_
          · (intro w hSw; (try dsimp only at hSw); go_simp)
          try simp only [List.getElem_toArray, List.getElem_cons_zero, List.getElem_cons_succ, Act.put, List.setIfInBounds_toArray, List.set_cons_zero, List.set_cons_succ]
          refine wpAnyM_take (i := 1) (oi := _) (v := .pointer (some ⟨B, 0, none⟩)) rfl (by kernel_rfl) (by kernel_rfl) (by kernel_rfl) (fun _ _ _ h => h) (by kernel_rfl) (by kernel_rfl) (Or.inl ⟨by kernel_rfl, ?_⟩) (by assumption) ?_
          · (intro w hSw; (try dsimp only at hSw); go_simp)
          try simp only [List.getElem_toArray, List.getElem_cons_zero, List.getElem_cons_succ, Act.put, List.setIfInBounds_toArray, List.set_cons_zero, List.set_cons_succ]
          refine wpAnyM_take (i := 2) (oi := _) (v := .pointer (some ⟨B, 0, none⟩)) rfl (by kernel_rfl) (by kernel_rfl) (by kernel_rfl) (fun _ _ _ h => h) (by kernel_rfl) (by kernel_rfl) (Or.inl ⟨by kernel_rfl, ?_⟩) (by assumption) ?_
          · (intro w hSw; (try dsimp only at hSw); go_simp)
          try simp only [List.getElem_toArray, List.getElem_cons_zero, List.getElem_cons_succ, Act.put, List.setIfInBounds_toArray, List.set_cons_zero, List.set_cons_succ]
          refine wpAnyM_take (i := 3) (oi := _) (v := .pointer (some ⟨B, 0, none⟩)) rfl (by kernel_rfl) (by kernel_rfl) (by kernel_rfl) (fun _ _ _ h => h) (by kernel_rfl) (by kernel_rfl) (Or.inl ⟨by kernel_rfl, ?_⟩) (by assumption) ?_
          · (intro w hSw; (try dsimp only at hSw); go_simp)
          try simp only [List.getElem_toArray, List.getElem_cons_zero, List.getElem_cons_succ, Act.put, List.setIfInBounds_toArray, List.set_cons_zero, List.set_cons_succ]
          refine wpAnyM_take (i := 4) (oi := _) (v := v) rfl (by kernel_rfl) (by kernel_rfl) (by kernel_rfl) (fun _ _ _ h => h) (by kernel_rfl) (by kernel_rfl) (Or.inl ⟨by kernel_rfl, ?_⟩) (by assumption) ?_
          · (intro w hSw; (try dsimp only at hSw); go_simp)
          try simp only [List.getElem_toArray, List.getElem_cons_zero, List.getElem_cons_succ, Act.put, List.setIfInBounds_toArray, List.set_cons_zero, List.set_cons_succ]
          refine wpAnyM_take (i := 5) (oi := _) (v := .int .i64 (a : Int)) rfl (by kernel_rfl) (by kernel_rfl) (by kernel_rfl) (fun _ _ _ h => h) (by kernel_rfl) (by kernel_rfl) (Or.inl ⟨by kernel_rfl, ?_⟩) (by assumption) ?_
          · (intro w hSw; (try dsimp only at hSw); go_simp)
          try simp only [List.getElem_toArray, List.getElem_cons_zero, List.getElem_cons_succ, Act.put, List.setIfInBounds_toArray, List.set_cons_zero, List.set_cons_succ]
          refine wpAnyM_take (i := 6) (oi := _) (v := .int .i64 (t : Int)) rfl (by kernel_rfl) (by kernel_rfl) (by kernel_rfl) (fun _ _ _ h => h) (by kernel_rfl) (by kernel_rfl) (Or.inl ⟨by kernel_rfl, ?_⟩) (by assumption) ?_
          · (intro w hSw; (try dsimp only at hSw); go_simp)
          try simp only [List.getElem_toArray, List.getElem_cons_zero, List.getElem_cons_succ, Act.put, List.setIfInBounds_toArray, List.set_cons_zero, List.set_cons_succ]
          refine wpAnyM_take (i := 7) (oi := _) (v := .agg #[.string ⟨x.toArray⟩, .string ⟨y.toArray⟩]) rfl (by kernel_rfl) (by kernel_rfl) (by kernel_rfl) (fun _ _ _ h => h) (by kernel_rfl) (by kernel_rfl) (Or.inl ⟨by kernel_rfl, ?_⟩) (by assumption) ?_
          · (intro w hSw; (try dsimp only at hSw); go_simp)
          try simp only [List.getElem_toArray, List.getElem_cons_zero, List.getElem_cons_succ, Act.put, List.setIfInBounds_toArray, List.set_cons_zero, List.set_cons_succ]
          refine wpAnyM_take (i := 8) (oi := _) (v := .agg #[.int .i64 (a : Int), .int .i64 (t : Int), .string ⟨x.toArray⟩, .string ⟨y.toArray⟩]) rfl (by kernel_rfl) (by kernel_rfl) (by kernel_rfl) (fun _ _ _ h => h) (by kernel_rfl) (by kernel_rfl) (Or.inl ⟨by kernel_rfl, ?_⟩) (by assumption) ?_
          · (intro w hSw; (try dsimp only at hSw); go_simp)
          try simp only [List.getElem_toArray, List.getElem_cons_zero, List.getElem_cons_succ, Act.put, List.setIfInBounds_toArray, List.set_cons_zero, List.set_cons_succ]
          refine wpAnyM_one (i := 9) (o := _) rfl (by kernel_rfl) (fun K hK => ?_)
          go_simp
          refine hK.out _ _ (fun _ => HW.out.sA) (fun hHeld => ?_)
          clear hK K
          try have hHeld := hHeld (by decide)
          try simp only [List.getElem_toArray, List.getElem_cons_zero, List.getElem_cons_succ, Act.put, List.setIfInBounds_toArray, List.set_cons_zero, List.set_cons_succ]
          refine wpAnyM_one (i := 10) (o := _) rfl (by kernel_rfl) (fun K hK => ?_)
          refine step_append_ref rfl _ _ rfl rfl _ _ _ _ rfl rfl HW.out.run ?_
          refine hK.out _ _ (fun _ => HW.out.s6) (fun hHeld => ?_)
          clear hK K
          try have hHeld := hHeld (by decide)
          try simp only [List.getElem_toArray, List.getElem_cons_zero, List.getElem_cons_succ, Act.put, List.setIfInBounds_toArray, List.set_cons_zero, List.set_cons_succ]
          refine wpAnyM_take (i := 11) (oi := _) (v := .pointer (some ⟨B, 0, none⟩)) rfl (by kernel_rfl) (by kernel_rfl) (by kernel_rfl) (fun _ _ _ h => h) (by kernel_rfl) (by kernel_rfl) (Or.inl ⟨by kernel_rfl, ?_⟩) (by assumption) ?_
          · (intro w hSw; (try dsimp only at hSw); go_simp)
          try simp only [List.getElem_toArray, List.getElem_cons_zero, List.getElem_cons_succ, Act.put, List.setIfInBounds_toArray, List.set_cons_zero, List.set_cons_succ]
          refine wpAnyM_take (i := 12) (oi := _) (v := .pointer (some ⟨B, 0, none⟩)) rfl (by kernel_rfl) (by kernel_rfl) (by kernel_rfl) (fun _ _ _ h => h) (by kernel_rfl) (by kernel_rfl) (Or.inl ⟨by kernel_rfl, ?_⟩) (by assumption) ?_
          · (intro w hSw; (try dsimp only at hSw); go_simp)
          try simp only [List.getElem_toArray, List.getElem_cons_zero, List.getElem_cons_succ, Act.put, List.setIfInBounds_toArray, List.set_cons_zero, List.set_cons_succ]
          refine wpAnyM_one (i := 13) (o := _) rfl (by kernel_rfl) (fun K hK => ?_)
          have c6 := HW.out.s6.1
          have f6 := HW.out.f6
          go_simp
          refine hK.out _ _ (fun h => absurd rfl h) (fun hHeld => ?_)
          clear hK K
          try have hHeld := hHeld (by decide)
          try simp only [List.getElem_toArray, List.getElem_cons_zero, List.getElem_cons_succ, Act.put, List.setIfInBounds_toArray, List.set_cons_zero, List.set_cons_succ]
          refine wpAnyM_done (by kernel_rfl) ?_ _
          go_wp2
          go_ret
          rw [HN.out]
          exact ⟨rfl, HW.out.ro, HLX.out.trans HW.out.below⟩
        · rw [if_neg (by decide)] at hN
          have hN2 : R = some (t, sp ++ [(a, t, x, y)], true) := by rw [hN]; simp
          have HN := Lib.hid hN2
          clear hN hN2 hdom h64
          go_enter Tryz.func125, Tryz.ntmps125
          go_wp2_with fail
          refine (HA.out _).mono ?_
          rintro e w2 ⟨rfl, hw2⟩
          rw [hw2]
          clear hw2
          go_wp2_with fail
          refine (HD.out _).mono ?_
          rintro e w3 ⟨rfl, hw3⟩
          rw [hw3]
          clear hw3
          go_wp2_with fail
          refine (HP.out _).mono ?_
          rintro e w4 ⟨rfl, hb4⟩
          have hbA := alloc_below w4 (.cells #[.string ⟨x.toArray⟩, .string ⟨y.toArray⟩] 33)
          have hT0 := Two.made w4 (.string ⟨x.toArray⟩) (.string ⟨y.toArray⟩) 33
          have hR4 := HR.out.below hb4
          have hO4 := own_but HO.out (But.of_below (B := B) hb4)
          have hneT : v.ownBlock ≠ some w4.heap.size := fun e => by
            have := (World.ownsRow.lt hO4 _ e).2
            omega
          have hTB : B ≠ w4.heap.size := by have := hR4.lt; omega
          have hRA := hR4.below hbA
          have hOA := own_but hO4 (But.of_below (B := B) hbA)
          have hlA := (hb4.mono (Nat.le_of_lt HR.out.lt)).trans (hbA.mono (Nat.le_of_lt hR4.lt))
          have c1 := hRA.c1
          have f1 := hRA.fr 1 (by decide)
          have hRB := hRA.long_ true
          have hOB := own_set (o := 1) (u := .bool true) hOA
          have hTBB := hT0.far (o := 1) (v := .bool true) (Ne.symm hTB)
          have hlB := hlA.setCell (p := ⟨B, 1, none⟩) (Nat.le_refl _) (.bool true)
          generalize hTn : w4.heap.size = T at *
          go_wp2_with fail
          generalize hWX : ((w4.alloc (.cells #[.string ⟨x.toArray⟩, .string ⟨y.toArray⟩] 33)).setCell ⟨B, 1, none⟩ (.bool true)) = WX at *
          have HRX := Lib.hid (hRB.below (drew_below WX))
          have HOX := Lib.hid (own_but hOB (But.of_below (B := B) (drew_below WX)))
          have HTX := Lib.hid (hTBB.below (drew_below WX))
          have HLX := Lib.hid (hlB.drew)
          obtain ⟨wa, ga, capa, hW⟩ := appW a t HRX.out HOX.out hst HTX.out hneT
          have HW := Lib.hid hW
          have hS : WX.drew.cell? ⟨B, 0, none⟩ = some v ∧ WX.drew.cell? ⟨T, 0, none⟩ = some (.string ⟨x.toArray⟩) ∧ WX.drew.cell? ⟨T, 1, none⟩ = some (.string ⟨y.toArray⟩) := ⟨HRX.out.c0, HTX.out.c0, HTX.out.c1⟩
          clear hW
          refine wp_region_marked (S := (fun W => W.cell? ⟨B, 0, none⟩ = some v ∧ W.cell? ⟨T, 0, none⟩ = some (.string ⟨x.toArray⟩) ∧ W.cell? ⟨T, 1, none⟩ = some (.string ⟨y.toArray⟩))) 13 (by kernel_rfl) hS (fun hHeld => ?_)
          refine wpAnyM_take (i := 0) (oi := _) (v := .pointer (some ⟨B, 0, none⟩)) rfl (by kernel_rfl) (by kernel_rfl) (by kernel_rfl) (fun _ _ _ h => h) (by kernel_rfl) (by kernel_rfl) (Or.inl ⟨by kernel_rfl, ?_⟩) (by assumption) ?_
          · (intro w hSw; (try dsimp only at hSw); go_simp)
          try simp only [List.getElem_toArray, List.getElem_cons_zero, List.getElem_cons_succ, Act.put, List.setIfInBounds_toArray, List.set_cons_zero, List.set_cons_succ]
          refine wpAnyM_take (i := 1) (oi := _) (v := .pointer (some ⟨B, 0, none⟩)) rfl (by kernel_rfl) (by kernel_rfl) (by kernel_rfl) (fun _ _ _ h => h) (by kernel_rfl) (by kernel_rfl) (Or.inl ⟨by kernel_rfl, ?_⟩) (by assumption) ?_
          · (intro w hSw; (try dsimp only at hSw); go_simp)
          try simp only [List.getElem_toArray, List.getElem_cons_zero, List.getElem_cons_succ, Act.put, List.setIfInBounds_toArray, List.set_cons_zero, List.set_cons_succ]
          refine wpAnyM_take (i := 2) (oi := _) (v := .pointer (some ⟨B, 0, none⟩)) rfl (by kernel_rfl) (by kernel_rfl) (by kernel_rfl) (fun _ _ _ h => h) (by kernel_rfl) (by kernel_rfl) (Or.inl ⟨by kernel_rfl, ?_⟩) (by assumption) ?_
          · (intro w hSw; (try dsimp only at hSw); go_simp)
          try simp only [List.getElem_toArray, List.getElem_cons_zero, List.getElem_cons_succ, Act.put, List.setIfInBounds_toArray, List.set_cons_zero, List.set_cons_succ]
          refine wpAnyM_take (i := 3) (oi := _) (v := .pointer (some ⟨B, 0, none⟩)) rfl (by kernel_rfl) (by kernel_rfl) (by kernel_rfl) (fun _ _ _ h => h) (by kernel_rfl) (by kernel_rfl) (Or.inl ⟨by kernel_rfl, ?_⟩) (by assumption) ?_
          · (intro w hSw; (try dsimp only at hSw); go_simp)
          try simp only [List.getElem_toArray, List.getElem_cons_zero, List.getElem_cons_succ, Act.put, List.setIfInBounds_toArray, List.set_cons_zero, List.set_cons_succ]
          refine wpAnyM_take (i := 4) (oi := _) (v := v) rfl (by kernel_rfl) (by kernel_rfl) (by kernel_rfl) (fun _ _ _ h => h) (by kernel_rfl) (by kernel_rfl) (Or.inl ⟨by kernel_rfl, ?_⟩) (by assumption) ?_
          · (intro w hSw; (try dsimp only at hSw); go_simp)
          try simp only [List.getElem_toArray, List.getElem_cons_zero, List.getElem_cons_succ, Act.put, List.setIfInBounds_toArray, List.set_cons_zero, List.set_cons_succ]
          refine wpAnyM_take (i := 5) (oi := _) (v := .int .i64 (a : Int)) rfl (by kernel_rfl) (by kernel_rfl) (by kernel_rfl) (fun _ _ _ h => h) (by kernel_rfl) (by kernel_rfl) (Or.inl ⟨by kernel_rfl, ?_⟩) (by assumption) ?_
          · (intro w hSw; (try dsimp only at hSw); go_simp)
          try simp only [List.getElem_toArray, List.getElem_cons_zero, List.getElem_cons_succ, Act.put, List.setIfInBounds_toArray, List.set_cons_zero, List.set_cons_succ]
          refine wpAnyM_take (i := 6) (oi := _) (v := .int .i64 (t : Int)) rfl (by kernel_rfl) (by kernel_rfl) (by kernel_rfl) (fun _ _ _ h => h) (by kernel_rfl) (by kernel_rfl) (Or.inl ⟨by kernel_rfl, ?_⟩) (by assumption) ?_
          · (intro w hSw; (try dsimp only at hSw); go_simp)
          try simp only [List.getElem_toArray, List.getElem_cons_zero, List.getElem_cons_succ, Act.put, List.setIfInBounds_toArray, List.set_cons_zero, List.set_cons_succ]
          refine wpAnyM_take (i := 7) (oi := _) (v := .agg #[.string ⟨x.toArray⟩, .string ⟨y.toArray⟩]) rfl (by kernel_rfl) (by kernel_rfl) (by kernel_rfl) (fun _ _ _ h => h) (by kernel_rfl) (by kernel_rfl) (Or.inl ⟨by kernel_rfl, ?_⟩) (by assumption) ?_
          · (intro w hSw; (try dsimp only at hSw); go_simp)
          try simp only [List.getElem_toArray, List.getElem_cons_zero, List.getElem_cons_succ, Act.put, List.setIfInBounds_toArray, List.set_cons_zero, List.set_cons_succ]
          refine wpAnyM_take (i := 8) (oi := _) (v := .agg #[.int .i64 (a : Int), .int .i64 (t : Int), .string ⟨x.toArray⟩, .string ⟨y.toArray⟩]) rfl (by kernel_rfl) (by kernel_rfl) (by kernel_rfl) (fun _ _ _ h => h) (by kernel_rfl) (by kernel_rfl) (Or.inl ⟨by kernel_rfl, ?_⟩) (by assumption) ?_
          · (intro w hSw; (try dsimp only at hSw); go_simp)
          try simp only [List.getElem_toArray, List.getElem_cons_zero, List.getElem_cons_succ, Act.put, List.setIfInBounds_toArray, List.set_cons_zero, List.set_cons_succ]
          refine wpAnyM_one (i := 9) (o := _) rfl (by kernel_rfl) (fun K hK => ?_)
          go_simp
          refine hK.out _ _ (fun _ => HW.out.sA) (fun hHeld => ?_)
          clear hK K
          try have hHeld := hHeld (by decide)
          try simp only [List.getElem_toArray, List.getElem_cons_zero, List.getElem_cons_succ, Act.put, List.setIfInBounds_toArray, List.set_cons_zero, List.set_cons_succ]
          refine wpAnyM_one (i := 10) (o := _) rfl (by kernel_rfl) (fun K hK => ?_)
          refine step_append_ref rfl _ _ rfl rfl _ _ _ _ rfl rfl HW.out.run ?_
          refine hK.out _ _ (fun _ => HW.out.s6) (fun hHeld => ?_)
          clear hK K
          try have hHeld := hHeld (by decide)
          try simp only [List.getElem_toArray, List.getElem_cons_zero, List.getElem_cons_succ, Act.put, List.setIfInBounds_toArray, List.set_cons_zero, List.set_cons_succ]
          refine wpAnyM_take (i := 11) (oi := _) (v := .pointer (some ⟨B, 0, none⟩)) rfl (by kernel_rfl) (by kernel_rfl) (by kernel_rfl) (fun _ _ _ h => h) (by kernel_rfl) (by kernel_rfl) (Or.inl ⟨by kernel_rfl, ?_⟩) (by assumption) ?_
          · (intro w hSw; (try dsimp only at hSw); go_simp)
          try simp only [List.getElem_toArray, List.getElem_cons_zero, List.getElem_cons_succ, Act.put, List.setIfInBounds_toArray, List.set_cons_zero, List.set_cons_succ]
          refine wpAnyM_take (i := 12) (oi := _) (v := .pointer (some ⟨B, 0, none⟩)) rfl (by kernel_rfl) (by kernel_rfl) (by kernel_rfl) (fun _ _ _ h => h) (by kernel_rfl) (by kernel_rfl) (Or.inl ⟨by kernel_rfl, ?_⟩) (by assumption) ?_
          · (intro w hSw; (try dsimp only at hSw); go_simp)
          try simp only [List.getElem_toArray, List.getElem_cons_zero, List.getElem_cons_succ, Act.put, List.setIfInBounds_toArray, List.set_cons_zero, List.set_cons_succ]
          refine wpAnyM_one (i := 13) (o := _) rfl (by kernel_rfl) (fun K hK => ?_)
          have c6 := HW.out.s6.1
          have f6 := HW.out.f6
          go_simp
          refine hK.out _ _ (fun h => absurd rfl h) (fun hHeld => ?_)
          clear hK K
          try have hHeld := hHeld (by decide)
          try simp only [List.getElem_toArray, List.getElem_cons_zero, List.getElem_cons_succ, Act.put, List.setIfInBounds_toArray, List.set_cons_zero, List.set_cons_succ]
          refine wpAnyM_done (by kernel_rfl) ?_ _
          go_wp2
          go_ret
          rw [HN.out]
          exact ⟨rfl, HW.out.ro, HLX.out.trans HW.out.below⟩
        · rw [if_pos rfl] at hN
          have HN := Lib.hid hN
          clear hN hdom h64
          go_enter Tryz.func125, Tryz.ntmps125
          go_wp2_with fail
          refine (HA.out _).mono ?_
          rintro e w2 ⟨rfl, hw2⟩
          rw [hw2]
          clear hw2
          go_wp2_with fail
          refine (HD.out _).mono ?_
          rintro e w3 ⟨rfl, hw3⟩
          rw [hw3]
          clear hw3
          go_wp2_with fail
          refine (HP.out _).mono ?_
          rintro e w4 ⟨rfl, hb4⟩
          have hbA := alloc_below w4 (.cells #[.string ⟨x.toArray⟩, .string ⟨y.toArray⟩] 33)
          have HL := Lib.hid ((hb4.mono (Nat.le_of_lt HR.out.lt)).trans (hbA.mono (Nat.le_of_lt (Nat.lt_of_lt_of_le HR.out.lt hb4.size))))
          go_wp2
          go_ret
          rw [HN.out]
          exact ⟨rfl, trivial, HL.out⟩
    · rw [if_pos (by simpa using h64)] at hN
      have hq : ((nextB s.data.toList b : Int) != 64) = true := by have := int_ne (nextB_no h64 (by decide)); simpa [bne] using this
      generalize nextB s.data.toList b = nb at HA hq
      have HN := Lib.hid hN
      clear hN h64
      go_enter Tryz.func125, Tryz.ntmps125
      go_wp2_with fail
      refine (HA.out _).mono ?_
      rintro e w2 ⟨rfl, hw2⟩
      rw [hw2]
      clear hw2
      go_wp2
      go_ret
      rw [HN.out]
      exact ⟨rfl, trivial, Below.refl _ _⟩
end Go.Proofs.YtffngbjnbigipaaGreatDoor
