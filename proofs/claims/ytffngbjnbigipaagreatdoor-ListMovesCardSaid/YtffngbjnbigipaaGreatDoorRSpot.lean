/- list's reader: its method spot: an address is read and appended to the spots. -/
import Derived.Test.YtffngbjnbigipaaGreatDoorMark
namespace Go.Proofs.YtffngbjnbigipaaGreatDoor
open Go.RowKit Go.Lib
set_option linter.unusedSimpArgs false
set_option linter.unusedVariables false
set_option linter.unnecessarySimpa false
set_option maxRecDepth 100000

/-- a spot's cells. -/
def spC (x : Sp) : List Value := [.int .i64 (x.1 : Int), .int .i64 (x.2.1 : Int), .string ⟨x.2.2.1.toArray⟩, .string ⟨x.2.2.2.toArray⟩]
def spsC (l : List Sp) : List Value := l.flatMap spC
theorem spsC_snoc (l : List Sp) (x : Sp) : spsC (l ++ [x]) = spsC l ++ spC x := by simp [spsC]
/-- the reader at block B: its text, its place, its spots in memory of its own. -/
def RZ (B : Nat) (s : ByteArray) (k : Nat) (st : LSt) (W : World) : Prop := ∃ v, RS B s k v false st.2 W ∧ W.ownsRow (B + 1) 32 4 v st.1.length (spsC st.1)
theorem own_but {B t z n : Nat} {v : Value} {xs : List Value} {w W : World} (h : w.ownsRow (B + 1) t z v n xs) (hb : But B w W) : W.ownsRow (B + 1) t z v n xs := by
  refine ⟨h.1, ?_⟩
  rcases h.2 with hn | ⟨g, cap, cur, rfl, hg, hgg, rest⟩
  · exact .inl hn
  · refine .inr ⟨g, cap, cur, rfl, hg, ?_, rest⟩
    rw [hb.block g (Array.getElem?_eq_some_iff.1 hgg).1 (by omega)]
    exact hgg
theorem info46 : (Tryz.prog.info? 32).map (fun i => (i.zero, i.size, i.bytes)) = some (some (.agg #[.int .i64 0, .int .i64 0, .string ⟨#[]⟩, .string ⟨#[]⟩]), 4, 48) := by kernel_rfl
theorem cells4 (w : World) (a b c d : Value) (t : TypeId) : ∀ (j : Nat) (u : Value), [a, b, c, d][j]? = some u → (w.alloc (.cells #[a, b, c, d] t)).cell? ((⟨w.heap.size, 0, none⟩ : Addr).add j) = some u := by
  intro j u h
  match j, h with
  | 0, h => simp at h; subst h; simp [Addr.add]
  | 1, h => simp at h; subst h; simp [Addr.add]
  | 2, h => simp at h; subst h; simp [Addr.add]
  | 3, h => simp at h; subst h; simp [Addr.add]
  | n + 4, h => simp at h
theorem app_spot_eq (w : World) (B : Nat) (v : Value) (n : Nat) (xs : List Value) (hown : w.ownsRow B 32 4 v n xs) (a b c d : Value) (h1 : ∀ u ∈ [a, b, c, d], u.oneCell' = true) (hlen : n + 1 ≤ 2000000000000) (hbase : B ≤ w.heap.size) :
    ∃ g cap w', (Builtin.append_ #[22, 22] 22 #[v, .slice (some ⟨w.heap.size, 0, none⟩) 1 1]).run Tryz.prog (w.alloc (.cells #[a, b, c, d] 32)) = .ok (.slice (some ⟨g, 0, none⟩) (n + 1) cap) w' ∧ w'.ownsRow B 32 4 (.slice (some ⟨g, 0, none⟩) (n + 1) cap) (n + 1) (xs ++ [a, b, c, d]) ∧
      (w.alloc (.cells #[a, b, c, d] 32)).grownBy w' v.ownBlock := by
  obtain ⟨i0, hi, hz0, hz1, hz2⟩ := info_parts info46
  obtain ⟨v', w', hrun, hown', hgr, _⟩ := run_append_own (w.alloc (.cells #[a, b, c, d] 32)) B 22 22 32 i0 _ 4 48 Tryz.underlying22 hi hz0 hz1 hz2 rfl (by decide) v n xs (hown.alloc _) ⟨w.heap.size, 0, none⟩ 1 1 [a, b, c, d] rfl (cells4 w a b c d 32) h1 (by unfold maxLen; omega) (by omega) (by rw [World.size_alloc]; omega)
  have h2 := hown'
  obtain ⟨_, ⟨_, h0⟩ | ⟨g, cap, cur, rfl, _⟩⟩ := h2
  · omega
  · exact ⟨g, cap, w', hrun, hown', hgr⟩
theorem step_append_spot {ops : Array Oper} {o : Oper} {a : Act} {w : World} {K : Act → World → Prop} {Q : Exit → Act → World → Prop} {E : Prop}
    (hg : o.guard = none) (s x : Operand) (hop : o.op = Op.call { callee := Callee.builtin Builtin.append, args := #[s, x], argTypes := #[22, 22] }) (hty : o.type = 22)
    (v xv v' : Value) (w' : World) (hs : a.eval s = v) (hx : a.eval x = xv) (hrun : (Builtin.append_ #[22, 22] 22 #[v, xv]).run Tryz.prog w = .ok v' w') (hK : K (a.put o.dst v') w') :
    if Region.wanted o (yielded ops a.tmps) = true then Oper.wp Tryz.prog o a w K Q else E := by
  have hw : Region.wanted o (yielded ops a.tmps) = true := by simp [Region.wanted, hg]
  rw [if_pos hw]
  unfold Oper.wp
  simp [execOp, hop, hty, resolve, invoke, builtin, hs, hx, hrun, Result.andThen]
  exact hK
theorem own_base46 {w : World} {B : Nat} {v : Value} {n : Nat} {xs : List Value} (h : w.ownsRow B 32 4 v n xs) : ∀ k, v.ownBlock = some k → B ≤ k := by
  intro k hk
  obtain ⟨_, ⟨rfl, _⟩ | ⟨g', cap', cur, rfl, hg, _⟩⟩ := h
  · simp [Value.ownBlock] at hk
  · simp only [Value.ownBlock, Option.some.injEq] at hk
    omega
theorem RS.spots {B : Nat} {s : ByteArray} {k : Nat} {v : Value} {wrong long : Bool} {W : World} (h : RS B s k v wrong long W) (v' : Value) : RS B s k v' wrong long (W.setCell ⟨B, 2, none⟩ v') :=
  ⟨by simpa [World.setCell] using h.lt, by rw [cell_far _ _ _ _ _ (by decide)]; exact h.c0, by rw [cell_far _ _ _ _ _ (by decide)]; exact h.c1, set_same _ _ _ _ h.c2,
   by rw [cell_far _ _ _ _ _ (by decide)]; exact h.c3, by rw [cell_far _ _ _ _ _ (by decide)]; exact h.c4, fun o ho => by rw [World.frozen?_setCell]; exact h.fr o ho⟩
/-- a store into block B leaves what lies in a row of another block. -/
theorem own_set {B t z n o : Nat} {v u : Value} {xs : List Value} {w : World} (h : w.ownsRow (B + 1) t z v n xs) : (w.setCell ⟨B, o, none⟩ u).ownsRow (B + 1) t z v n xs := ownsRow_setCell_below h (by show B < B + 1; omega) u
/-- behind an append to the spots the reader's own variables read as before. -/
theorem RS.grown {B : Nat} {s : ByteArray} {k : Nat} {v : Value} {wrong long : Bool} {w W : World} {row : Option Nat} (h : RS B s k v wrong long w) (hg : w.grownBy W row) (hr : ∀ g, row = some g → B + 1 ≤ g) : RS B s k v wrong long W := by
  have hB : W.heap[B]? = w.heap[B]? := hg.block B h.lt (fun e => by have := hr B e.symm; omega)
  have hc : ∀ o, W.cell? ⟨B, o, none⟩ = w.cell? ⟨B, o, none⟩ := fun o => World.cell?_of_block (w := w) hB
  have hf : ∀ o, W.frozen? ⟨B, o, none⟩ = w.frozen? ⟨B, o, none⟩ := fun o => World.frozen?_of_block (w := w) hB
  exact ⟨Nat.lt_of_lt_of_le h.lt hg.size, (hc 0).trans h.c0, (hc 1).trans h.c1, (hc 2).trans h.c2, (hc 3).trans h.c3, (hc 4).trans h.c4, fun o ho => (hf o).trans (h.fr o ho)⟩
theorem slc_ext (s : ByteArray) (a b : Nat) : (s.extract a b).data.toList = slc s.data.toList a b := by
  unfold slc
  rw [ByteArray.data_extract, Array.toList_extract, List.extract_eq_take_drop, List.drop_take]

set_option maxHeartbeats 2000000 in
/-- spot, where an @ stands and a domain behind it. -/
theorem spot_read (B : Nat) (s : ByteArray) (a k t : Nat) (v : Value) (sp : List Sp) (g : Bool) (w : World) (h : RS B s k v false g w) (hown : w.ownsRow (B + 1) 32 4 v sp.length (spsC sp)) (hs : s.size ≤ 900000000) (hE : Env w) (hB : 8 ≤ B) (hst : sp.length ≤ 1000000000000)
    (hab : a < k) (h64 : s.data.toList[k]? = some 64) (hdom : domE s.data.toList (k + 1) = some t) :
    Calls Tryz.prog 119 #[.pointer (some ⟨B, 0, none⟩), .int .i64 (a : Int)] w fun e w' => e = .returned (.tuple #[]) ∧
      (∃ v', RS B s t v' (decide ((parseL (slc s.data.toList a t)).2.2 = 5)) (g || decide ((parseL (slc s.data.toList a t)).2.2 = 3)) w' ∧
        w'.ownsRow (B + 1) 32 4 v' (sp.length + 1) (spsC sp ++ spC (a, t, (parseL (slc s.data.toList a t)).1, (parseL (slc s.data.toList a t)).2.1))) ∧ Below B w w' := by
  have hkk := at_lt h64
  rw [list_len] at hkk
  have hdl := domE_le (l := s.data.toList) (k := k + 1) (by rw [list_len]; omega) hdom
  rw [list_len] at hdl
  have HM := Lib.hid (must_at B s k v g 64 w h (by omega) h64)
  have HDD := Lib.hid (fun W (h : RS B s (k + 1) v false g W) => domain_some B s (k + 1) t v g W h (by omega) (by omega) hdom)
  have HRR := Lib.hid (fun W (h : RS B s t v false g W) (hE : Env W) => read_any B s t v g W h (s.extract a t) (by simp; omega) hE hB)
  rw [slc_ext] at HRR
  generalize parseL (slc s.data.toList a t) = R at HRR ⊢
  obtain ⟨x, y, er⟩ := R
  simp only [spC] at HRR ⊢
  generalize decide (er = 5) = wr at HRR ⊢
  generalize decide (er = 3) = long at HRR ⊢
  have HE := Lib.hid hE
  have HO := Lib.hid hown
  have hBlt := h.lt
  have ha0 : (0 : Int) ≤ (a : Int) := by omega
  have hat : (a : Int) ≤ (t : Int) := by omega
  have hts : (t : Int) ≤ (s.size : Int) := by omega
  clear hE hown h hdom h64
  go_enter Tryz.func119, Tryz.ntmps119
  go_wp2_with fail
  refine HM.out.mono ?_
  rintro e w1 ⟨rfl, hr1, hb1⟩
  have H1 := Lib.hid hr1
  clear hr1
  go_wp2_with fail
  refine (HDD.out _ H1.out).mono ?_
  rintro e w2 ⟨rfl, hr2, hb2⟩
  have hb12 := hb1.trans hb2
  have H2 := Lib.hid hr2
  have HO2 := Lib.hid (own_but HO.out hb12)
  have HE2 := Lib.hid (HE.out.but hb12 hB)
  obtain ⟨-, c0, c1, c2, c3, c4, cf⟩ := hr2
  clear c4 cf
  have hS : w2.drew.cell? ⟨B, 0, none⟩ = some (.string s) ∧ w2.drew.cell? ⟨B, 1, none⟩ = some (.int .i64 (t : Int)) ∧ w2.drew.cell? ⟨B, 2, none⟩ = some v := ⟨c0, c1, c2⟩
  have HX := Lib.hid (HRR.out w2.drew (H2.out.below (drew_below w2)) (HE2.out.below (drew_below w2)))
  have HAP := Lib.hid (fun (W : World) (ho : W.ownsRow (B + 1) 32 4 v sp.length (spsC sp)) (hz : B + 1 ≤ W.heap.size) => app_spot_eq W (B + 1) v sp.length (spsC sp) ho (.int .i64 (a : Int)) (.int .i64 (t : Int)) (.string ⟨x.toArray⟩) (.string ⟨y.toArray⟩) (by simp [Value.oneCell']) (by omega) hz)
  simp only [addrV] at HX
  go_wp2_with fail
  refine wp_region_marked (S := (fun W => W.cell? ⟨B, 0, none⟩ = some (.string s) ∧ W.cell? ⟨B, 1, none⟩ = some (.int .i64 (t : Int)) ∧ W.cell? ⟨B, 2, none⟩ = some v)) 27 (by kernel_rfl) hS (fun hHeld => ?_)
  refine wpAnyM_take (i := 0) (oi := _) (v := .pointer (some ⟨B, 0, none⟩)) rfl (by kernel_rfl) (by kernel_rfl) (by kernel_rfl) (fun _ _ _ h => h) (by kernel_rfl) (by kernel_rfl) (Or.inl ⟨by kernel_rfl, ?_⟩) (by assumption) ?_
  · (intro w hSw; (try dsimp only at hSw); go_simp)
  try simp only [List.getElem_toArray, List.getElem_cons_zero, List.getElem_cons_succ, Act.put, List.setIfInBounds_toArray, List.set_cons_zero, List.set_cons_succ]
  refine wpAnyM_take (i := 1) (oi := _) (v := .pointer (some ⟨B, 0, none⟩)) rfl (by kernel_rfl) (by kernel_rfl) (by kernel_rfl) (fun _ _ _ h => h) (by kernel_rfl) (by kernel_rfl) (Or.inl ⟨by kernel_rfl, ?_⟩) (by assumption) ?_
  · (intro w hSw; (try dsimp only at hSw); go_simp)
  try simp only [List.getElem_toArray, List.getElem_cons_zero, List.getElem_cons_succ, Act.put, List.setIfInBounds_toArray, List.set_cons_zero, List.set_cons_succ]
  refine wpAnyM_take (i := 2) (oi := _) (v := .pointer (some ⟨B, 0, none⟩)) rfl (by kernel_rfl) (by kernel_rfl) (by kernel_rfl) (fun _ _ _ h => h) (by kernel_rfl) (by kernel_rfl) (Or.inl ⟨by kernel_rfl, ?_⟩) (by assumption) ?_
  · (intro w hSw; (try dsimp only at hSw); go_simp)
  try simp only [List.getElem_toArray, List.getElem_cons_zero, List.getElem_cons_succ, Act.put, List.setIfInBounds_toArray, List.set_cons_zero, List.set_cons_succ]
  refine wpAnyM_take (i := 3) (oi := _) (v := .pointer (some ⟨B, 2, none⟩)) rfl (by kernel_rfl) (by kernel_rfl) (by kernel_rfl) (fun _ _ _ h => h) (by kernel_rfl) (by kernel_rfl) (Or.inl ⟨by kernel_rfl, ?_⟩) (by assumption) ?_
  · (intro w hSw; (try dsimp only at hSw); go_simp)
  try simp only [List.getElem_toArray, List.getElem_cons_zero, List.getElem_cons_succ, Act.put, List.setIfInBounds_toArray, List.set_cons_zero, List.set_cons_succ]
  refine wpAnyM_take (i := 4) (oi := _) (v := v) rfl (by kernel_rfl) (by kernel_rfl) (by kernel_rfl) (fun _ _ _ h => h) (by kernel_rfl) (by kernel_rfl) (Or.inl ⟨by kernel_rfl, ?_⟩) (by assumption) ?_
  · (intro w hSw; (try dsimp only at hSw); go_simp)
  try simp only [List.getElem_toArray, List.getElem_cons_zero, List.getElem_cons_succ, Act.put, List.setIfInBounds_toArray, List.set_cons_zero, List.set_cons_succ]
  refine wpAnyM_take (i := 5) (oi := _) (v := .int .i64 (a : Int)) rfl (by kernel_rfl) (by kernel_rfl) (by kernel_rfl) (fun _ _ _ h => h) (by kernel_rfl) (by kernel_rfl) (Or.inl ⟨by kernel_rfl, ?_⟩) (by assumption) ?_
  · (intro w hSw; (try dsimp only at hSw); go_simp)
  try simp only [List.getElem_toArray, List.getElem_cons_zero, List.getElem_cons_succ, Act.put, List.setIfInBounds_toArray, List.set_cons_zero, List.set_cons_succ]
  refine wpAnyM_take (i := 6) (oi := _) (v := .pointer (some ⟨B, 0, none⟩)) rfl (by kernel_rfl) (by kernel_rfl) (by kernel_rfl) (fun _ _ _ h => h) (by kernel_rfl) (by kernel_rfl) (Or.inl ⟨by kernel_rfl, ?_⟩) (by assumption) ?_
  · (intro w hSw; (try dsimp only at hSw); go_simp)
  try simp only [List.getElem_toArray, List.getElem_cons_zero, List.getElem_cons_succ, Act.put, List.setIfInBounds_toArray, List.set_cons_zero, List.set_cons_succ]
  refine wpAnyM_take (i := 7) (oi := _) (v := .pointer (some ⟨B, 0, none⟩)) rfl (by kernel_rfl) (by kernel_rfl) (by kernel_rfl) (fun _ _ _ h => h) (by kernel_rfl) (by kernel_rfl) (Or.inl ⟨by kernel_rfl, ?_⟩) (by assumption) ?_
  · (intro w hSw; (try dsimp only at hSw); go_simp)
  try simp only [List.getElem_toArray, List.getElem_cons_zero, List.getElem_cons_succ, Act.put, List.setIfInBounds_toArray, List.set_cons_zero, List.set_cons_succ]
  refine wpAnyM_take (i := 8) (oi := _) (v := .pointer (some ⟨B, 1, none⟩)) rfl (by kernel_rfl) (by kernel_rfl) (by kernel_rfl) (fun _ _ _ h => h) (by kernel_rfl) (by kernel_rfl) (Or.inl ⟨by kernel_rfl, ?_⟩) (by assumption) ?_
  · (intro w hSw; (try dsimp only at hSw); go_simp)
  try simp only [List.getElem_toArray, List.getElem_cons_zero, List.getElem_cons_succ, Act.put, List.setIfInBounds_toArray, List.set_cons_zero, List.set_cons_succ]
  refine wpAnyM_take (i := 9) (oi := _) (v := .int .i64 (t : Int)) rfl (by kernel_rfl) (by kernel_rfl) (by kernel_rfl) (fun _ _ _ h => h) (by kernel_rfl) (by kernel_rfl) (Or.inl ⟨by kernel_rfl, ?_⟩) (by assumption) ?_
  · (intro w hSw; (try dsimp only at hSw); go_simp)
  try simp only [List.getElem_toArray, List.getElem_cons_zero, List.getElem_cons_succ, Act.put, List.setIfInBounds_toArray, List.set_cons_zero, List.set_cons_succ]
  refine wpAnyM_take (i := 10) (oi := _) (v := .pointer (some ⟨B, 0, none⟩)) rfl (by kernel_rfl) (by kernel_rfl) (by kernel_rfl) (fun _ _ _ h => h) (by kernel_rfl) (by kernel_rfl) (Or.inl ⟨by kernel_rfl, ?_⟩) (by assumption) ?_
  · (intro w hSw; (try dsimp only at hSw); go_simp)
  try simp only [List.getElem_toArray, List.getElem_cons_zero, List.getElem_cons_succ, Act.put, List.setIfInBounds_toArray, List.set_cons_zero, List.set_cons_succ]
  refine wpAnyM_take (i := 11) (oi := _) (v := .pointer (some ⟨B, 0, none⟩)) rfl (by kernel_rfl) (by kernel_rfl) (by kernel_rfl) (fun _ _ _ h => h) (by kernel_rfl) (by kernel_rfl) (Or.inl ⟨by kernel_rfl, ?_⟩) (by assumption) ?_
  · (intro w hSw; (try dsimp only at hSw); go_simp)
  try simp only [List.getElem_toArray, List.getElem_cons_zero, List.getElem_cons_succ, Act.put, List.setIfInBounds_toArray, List.set_cons_zero, List.set_cons_succ]
  refine wpAnyM_take (i := 12) (oi := _) (v := .pointer (some ⟨B, 0, none⟩)) rfl (by kernel_rfl) (by kernel_rfl) (by kernel_rfl) (fun _ _ _ h => h) (by kernel_rfl) (by kernel_rfl) (Or.inl ⟨by kernel_rfl, ?_⟩) (by assumption) ?_
  · (intro w hSw; (try dsimp only at hSw); go_simp)
  try simp only [List.getElem_toArray, List.getElem_cons_zero, List.getElem_cons_succ, Act.put, List.setIfInBounds_toArray, List.set_cons_zero, List.set_cons_succ]
  refine wpAnyM_take (i := 13) (oi := _) (v := .pointer (some ⟨B, 0, none⟩)) rfl (by kernel_rfl) (by kernel_rfl) (by kernel_rfl) (fun _ _ _ h => h) (by kernel_rfl) (by kernel_rfl) (Or.inl ⟨by kernel_rfl, ?_⟩) (by assumption) ?_
  · (intro w hSw; (try dsimp only at hSw); go_simp)
  try simp only [List.getElem_toArray, List.getElem_cons_zero, List.getElem_cons_succ, Act.put, List.setIfInBounds_toArray, List.set_cons_zero, List.set_cons_succ]
  refine wpAnyM_take (i := 14) (oi := _) (v := .string s) rfl (by kernel_rfl) (by kernel_rfl) (by kernel_rfl) (fun _ _ _ h => h) (by kernel_rfl) (by kernel_rfl) (Or.inl ⟨by kernel_rfl, ?_⟩) (by assumption) ?_
  · (intro w hSw; (try dsimp only at hSw); go_simp)
  try simp only [List.getElem_toArray, List.getElem_cons_zero, List.getElem_cons_succ, Act.put, List.setIfInBounds_toArray, List.set_cons_zero, List.set_cons_succ]
  refine wpAnyM_take (i := 15) (oi := _) (v := .int .i64 (a : Int)) rfl (by kernel_rfl) (by kernel_rfl) (by kernel_rfl) (fun _ _ _ h => h) (by kernel_rfl) (by kernel_rfl) (Or.inl ⟨by kernel_rfl, ?_⟩) (by assumption) ?_
  · (intro w hSw; (try dsimp only at hSw); go_simp)
  try simp only [List.getElem_toArray, List.getElem_cons_zero, List.getElem_cons_succ, Act.put, List.setIfInBounds_toArray, List.set_cons_zero, List.set_cons_succ]
  refine wpAnyM_take (i := 16) (oi := _) (v := .pointer (some ⟨B, 0, none⟩)) rfl (by kernel_rfl) (by kernel_rfl) (by kernel_rfl) (fun _ _ _ h => h) (by kernel_rfl) (by kernel_rfl) (Or.inl ⟨by kernel_rfl, ?_⟩) (by assumption) ?_
  · (intro w hSw; (try dsimp only at hSw); go_simp)
  try simp only [List.getElem_toArray, List.getElem_cons_zero, List.getElem_cons_succ, Act.put, List.setIfInBounds_toArray, List.set_cons_zero, List.set_cons_succ]
  refine wpAnyM_take (i := 17) (oi := _) (v := .pointer (some ⟨B, 0, none⟩)) rfl (by kernel_rfl) (by kernel_rfl) (by kernel_rfl) (fun _ _ _ h => h) (by kernel_rfl) (by kernel_rfl) (Or.inl ⟨by kernel_rfl, ?_⟩) (by assumption) ?_
  · (intro w hSw; (try dsimp only at hSw); go_simp)
  try simp only [List.getElem_toArray, List.getElem_cons_zero, List.getElem_cons_succ, Act.put, List.setIfInBounds_toArray, List.set_cons_zero, List.set_cons_succ]
  refine wpAnyM_take (i := 18) (oi := _) (v := .pointer (some ⟨B, 1, none⟩)) rfl (by kernel_rfl) (by kernel_rfl) (by kernel_rfl) (fun _ _ _ h => h) (by kernel_rfl) (by kernel_rfl) (Or.inl ⟨by kernel_rfl, ?_⟩) (by assumption) ?_
  · (intro w hSw; (try dsimp only at hSw); go_simp)
  try simp only [List.getElem_toArray, List.getElem_cons_zero, List.getElem_cons_succ, Act.put, List.setIfInBounds_toArray, List.set_cons_zero, List.set_cons_succ]
  refine wpAnyM_take (i := 19) (oi := _) (v := .int .i64 (t : Int)) rfl (by kernel_rfl) (by kernel_rfl) (by kernel_rfl) (fun _ _ _ h => h) (by kernel_rfl) (by kernel_rfl) (Or.inl ⟨by kernel_rfl, ?_⟩) (by assumption) ?_
  · (intro w hSw; (try dsimp only at hSw); go_simp)
  try simp only [List.getElem_toArray, List.getElem_cons_zero, List.getElem_cons_succ, Act.put, List.setIfInBounds_toArray, List.set_cons_zero, List.set_cons_succ]
  refine wpAnyM_take (i := 20) (oi := _) (v := .string (s.extract a t)) rfl (by kernel_rfl) (by kernel_rfl) (by kernel_rfl) (fun _ _ _ h => h) (by kernel_rfl) (by kernel_rfl) (Or.inl ⟨by kernel_rfl, ?_⟩) (by assumption) ?_
  · (intro w hSw; (try dsimp only at hSw); go_simp)
  try simp only [List.getElem_toArray, List.getElem_cons_zero, List.getElem_cons_succ, Act.put, List.setIfInBounds_toArray, List.set_cons_zero, List.set_cons_succ]
  refine wpAnyM_one (i := 21) (o := _) rfl (by kernel_rfl) (fun K hK => ?_)
  go_simp
  refine HX.out.mono ?_
  rintro e w5 ⟨rfl, hr5, hb5⟩
  have H5 := Lib.hid hr5
  have hS5 : w5.cell? ⟨B, 0, none⟩ = some (.string s) ∧ w5.cell? ⟨B, 1, none⟩ = some (.int .i64 (t : Int)) ∧ w5.cell? ⟨B, 2, none⟩ = some v := ⟨hr5.c0, hr5.c1, hr5.c2⟩
  have HO5 := Lib.hid (own_but (own_but HO2.out (But.of_below (drew_below w2))) hb5)
  obtain ⟨ga, capa, wa, hrun, hown5, hgr5⟩ := HAP.out w5 HO5.out H5.out.lt
  have HO6 := Lib.hid hown5
  have HG5 := Lib.hid hgr5
  have hr6 := (H5.out.below (alloc_below w5 _)).grown hgr5 (own_base46 HO5.out)
  have H6 := Lib.hid hr6
  have hS6 : wa.cell? ⟨B, 0, none⟩ = some (.string s) ∧ wa.cell? ⟨B, 1, none⟩ = some (.int .i64 (t : Int)) ∧ wa.cell? ⟨B, 2, none⟩ = some v := ⟨hr6.c0, hr6.c1, hr6.c2⟩
  have fS6 := hr6.fr 2 (by decide)
  have hrA := hr5.below (alloc_below w5 (.cells #[.int .i64 (a : Int), .int .i64 (t : Int), .string ⟨x.toArray⟩, .string ⟨y.toArray⟩] 32))
  have hSA := And.intro hrA.c0 (And.intro hrA.c1 hrA.c2)
  clear hown5 hgr5 hr6 hr5 hrA
  go_wp2_with fail
  refine hK.out _ _ (fun _ => hS5) (fun hHeld => ?_)
  clear hK K
  try simp only [List.getElem_toArray, List.getElem_cons_zero, List.getElem_cons_succ, Act.put, List.setIfInBounds_toArray, List.set_cons_zero, List.set_cons_succ]
  refine wpAnyM_take (i := 22) (oi := _) (v := .agg #[.int .i64 (a : Int), .int .i64 (t : Int), .string ⟨x.toArray⟩, .string ⟨y.toArray⟩]) rfl (by kernel_rfl) (by kernel_rfl) (by kernel_rfl) (fun _ _ _ h => h) (by kernel_rfl) (by kernel_rfl) (Or.inl ⟨by kernel_rfl, ?_⟩) (by assumption) ?_
  · (intro w hSw; (try dsimp only at hSw); go_simp)
  try simp only [List.getElem_toArray, List.getElem_cons_zero, List.getElem_cons_succ, Act.put, List.setIfInBounds_toArray, List.set_cons_zero, List.set_cons_succ]
  refine wpAnyM_one (i := 23) (o := _) rfl (by kernel_rfl) (fun K hK => ?_)
  go_simp
  refine hK.out _ _ (fun _ => hSA) (fun hHeld => ?_)
  clear hK K
  try simp only [List.getElem_toArray, List.getElem_cons_zero, List.getElem_cons_succ, Act.put, List.setIfInBounds_toArray, List.set_cons_zero, List.set_cons_succ]
  refine wpAnyM_one (i := 24) (o := _) rfl (by kernel_rfl) (fun K hK => ?_)
  refine step_append_spot rfl _ _ rfl rfl _ _ _ _ rfl rfl hrun ?_
  refine hK.out _ _ (fun _ => hS6) (fun hHeld => ?_)
  clear hK K
  try simp only [List.getElem_toArray, List.getElem_cons_zero, List.getElem_cons_succ, Act.put, List.setIfInBounds_toArray, List.set_cons_zero, List.set_cons_succ]
  refine wpAnyM_take (i := 25) (oi := _) (v := .pointer (some ⟨B, 0, none⟩)) rfl (by kernel_rfl) (by kernel_rfl) (by kernel_rfl) (fun _ _ _ h => h) (by kernel_rfl) (by kernel_rfl) (Or.inl ⟨by kernel_rfl, ?_⟩) (by assumption) ?_
  · (intro w hSw; (try dsimp only at hSw); go_simp)
  try simp only [List.getElem_toArray, List.getElem_cons_zero, List.getElem_cons_succ, Act.put, List.setIfInBounds_toArray, List.set_cons_zero, List.set_cons_succ]
  refine wpAnyM_take (i := 26) (oi := _) (v := .pointer (some ⟨B, 2, none⟩)) rfl (by kernel_rfl) (by kernel_rfl) (by kernel_rfl) (fun _ _ _ h => h) (by kernel_rfl) (by kernel_rfl) (Or.inl ⟨by kernel_rfl, ?_⟩) (by assumption) ?_
  · (intro w hSw; (try dsimp only at hSw); go_simp)
  try simp only [List.getElem_toArray, List.getElem_cons_zero, List.getElem_cons_succ, Act.put, List.setIfInBounds_toArray, List.set_cons_zero, List.set_cons_succ]
  refine wpAnyM_one (i := 27) (o := _) rfl (by kernel_rfl) (fun K hK => ?_)
  go_simp
  refine hK.out _ _ (fun h => absurd rfl h) (fun hHeld => ?_)
  clear hK K
  try simp only [List.getElem_toArray, List.getElem_cons_zero, List.getElem_cons_succ, Act.put, List.setIfInBounds_toArray, List.set_cons_zero, List.set_cons_succ]
  refine wpAnyM_done (by kernel_rfl) ?_ _
  go_wp2
  go_end0
  refine ⟨rfl, ⟨_, H6.out.spots _, ?_⟩, ?_⟩
  · exact own_set (o := 2) (u := .slice (some ⟨ga, 0, none⟩) (sp.length + 1) capa) HO6.out
  · have hlow := hb12.low (Nat.le_of_lt hBlt)
    have h5 := (But.of_below (B := B) (drew_below w2)).trans hb5
    have h6 := h5.low (Nat.le_of_lt H2.out.lt)
    have h7 := (hlow.trans h6).alloc (Nat.le_of_lt H5.out.lt) (.cells #[.int .i64 (a : Int), .int .i64 (t : Int), .string ⟨x.toArray⟩, .string ⟨y.toArray⟩] 32)
    have h8 := h7.grown HG5.out (by rw [World.size_alloc]; exact Nat.le_succ_of_le (Nat.le_of_lt H5.out.lt)) (fun k hk => Nat.le_of_succ_le (own_base46 HO5.out k hk))
    exact h8.setCell (p := ⟨B, 2, none⟩) (Nat.le_refl _) _
theorem spot_some (B : Nat) (s : ByteArray) (a k n : Nat) (st st' : LSt) (w : World) (h : RZ B s k st w) (hs : s.size ≤ 900000000) (hE : Env w) (hB : 8 ≤ B) (hst : st.1.length ≤ 1000000000000) (hn : addrE s.data.toList a k st = some (n, st')) :
    Calls Tryz.prog 119 #[.pointer (some ⟨B, 0, none⟩), .int .i64 (a : Int)] w fun e w' => e = .returned (.tuple #[]) ∧ RZ B s n st' w' ∧ Below B w w' := by
  obtain ⟨v, h, hown⟩ := h
  obtain ⟨sp, g⟩ := st
  simp only at h hown hst
  unfold addrE at hn
  split at hn
  · cases hn
  · rename_i hab
    split at hn
    · cases hn
    · rename_i h64
      have h64 := Classical.not_not.1 h64
      split at hn
      · cases hn
      · rename_i t hdom
        split at hn
        · cases hn
        · rename_i h5
          injection hn with hn
          injection hn with hn1 hn2
          subst hn1
          have her := parse_errs (slc s.data.toList a t)
          have hR := spot_read B s a k t v sp g w h hown hs hE hB hst (by omega) h64 hdom
          refine hR.mono fun e w' ⟨h1, ⟨v', h2, h3⟩, h4⟩ => ⟨h1, ?_, h4⟩
          generalize parseL (slc s.data.toList a t) = R at hn2 h5 her h2 h3
          obtain ⟨x, y, er⟩ := R
          simp only at hn2 h5 her h2 h3
          have hd5 : decide (er = 5) = false := by simpa using h5
          have hd3 : (er != 0) = decide (er = 3) := by rcases her with rfl | rfl | rfl <;> first | rfl | exact absurd rfl h5
          rw [hd5] at h2
          rw [hd3] at hn2
          rw [← hn2]
          refine ⟨v', h2, ?_⟩
          simp only [List.length_append, List.length_cons, List.length_nil, Nat.zero_add]
          rw [spsC_snoc]
          exact h3
set_option maxHeartbeats 1000000 in
theorem spot_wrong (B : Nat) (s : ByteArray) (a : Nat) (w : World) (h : RW B s w) (hs : s.size ≤ 900000000) :
    Calls Tryz.prog 119 #[.pointer (some ⟨B, 0, none⟩), .int .i64 (a : Int)] w fun e w' => e = .returned (.tuple #[]) ∧ RW B s w' ∧ But B w w' := by
  have HM := Lib.hid (must_wrong B s 64 w h)
  have HD := Lib.hid (fun W (h : RW B s W) => domain_wrong B s W h (by omega))
  clear h
  go_enter Tryz.func119, Tryz.ntmps119
  go_wp2_with fail
  refine HM.out.mono ?_
  rintro e w1 ⟨rfl, hr1, hb1⟩
  have H1 := Lib.hid hr1
  clear hr1
  go_wp2_with fail
  refine (HD.out _ H1.out).mono ?_
  rintro e w2 ⟨rfl, hr2, hb2⟩
  have H2 := Lib.hid hr2
  obtain ⟨k, v, long, hk, hr2⟩ := hr2
  have c3 := hr2.c3
  clear hr2
  go_wp2
  go_end0
  exact ⟨rfl, H2.out, hb1.trans hb2⟩
set_option maxHeartbeats 1000000 in
theorem spot_none (B : Nat) (s : ByteArray) (a k : Nat) (st : LSt) (w : World) (h : RZ B s k st w) (hk : k ≤ s.size) (hs : s.size ≤ 900000000) (hE : Env w) (hB : 8 ≤ B) (hst : st.1.length ≤ 1000000000000) (hab : a < k) (hn : addrE s.data.toList a k st = none) :
    Calls Tryz.prog 119 #[.pointer (some ⟨B, 0, none⟩), .int .i64 (a : Int)] w fun e w' => e = .returned (.tuple #[]) ∧ RW B s w' ∧ Below B w w' := by
  obtain ⟨v, h, hown⟩ := h
  obtain ⟨sp, g⟩ := st
  simp only at h hown hst
  have hBlt := h.lt
  by_cases h64 : s.data.toList[k]? = some 64
  · have hkk := at_lt h64
    rw [list_len] at hkk
    cases hdom : domE s.data.toList (k + 1) with
    | none =>
      have HM := Lib.hid (must_at B s k v g 64 w h (by omega) h64)
      have HDD := Lib.hid (fun W (h : RS B s (k + 1) v false g W) => domain_none B s (k + 1) v g W h (by omega) (by omega) hdom)
      clear h hown hE hdom h64 hn
      go_enter Tryz.func119, Tryz.ntmps119
      go_wp2_with fail
      refine HM.out.mono ?_
      rintro e w1 ⟨rfl, hr1, hb1⟩
      have H1 := Lib.hid hr1
      clear hr1
      go_wp2_with fail
      refine (HDD.out _ H1.out).mono ?_
      rintro e w2 ⟨rfl, hr2, hb2⟩
      have H2 := Lib.hid hr2
      obtain ⟨k', v', long, hk', hr2⟩ := hr2
      have c3 := hr2.c3
      clear hr2
      go_wp2
      go_end0
      exact ⟨rfl, H2.out, (hb1.trans hb2).low (Nat.le_of_lt hBlt)⟩
    | some t =>
      have hdl := domE_le (l := s.data.toList) (k := k + 1) (by rw [list_len]; omega) hdom
      rw [list_len] at hdl
      have hR := spot_read B s a k t v sp g w h hown hs hE hB hst hab h64 hdom
      refine hR.mono fun e w' ⟨h1, ⟨v', h2, h3⟩, h4⟩ => ⟨h1, ?_, h4⟩
      unfold addrE at hn
      rw [if_neg (by omega), if_neg (by simp [h64]), hdom] at hn
      simp only at hn
      split at hn
      · rename_i h5
        rw [h5] at h2
        exact .of hdl.2 h2
      · cases hn
  · have HM := Lib.hid (must_not B s k v g 64 w h hk (by omega) h64)
    have HD := Lib.hid (fun W (h : RW B s W) => domain_wrong B s W h (by omega))
    clear h hown hE h64 hn
    go_enter Tryz.func119, Tryz.ntmps119
    go_wp2_with fail
    refine HM.out.mono ?_
    rintro e w1 ⟨rfl, hr1, hb1⟩
    have H1 := Lib.hid hr1
    clear hr1
    go_wp2_with fail
    refine (HD.out _ H1.out).mono ?_
    rintro e w2 ⟨rfl, hr2, hb2⟩
    have H2 := Lib.hid hr2
    obtain ⟨k', v', long, hk', hr2⟩ := hr2
    have c3 := hr2.c3
    clear hr2
    go_wp2
    go_end0
    exact ⟨rfl, H2.out, (hb1.trans hb2).low (Nat.le_of_lt hBlt)⟩
end Go.Proofs.YtffngbjnbigipaaGreatDoor
