/- Steps of drawn regions that lay addresses into blocks of their own; the first region of AddrBack. -/
import Derived.Test.YtffngbjnbigipaaGreatDoorMadeA
import Derived.Test.YtffngbjnbigipaaGreatDoorKnownA
import Derived.Test.YtffngbjnbigipaaGreatDoorMapLit
namespace Go.Proofs.YtffngbjnbigipaaGreatDoor
open Go Go.Maps Go.RowKit Go.Lib
set_option linter.unusedSimpArgs false
set_option linter.unusedVariables false
set_option linter.unnecessarySimpa false
set_option maxRecDepth 100000

theorem step_load2 {ops : Array Oper} {Q : Exit → Act → World → Prop} {o : Oper} {a : Act} {w : World} {K : Act → World → Prop} {E : Prop} (hg : o.guard = none) (x : Operand) (hop : o.op = Op.load 30 x) {B : Nat} {u v : ByteArray}
    (hx : a.eval x = .pointer (some ⟨B, 0, none⟩)) (h : Two B (.string u) (.string v) w) (hK : K (a.put o.dst (.agg #[.string u, .string v])) w) : if Region.wanted o (yielded ops a.tmps) = true then Oper.wp Tryz.prog o a w K Q else E := by
  have hw : Region.wanted o (yielded ops a.tmps) = true := by simp [Region.wanted, hg]
  obtain ⟨-, c0, c1, -, -⟩ := h
  rw [if_pos hw]
  unfold Oper.wp
  simp only [execOp, hop, hx]
  go_simp
  exact hK
theorem step_alloc2 {ops : Array Oper} {Q : Exit → Act → World → Prop} {o : Oper} {a : Act} {w : World} {K : Act → World → Prop} {E : Prop} (hg : o.guard = none) (hop : o.op = Op.alloc 30)
    (hK : K (a.put o.dst (.pointer (some ⟨w.heap.size, 0, none⟩))) (w.alloc (.cells #[.string ⟨#[]⟩, .string ⟨#[]⟩] 30))) : if Region.wanted o (yielded ops a.tmps) = true then Oper.wp Tryz.prog o a w K Q else E := by
  have hw : Region.wanted o (yielded ops a.tmps) = true := by simp [Region.wanted, hg]
  rw [if_pos hw]
  unfold Oper.wp
  simp only [execOp, hop]
  go_simp
  exact hK
theorem step_store2 {ops : Array Oper} {Q : Exit → Act → World → Prop} {o : Oper} {a : Act} {w : World} {K : Act → World → Prop} {E : Prop} (hg : o.guard = none) (hd : o.dst = none) (x y : Operand) (hop : o.op = Op.store 30 x y) {B : Nat} {u v : ByteArray} {p q : Value}
    (hx : a.eval x = .pointer (some ⟨B, 0, none⟩)) (hy : a.eval y = .agg #[.string u, .string v]) (h : Two B p q w) (hK : K a ((w.setCell ⟨B, 0, none⟩ (.string u)).setCell ⟨B, 1, none⟩ (.string v))) : if Region.wanted o (yielded ops a.tmps) = true then Oper.wp Tryz.prog o a w K Q else E := by
  have hw : Region.wanted o (yielded ops a.tmps) = true := by simp [Region.wanted, hg]
  have hp : ∀ v, a.put o.dst v = a := fun v => by rw [hd]; rfl
  obtain ⟨-, c0, c1, f0, f1⟩ := h
  rw [if_pos hw]
  unfold Oper.wp
  simp only [execOp, hop, hx, hy]
  go_simp
  try rw [hp]
  exact hK
theorem step_call30 {ops : Array Oper} {Q : Exit → Act → World → Prop} {o : Oper} {a : Act} {w : World} {K : Act → World → Prop} {E : Prop} (hg : o.guard = none) (t : Nat) (hop : o.op = Op.call { callee := Callee.value (Operand.func 30), args := #[Operand.tmp t], argTypes := #[30] }) {v r : Value}
    (hx0 : a.eval (.tmp t) = v) (HC : Calls Tryz.prog 30 #[v] w fun e w' => e = .returned r ∧ Below w.heap.size w w') (hK : ∀ w', Below w.heap.size w w' → K (a.put o.dst r) w') : if Region.wanted o (yielded ops a.tmps) = true then Oper.wp Tryz.prog o a w K Q else E := by
  have hw : Region.wanted o (yielded ops a.tmps) = true := by simp [Region.wanted, hg]
  have HCH := Lib.hid HC
  have hx : a.tmps[t]?.getD undef = v := by rw [← hx0]; simp [Act.eval]
  clear HC hx0
  rw [if_pos hw]
  unfold Oper.wp
  simp only [execOp, hop]
  go_simp
  refine HCH.out.mono ?_
  rintro e w' ⟨rfl, hb⟩
  exact hK w' hb
theorem ready_dep {md : Region.Mode} {ops : Array Oper} {listed : Array Bool} {i : Nat} (hi : i ∈ Region.ready md ops listed) (d : Nat) (hd : (match ops[i]? with | some o => o.after.any (fun e => Region.binds md e && e.on == d) | none => false) = true) : listed.getD d false = true := by
  obtain ⟨_, o, ho, hall⟩ := mem_ready.1 hi
  rw [ho] at hd
  obtain ⟨e, he, h2⟩ := Array.any_eq_true'.1 hd
  rw [Bool.and_eq_true] at h2
  have := hall e he h2.1
  rwa [eq_of_beq h2.2] at this
theorem ready_un {md : Region.Mode} {ops : Array Oper} {listed : Array Bool} {i : Nat} (hi : i ∈ Region.ready md ops listed) : listed.getD i false = false := by
  have h := (mem_ready.1 hi).1
  cases hx : listed[i]? with
  | none => simp [Array.getD_eq_getD_getElem?, hx] at h
  | some b => simp [Array.getD_eq_getD_getElem?, hx] at h ⊢; exact h
def frB (X1 Y1 X2 Y2 s0 LA DA LB DB : ByteArray) (B0 Ba Bb : Nat) (L : Nat → Bool) : Act := { tmps := #[.agg #[.string X1, .string Y1], .agg #[.string X2, .string Y2], .string s0, .pointer (some ⟨B0, 0, none⟩), .pointer (some ⟨B0 + 1, 0, none⟩), undef, .bool false, pk (L 4) (.pointer (some ⟨Ba, 0, none⟩)), pk (L 5) (.pointer (some ⟨Bb, 0, none⟩)), undef, undef, undef, undef, undef, undef, undef, undef, undef, pk (L 0) (.agg #[.string X1, .string Y1]), pk (L 1) (.agg #[.string LA, .string DA]), pk (L 2) (.agg #[.string X2, .string Y2]), pk (L 3) (.agg #[.string LB, .string DB]), undef, undef, undef, undef, undef, undef, undef, undef, undef, undef, undef, undef, undef, undef, undef, undef, undef, undef, undef, undef, undef, undef, undef, undef, undef, undef, undef, undef, undef, undef, undef, undef, undef, undef, undef, undef, undef, undef, undef, undef, undef, undef, undef, undef, undef, undef, undef, undef, undef, undef, undef, undef, undef, undef, undef, undef, undef, undef, undef, undef, undef, undef, undef, undef, undef, undef, undef, undef, undef, undef, undef, undef, undef, undef, undef, undef, undef, undef, undef, undef, undef, undef, undef, undef, undef, undef, undef, undef, undef, undef, undef, undef, undef, undef, undef, undef, undef, undef, undef, undef, undef, undef, undef, undef, undef, undef, undef, undef, undef, undef, undef, undef, undef, undef, undef, undef, undef, undef, undef, undef, undef], defers := [] }
theorem frB_put0 {X1 Y1 X2 Y2 s0 LA DA LB DB : ByteArray} {B0 Ba Bb : Nat} {L L' : Nat → Bool} (h1 : L' 1 = L 1) (h2 : L' 2 = L 2) (h3 : L' 3 = L 3) (h4 : L' 4 = L 4) (h5 : L' 5 = L 5) (hi : L' 0 = true) : (frB X1 Y1 X2 Y2 s0 LA DA LB DB B0 Ba Bb L).put (some 18) (.agg #[.string X1, .string Y1]) = frB X1 Y1 X2 Y2 s0 LA DA LB DB B0 Ba Bb L' := by
  unfold frB
  rw [h1, h2, h3, h4, h5, hi]
  rfl
theorem frB_put1 {X1 Y1 X2 Y2 s0 LA DA LB DB : ByteArray} {B0 Ba Bb : Nat} {L L' : Nat → Bool} (h0 : L' 0 = L 0) (h2 : L' 2 = L 2) (h3 : L' 3 = L 3) (h4 : L' 4 = L 4) (h5 : L' 5 = L 5) (hi : L' 1 = true) : (frB X1 Y1 X2 Y2 s0 LA DA LB DB B0 Ba Bb L).put (some 19) (.agg #[.string LA, .string DA]) = frB X1 Y1 X2 Y2 s0 LA DA LB DB B0 Ba Bb L' := by
  unfold frB
  rw [h0, h2, h3, h4, h5, hi]
  rfl
theorem frB_put2 {X1 Y1 X2 Y2 s0 LA DA LB DB : ByteArray} {B0 Ba Bb : Nat} {L L' : Nat → Bool} (h0 : L' 0 = L 0) (h1 : L' 1 = L 1) (h3 : L' 3 = L 3) (h4 : L' 4 = L 4) (h5 : L' 5 = L 5) (hi : L' 2 = true) : (frB X1 Y1 X2 Y2 s0 LA DA LB DB B0 Ba Bb L).put (some 20) (.agg #[.string X2, .string Y2]) = frB X1 Y1 X2 Y2 s0 LA DA LB DB B0 Ba Bb L' := by
  unfold frB
  rw [h0, h1, h3, h4, h5, hi]
  rfl
theorem frB_put3 {X1 Y1 X2 Y2 s0 LA DA LB DB : ByteArray} {B0 Ba Bb : Nat} {L L' : Nat → Bool} (h0 : L' 0 = L 0) (h1 : L' 1 = L 1) (h2 : L' 2 = L 2) (h4 : L' 4 = L 4) (h5 : L' 5 = L 5) (hi : L' 3 = true) : (frB X1 Y1 X2 Y2 s0 LA DA LB DB B0 Ba Bb L).put (some 21) (.agg #[.string LB, .string DB]) = frB X1 Y1 X2 Y2 s0 LA DA LB DB B0 Ba Bb L' := by
  unfold frB
  rw [h0, h1, h2, h4, h5, hi]
  rfl
theorem frB_put4 {X1 Y1 X2 Y2 s0 LA DA LB DB : ByteArray} {B0 Ba Bb : Nat} {L L' : Nat → Bool} {Ba' : Nat} (h0 : L' 0 = L 0) (h1 : L' 1 = L 1) (h2 : L' 2 = L 2) (h3 : L' 3 = L 3) (h5 : L' 5 = L 5) (hi : L' 4 = true) (hz : L 4 = false) : (frB X1 Y1 X2 Y2 s0 LA DA LB DB B0 Ba Bb L).put (some 7) (.pointer (some ⟨Ba', 0, none⟩)) = frB X1 Y1 X2 Y2 s0 LA DA LB DB B0 Ba' Bb L' := by
  unfold frB
  rw [h0, h1, h2, h3, h5, hi, hz]
  rfl
theorem frB_put5 {X1 Y1 X2 Y2 s0 LA DA LB DB : ByteArray} {B0 Ba Bb : Nat} {L L' : Nat → Bool} {Bb' : Nat} (h0 : L' 0 = L 0) (h1 : L' 1 = L 1) (h2 : L' 2 = L 2) (h3 : L' 3 = L 3) (h4 : L' 4 = L 4) (hi : L' 5 = true) (hz : L 5 = false) : (frB X1 Y1 X2 Y2 s0 LA DA LB DB B0 Ba Bb L).put (some 8) (.pointer (some ⟨Bb', 0, none⟩)) = frB X1 Y1 X2 Y2 s0 LA DA LB DB B0 Ba Bb' L' := by
  unfold frB
  rw [h0, h1, h2, h3, h4, hi, hz]
  rfl
theorem frB_congr {X1 Y1 X2 Y2 s0 LA DA LB DB : ByteArray} {B0 Ba Bb : Nat} {L L' : Nat → Bool} (h0 : L' 0 = L 0) (h1 : L' 1 = L 1) (h2 : L' 2 = L 2) (h3 : L' 3 = L 3) (h4 : L' 4 = L 4) (h5 : L' 5 = L 5) : frB X1 Y1 X2 Y2 s0 LA DA LB DB B0 Ba Bb L' = frB X1 Y1 X2 Y2 s0 LA DA LB DB B0 Ba Bb L := by
  unfold frB
  rw [h0, h1, h2, h3, h4, h5]
theorem frB_tmp0 {X1 Y1 X2 Y2 s0 LA DA LB DB : ByteArray} {B0 Ba Bb : Nat} {L : Nat → Bool} (h : L 0 = true) : (frB X1 Y1 X2 Y2 s0 LA DA LB DB B0 Ba Bb L).eval (.tmp 18) = (.agg #[.string X1, .string Y1]) := by
  show pk (L 0) _ = _
  rw [h]
  rfl
theorem frB_tmp1 {X1 Y1 X2 Y2 s0 LA DA LB DB : ByteArray} {B0 Ba Bb : Nat} {L : Nat → Bool} (h : L 1 = true) : (frB X1 Y1 X2 Y2 s0 LA DA LB DB B0 Ba Bb L).eval (.tmp 19) = (.agg #[.string LA, .string DA]) := by
  show pk (L 1) _ = _
  rw [h]
  rfl
theorem frB_tmp2 {X1 Y1 X2 Y2 s0 LA DA LB DB : ByteArray} {B0 Ba Bb : Nat} {L : Nat → Bool} (h : L 2 = true) : (frB X1 Y1 X2 Y2 s0 LA DA LB DB B0 Ba Bb L).eval (.tmp 20) = (.agg #[.string X2, .string Y2]) := by
  show pk (L 2) _ = _
  rw [h]
  rfl
theorem frB_tmp3 {X1 Y1 X2 Y2 s0 LA DA LB DB : ByteArray} {B0 Ba Bb : Nat} {L : Nat → Bool} (h : L 3 = true) : (frB X1 Y1 X2 Y2 s0 LA DA LB DB B0 Ba Bb L).eval (.tmp 21) = (.agg #[.string LB, .string DB]) := by
  show pk (L 3) _ = _
  rw [h]
  rfl
theorem frB_tmp4 {X1 Y1 X2 Y2 s0 LA DA LB DB : ByteArray} {B0 Ba Bb : Nat} {L : Nat → Bool} (h : L 4 = true) : (frB X1 Y1 X2 Y2 s0 LA DA LB DB B0 Ba Bb L).eval (.tmp 7) = (.pointer (some ⟨Ba, 0, none⟩)) := by
  show pk (L 4) _ = _
  rw [h]
  rfl
theorem frB_tmp5 {X1 Y1 X2 Y2 s0 LA DA LB DB : ByteArray} {B0 Ba Bb : Nat} {L : Nat → Bool} (h : L 5 = true) : (frB X1 Y1 X2 Y2 s0 LA DA LB DB B0 Ba Bb L).eval (.tmp 8) = (.pointer (some ⟨Bb, 0, none⟩)) := by
  show pk (L 5) _ = _
  rw [h]
  rfl
def mid6 (b : Bool) (X : ByteArray) : ByteArray := bif b then X else ⟨#[]⟩
def JB (X1 Y1 X2 Y2 s0 LA DA LB DB : ByteArray) (B0 : Nat) (lo : World) (listed : Array Bool) (a : Act) (W : World) : Prop :=
  ∃ Ba Bb, a = frB X1 Y1 X2 Y2 s0 LA DA LB DB B0 Ba Bb (fun k => listed.getD k false) ∧ Below lo.heap.size lo W ∧
    (listed.getD 4 false = true → lo.heap.size ≤ Ba ∧ Two Ba (.string (mid6 (listed.getD 6 false) LA)) (.string (mid6 (listed.getD 6 false) DA)) W) ∧
    (listed.getD 5 false = true → lo.heap.size ≤ Bb ∧ Two Bb (.string ⟨#[]⟩) (.string ⟨#[]⟩) W) ∧ (listed.getD 4 false = true → listed.getD 5 false = true → Ba ≠ Bb) ∧ (listed.getD 6 false = true → listed.getD 4 false = true)
def FB (X1 Y1 X2 Y2 s0 LA DA LB DB : ByteArray) (B0 : Nat) (lo : World) (a : Act) (W : World) : Prop :=
  ∃ Ba Bb, a = frB X1 Y1 X2 Y2 s0 LA DA LB DB B0 Ba Bb (fun _ => true) ∧ Below lo.heap.size lo W ∧ lo.heap.size ≤ Ba ∧ lo.heap.size ≤ Bb ∧ Ba ≠ Bb ∧ Two Ba (.string LA) (.string DA) W ∧ Two Bb (.string LB) (.string DB) W
end Go.Proofs.YtffngbjnbigipaaGreatDoor
