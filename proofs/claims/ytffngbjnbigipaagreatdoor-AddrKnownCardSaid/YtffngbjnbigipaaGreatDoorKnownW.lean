/- The law AddrKnown, walked: a map literal of 29 domains, another one of 22 texts. -/
import Derived.Test.YtffngbjnbigipaaGreatDoorMapLit
import Derived.Test.YtffngbjnbigipaaGreatDoorKnownA
namespace Go.Proofs.YtffngbjnbigipaaGreatDoor
open Go Go.Maps Go.RowKit Go.Lib
set_option linter.unusedSimpArgs false
set_option linter.unusedVariables false
set_option linter.unnecessarySimpa false
set_option maxRecDepth 100000

def rA63 : ByteArray := ⟨(Lib.repeatL [97] 63).toArray⟩
def rA64 : ByteArray := ⟨(Lib.repeatL [97] 64).toArray⟩
def rD127 : ByteArray := ⟨(Lib.repeatL [97, 46] 127).toArray⟩
def rD127a : ByteArray := rD127 ++ ⟨#[97]⟩
def rD128 : ByteArray := ⟨(Lib.repeatL [97, 46] 128).toArray⟩
def rD128a : ByteArray := rD128 ++ ⟨#[97]⟩
def g1 (s : List UInt8) (y : Lit) : Prop := s.length ≤ 1000 ∧ y = .bool (decide (domL s = 0))
def KRel1 (w : World) (B r : Nat) (D : DataW Unit) (g : Nat) (v1 v2 : Value) (W : World) : Prop := Below w.heap.size w W ∧ ∃ left, W.ranges Tryz.prog 9 (plainElem Tryz.prog 4) B r 1000 D left g
def sX64 : ByteArray := ⟨(Lib.repeatL [120] 64).toArray⟩
def sX64b : ByteArray := sX64 ++ ⟨#[64, 98]⟩
def sX65 : ByteArray := ⟨(Lib.repeatL [120] 65).toArray⟩
def sX65b : ByteArray := sX65 ++ ⟨#[64, 98]⟩
def sB64 : ByteArray := ⟨(Lib.repeatL [98] 64).toArray⟩
def sB64a : ByteArray := ⟨#[97, 64]⟩ ++ sB64
def sX32 : ByteArray := ⟨(Lib.repeatL [120, 32] 32).toArray⟩
def sX32q : ByteArray := ⟨#[34]⟩ ++ sX32
def sX32b : ByteArray := sX32q ++ ⟨#[34, 64, 98]⟩
def sX65u : ByteArray := sX65 ++ ⟨#[64, 98, 95]⟩
def g2 (s : List UInt8) (y : Lit) : Prop := s.length ≤ 1000 ∧ y = .int .i64 ((parseL s).2.2 : Int)
def KRel2 (w : World) (B r : Nat) (D : DataW Unit) (g : Nat) (W : World) : Prop := Below w.heap.size w W ∧ ∃ left, W.ranges Tryz.prog 9 (plainElem Tryz.prog 23) B r 1000 D left g
theorem World.ranges.below {H : Type} {P : Program} {k : TypeId} {R : Value → Option (DataW H × List MemPlace)} {b r n : Nat} {D : DataW H} {left : Lit → Bool} {cnt : Nat} {w W : World} (h : w.ranges P k R b r n D left cnt) (hb : Below w.heap.size w W) : W.ranges P k R b r n D left cnt := by
  have h1 := h.owns.lt
  have h2 := h.lt
  obtain ⟨es, clock, since, seen, c0, hb0, F, hs, hD, hr, rest⟩ := h
  exact ⟨es, clock, since, seen, c0, (hb.block b h1).trans hb0, F, hs, hD, (hb.block r h2).trans hr, rest⟩
theorem plainElem_bool_inv {H : Type} {P : Program} {e : TypeId} (he : P.underlying e = some .bool) {v : Value} {z : DataW H × List MemPlace} (h : plainElem P e v = some z) : ∃ c, v = .bool c ∧ z = (.lit (.bool c), []) := by
  unfold plainElem at h
  rw [he] at h
  cases v <;> simp at h
  exact ⟨_, rfl, h.symm⟩
theorem boolInv {P : Program} {e : TypeId} (he : P.underlying e = some .bool) (v : Value) (y : DataW Unit × List MemPlace) (h : plainElem P e v = some y) : ∃ c, v = .bool c := by
  obtain ⟨c, h1, -⟩ := plainElem_bool_inv he h
  exact ⟨c, h1⟩
theorem intInv {P : Program} {e : TypeId} {q : IntKind} (he : P.underlying e = some (.int q)) (v : Value) (y : DataW Unit × List MemPlace) (h : plainElem P e v = some y) : ∃ c, v = .int q c := by
  obtain ⟨c, h1, -⟩ := plainElem_int_inv he h
  exact ⟨c, h1⟩
theorem keyString {P : Program} {k : TypeId} (hk : P.underlying k = some .string) (key : Value) (kl : Lit) (h : keyOf P k key = some kl) : ∃ x, key = .string x := by
  obtain ⟨s, h1, -⟩ := WideMaps.string_of_keyOf hk h
  exact ⟨s, h1⟩
theorem keyString2 {P : Program} {k : TypeId} (hk : P.underlying k = some .string) {x : ByteArray} {kl : Lit} (h : keyOf P k (.string x) = some kl) : kl = .string x.data.toList := by
  obtain ⟨s, h1, h2, -⟩ := WideMaps.string_of_keyOf hk h
  cases h1
  exact h2
theorem ready_dep {md : Region.Mode} {ops : Array Oper} {listed : Array Bool} {i : Nat} (hi : i ∈ Region.ready md ops listed) (d : Nat) (hd : (match ops[i]? with | some o => o.after.any (fun e => Region.binds md e && e.on == d) | none => false) = true) : listed.getD d false = true := by
  obtain ⟨_, o, ho, hall⟩ := mem_ready.1 hi
  rw [ho] at hd
  obtain ⟨e, he, h2⟩ := Array.any_eq_true'.1 hd
  rw [Bool.and_eq_true] at h2
  have := hall e he h2.1
  rwa [eq_of_beq h2.2] at this
theorem step_make {P : Program} {ops : Array Oper} {Q : Exit → Act → World → Prop} {o : Oper} {a : Act} {w : World} {K : Act → World → Prop} {E : Prop} (hg : o.guard = none) (t : TypeId) (hop : o.op = Op.makeMap t none)
    (hK : K (a.put o.dst (.map (some w.heap.size))) (w.alloc (.map #[] 0))) : if Region.wanted o (yielded ops a.tmps) = true then Oper.wp P o a w K Q else E := by
  have hw : Region.wanted o (yielded ops a.tmps) = true := by simp [Region.wanted, hg]
  have hmm := @run_makeMap P
  rw [if_pos hw]
  unfold Oper.wp
  simp [execOp, hop, hmm, Result.andThen]
  exact hK
theorem step_add {P : Program} {ops : Array Oper} {Q : Exit → Act → World → Prop} {o : Oper} {a : Act} {w : World} {K : Act → World → Prop} {E : Prop} {t1 t2 : TypeId} (hg : o.guard = none) (x y : Operand) (hop : o.op = Op.binOp BinOp.add t1 x y t2) {s t : ByteArray}
    (hx : a.eval x = .string s) (hy : a.eval y = .string t) (hs : s.size + t.size ≤ 1000000) (hK : K (a.put o.dst (.string (s ++ t))) w) : if Region.wanted o (yielded ops a.tmps) = true then Oper.wp P o a w K Q else E := by
  have hw : Region.wanted o (yielded ops a.tmps) = true := by simp [Region.wanted, hg]
  have hadd := run_string_add_sum (P := P) w s t (by omega)
  rw [if_pos hw]
  unfold Oper.wp
  simp [execOp, hop, hx, hy, binOp, eqGuard, hadd, Result.andThen]
  exact hK
theorem step_move {P : Program} {ops : Array Oper} {Q : Exit → Act → World → Prop} {o : Oper} {a : Act} {w : World} {K : Act → World → Prop} {E : Prop} (hg : o.guard = none) (x : Operand) (hop : o.op = Op.move x) {v : Value}
    (hx : a.eval x = v) (hK : K (a.put o.dst v) w) : if Region.wanted o (yielded ops a.tmps) = true then Oper.wp P o a w K Q else E := by
  have hw : Region.wanted o (yielded ops a.tmps) = true := by simp [Region.wanted, hg]
  rw [if_pos hw]
  unfold Oper.wp
  simp [execOp, hop, hx, Result.andThen]
  exact hK
theorem step_range {P : Program} {ops : Array Oper} {Q : Exit → Act → World → Prop} {o : Oper} {a : Act} {w w' : World} {K : Act → World → Prop} {E : Prop} (hg : o.guard = none) (t : TypeId) (x : Operand) (hop : o.op = Op.range t x) {mv v : Value}
    (hx : a.eval x = mv) (hrun : (Instr.range t mv).run P w = .ok v w') (hK : K (a.put o.dst v) w') : if Region.wanted o (yielded ops a.tmps) = true then Oper.wp P o a w K Q else E := by
  have hw : Region.wanted o (yielded ops a.tmps) = true := by simp [Region.wanted, hg]
  rw [if_pos hw]
  unfold Oper.wp
  simp [execOp, hop, hx, hrun, Result.andThen]
  exact hK
def fr1 (B : Nat) (L : Nat → Bool) : Act := { tmps := #[.bool false, undef, undef, undef, undef, undef, undef, undef, undef, pk (L 0) (.map (some B)), pk (L 26) (.string rA63), pk (L 28) (.string rA64), pk (L 30) (.string rD127), pk (L 31) (.string rD127a), pk (L 33) (.string rD128), pk (L 34) (.string rD128a), pk (L 36) (.map (some B)), undef, undef, undef, undef, undef, undef, undef, undef, undef, undef, undef, undef, undef, undef, undef, undef, undef, undef, undef, undef, undef, undef, undef, undef, undef, undef, undef, undef, undef, undef, undef, undef, undef, undef, undef, undef, undef, undef, undef, undef, undef, undef, undef, undef, undef, undef, undef, undef, undef, undef, undef, undef, undef, undef, undef, undef, undef, undef, undef, undef, undef, undef, undef, undef, undef, undef, undef, undef, undef, undef, undef, undef, undef, undef, undef, undef, undef, undef, undef, undef, undef, undef, undef, undef, undef, undef, undef, undef, undef, undef, undef, undef, undef, undef, undef, undef, undef, undef, undef, undef], defers := [] }
theorem fr1_congr {B : Nat} {L L' : Nat → Bool} (h0 : L' 0 = L 0) (h26 : L' 26 = L 26) (h28 : L' 28 = L 28) (h30 : L' 30 = L 30) (h31 : L' 31 = L 31) (h33 : L' 33 = L 33) (h34 : L' 34 = L 34) (h36 : L' 36 = L 36) : fr1 B L' = fr1 B L := by
  unfold fr1
  rw [h0, h26, h28, h30, h31, h33, h34, h36]
theorem fr1_put26 {B : Nat} {L L' : Nat → Bool} (h0 : L' 0 = L 0) (h28 : L' 28 = L 28) (h30 : L' 30 = L 30) (h31 : L' 31 = L 31) (h33 : L' 33 = L 33) (h34 : L' 34 = L 34) (h36 : L' 36 = L 36) (hi : L' 26 = true) : (fr1 B L).put (some 10) (.string rA63) = fr1 B L' := by
  unfold fr1
  rw [h0, h28, h30, h31, h33, h34, h36, hi]
  rfl
theorem fr1_put28 {B : Nat} {L L' : Nat → Bool} (h0 : L' 0 = L 0) (h26 : L' 26 = L 26) (h30 : L' 30 = L 30) (h31 : L' 31 = L 31) (h33 : L' 33 = L 33) (h34 : L' 34 = L 34) (h36 : L' 36 = L 36) (hi : L' 28 = true) : (fr1 B L).put (some 11) (.string rA64) = fr1 B L' := by
  unfold fr1
  rw [h0, h26, h30, h31, h33, h34, h36, hi]
  rfl
theorem fr1_put30 {B : Nat} {L L' : Nat → Bool} (h0 : L' 0 = L 0) (h26 : L' 26 = L 26) (h28 : L' 28 = L 28) (h31 : L' 31 = L 31) (h33 : L' 33 = L 33) (h34 : L' 34 = L 34) (h36 : L' 36 = L 36) (hi : L' 30 = true) : (fr1 B L).put (some 12) (.string rD127) = fr1 B L' := by
  unfold fr1
  rw [h0, h26, h28, h31, h33, h34, h36, hi]
  rfl
theorem fr1_put31 {B : Nat} {L L' : Nat → Bool} (h0 : L' 0 = L 0) (h26 : L' 26 = L 26) (h28 : L' 28 = L 28) (h30 : L' 30 = L 30) (h33 : L' 33 = L 33) (h34 : L' 34 = L 34) (h36 : L' 36 = L 36) (hi : L' 31 = true) : (fr1 B L).put (some 13) (.string rD127a) = fr1 B L' := by
  unfold fr1
  rw [h0, h26, h28, h30, h33, h34, h36, hi]
  rfl
theorem fr1_put33 {B : Nat} {L L' : Nat → Bool} (h0 : L' 0 = L 0) (h26 : L' 26 = L 26) (h28 : L' 28 = L 28) (h30 : L' 30 = L 30) (h31 : L' 31 = L 31) (h34 : L' 34 = L 34) (h36 : L' 36 = L 36) (hi : L' 33 = true) : (fr1 B L).put (some 14) (.string rD128) = fr1 B L' := by
  unfold fr1
  rw [h0, h26, h28, h30, h31, h34, h36, hi]
  rfl
theorem fr1_put34 {B : Nat} {L L' : Nat → Bool} (h0 : L' 0 = L 0) (h26 : L' 26 = L 26) (h28 : L' 28 = L 28) (h30 : L' 30 = L 30) (h31 : L' 31 = L 31) (h33 : L' 33 = L 33) (h36 : L' 36 = L 36) (hi : L' 34 = true) : (fr1 B L).put (some 15) (.string rD128a) = fr1 B L' := by
  unfold fr1
  rw [h0, h26, h28, h30, h31, h33, h36, hi]
  rfl
theorem fr1_put36 {B : Nat} {L L' : Nat → Bool} (h0 : L' 0 = L 0) (h26 : L' 26 = L 26) (h28 : L' 28 = L 28) (h30 : L' 30 = L 30) (h31 : L' 31 = L 31) (h33 : L' 33 = L 33) (h34 : L' 34 = L 34) (hi : L' 36 = true) : (fr1 B L).put (some 16) (.map (some B)) = fr1 B L' := by
  unfold fr1
  rw [h0, h26, h28, h30, h31, h33, h34, hi]
  rfl
theorem fr1_make {B B' : Nat} {L L' : Nat → Bool} (h26 : L' 26 = L 26) (h28 : L' 28 = L 28) (h30 : L' 30 = L 30) (h31 : L' 31 = L 31) (h33 : L' 33 = L 33) (h34 : L' 34 = L 34) (h36 : L' 36 = L 36) (hi : L' 0 = true) (hz : L 36 = false) : (fr1 B L).put (some 9) (.map (some B')) = fr1 B' L' := by
  unfold fr1
  rw [h26, h28, h30, h31, h33, h34, h36, hi, hz]
  rfl
def J1 (lo : World) (listed : Array Bool) (a : Act) (W : World) : Prop :=
  Below lo.heap.size lo W ∧ (listed.getD 36 false = true → listed.getD 0 false = true) ∧ ∃ B, a = fr1 B (fun k => listed.getD k false) ∧ (listed.getD 0 false = true → lo.heap.size ≤ B ∧ ∃ n, n + listed.toList.count false ≤ 38 ∧ MapIn Tryz.prog 9 4 g1 W B n)
def F1 (lo : World) (a : Act) (W : World) : Prop :=
  Below lo.heap.size lo W ∧ ∃ (B r : Nat) (D : DataW Unit) (left : Lit → Bool) (cnt : Nat), lo.heap.size ≤ B ∧ lo.heap.size ≤ r ∧ GoodD g1 D ∧ W.ranges Tryz.prog 9 (plainElem Tryz.prog 4) B r 1000 D left cnt ∧ a = (fr1 B (fun _ => true)).put (some 17) (.pointer (some ⟨r, 0, none⟩))
theorem fr1_tmp26 {B : Nat} {L : Nat → Bool} (h : L 26 = true) : (fr1 B L).eval (.tmp 10) = (.string rA63) := by
  show pk (L 26) _ = _
  rw [h]
  rfl
theorem fr1_tmp28 {B : Nat} {L : Nat → Bool} (h : L 28 = true) : (fr1 B L).eval (.tmp 11) = (.string rA64) := by
  show pk (L 28) _ = _
  rw [h]
  rfl
theorem fr1_tmp30 {B : Nat} {L : Nat → Bool} (h : L 30 = true) : (fr1 B L).eval (.tmp 12) = (.string rD127) := by
  show pk (L 30) _ = _
  rw [h]
  rfl
theorem fr1_tmp31 {B : Nat} {L : Nat → Bool} (h : L 31 = true) : (fr1 B L).eval (.tmp 13) = (.string rD127a) := by
  show pk (L 31) _ = _
  rw [h]
  rfl
theorem fr1_tmp33 {B : Nat} {L : Nat → Bool} (h : L 33 = true) : (fr1 B L).eval (.tmp 14) = (.string rD128) := by
  show pk (L 33) _ = _
  rw [h]
  rfl
theorem fr1_tmp34 {B : Nat} {L : Nat → Bool} (h : L 34 = true) : (fr1 B L).eval (.tmp 15) = (.string rD128a) := by
  show pk (L 34) _ = _
  rw [h]
  rfl
theorem fr1_map {B : Nat} {L : Nat → Bool} (h : L 0 = true) : (fr1 B L).eval (.tmp 9) = .map (some B) := by
  show pk (L 0) _ = _
  rw [h]
  rfl
def fr2 (B : Nat) (L : Nat → Bool) (p0 : Value) (p1 : Value) (p2 : Value) (p9 : Value) (p10 : Value) (p11 : Value) (p12 : Value) (p13 : Value) (p14 : Value) (p15 : Value) (p16 : Value) (p17 : Value) (p18 : Value) (p19 : Value) (p20 : Value) (p21 : Value) (p22 : Value) (p23 : Value) (p24 : Value) (p25 : Value) (p26 : Value) : Act := { tmps := #[p0, p1, p2, undef, undef, undef, undef, undef, undef, p9, p10, p11, p12, p13, p14, p15, p16, p17, p18, p19, p20, p21, p22, p23, p24, p25, p26, pk (L 0) (.map (some B)), pk (L 18) (.string sX64), pk (L 19) (.string sX64b), pk (L 21) (.string sX65), pk (L 22) (.string sX65b), pk (L 24) (.string sB64), pk (L 25) (.string sB64a), pk (L 27) (.string sX32), pk (L 28) (.string sX32q), pk (L 29) (.string sX32b), pk (L 31) (.string sX65), pk (L 32) (.string sX65u), pk (L 34) (.map (some B)), undef, undef, undef, undef, undef, undef, undef, undef, undef, undef, undef, undef, undef, undef, undef, undef, undef, undef, undef, undef, undef, undef, undef, undef, undef, undef, undef, undef, undef, undef, undef, undef, undef, undef, undef, undef, undef, undef, undef, undef, undef, undef, undef, undef, undef, undef, undef, undef, undef, undef, undef, undef, undef, undef, undef, undef, undef, undef, undef, undef, undef, undef, undef, undef, undef, undef, undef, undef, undef, undef, undef, undef, undef, undef, undef, undef, undef], defers := [] }
theorem fr2_congr {B : Nat} {L L' : Nat → Bool} {p0 : Value} {p1 : Value} {p2 : Value} {p9 : Value} {p10 : Value} {p11 : Value} {p12 : Value} {p13 : Value} {p14 : Value} {p15 : Value} {p16 : Value} {p17 : Value} {p18 : Value} {p19 : Value} {p20 : Value} {p21 : Value} {p22 : Value} {p23 : Value} {p24 : Value} {p25 : Value} {p26 : Value} (h0 : L' 0 = L 0) (h18 : L' 18 = L 18) (h19 : L' 19 = L 19) (h21 : L' 21 = L 21) (h22 : L' 22 = L 22) (h24 : L' 24 = L 24) (h25 : L' 25 = L 25) (h27 : L' 27 = L 27) (h28 : L' 28 = L 28) (h29 : L' 29 = L 29) (h31 : L' 31 = L 31) (h32 : L' 32 = L 32) (h34 : L' 34 = L 34) : fr2 B L' p0 p1 p2 p9 p10 p11 p12 p13 p14 p15 p16 p17 p18 p19 p20 p21 p22 p23 p24 p25 p26 = fr2 B L p0 p1 p2 p9 p10 p11 p12 p13 p14 p15 p16 p17 p18 p19 p20 p21 p22 p23 p24 p25 p26 := by
  unfold fr2
  rw [h0, h18, h19, h21, h22, h24, h25, h27, h28, h29, h31, h32, h34]
theorem fr2_put18 {B : Nat} {L L' : Nat → Bool} {p0 : Value} {p1 : Value} {p2 : Value} {p9 : Value} {p10 : Value} {p11 : Value} {p12 : Value} {p13 : Value} {p14 : Value} {p15 : Value} {p16 : Value} {p17 : Value} {p18 : Value} {p19 : Value} {p20 : Value} {p21 : Value} {p22 : Value} {p23 : Value} {p24 : Value} {p25 : Value} {p26 : Value} (h0 : L' 0 = L 0) (h19 : L' 19 = L 19) (h21 : L' 21 = L 21) (h22 : L' 22 = L 22) (h24 : L' 24 = L 24) (h25 : L' 25 = L 25) (h27 : L' 27 = L 27) (h28 : L' 28 = L 28) (h29 : L' 29 = L 29) (h31 : L' 31 = L 31) (h32 : L' 32 = L 32) (h34 : L' 34 = L 34) (hi : L' 18 = true) : (fr2 B L p0 p1 p2 p9 p10 p11 p12 p13 p14 p15 p16 p17 p18 p19 p20 p21 p22 p23 p24 p25 p26).put (some 28) (.string sX64) = fr2 B L' p0 p1 p2 p9 p10 p11 p12 p13 p14 p15 p16 p17 p18 p19 p20 p21 p22 p23 p24 p25 p26 := by
  unfold fr2
  rw [h0, h19, h21, h22, h24, h25, h27, h28, h29, h31, h32, h34, hi]
  rfl
theorem fr2_put19 {B : Nat} {L L' : Nat → Bool} {p0 : Value} {p1 : Value} {p2 : Value} {p9 : Value} {p10 : Value} {p11 : Value} {p12 : Value} {p13 : Value} {p14 : Value} {p15 : Value} {p16 : Value} {p17 : Value} {p18 : Value} {p19 : Value} {p20 : Value} {p21 : Value} {p22 : Value} {p23 : Value} {p24 : Value} {p25 : Value} {p26 : Value} (h0 : L' 0 = L 0) (h18 : L' 18 = L 18) (h21 : L' 21 = L 21) (h22 : L' 22 = L 22) (h24 : L' 24 = L 24) (h25 : L' 25 = L 25) (h27 : L' 27 = L 27) (h28 : L' 28 = L 28) (h29 : L' 29 = L 29) (h31 : L' 31 = L 31) (h32 : L' 32 = L 32) (h34 : L' 34 = L 34) (hi : L' 19 = true) : (fr2 B L p0 p1 p2 p9 p10 p11 p12 p13 p14 p15 p16 p17 p18 p19 p20 p21 p22 p23 p24 p25 p26).put (some 29) (.string sX64b) = fr2 B L' p0 p1 p2 p9 p10 p11 p12 p13 p14 p15 p16 p17 p18 p19 p20 p21 p22 p23 p24 p25 p26 := by
  unfold fr2
  rw [h0, h18, h21, h22, h24, h25, h27, h28, h29, h31, h32, h34, hi]
  rfl
theorem fr2_put21 {B : Nat} {L L' : Nat → Bool} {p0 : Value} {p1 : Value} {p2 : Value} {p9 : Value} {p10 : Value} {p11 : Value} {p12 : Value} {p13 : Value} {p14 : Value} {p15 : Value} {p16 : Value} {p17 : Value} {p18 : Value} {p19 : Value} {p20 : Value} {p21 : Value} {p22 : Value} {p23 : Value} {p24 : Value} {p25 : Value} {p26 : Value} (h0 : L' 0 = L 0) (h18 : L' 18 = L 18) (h19 : L' 19 = L 19) (h22 : L' 22 = L 22) (h24 : L' 24 = L 24) (h25 : L' 25 = L 25) (h27 : L' 27 = L 27) (h28 : L' 28 = L 28) (h29 : L' 29 = L 29) (h31 : L' 31 = L 31) (h32 : L' 32 = L 32) (h34 : L' 34 = L 34) (hi : L' 21 = true) : (fr2 B L p0 p1 p2 p9 p10 p11 p12 p13 p14 p15 p16 p17 p18 p19 p20 p21 p22 p23 p24 p25 p26).put (some 30) (.string sX65) = fr2 B L' p0 p1 p2 p9 p10 p11 p12 p13 p14 p15 p16 p17 p18 p19 p20 p21 p22 p23 p24 p25 p26 := by
  unfold fr2
  rw [h0, h18, h19, h22, h24, h25, h27, h28, h29, h31, h32, h34, hi]
  rfl
theorem fr2_put22 {B : Nat} {L L' : Nat → Bool} {p0 : Value} {p1 : Value} {p2 : Value} {p9 : Value} {p10 : Value} {p11 : Value} {p12 : Value} {p13 : Value} {p14 : Value} {p15 : Value} {p16 : Value} {p17 : Value} {p18 : Value} {p19 : Value} {p20 : Value} {p21 : Value} {p22 : Value} {p23 : Value} {p24 : Value} {p25 : Value} {p26 : Value} (h0 : L' 0 = L 0) (h18 : L' 18 = L 18) (h19 : L' 19 = L 19) (h21 : L' 21 = L 21) (h24 : L' 24 = L 24) (h25 : L' 25 = L 25) (h27 : L' 27 = L 27) (h28 : L' 28 = L 28) (h29 : L' 29 = L 29) (h31 : L' 31 = L 31) (h32 : L' 32 = L 32) (h34 : L' 34 = L 34) (hi : L' 22 = true) : (fr2 B L p0 p1 p2 p9 p10 p11 p12 p13 p14 p15 p16 p17 p18 p19 p20 p21 p22 p23 p24 p25 p26).put (some 31) (.string sX65b) = fr2 B L' p0 p1 p2 p9 p10 p11 p12 p13 p14 p15 p16 p17 p18 p19 p20 p21 p22 p23 p24 p25 p26 := by
  unfold fr2
  rw [h0, h18, h19, h21, h24, h25, h27, h28, h29, h31, h32, h34, hi]
  rfl
theorem fr2_put24 {B : Nat} {L L' : Nat → Bool} {p0 : Value} {p1 : Value} {p2 : Value} {p9 : Value} {p10 : Value} {p11 : Value} {p12 : Value} {p13 : Value} {p14 : Value} {p15 : Value} {p16 : Value} {p17 : Value} {p18 : Value} {p19 : Value} {p20 : Value} {p21 : Value} {p22 : Value} {p23 : Value} {p24 : Value} {p25 : Value} {p26 : Value} (h0 : L' 0 = L 0) (h18 : L' 18 = L 18) (h19 : L' 19 = L 19) (h21 : L' 21 = L 21) (h22 : L' 22 = L 22) (h25 : L' 25 = L 25) (h27 : L' 27 = L 27) (h28 : L' 28 = L 28) (h29 : L' 29 = L 29) (h31 : L' 31 = L 31) (h32 : L' 32 = L 32) (h34 : L' 34 = L 34) (hi : L' 24 = true) : (fr2 B L p0 p1 p2 p9 p10 p11 p12 p13 p14 p15 p16 p17 p18 p19 p20 p21 p22 p23 p24 p25 p26).put (some 32) (.string sB64) = fr2 B L' p0 p1 p2 p9 p10 p11 p12 p13 p14 p15 p16 p17 p18 p19 p20 p21 p22 p23 p24 p25 p26 := by
  unfold fr2
  rw [h0, h18, h19, h21, h22, h25, h27, h28, h29, h31, h32, h34, hi]
  rfl
theorem fr2_put25 {B : Nat} {L L' : Nat → Bool} {p0 : Value} {p1 : Value} {p2 : Value} {p9 : Value} {p10 : Value} {p11 : Value} {p12 : Value} {p13 : Value} {p14 : Value} {p15 : Value} {p16 : Value} {p17 : Value} {p18 : Value} {p19 : Value} {p20 : Value} {p21 : Value} {p22 : Value} {p23 : Value} {p24 : Value} {p25 : Value} {p26 : Value} (h0 : L' 0 = L 0) (h18 : L' 18 = L 18) (h19 : L' 19 = L 19) (h21 : L' 21 = L 21) (h22 : L' 22 = L 22) (h24 : L' 24 = L 24) (h27 : L' 27 = L 27) (h28 : L' 28 = L 28) (h29 : L' 29 = L 29) (h31 : L' 31 = L 31) (h32 : L' 32 = L 32) (h34 : L' 34 = L 34) (hi : L' 25 = true) : (fr2 B L p0 p1 p2 p9 p10 p11 p12 p13 p14 p15 p16 p17 p18 p19 p20 p21 p22 p23 p24 p25 p26).put (some 33) (.string sB64a) = fr2 B L' p0 p1 p2 p9 p10 p11 p12 p13 p14 p15 p16 p17 p18 p19 p20 p21 p22 p23 p24 p25 p26 := by
  unfold fr2
  rw [h0, h18, h19, h21, h22, h24, h27, h28, h29, h31, h32, h34, hi]
  rfl
theorem fr2_put27 {B : Nat} {L L' : Nat → Bool} {p0 : Value} {p1 : Value} {p2 : Value} {p9 : Value} {p10 : Value} {p11 : Value} {p12 : Value} {p13 : Value} {p14 : Value} {p15 : Value} {p16 : Value} {p17 : Value} {p18 : Value} {p19 : Value} {p20 : Value} {p21 : Value} {p22 : Value} {p23 : Value} {p24 : Value} {p25 : Value} {p26 : Value} (h0 : L' 0 = L 0) (h18 : L' 18 = L 18) (h19 : L' 19 = L 19) (h21 : L' 21 = L 21) (h22 : L' 22 = L 22) (h24 : L' 24 = L 24) (h25 : L' 25 = L 25) (h28 : L' 28 = L 28) (h29 : L' 29 = L 29) (h31 : L' 31 = L 31) (h32 : L' 32 = L 32) (h34 : L' 34 = L 34) (hi : L' 27 = true) : (fr2 B L p0 p1 p2 p9 p10 p11 p12 p13 p14 p15 p16 p17 p18 p19 p20 p21 p22 p23 p24 p25 p26).put (some 34) (.string sX32) = fr2 B L' p0 p1 p2 p9 p10 p11 p12 p13 p14 p15 p16 p17 p18 p19 p20 p21 p22 p23 p24 p25 p26 := by
  unfold fr2
  rw [h0, h18, h19, h21, h22, h24, h25, h28, h29, h31, h32, h34, hi]
  rfl
theorem fr2_put28 {B : Nat} {L L' : Nat → Bool} {p0 : Value} {p1 : Value} {p2 : Value} {p9 : Value} {p10 : Value} {p11 : Value} {p12 : Value} {p13 : Value} {p14 : Value} {p15 : Value} {p16 : Value} {p17 : Value} {p18 : Value} {p19 : Value} {p20 : Value} {p21 : Value} {p22 : Value} {p23 : Value} {p24 : Value} {p25 : Value} {p26 : Value} (h0 : L' 0 = L 0) (h18 : L' 18 = L 18) (h19 : L' 19 = L 19) (h21 : L' 21 = L 21) (h22 : L' 22 = L 22) (h24 : L' 24 = L 24) (h25 : L' 25 = L 25) (h27 : L' 27 = L 27) (h29 : L' 29 = L 29) (h31 : L' 31 = L 31) (h32 : L' 32 = L 32) (h34 : L' 34 = L 34) (hi : L' 28 = true) : (fr2 B L p0 p1 p2 p9 p10 p11 p12 p13 p14 p15 p16 p17 p18 p19 p20 p21 p22 p23 p24 p25 p26).put (some 35) (.string sX32q) = fr2 B L' p0 p1 p2 p9 p10 p11 p12 p13 p14 p15 p16 p17 p18 p19 p20 p21 p22 p23 p24 p25 p26 := by
  unfold fr2
  rw [h0, h18, h19, h21, h22, h24, h25, h27, h29, h31, h32, h34, hi]
  rfl
theorem fr2_put29 {B : Nat} {L L' : Nat → Bool} {p0 : Value} {p1 : Value} {p2 : Value} {p9 : Value} {p10 : Value} {p11 : Value} {p12 : Value} {p13 : Value} {p14 : Value} {p15 : Value} {p16 : Value} {p17 : Value} {p18 : Value} {p19 : Value} {p20 : Value} {p21 : Value} {p22 : Value} {p23 : Value} {p24 : Value} {p25 : Value} {p26 : Value} (h0 : L' 0 = L 0) (h18 : L' 18 = L 18) (h19 : L' 19 = L 19) (h21 : L' 21 = L 21) (h22 : L' 22 = L 22) (h24 : L' 24 = L 24) (h25 : L' 25 = L 25) (h27 : L' 27 = L 27) (h28 : L' 28 = L 28) (h31 : L' 31 = L 31) (h32 : L' 32 = L 32) (h34 : L' 34 = L 34) (hi : L' 29 = true) : (fr2 B L p0 p1 p2 p9 p10 p11 p12 p13 p14 p15 p16 p17 p18 p19 p20 p21 p22 p23 p24 p25 p26).put (some 36) (.string sX32b) = fr2 B L' p0 p1 p2 p9 p10 p11 p12 p13 p14 p15 p16 p17 p18 p19 p20 p21 p22 p23 p24 p25 p26 := by
  unfold fr2
  rw [h0, h18, h19, h21, h22, h24, h25, h27, h28, h31, h32, h34, hi]
  rfl
theorem fr2_put31 {B : Nat} {L L' : Nat → Bool} {p0 : Value} {p1 : Value} {p2 : Value} {p9 : Value} {p10 : Value} {p11 : Value} {p12 : Value} {p13 : Value} {p14 : Value} {p15 : Value} {p16 : Value} {p17 : Value} {p18 : Value} {p19 : Value} {p20 : Value} {p21 : Value} {p22 : Value} {p23 : Value} {p24 : Value} {p25 : Value} {p26 : Value} (h0 : L' 0 = L 0) (h18 : L' 18 = L 18) (h19 : L' 19 = L 19) (h21 : L' 21 = L 21) (h22 : L' 22 = L 22) (h24 : L' 24 = L 24) (h25 : L' 25 = L 25) (h27 : L' 27 = L 27) (h28 : L' 28 = L 28) (h29 : L' 29 = L 29) (h32 : L' 32 = L 32) (h34 : L' 34 = L 34) (hi : L' 31 = true) : (fr2 B L p0 p1 p2 p9 p10 p11 p12 p13 p14 p15 p16 p17 p18 p19 p20 p21 p22 p23 p24 p25 p26).put (some 37) (.string sX65) = fr2 B L' p0 p1 p2 p9 p10 p11 p12 p13 p14 p15 p16 p17 p18 p19 p20 p21 p22 p23 p24 p25 p26 := by
  unfold fr2
  rw [h0, h18, h19, h21, h22, h24, h25, h27, h28, h29, h32, h34, hi]
  rfl
theorem fr2_put32 {B : Nat} {L L' : Nat → Bool} {p0 : Value} {p1 : Value} {p2 : Value} {p9 : Value} {p10 : Value} {p11 : Value} {p12 : Value} {p13 : Value} {p14 : Value} {p15 : Value} {p16 : Value} {p17 : Value} {p18 : Value} {p19 : Value} {p20 : Value} {p21 : Value} {p22 : Value} {p23 : Value} {p24 : Value} {p25 : Value} {p26 : Value} (h0 : L' 0 = L 0) (h18 : L' 18 = L 18) (h19 : L' 19 = L 19) (h21 : L' 21 = L 21) (h22 : L' 22 = L 22) (h24 : L' 24 = L 24) (h25 : L' 25 = L 25) (h27 : L' 27 = L 27) (h28 : L' 28 = L 28) (h29 : L' 29 = L 29) (h31 : L' 31 = L 31) (h34 : L' 34 = L 34) (hi : L' 32 = true) : (fr2 B L p0 p1 p2 p9 p10 p11 p12 p13 p14 p15 p16 p17 p18 p19 p20 p21 p22 p23 p24 p25 p26).put (some 38) (.string sX65u) = fr2 B L' p0 p1 p2 p9 p10 p11 p12 p13 p14 p15 p16 p17 p18 p19 p20 p21 p22 p23 p24 p25 p26 := by
  unfold fr2
  rw [h0, h18, h19, h21, h22, h24, h25, h27, h28, h29, h31, h34, hi]
  rfl
theorem fr2_put34 {B : Nat} {L L' : Nat → Bool} {p0 : Value} {p1 : Value} {p2 : Value} {p9 : Value} {p10 : Value} {p11 : Value} {p12 : Value} {p13 : Value} {p14 : Value} {p15 : Value} {p16 : Value} {p17 : Value} {p18 : Value} {p19 : Value} {p20 : Value} {p21 : Value} {p22 : Value} {p23 : Value} {p24 : Value} {p25 : Value} {p26 : Value} (h0 : L' 0 = L 0) (h18 : L' 18 = L 18) (h19 : L' 19 = L 19) (h21 : L' 21 = L 21) (h22 : L' 22 = L 22) (h24 : L' 24 = L 24) (h25 : L' 25 = L 25) (h27 : L' 27 = L 27) (h28 : L' 28 = L 28) (h29 : L' 29 = L 29) (h31 : L' 31 = L 31) (h32 : L' 32 = L 32) (hi : L' 34 = true) : (fr2 B L p0 p1 p2 p9 p10 p11 p12 p13 p14 p15 p16 p17 p18 p19 p20 p21 p22 p23 p24 p25 p26).put (some 39) (.map (some B)) = fr2 B L' p0 p1 p2 p9 p10 p11 p12 p13 p14 p15 p16 p17 p18 p19 p20 p21 p22 p23 p24 p25 p26 := by
  unfold fr2
  rw [h0, h18, h19, h21, h22, h24, h25, h27, h28, h29, h31, h32, hi]
  rfl
theorem fr2_make {B B' : Nat} {L L' : Nat → Bool} {p0 : Value} {p1 : Value} {p2 : Value} {p9 : Value} {p10 : Value} {p11 : Value} {p12 : Value} {p13 : Value} {p14 : Value} {p15 : Value} {p16 : Value} {p17 : Value} {p18 : Value} {p19 : Value} {p20 : Value} {p21 : Value} {p22 : Value} {p23 : Value} {p24 : Value} {p25 : Value} {p26 : Value} (h18 : L' 18 = L 18) (h19 : L' 19 = L 19) (h21 : L' 21 = L 21) (h22 : L' 22 = L 22) (h24 : L' 24 = L 24) (h25 : L' 25 = L 25) (h27 : L' 27 = L 27) (h28 : L' 28 = L 28) (h29 : L' 29 = L 29) (h31 : L' 31 = L 31) (h32 : L' 32 = L 32) (h34 : L' 34 = L 34) (hi : L' 0 = true) (hz : L 34 = false) : (fr2 B L p0 p1 p2 p9 p10 p11 p12 p13 p14 p15 p16 p17 p18 p19 p20 p21 p22 p23 p24 p25 p26).put (some 27) (.map (some B')) = fr2 B' L' p0 p1 p2 p9 p10 p11 p12 p13 p14 p15 p16 p17 p18 p19 p20 p21 p22 p23 p24 p25 p26 := by
  unfold fr2
  rw [h18, h19, h21, h22, h24, h25, h27, h28, h29, h31, h32, h34, hi, hz]
  rfl
def J2 (lo : World) (p0 : Value) (p1 : Value) (p2 : Value) (p9 : Value) (p10 : Value) (p11 : Value) (p12 : Value) (p13 : Value) (p14 : Value) (p15 : Value) (p16 : Value) (p17 : Value) (p18 : Value) (p19 : Value) (p20 : Value) (p21 : Value) (p22 : Value) (p23 : Value) (p24 : Value) (p25 : Value) (p26 : Value) (listed : Array Bool) (a : Act) (W : World) : Prop :=
  Below lo.heap.size lo W ∧ (listed.getD 34 false = true → listed.getD 0 false = true) ∧ ∃ B, a = fr2 B (fun k => listed.getD k false) p0 p1 p2 p9 p10 p11 p12 p13 p14 p15 p16 p17 p18 p19 p20 p21 p22 p23 p24 p25 p26 ∧ (listed.getD 0 false = true → lo.heap.size ≤ B ∧ ∃ n, n + listed.toList.count false ≤ 36 ∧ MapIn Tryz.prog 9 23 g2 W B n)
def F2 (lo : World) (p0 : Value) (p1 : Value) (p2 : Value) (p9 : Value) (p10 : Value) (p11 : Value) (p12 : Value) (p13 : Value) (p14 : Value) (p15 : Value) (p16 : Value) (p17 : Value) (p18 : Value) (p19 : Value) (p20 : Value) (p21 : Value) (p22 : Value) (p23 : Value) (p24 : Value) (p25 : Value) (p26 : Value) (a : Act) (W : World) : Prop :=
  Below lo.heap.size lo W ∧ ∃ (B r : Nat) (D : DataW Unit) (left : Lit → Bool) (cnt : Nat), lo.heap.size ≤ B ∧ lo.heap.size ≤ r ∧ GoodD g2 D ∧ W.ranges Tryz.prog 9 (plainElem Tryz.prog 23) B r 1000 D left cnt ∧ a = (fr2 B (fun _ => true) p0 p1 p2 p9 p10 p11 p12 p13 p14 p15 p16 p17 p18 p19 p20 p21 p22 p23 p24 p25 p26).put (some 40) (.pointer (some ⟨r, 0, none⟩))
theorem fr2_tmp18 {B : Nat} {L : Nat → Bool} {p0 : Value} {p1 : Value} {p2 : Value} {p9 : Value} {p10 : Value} {p11 : Value} {p12 : Value} {p13 : Value} {p14 : Value} {p15 : Value} {p16 : Value} {p17 : Value} {p18 : Value} {p19 : Value} {p20 : Value} {p21 : Value} {p22 : Value} {p23 : Value} {p24 : Value} {p25 : Value} {p26 : Value} (h : L 18 = true) : (fr2 B L p0 p1 p2 p9 p10 p11 p12 p13 p14 p15 p16 p17 p18 p19 p20 p21 p22 p23 p24 p25 p26).eval (.tmp 28) = (.string sX64) := by
  show pk (L 18) _ = _
  rw [h]
  rfl
theorem fr2_tmp19 {B : Nat} {L : Nat → Bool} {p0 : Value} {p1 : Value} {p2 : Value} {p9 : Value} {p10 : Value} {p11 : Value} {p12 : Value} {p13 : Value} {p14 : Value} {p15 : Value} {p16 : Value} {p17 : Value} {p18 : Value} {p19 : Value} {p20 : Value} {p21 : Value} {p22 : Value} {p23 : Value} {p24 : Value} {p25 : Value} {p26 : Value} (h : L 19 = true) : (fr2 B L p0 p1 p2 p9 p10 p11 p12 p13 p14 p15 p16 p17 p18 p19 p20 p21 p22 p23 p24 p25 p26).eval (.tmp 29) = (.string sX64b) := by
  show pk (L 19) _ = _
  rw [h]
  rfl
theorem fr2_tmp21 {B : Nat} {L : Nat → Bool} {p0 : Value} {p1 : Value} {p2 : Value} {p9 : Value} {p10 : Value} {p11 : Value} {p12 : Value} {p13 : Value} {p14 : Value} {p15 : Value} {p16 : Value} {p17 : Value} {p18 : Value} {p19 : Value} {p20 : Value} {p21 : Value} {p22 : Value} {p23 : Value} {p24 : Value} {p25 : Value} {p26 : Value} (h : L 21 = true) : (fr2 B L p0 p1 p2 p9 p10 p11 p12 p13 p14 p15 p16 p17 p18 p19 p20 p21 p22 p23 p24 p25 p26).eval (.tmp 30) = (.string sX65) := by
  show pk (L 21) _ = _
  rw [h]
  rfl
theorem fr2_tmp22 {B : Nat} {L : Nat → Bool} {p0 : Value} {p1 : Value} {p2 : Value} {p9 : Value} {p10 : Value} {p11 : Value} {p12 : Value} {p13 : Value} {p14 : Value} {p15 : Value} {p16 : Value} {p17 : Value} {p18 : Value} {p19 : Value} {p20 : Value} {p21 : Value} {p22 : Value} {p23 : Value} {p24 : Value} {p25 : Value} {p26 : Value} (h : L 22 = true) : (fr2 B L p0 p1 p2 p9 p10 p11 p12 p13 p14 p15 p16 p17 p18 p19 p20 p21 p22 p23 p24 p25 p26).eval (.tmp 31) = (.string sX65b) := by
  show pk (L 22) _ = _
  rw [h]
  rfl
theorem fr2_tmp24 {B : Nat} {L : Nat → Bool} {p0 : Value} {p1 : Value} {p2 : Value} {p9 : Value} {p10 : Value} {p11 : Value} {p12 : Value} {p13 : Value} {p14 : Value} {p15 : Value} {p16 : Value} {p17 : Value} {p18 : Value} {p19 : Value} {p20 : Value} {p21 : Value} {p22 : Value} {p23 : Value} {p24 : Value} {p25 : Value} {p26 : Value} (h : L 24 = true) : (fr2 B L p0 p1 p2 p9 p10 p11 p12 p13 p14 p15 p16 p17 p18 p19 p20 p21 p22 p23 p24 p25 p26).eval (.tmp 32) = (.string sB64) := by
  show pk (L 24) _ = _
  rw [h]
  rfl
theorem fr2_tmp25 {B : Nat} {L : Nat → Bool} {p0 : Value} {p1 : Value} {p2 : Value} {p9 : Value} {p10 : Value} {p11 : Value} {p12 : Value} {p13 : Value} {p14 : Value} {p15 : Value} {p16 : Value} {p17 : Value} {p18 : Value} {p19 : Value} {p20 : Value} {p21 : Value} {p22 : Value} {p23 : Value} {p24 : Value} {p25 : Value} {p26 : Value} (h : L 25 = true) : (fr2 B L p0 p1 p2 p9 p10 p11 p12 p13 p14 p15 p16 p17 p18 p19 p20 p21 p22 p23 p24 p25 p26).eval (.tmp 33) = (.string sB64a) := by
  show pk (L 25) _ = _
  rw [h]
  rfl
theorem fr2_tmp27 {B : Nat} {L : Nat → Bool} {p0 : Value} {p1 : Value} {p2 : Value} {p9 : Value} {p10 : Value} {p11 : Value} {p12 : Value} {p13 : Value} {p14 : Value} {p15 : Value} {p16 : Value} {p17 : Value} {p18 : Value} {p19 : Value} {p20 : Value} {p21 : Value} {p22 : Value} {p23 : Value} {p24 : Value} {p25 : Value} {p26 : Value} (h : L 27 = true) : (fr2 B L p0 p1 p2 p9 p10 p11 p12 p13 p14 p15 p16 p17 p18 p19 p20 p21 p22 p23 p24 p25 p26).eval (.tmp 34) = (.string sX32) := by
  show pk (L 27) _ = _
  rw [h]
  rfl
theorem fr2_tmp28 {B : Nat} {L : Nat → Bool} {p0 : Value} {p1 : Value} {p2 : Value} {p9 : Value} {p10 : Value} {p11 : Value} {p12 : Value} {p13 : Value} {p14 : Value} {p15 : Value} {p16 : Value} {p17 : Value} {p18 : Value} {p19 : Value} {p20 : Value} {p21 : Value} {p22 : Value} {p23 : Value} {p24 : Value} {p25 : Value} {p26 : Value} (h : L 28 = true) : (fr2 B L p0 p1 p2 p9 p10 p11 p12 p13 p14 p15 p16 p17 p18 p19 p20 p21 p22 p23 p24 p25 p26).eval (.tmp 35) = (.string sX32q) := by
  show pk (L 28) _ = _
  rw [h]
  rfl
theorem fr2_tmp29 {B : Nat} {L : Nat → Bool} {p0 : Value} {p1 : Value} {p2 : Value} {p9 : Value} {p10 : Value} {p11 : Value} {p12 : Value} {p13 : Value} {p14 : Value} {p15 : Value} {p16 : Value} {p17 : Value} {p18 : Value} {p19 : Value} {p20 : Value} {p21 : Value} {p22 : Value} {p23 : Value} {p24 : Value} {p25 : Value} {p26 : Value} (h : L 29 = true) : (fr2 B L p0 p1 p2 p9 p10 p11 p12 p13 p14 p15 p16 p17 p18 p19 p20 p21 p22 p23 p24 p25 p26).eval (.tmp 36) = (.string sX32b) := by
  show pk (L 29) _ = _
  rw [h]
  rfl
theorem fr2_tmp31 {B : Nat} {L : Nat → Bool} {p0 : Value} {p1 : Value} {p2 : Value} {p9 : Value} {p10 : Value} {p11 : Value} {p12 : Value} {p13 : Value} {p14 : Value} {p15 : Value} {p16 : Value} {p17 : Value} {p18 : Value} {p19 : Value} {p20 : Value} {p21 : Value} {p22 : Value} {p23 : Value} {p24 : Value} {p25 : Value} {p26 : Value} (h : L 31 = true) : (fr2 B L p0 p1 p2 p9 p10 p11 p12 p13 p14 p15 p16 p17 p18 p19 p20 p21 p22 p23 p24 p25 p26).eval (.tmp 37) = (.string sX65) := by
  show pk (L 31) _ = _
  rw [h]
  rfl
theorem fr2_tmp32 {B : Nat} {L : Nat → Bool} {p0 : Value} {p1 : Value} {p2 : Value} {p9 : Value} {p10 : Value} {p11 : Value} {p12 : Value} {p13 : Value} {p14 : Value} {p15 : Value} {p16 : Value} {p17 : Value} {p18 : Value} {p19 : Value} {p20 : Value} {p21 : Value} {p22 : Value} {p23 : Value} {p24 : Value} {p25 : Value} {p26 : Value} (h : L 32 = true) : (fr2 B L p0 p1 p2 p9 p10 p11 p12 p13 p14 p15 p16 p17 p18 p19 p20 p21 p22 p23 p24 p25 p26).eval (.tmp 38) = (.string sX65u) := by
  show pk (L 32) _ = _
  rw [h]
  rfl
theorem fr2_map {B : Nat} {L : Nat → Bool} {p0 : Value} {p1 : Value} {p2 : Value} {p9 : Value} {p10 : Value} {p11 : Value} {p12 : Value} {p13 : Value} {p14 : Value} {p15 : Value} {p16 : Value} {p17 : Value} {p18 : Value} {p19 : Value} {p20 : Value} {p21 : Value} {p22 : Value} {p23 : Value} {p24 : Value} {p25 : Value} {p26 : Value} (h : L 0 = true) : (fr2 B L p0 p1 p2 p9 p10 p11 p12 p13 p14 p15 p16 p17 p18 p19 p20 p21 p22 p23 p24 p25 p26).eval (.tmp 27) = .map (some B) := by
  show pk (L 0) _ = _
  rw [h]
  rfl
set_option maxHeartbeats 8000000 in
theorem known_one (w : World) (hE : Env w) : Calls Tryz.prog 4 #[] w fun e w' => e = .returned (.bool true) ∧ Below w.heap.size w w' := by
  have HLO := Lib.hid (Below.refl w.heap.size w)
  go_enter Tryz.func4, Tryz.ntmps4
  go_wp2_with fail
  refine wp_region_any (by kernel_rfl) ?_
  refine wpAny_lastop 37 (by kernel_rfl) (by kernel_rfl) (by kernel_rfl) (J1 w) (F1 w) ?_ ?_ ?_ ?_
  · exact ⟨HLO.out.drew, fun h => (by cases h), 0, rfl, fun h => (by cases h)⟩
  · intro listed a W i him hs hJ hi
    obtain ⟨hb, hz, B, rfl, hM⟩ := hJ
    have hcnt := listed_count (mem_ready.1 hi).1
    have hset : ∀ k, k < 38 → (listed.setIfInBounds k true).getD k false = true := fun k hk => by rw [getD_set _ _ _ (by omega)]; simp
    obtain rfl | rfl | rfl | rfl | rfl | rfl | rfl | rfl | rfl | rfl | rfl | rfl | rfl | rfl | rfl | rfl | rfl | rfl | rfl | rfl | rfl | rfl | rfl | rfl | rfl | rfl | rfl | rfl | rfl | rfl | rfl | rfl | rfl | rfl | rfl | rfl | rfl : i = 0 ∨ i = 1 ∨ i = 2 ∨ i = 3 ∨ i = 4 ∨ i = 5 ∨ i = 6 ∨ i = 7 ∨ i = 8 ∨ i = 9 ∨ i = 10 ∨ i = 11 ∨ i = 12 ∨ i = 13 ∨ i = 14 ∨ i = 15 ∨ i = 16 ∨ i = 17 ∨ i = 18 ∨ i = 19 ∨ i = 20 ∨ i = 21 ∨ i = 22 ∨ i = 23 ∨ i = 24 ∨ i = 25 ∨ i = 26 ∨ i = 27 ∨ i = 28 ∨ i = 29 ∨ i = 30 ∨ i = 31 ∨ i = 32 ∨ i = 33 ∨ i = 34 ∨ i = 35 ∨ i = 36 := by omega
    · as_aux_lemma =>
        refine wpOp_step (o := _) rfl (fun K hK => ?_)
        have hl0 : listed.getD 0 false = false := by
          have := (mem_ready.1 hi).1
          have h2 : 0 < listed.size := by omega
          simp [h2] at this ⊢
          exact this
        have hz0 : listed.getD 36 false = false := by
          cases h : listed.getD 36 false with
          | false => rfl
          | true => rw [hz h] at hl0; cases hl0
        refine step_make rfl 39 rfl ?_
        refine hK _ _ ⟨hb.trans ((alloc_below W _).mono hb.size), fun _ => hset 0 (by decide), W.heap.size, fr1_make (L := fun k => listed.getD k false) (L' := fun k => (listed.setIfInBounds 0 true).getD k false) (getD_set_ne (listed := listed) (i := 0) (j := 26) false (by decide)) (getD_set_ne (listed := listed) (i := 0) (j := 28) false (by decide)) (getD_set_ne (listed := listed) (i := 0) (j := 30) false (by decide)) (getD_set_ne (listed := listed) (i := 0) (j := 31) false (by decide)) (getD_set_ne (listed := listed) (i := 0) (j := 33) false (by decide)) (getD_set_ne (listed := listed) (i := 0) (j := 34) false (by decide)) (getD_set_ne (listed := listed) (i := 0) (j := 36) false (by decide)) (hset 0 (by decide)) hz0, fun _ => ⟨hb.size, 0, ?_, MapIn.made W⟩⟩
        have := List.count_le_length (a := false) (l := (listed.setIfInBounds 0 true).toList)
        simp at this
        simp
        omega
    · as_aux_lemma =>
        have h0 := ready_dep hi 0 (by kernel_rfl)
        obtain ⟨hlo, n, hn, hM⟩ := hM h0
        obtain ⟨W', hrun, hM', hb'⟩ := hM.ins (t := 39) Tryz.underlying9 Tryz.underlying39 (by omega) hlo ⟨#[97]⟩ (by decide +kernel) (.bool true) (.bool true) (plainElem_bool Tryz.underlying4 _) ⟨by decide +kernel, congrArg Lit.bool (by decide +kernel)⟩
        refine wpOp_step (o := _) rfl (fun K hK => ?_)
        refine step_insert rfl 39 _ _ _ rfl (fr1_map h0) rfl rfl hrun (hK _ _ ⟨hb.trans hb', fun h => ?_, B, ?_, fun _ => ⟨hlo, n + 1, by omega, hM'⟩⟩)
        · rw [getD_set_ne false (by decide)] at h ⊢; exact hz h
        · exact (fr1_congr (L := fun k => listed.getD k false) (L' := fun k => (listed.setIfInBounds 1 true).getD k false) (getD_set_ne (listed := listed) (i := 1) (j := 0) false (by decide)) (getD_set_ne (listed := listed) (i := 1) (j := 26) false (by decide)) (getD_set_ne (listed := listed) (i := 1) (j := 28) false (by decide)) (getD_set_ne (listed := listed) (i := 1) (j := 30) false (by decide)) (getD_set_ne (listed := listed) (i := 1) (j := 31) false (by decide)) (getD_set_ne (listed := listed) (i := 1) (j := 33) false (by decide)) (getD_set_ne (listed := listed) (i := 1) (j := 34) false (by decide)) (getD_set_ne (listed := listed) (i := 1) (j := 36) false (by decide))).symm
    · as_aux_lemma =>
        have h0 := ready_dep hi 0 (by kernel_rfl)
        obtain ⟨hlo, n, hn, hM⟩ := hM h0
        obtain ⟨W', hrun, hM', hb'⟩ := hM.ins (t := 39) Tryz.underlying9 Tryz.underlying39 (by omega) hlo ⟨#[97, 46, 98]⟩ (by decide +kernel) (.bool true) (.bool true) (plainElem_bool Tryz.underlying4 _) ⟨by decide +kernel, congrArg Lit.bool (by decide +kernel)⟩
        refine wpOp_step (o := _) rfl (fun K hK => ?_)
        refine step_insert rfl 39 _ _ _ rfl (fr1_map h0) rfl rfl hrun (hK _ _ ⟨hb.trans hb', fun h => ?_, B, ?_, fun _ => ⟨hlo, n + 1, by omega, hM'⟩⟩)
        · rw [getD_set_ne false (by decide)] at h ⊢; exact hz h
        · exact (fr1_congr (L := fun k => listed.getD k false) (L' := fun k => (listed.setIfInBounds 2 true).getD k false) (getD_set_ne (listed := listed) (i := 2) (j := 0) false (by decide)) (getD_set_ne (listed := listed) (i := 2) (j := 26) false (by decide)) (getD_set_ne (listed := listed) (i := 2) (j := 28) false (by decide)) (getD_set_ne (listed := listed) (i := 2) (j := 30) false (by decide)) (getD_set_ne (listed := listed) (i := 2) (j := 31) false (by decide)) (getD_set_ne (listed := listed) (i := 2) (j := 33) false (by decide)) (getD_set_ne (listed := listed) (i := 2) (j := 34) false (by decide)) (getD_set_ne (listed := listed) (i := 2) (j := 36) false (by decide))).symm
    · as_aux_lemma =>
        have h0 := ready_dep hi 0 (by kernel_rfl)
        obtain ⟨hlo, n, hn, hM⟩ := hM h0
        obtain ⟨W', hrun, hM', hb'⟩ := hM.ins (t := 39) Tryz.underlying9 Tryz.underlying39 (by omega) hlo ⟨#[49, 46, 50]⟩ (by decide +kernel) (.bool true) (.bool true) (plainElem_bool Tryz.underlying4 _) ⟨by decide +kernel, congrArg Lit.bool (by decide +kernel)⟩
        refine wpOp_step (o := _) rfl (fun K hK => ?_)
        refine step_insert rfl 39 _ _ _ rfl (fr1_map h0) rfl rfl hrun (hK _ _ ⟨hb.trans hb', fun h => ?_, B, ?_, fun _ => ⟨hlo, n + 1, by omega, hM'⟩⟩)
        · rw [getD_set_ne false (by decide)] at h ⊢; exact hz h
        · exact (fr1_congr (L := fun k => listed.getD k false) (L' := fun k => (listed.setIfInBounds 3 true).getD k false) (getD_set_ne (listed := listed) (i := 3) (j := 0) false (by decide)) (getD_set_ne (listed := listed) (i := 3) (j := 26) false (by decide)) (getD_set_ne (listed := listed) (i := 3) (j := 28) false (by decide)) (getD_set_ne (listed := listed) (i := 3) (j := 30) false (by decide)) (getD_set_ne (listed := listed) (i := 3) (j := 31) false (by decide)) (getD_set_ne (listed := listed) (i := 3) (j := 33) false (by decide)) (getD_set_ne (listed := listed) (i := 3) (j := 34) false (by decide)) (getD_set_ne (listed := listed) (i := 3) (j := 36) false (by decide))).symm
    · as_aux_lemma =>
        have h0 := ready_dep hi 0 (by kernel_rfl)
        obtain ⟨hlo, n, hn, hM⟩ := hM h0
        obtain ⟨W', hrun, hM', hb'⟩ := hM.ins (t := 39) Tryz.underlying9 Tryz.underlying39 (by omega) hlo ⟨#[97, 45, 98, 46, 99]⟩ (by decide +kernel) (.bool true) (.bool true) (plainElem_bool Tryz.underlying4 _) ⟨by decide +kernel, congrArg Lit.bool (by decide +kernel)⟩
        refine wpOp_step (o := _) rfl (fun K hK => ?_)
        refine step_insert rfl 39 _ _ _ rfl (fr1_map h0) rfl rfl hrun (hK _ _ ⟨hb.trans hb', fun h => ?_, B, ?_, fun _ => ⟨hlo, n + 1, by omega, hM'⟩⟩)
        · rw [getD_set_ne false (by decide)] at h ⊢; exact hz h
        · exact (fr1_congr (L := fun k => listed.getD k false) (L' := fun k => (listed.setIfInBounds 4 true).getD k false) (getD_set_ne (listed := listed) (i := 4) (j := 0) false (by decide)) (getD_set_ne (listed := listed) (i := 4) (j := 26) false (by decide)) (getD_set_ne (listed := listed) (i := 4) (j := 28) false (by decide)) (getD_set_ne (listed := listed) (i := 4) (j := 30) false (by decide)) (getD_set_ne (listed := listed) (i := 4) (j := 31) false (by decide)) (getD_set_ne (listed := listed) (i := 4) (j := 33) false (by decide)) (getD_set_ne (listed := listed) (i := 4) (j := 34) false (by decide)) (getD_set_ne (listed := listed) (i := 4) (j := 36) false (by decide))).symm
    · as_aux_lemma =>
        have h0 := ready_dep hi 0 (by kernel_rfl)
        obtain ⟨hlo, n, hn, hM⟩ := hM h0
        obtain ⟨W', hrun, hM', hb'⟩ := hM.ins (t := 39) Tryz.underlying9 Tryz.underlying39 (by omega) hlo ⟨#[91, 49, 46, 50, 46, 51, 46, 52, 93]⟩ (by decide +kernel) (.bool true) (.bool true) (plainElem_bool Tryz.underlying4 _) ⟨by decide +kernel, congrArg Lit.bool (by decide +kernel)⟩
        refine wpOp_step (o := _) rfl (fun K hK => ?_)
        refine step_insert rfl 39 _ _ _ rfl (fr1_map h0) rfl rfl hrun (hK _ _ ⟨hb.trans hb', fun h => ?_, B, ?_, fun _ => ⟨hlo, n + 1, by omega, hM'⟩⟩)
        · rw [getD_set_ne false (by decide)] at h ⊢; exact hz h
        · exact (fr1_congr (L := fun k => listed.getD k false) (L' := fun k => (listed.setIfInBounds 5 true).getD k false) (getD_set_ne (listed := listed) (i := 5) (j := 0) false (by decide)) (getD_set_ne (listed := listed) (i := 5) (j := 26) false (by decide)) (getD_set_ne (listed := listed) (i := 5) (j := 28) false (by decide)) (getD_set_ne (listed := listed) (i := 5) (j := 30) false (by decide)) (getD_set_ne (listed := listed) (i := 5) (j := 31) false (by decide)) (getD_set_ne (listed := listed) (i := 5) (j := 33) false (by decide)) (getD_set_ne (listed := listed) (i := 5) (j := 34) false (by decide)) (getD_set_ne (listed := listed) (i := 5) (j := 36) false (by decide))).symm
    · as_aux_lemma =>
        have h0 := ready_dep hi 0 (by kernel_rfl)
        obtain ⟨hlo, n, hn, hM⟩ := hM h0
        obtain ⟨W', hrun, hM', hb'⟩ := hM.ins (t := 39) Tryz.underlying9 Tryz.underlying39 (by omega) hlo ⟨#[91, 48, 46, 48, 46, 48, 46, 50, 53, 53, 93]⟩ (by decide +kernel) (.bool true) (.bool true) (plainElem_bool Tryz.underlying4 _) ⟨by decide +kernel, congrArg Lit.bool (by decide +kernel)⟩
        refine wpOp_step (o := _) rfl (fun K hK => ?_)
        refine step_insert rfl 39 _ _ _ rfl (fr1_map h0) rfl rfl hrun (hK _ _ ⟨hb.trans hb', fun h => ?_, B, ?_, fun _ => ⟨hlo, n + 1, by omega, hM'⟩⟩)
        · rw [getD_set_ne false (by decide)] at h ⊢; exact hz h
        · exact (fr1_congr (L := fun k => listed.getD k false) (L' := fun k => (listed.setIfInBounds 6 true).getD k false) (getD_set_ne (listed := listed) (i := 6) (j := 0) false (by decide)) (getD_set_ne (listed := listed) (i := 6) (j := 26) false (by decide)) (getD_set_ne (listed := listed) (i := 6) (j := 28) false (by decide)) (getD_set_ne (listed := listed) (i := 6) (j := 30) false (by decide)) (getD_set_ne (listed := listed) (i := 6) (j := 31) false (by decide)) (getD_set_ne (listed := listed) (i := 6) (j := 33) false (by decide)) (getD_set_ne (listed := listed) (i := 6) (j := 34) false (by decide)) (getD_set_ne (listed := listed) (i := 6) (j := 36) false (by decide))).symm
    · as_aux_lemma =>
        have h0 := ready_dep hi 0 (by kernel_rfl)
        obtain ⟨hlo, n, hn, hM⟩ := hM h0
        obtain ⟨W', hrun, hM', hb'⟩ := hM.ins (t := 39) Tryz.underlying9 Tryz.underlying39 (by omega) hlo ⟨#[]⟩ (by decide +kernel) (.bool false) (.bool false) (plainElem_bool Tryz.underlying4 _) ⟨by decide +kernel, congrArg Lit.bool (by decide +kernel)⟩
        refine wpOp_step (o := _) rfl (fun K hK => ?_)
        refine step_insert rfl 39 _ _ _ rfl (fr1_map h0) rfl rfl hrun (hK _ _ ⟨hb.trans hb', fun h => ?_, B, ?_, fun _ => ⟨hlo, n + 1, by omega, hM'⟩⟩)
        · rw [getD_set_ne false (by decide)] at h ⊢; exact hz h
        · exact (fr1_congr (L := fun k => listed.getD k false) (L' := fun k => (listed.setIfInBounds 7 true).getD k false) (getD_set_ne (listed := listed) (i := 7) (j := 0) false (by decide)) (getD_set_ne (listed := listed) (i := 7) (j := 26) false (by decide)) (getD_set_ne (listed := listed) (i := 7) (j := 28) false (by decide)) (getD_set_ne (listed := listed) (i := 7) (j := 30) false (by decide)) (getD_set_ne (listed := listed) (i := 7) (j := 31) false (by decide)) (getD_set_ne (listed := listed) (i := 7) (j := 33) false (by decide)) (getD_set_ne (listed := listed) (i := 7) (j := 34) false (by decide)) (getD_set_ne (listed := listed) (i := 7) (j := 36) false (by decide))).symm
    · as_aux_lemma =>
        have h0 := ready_dep hi 0 (by kernel_rfl)
        obtain ⟨hlo, n, hn, hM⟩ := hM h0
        obtain ⟨W', hrun, hM', hb'⟩ := hM.ins (t := 39) Tryz.underlying9 Tryz.underlying39 (by omega) hlo ⟨#[46]⟩ (by decide +kernel) (.bool false) (.bool false) (plainElem_bool Tryz.underlying4 _) ⟨by decide +kernel, congrArg Lit.bool (by decide +kernel)⟩
        refine wpOp_step (o := _) rfl (fun K hK => ?_)
        refine step_insert rfl 39 _ _ _ rfl (fr1_map h0) rfl rfl hrun (hK _ _ ⟨hb.trans hb', fun h => ?_, B, ?_, fun _ => ⟨hlo, n + 1, by omega, hM'⟩⟩)
        · rw [getD_set_ne false (by decide)] at h ⊢; exact hz h
        · exact (fr1_congr (L := fun k => listed.getD k false) (L' := fun k => (listed.setIfInBounds 8 true).getD k false) (getD_set_ne (listed := listed) (i := 8) (j := 0) false (by decide)) (getD_set_ne (listed := listed) (i := 8) (j := 26) false (by decide)) (getD_set_ne (listed := listed) (i := 8) (j := 28) false (by decide)) (getD_set_ne (listed := listed) (i := 8) (j := 30) false (by decide)) (getD_set_ne (listed := listed) (i := 8) (j := 31) false (by decide)) (getD_set_ne (listed := listed) (i := 8) (j := 33) false (by decide)) (getD_set_ne (listed := listed) (i := 8) (j := 34) false (by decide)) (getD_set_ne (listed := listed) (i := 8) (j := 36) false (by decide))).symm
    · as_aux_lemma =>
        have h0 := ready_dep hi 0 (by kernel_rfl)
        obtain ⟨hlo, n, hn, hM⟩ := hM h0
        obtain ⟨W', hrun, hM', hb'⟩ := hM.ins (t := 39) Tryz.underlying9 Tryz.underlying39 (by omega) hlo ⟨#[97, 46]⟩ (by decide +kernel) (.bool false) (.bool false) (plainElem_bool Tryz.underlying4 _) ⟨by decide +kernel, congrArg Lit.bool (by decide +kernel)⟩
        refine wpOp_step (o := _) rfl (fun K hK => ?_)
        refine step_insert rfl 39 _ _ _ rfl (fr1_map h0) rfl rfl hrun (hK _ _ ⟨hb.trans hb', fun h => ?_, B, ?_, fun _ => ⟨hlo, n + 1, by omega, hM'⟩⟩)
        · rw [getD_set_ne false (by decide)] at h ⊢; exact hz h
        · exact (fr1_congr (L := fun k => listed.getD k false) (L' := fun k => (listed.setIfInBounds 9 true).getD k false) (getD_set_ne (listed := listed) (i := 9) (j := 0) false (by decide)) (getD_set_ne (listed := listed) (i := 9) (j := 26) false (by decide)) (getD_set_ne (listed := listed) (i := 9) (j := 28) false (by decide)) (getD_set_ne (listed := listed) (i := 9) (j := 30) false (by decide)) (getD_set_ne (listed := listed) (i := 9) (j := 31) false (by decide)) (getD_set_ne (listed := listed) (i := 9) (j := 33) false (by decide)) (getD_set_ne (listed := listed) (i := 9) (j := 34) false (by decide)) (getD_set_ne (listed := listed) (i := 9) (j := 36) false (by decide))).symm
    · as_aux_lemma =>
        have h0 := ready_dep hi 0 (by kernel_rfl)
        obtain ⟨hlo, n, hn, hM⟩ := hM h0
        obtain ⟨W', hrun, hM', hb'⟩ := hM.ins (t := 39) Tryz.underlying9 Tryz.underlying39 (by omega) hlo ⟨#[46, 97]⟩ (by decide +kernel) (.bool false) (.bool false) (plainElem_bool Tryz.underlying4 _) ⟨by decide +kernel, congrArg Lit.bool (by decide +kernel)⟩
        refine wpOp_step (o := _) rfl (fun K hK => ?_)
        refine step_insert rfl 39 _ _ _ rfl (fr1_map h0) rfl rfl hrun (hK _ _ ⟨hb.trans hb', fun h => ?_, B, ?_, fun _ => ⟨hlo, n + 1, by omega, hM'⟩⟩)
        · rw [getD_set_ne false (by decide)] at h ⊢; exact hz h
        · exact (fr1_congr (L := fun k => listed.getD k false) (L' := fun k => (listed.setIfInBounds 10 true).getD k false) (getD_set_ne (listed := listed) (i := 10) (j := 0) false (by decide)) (getD_set_ne (listed := listed) (i := 10) (j := 26) false (by decide)) (getD_set_ne (listed := listed) (i := 10) (j := 28) false (by decide)) (getD_set_ne (listed := listed) (i := 10) (j := 30) false (by decide)) (getD_set_ne (listed := listed) (i := 10) (j := 31) false (by decide)) (getD_set_ne (listed := listed) (i := 10) (j := 33) false (by decide)) (getD_set_ne (listed := listed) (i := 10) (j := 34) false (by decide)) (getD_set_ne (listed := listed) (i := 10) (j := 36) false (by decide))).symm
    · as_aux_lemma =>
        have h0 := ready_dep hi 0 (by kernel_rfl)
        obtain ⟨hlo, n, hn, hM⟩ := hM h0
        obtain ⟨W', hrun, hM', hb'⟩ := hM.ins (t := 39) Tryz.underlying9 Tryz.underlying39 (by omega) hlo ⟨#[97, 46, 46, 98]⟩ (by decide +kernel) (.bool false) (.bool false) (plainElem_bool Tryz.underlying4 _) ⟨by decide +kernel, congrArg Lit.bool (by decide +kernel)⟩
        refine wpOp_step (o := _) rfl (fun K hK => ?_)
        refine step_insert rfl 39 _ _ _ rfl (fr1_map h0) rfl rfl hrun (hK _ _ ⟨hb.trans hb', fun h => ?_, B, ?_, fun _ => ⟨hlo, n + 1, by omega, hM'⟩⟩)
        · rw [getD_set_ne false (by decide)] at h ⊢; exact hz h
        · exact (fr1_congr (L := fun k => listed.getD k false) (L' := fun k => (listed.setIfInBounds 11 true).getD k false) (getD_set_ne (listed := listed) (i := 11) (j := 0) false (by decide)) (getD_set_ne (listed := listed) (i := 11) (j := 26) false (by decide)) (getD_set_ne (listed := listed) (i := 11) (j := 28) false (by decide)) (getD_set_ne (listed := listed) (i := 11) (j := 30) false (by decide)) (getD_set_ne (listed := listed) (i := 11) (j := 31) false (by decide)) (getD_set_ne (listed := listed) (i := 11) (j := 33) false (by decide)) (getD_set_ne (listed := listed) (i := 11) (j := 34) false (by decide)) (getD_set_ne (listed := listed) (i := 11) (j := 36) false (by decide))).symm
    · as_aux_lemma =>
        have h0 := ready_dep hi 0 (by kernel_rfl)
        obtain ⟨hlo, n, hn, hM⟩ := hM h0
        obtain ⟨W', hrun, hM', hb'⟩ := hM.ins (t := 39) Tryz.underlying9 Tryz.underlying39 (by omega) hlo ⟨#[45, 97]⟩ (by decide +kernel) (.bool false) (.bool false) (plainElem_bool Tryz.underlying4 _) ⟨by decide +kernel, congrArg Lit.bool (by decide +kernel)⟩
        refine wpOp_step (o := _) rfl (fun K hK => ?_)
        refine step_insert rfl 39 _ _ _ rfl (fr1_map h0) rfl rfl hrun (hK _ _ ⟨hb.trans hb', fun h => ?_, B, ?_, fun _ => ⟨hlo, n + 1, by omega, hM'⟩⟩)
        · rw [getD_set_ne false (by decide)] at h ⊢; exact hz h
        · exact (fr1_congr (L := fun k => listed.getD k false) (L' := fun k => (listed.setIfInBounds 12 true).getD k false) (getD_set_ne (listed := listed) (i := 12) (j := 0) false (by decide)) (getD_set_ne (listed := listed) (i := 12) (j := 26) false (by decide)) (getD_set_ne (listed := listed) (i := 12) (j := 28) false (by decide)) (getD_set_ne (listed := listed) (i := 12) (j := 30) false (by decide)) (getD_set_ne (listed := listed) (i := 12) (j := 31) false (by decide)) (getD_set_ne (listed := listed) (i := 12) (j := 33) false (by decide)) (getD_set_ne (listed := listed) (i := 12) (j := 34) false (by decide)) (getD_set_ne (listed := listed) (i := 12) (j := 36) false (by decide))).symm
    · as_aux_lemma =>
        have h0 := ready_dep hi 0 (by kernel_rfl)
        obtain ⟨hlo, n, hn, hM⟩ := hM h0
        obtain ⟨W', hrun, hM', hb'⟩ := hM.ins (t := 39) Tryz.underlying9 Tryz.underlying39 (by omega) hlo ⟨#[97, 45]⟩ (by decide +kernel) (.bool false) (.bool false) (plainElem_bool Tryz.underlying4 _) ⟨by decide +kernel, congrArg Lit.bool (by decide +kernel)⟩
        refine wpOp_step (o := _) rfl (fun K hK => ?_)
        refine step_insert rfl 39 _ _ _ rfl (fr1_map h0) rfl rfl hrun (hK _ _ ⟨hb.trans hb', fun h => ?_, B, ?_, fun _ => ⟨hlo, n + 1, by omega, hM'⟩⟩)
        · rw [getD_set_ne false (by decide)] at h ⊢; exact hz h
        · exact (fr1_congr (L := fun k => listed.getD k false) (L' := fun k => (listed.setIfInBounds 13 true).getD k false) (getD_set_ne (listed := listed) (i := 13) (j := 0) false (by decide)) (getD_set_ne (listed := listed) (i := 13) (j := 26) false (by decide)) (getD_set_ne (listed := listed) (i := 13) (j := 28) false (by decide)) (getD_set_ne (listed := listed) (i := 13) (j := 30) false (by decide)) (getD_set_ne (listed := listed) (i := 13) (j := 31) false (by decide)) (getD_set_ne (listed := listed) (i := 13) (j := 33) false (by decide)) (getD_set_ne (listed := listed) (i := 13) (j := 34) false (by decide)) (getD_set_ne (listed := listed) (i := 13) (j := 36) false (by decide))).symm
    · as_aux_lemma =>
        have h0 := ready_dep hi 0 (by kernel_rfl)
        obtain ⟨hlo, n, hn, hM⟩ := hM h0
        obtain ⟨W', hrun, hM', hb'⟩ := hM.ins (t := 39) Tryz.underlying9 Tryz.underlying39 (by omega) hlo ⟨#[97, 46, 45, 98]⟩ (by decide +kernel) (.bool false) (.bool false) (plainElem_bool Tryz.underlying4 _) ⟨by decide +kernel, congrArg Lit.bool (by decide +kernel)⟩
        refine wpOp_step (o := _) rfl (fun K hK => ?_)
        refine step_insert rfl 39 _ _ _ rfl (fr1_map h0) rfl rfl hrun (hK _ _ ⟨hb.trans hb', fun h => ?_, B, ?_, fun _ => ⟨hlo, n + 1, by omega, hM'⟩⟩)
        · rw [getD_set_ne false (by decide)] at h ⊢; exact hz h
        · exact (fr1_congr (L := fun k => listed.getD k false) (L' := fun k => (listed.setIfInBounds 14 true).getD k false) (getD_set_ne (listed := listed) (i := 14) (j := 0) false (by decide)) (getD_set_ne (listed := listed) (i := 14) (j := 26) false (by decide)) (getD_set_ne (listed := listed) (i := 14) (j := 28) false (by decide)) (getD_set_ne (listed := listed) (i := 14) (j := 30) false (by decide)) (getD_set_ne (listed := listed) (i := 14) (j := 31) false (by decide)) (getD_set_ne (listed := listed) (i := 14) (j := 33) false (by decide)) (getD_set_ne (listed := listed) (i := 14) (j := 34) false (by decide)) (getD_set_ne (listed := listed) (i := 14) (j := 36) false (by decide))).symm
    · as_aux_lemma =>
        have h0 := ready_dep hi 0 (by kernel_rfl)
        obtain ⟨hlo, n, hn, hM⟩ := hM h0
        obtain ⟨W', hrun, hM', hb'⟩ := hM.ins (t := 39) Tryz.underlying9 Tryz.underlying39 (by omega) hlo ⟨#[97, 95, 98]⟩ (by decide +kernel) (.bool false) (.bool false) (plainElem_bool Tryz.underlying4 _) ⟨by decide +kernel, congrArg Lit.bool (by decide +kernel)⟩
        refine wpOp_step (o := _) rfl (fun K hK => ?_)
        refine step_insert rfl 39 _ _ _ rfl (fr1_map h0) rfl rfl hrun (hK _ _ ⟨hb.trans hb', fun h => ?_, B, ?_, fun _ => ⟨hlo, n + 1, by omega, hM'⟩⟩)
        · rw [getD_set_ne false (by decide)] at h ⊢; exact hz h
        · exact (fr1_congr (L := fun k => listed.getD k false) (L' := fun k => (listed.setIfInBounds 15 true).getD k false) (getD_set_ne (listed := listed) (i := 15) (j := 0) false (by decide)) (getD_set_ne (listed := listed) (i := 15) (j := 26) false (by decide)) (getD_set_ne (listed := listed) (i := 15) (j := 28) false (by decide)) (getD_set_ne (listed := listed) (i := 15) (j := 30) false (by decide)) (getD_set_ne (listed := listed) (i := 15) (j := 31) false (by decide)) (getD_set_ne (listed := listed) (i := 15) (j := 33) false (by decide)) (getD_set_ne (listed := listed) (i := 15) (j := 34) false (by decide)) (getD_set_ne (listed := listed) (i := 15) (j := 36) false (by decide))).symm
    · as_aux_lemma =>
        have h0 := ready_dep hi 0 (by kernel_rfl)
        obtain ⟨hlo, n, hn, hM⟩ := hM h0
        obtain ⟨W', hrun, hM', hb'⟩ := hM.ins (t := 39) Tryz.underlying9 Tryz.underlying39 (by omega) hlo ⟨#[97, 32, 98]⟩ (by decide +kernel) (.bool false) (.bool false) (plainElem_bool Tryz.underlying4 _) ⟨by decide +kernel, congrArg Lit.bool (by decide +kernel)⟩
        refine wpOp_step (o := _) rfl (fun K hK => ?_)
        refine step_insert rfl 39 _ _ _ rfl (fr1_map h0) rfl rfl hrun (hK _ _ ⟨hb.trans hb', fun h => ?_, B, ?_, fun _ => ⟨hlo, n + 1, by omega, hM'⟩⟩)
        · rw [getD_set_ne false (by decide)] at h ⊢; exact hz h
        · exact (fr1_congr (L := fun k => listed.getD k false) (L' := fun k => (listed.setIfInBounds 16 true).getD k false) (getD_set_ne (listed := listed) (i := 16) (j := 0) false (by decide)) (getD_set_ne (listed := listed) (i := 16) (j := 26) false (by decide)) (getD_set_ne (listed := listed) (i := 16) (j := 28) false (by decide)) (getD_set_ne (listed := listed) (i := 16) (j := 30) false (by decide)) (getD_set_ne (listed := listed) (i := 16) (j := 31) false (by decide)) (getD_set_ne (listed := listed) (i := 16) (j := 33) false (by decide)) (getD_set_ne (listed := listed) (i := 16) (j := 34) false (by decide)) (getD_set_ne (listed := listed) (i := 16) (j := 36) false (by decide))).symm
    · as_aux_lemma =>
        have h0 := ready_dep hi 0 (by kernel_rfl)
        obtain ⟨hlo, n, hn, hM⟩ := hM h0
        obtain ⟨W', hrun, hM', hb'⟩ := hM.ins (t := 39) Tryz.underlying9 Tryz.underlying39 (by omega) hlo ⟨#[91, 49, 46, 50, 46, 51, 93]⟩ (by decide +kernel) (.bool false) (.bool false) (plainElem_bool Tryz.underlying4 _) ⟨by decide +kernel, congrArg Lit.bool (by decide +kernel)⟩
        refine wpOp_step (o := _) rfl (fun K hK => ?_)
        refine step_insert rfl 39 _ _ _ rfl (fr1_map h0) rfl rfl hrun (hK _ _ ⟨hb.trans hb', fun h => ?_, B, ?_, fun _ => ⟨hlo, n + 1, by omega, hM'⟩⟩)
        · rw [getD_set_ne false (by decide)] at h ⊢; exact hz h
        · exact (fr1_congr (L := fun k => listed.getD k false) (L' := fun k => (listed.setIfInBounds 17 true).getD k false) (getD_set_ne (listed := listed) (i := 17) (j := 0) false (by decide)) (getD_set_ne (listed := listed) (i := 17) (j := 26) false (by decide)) (getD_set_ne (listed := listed) (i := 17) (j := 28) false (by decide)) (getD_set_ne (listed := listed) (i := 17) (j := 30) false (by decide)) (getD_set_ne (listed := listed) (i := 17) (j := 31) false (by decide)) (getD_set_ne (listed := listed) (i := 17) (j := 33) false (by decide)) (getD_set_ne (listed := listed) (i := 17) (j := 34) false (by decide)) (getD_set_ne (listed := listed) (i := 17) (j := 36) false (by decide))).symm
    · as_aux_lemma =>
        have h0 := ready_dep hi 0 (by kernel_rfl)
        obtain ⟨hlo, n, hn, hM⟩ := hM h0
        obtain ⟨W', hrun, hM', hb'⟩ := hM.ins (t := 39) Tryz.underlying9 Tryz.underlying39 (by omega) hlo ⟨#[91, 49, 46, 50, 46, 51, 46, 50, 53, 54, 93]⟩ (by decide +kernel) (.bool false) (.bool false) (plainElem_bool Tryz.underlying4 _) ⟨by decide +kernel, congrArg Lit.bool (by decide +kernel)⟩
        refine wpOp_step (o := _) rfl (fun K hK => ?_)
        refine step_insert rfl 39 _ _ _ rfl (fr1_map h0) rfl rfl hrun (hK _ _ ⟨hb.trans hb', fun h => ?_, B, ?_, fun _ => ⟨hlo, n + 1, by omega, hM'⟩⟩)
        · rw [getD_set_ne false (by decide)] at h ⊢; exact hz h
        · exact (fr1_congr (L := fun k => listed.getD k false) (L' := fun k => (listed.setIfInBounds 18 true).getD k false) (getD_set_ne (listed := listed) (i := 18) (j := 0) false (by decide)) (getD_set_ne (listed := listed) (i := 18) (j := 26) false (by decide)) (getD_set_ne (listed := listed) (i := 18) (j := 28) false (by decide)) (getD_set_ne (listed := listed) (i := 18) (j := 30) false (by decide)) (getD_set_ne (listed := listed) (i := 18) (j := 31) false (by decide)) (getD_set_ne (listed := listed) (i := 18) (j := 33) false (by decide)) (getD_set_ne (listed := listed) (i := 18) (j := 34) false (by decide)) (getD_set_ne (listed := listed) (i := 18) (j := 36) false (by decide))).symm
    · as_aux_lemma =>
        have h0 := ready_dep hi 0 (by kernel_rfl)
        obtain ⟨hlo, n, hn, hM⟩ := hM h0
        obtain ⟨W', hrun, hM', hb'⟩ := hM.ins (t := 39) Tryz.underlying9 Tryz.underlying39 (by omega) hlo ⟨#[91, 48, 49, 46, 50, 46, 51, 46, 52, 93]⟩ (by decide +kernel) (.bool false) (.bool false) (plainElem_bool Tryz.underlying4 _) ⟨by decide +kernel, congrArg Lit.bool (by decide +kernel)⟩
        refine wpOp_step (o := _) rfl (fun K hK => ?_)
        refine step_insert rfl 39 _ _ _ rfl (fr1_map h0) rfl rfl hrun (hK _ _ ⟨hb.trans hb', fun h => ?_, B, ?_, fun _ => ⟨hlo, n + 1, by omega, hM'⟩⟩)
        · rw [getD_set_ne false (by decide)] at h ⊢; exact hz h
        · exact (fr1_congr (L := fun k => listed.getD k false) (L' := fun k => (listed.setIfInBounds 19 true).getD k false) (getD_set_ne (listed := listed) (i := 19) (j := 0) false (by decide)) (getD_set_ne (listed := listed) (i := 19) (j := 26) false (by decide)) (getD_set_ne (listed := listed) (i := 19) (j := 28) false (by decide)) (getD_set_ne (listed := listed) (i := 19) (j := 30) false (by decide)) (getD_set_ne (listed := listed) (i := 19) (j := 31) false (by decide)) (getD_set_ne (listed := listed) (i := 19) (j := 33) false (by decide)) (getD_set_ne (listed := listed) (i := 19) (j := 34) false (by decide)) (getD_set_ne (listed := listed) (i := 19) (j := 36) false (by decide))).symm
    · as_aux_lemma =>
        have h0 := ready_dep hi 0 (by kernel_rfl)
        obtain ⟨hlo, n, hn, hM⟩ := hM h0
        obtain ⟨W', hrun, hM', hb'⟩ := hM.ins (t := 39) Tryz.underlying9 Tryz.underlying39 (by omega) hlo ⟨#[91, 49, 46, 50, 46, 51, 46, 52]⟩ (by decide +kernel) (.bool false) (.bool false) (plainElem_bool Tryz.underlying4 _) ⟨by decide +kernel, congrArg Lit.bool (by decide +kernel)⟩
        refine wpOp_step (o := _) rfl (fun K hK => ?_)
        refine step_insert rfl 39 _ _ _ rfl (fr1_map h0) rfl rfl hrun (hK _ _ ⟨hb.trans hb', fun h => ?_, B, ?_, fun _ => ⟨hlo, n + 1, by omega, hM'⟩⟩)
        · rw [getD_set_ne false (by decide)] at h ⊢; exact hz h
        · exact (fr1_congr (L := fun k => listed.getD k false) (L' := fun k => (listed.setIfInBounds 20 true).getD k false) (getD_set_ne (listed := listed) (i := 20) (j := 0) false (by decide)) (getD_set_ne (listed := listed) (i := 20) (j := 26) false (by decide)) (getD_set_ne (listed := listed) (i := 20) (j := 28) false (by decide)) (getD_set_ne (listed := listed) (i := 20) (j := 30) false (by decide)) (getD_set_ne (listed := listed) (i := 20) (j := 31) false (by decide)) (getD_set_ne (listed := listed) (i := 20) (j := 33) false (by decide)) (getD_set_ne (listed := listed) (i := 20) (j := 34) false (by decide)) (getD_set_ne (listed := listed) (i := 20) (j := 36) false (by decide))).symm
    · as_aux_lemma =>
        have h0 := ready_dep hi 0 (by kernel_rfl)
        obtain ⟨hlo, n, hn, hM⟩ := hM h0
        obtain ⟨W', hrun, hM', hb'⟩ := hM.ins (t := 39) Tryz.underlying9 Tryz.underlying39 (by omega) hlo ⟨#[49, 46, 50, 46, 51, 46, 52, 93]⟩ (by decide +kernel) (.bool false) (.bool false) (plainElem_bool Tryz.underlying4 _) ⟨by decide +kernel, congrArg Lit.bool (by decide +kernel)⟩
        refine wpOp_step (o := _) rfl (fun K hK => ?_)
        refine step_insert rfl 39 _ _ _ rfl (fr1_map h0) rfl rfl hrun (hK _ _ ⟨hb.trans hb', fun h => ?_, B, ?_, fun _ => ⟨hlo, n + 1, by omega, hM'⟩⟩)
        · rw [getD_set_ne false (by decide)] at h ⊢; exact hz h
        · exact (fr1_congr (L := fun k => listed.getD k false) (L' := fun k => (listed.setIfInBounds 21 true).getD k false) (getD_set_ne (listed := listed) (i := 21) (j := 0) false (by decide)) (getD_set_ne (listed := listed) (i := 21) (j := 26) false (by decide)) (getD_set_ne (listed := listed) (i := 21) (j := 28) false (by decide)) (getD_set_ne (listed := listed) (i := 21) (j := 30) false (by decide)) (getD_set_ne (listed := listed) (i := 21) (j := 31) false (by decide)) (getD_set_ne (listed := listed) (i := 21) (j := 33) false (by decide)) (getD_set_ne (listed := listed) (i := 21) (j := 34) false (by decide)) (getD_set_ne (listed := listed) (i := 21) (j := 36) false (by decide))).symm
    · as_aux_lemma =>
        have h0 := ready_dep hi 0 (by kernel_rfl)
        obtain ⟨hlo, n, hn, hM⟩ := hM h0
        obtain ⟨W', hrun, hM', hb'⟩ := hM.ins (t := 39) Tryz.underlying9 Tryz.underlying39 (by omega) hlo ⟨#[91, 49, 46, 50, 46, 51, 46, 52, 93, 46, 120]⟩ (by decide +kernel) (.bool false) (.bool false) (plainElem_bool Tryz.underlying4 _) ⟨by decide +kernel, congrArg Lit.bool (by decide +kernel)⟩
        refine wpOp_step (o := _) rfl (fun K hK => ?_)
        refine step_insert rfl 39 _ _ _ rfl (fr1_map h0) rfl rfl hrun (hK _ _ ⟨hb.trans hb', fun h => ?_, B, ?_, fun _ => ⟨hlo, n + 1, by omega, hM'⟩⟩)
        · rw [getD_set_ne false (by decide)] at h ⊢; exact hz h
        · exact (fr1_congr (L := fun k => listed.getD k false) (L' := fun k => (listed.setIfInBounds 22 true).getD k false) (getD_set_ne (listed := listed) (i := 22) (j := 0) false (by decide)) (getD_set_ne (listed := listed) (i := 22) (j := 26) false (by decide)) (getD_set_ne (listed := listed) (i := 22) (j := 28) false (by decide)) (getD_set_ne (listed := listed) (i := 22) (j := 30) false (by decide)) (getD_set_ne (listed := listed) (i := 22) (j := 31) false (by decide)) (getD_set_ne (listed := listed) (i := 22) (j := 33) false (by decide)) (getD_set_ne (listed := listed) (i := 22) (j := 34) false (by decide)) (getD_set_ne (listed := listed) (i := 22) (j := 36) false (by decide))).symm
    · as_aux_lemma =>
        have h0 := ready_dep hi 0 (by kernel_rfl)
        obtain ⟨hlo, n, hn, hM⟩ := hM h0
        obtain ⟨W', hrun, hM', hb'⟩ := hM.ins (t := 39) Tryz.underlying9 Tryz.underlying39 (by omega) hlo ⟨#[91, 93]⟩ (by decide +kernel) (.bool false) (.bool false) (plainElem_bool Tryz.underlying4 _) ⟨by decide +kernel, congrArg Lit.bool (by decide +kernel)⟩
        refine wpOp_step (o := _) rfl (fun K hK => ?_)
        refine step_insert rfl 39 _ _ _ rfl (fr1_map h0) rfl rfl hrun (hK _ _ ⟨hb.trans hb', fun h => ?_, B, ?_, fun _ => ⟨hlo, n + 1, by omega, hM'⟩⟩)
        · rw [getD_set_ne false (by decide)] at h ⊢; exact hz h
        · exact (fr1_congr (L := fun k => listed.getD k false) (L' := fun k => (listed.setIfInBounds 23 true).getD k false) (getD_set_ne (listed := listed) (i := 23) (j := 0) false (by decide)) (getD_set_ne (listed := listed) (i := 23) (j := 26) false (by decide)) (getD_set_ne (listed := listed) (i := 23) (j := 28) false (by decide)) (getD_set_ne (listed := listed) (i := 23) (j := 30) false (by decide)) (getD_set_ne (listed := listed) (i := 23) (j := 31) false (by decide)) (getD_set_ne (listed := listed) (i := 23) (j := 33) false (by decide)) (getD_set_ne (listed := listed) (i := 23) (j := 34) false (by decide)) (getD_set_ne (listed := listed) (i := 23) (j := 36) false (by decide))).symm
    · as_aux_lemma =>
        have h0 := ready_dep hi 0 (by kernel_rfl)
        obtain ⟨hlo, n, hn, hM⟩ := hM h0
        obtain ⟨W', hrun, hM', hb'⟩ := hM.ins (t := 39) Tryz.underlying9 Tryz.underlying39 (by omega) hlo ⟨#[91]⟩ (by decide +kernel) (.bool false) (.bool false) (plainElem_bool Tryz.underlying4 _) ⟨by decide +kernel, congrArg Lit.bool (by decide +kernel)⟩
        refine wpOp_step (o := _) rfl (fun K hK => ?_)
        refine step_insert rfl 39 _ _ _ rfl (fr1_map h0) rfl rfl hrun (hK _ _ ⟨hb.trans hb', fun h => ?_, B, ?_, fun _ => ⟨hlo, n + 1, by omega, hM'⟩⟩)
        · rw [getD_set_ne false (by decide)] at h ⊢; exact hz h
        · exact (fr1_congr (L := fun k => listed.getD k false) (L' := fun k => (listed.setIfInBounds 24 true).getD k false) (getD_set_ne (listed := listed) (i := 24) (j := 0) false (by decide)) (getD_set_ne (listed := listed) (i := 24) (j := 26) false (by decide)) (getD_set_ne (listed := listed) (i := 24) (j := 28) false (by decide)) (getD_set_ne (listed := listed) (i := 24) (j := 30) false (by decide)) (getD_set_ne (listed := listed) (i := 24) (j := 31) false (by decide)) (getD_set_ne (listed := listed) (i := 24) (j := 33) false (by decide)) (getD_set_ne (listed := listed) (i := 24) (j := 34) false (by decide)) (getD_set_ne (listed := listed) (i := 24) (j := 36) false (by decide))).symm
    · as_aux_lemma =>
        have h0 := ready_dep hi 0 (by kernel_rfl)
        obtain ⟨hlo, n, hn, hM⟩ := hM h0
        obtain ⟨W', hrun, hM', hb'⟩ := hM.ins (t := 39) Tryz.underlying9 Tryz.underlying39 (by omega) hlo ⟨#[195, 164]⟩ (by decide +kernel) (.bool false) (.bool false) (plainElem_bool Tryz.underlying4 _) ⟨by decide +kernel, congrArg Lit.bool (by decide +kernel)⟩
        refine wpOp_step (o := _) rfl (fun K hK => ?_)
        refine step_insert rfl 39 _ _ _ rfl (fr1_map h0) rfl rfl hrun (hK _ _ ⟨hb.trans hb', fun h => ?_, B, ?_, fun _ => ⟨hlo, n + 1, by omega, hM'⟩⟩)
        · rw [getD_set_ne false (by decide)] at h ⊢; exact hz h
        · exact (fr1_congr (L := fun k => listed.getD k false) (L' := fun k => (listed.setIfInBounds 25 true).getD k false) (getD_set_ne (listed := listed) (i := 25) (j := 0) false (by decide)) (getD_set_ne (listed := listed) (i := 25) (j := 26) false (by decide)) (getD_set_ne (listed := listed) (i := 25) (j := 28) false (by decide)) (getD_set_ne (listed := listed) (i := 25) (j := 30) false (by decide)) (getD_set_ne (listed := listed) (i := 25) (j := 31) false (by decide)) (getD_set_ne (listed := listed) (i := 25) (j := 33) false (by decide)) (getD_set_ne (listed := listed) (i := 25) (j := 34) false (by decide)) (getD_set_ne (listed := listed) (i := 25) (j := 36) false (by decide))).symm
    · as_aux_lemma =>
        refine wpOp_step (o := _) rfl (fun K hK => ?_)
        have HC := Lib.hid (Tryz.strings_Repeat ⟨#[97]⟩ 63 W (by decide) (by decide))
        obtain ⟨A, hA⟩ : ∃ A, A = fr1 B (fun k => listed.getD k false) := ⟨_, rfl⟩
        rw [← hA]
        have HA := Lib.hid hA
        clear hA
        go_simp
        refine HC.out.mono ?_
        rintro e W' ⟨rfl, hb'⟩
        rw [HA.out]
        refine hK _ _ ⟨hb.trans (hb'.mono hb.size), fun h => ?_, B, fr1_put26 (L := fun k => listed.getD k false) (L' := fun k => (listed.setIfInBounds 26 true).getD k false) (getD_set_ne (listed := listed) (i := 26) (j := 0) false (by decide)) (getD_set_ne (listed := listed) (i := 26) (j := 28) false (by decide)) (getD_set_ne (listed := listed) (i := 26) (j := 30) false (by decide)) (getD_set_ne (listed := listed) (i := 26) (j := 31) false (by decide)) (getD_set_ne (listed := listed) (i := 26) (j := 33) false (by decide)) (getD_set_ne (listed := listed) (i := 26) (j := 34) false (by decide)) (getD_set_ne (listed := listed) (i := 26) (j := 36) false (by decide)) (hset 26 (by decide)), fun h => ?_⟩
        · rw [getD_set_ne false (by decide)] at h ⊢; exact hz h
        · rw [getD_set_ne false (by decide)] at h
          obtain ⟨hlo, n, hn, hM⟩ := hM h
          exact ⟨hlo, n, by omega, hM.below hb'⟩
    · as_aux_lemma =>
        have h0 := ready_dep hi 0 (by kernel_rfl)
        have hk := ready_dep hi 26 (by kernel_rfl)
        obtain ⟨hlo, n, hn, hM⟩ := hM h0
        obtain ⟨W', hrun, hM', hb'⟩ := hM.ins (t := 39) Tryz.underlying9 Tryz.underlying39 (by omega) hlo rA63 (by decide +kernel) (.bool true) (.bool true) (plainElem_bool Tryz.underlying4 _) ⟨by decide +kernel, congrArg Lit.bool (by decide +kernel)⟩
        refine wpOp_step (o := _) rfl (fun K hK => ?_)
        refine step_insert rfl 39 _ _ _ rfl (fr1_map h0) (fr1_tmp26 hk) rfl hrun (hK _ _ ⟨hb.trans hb', fun h => ?_, B, ?_, fun _ => ⟨hlo, n + 1, by omega, hM'⟩⟩)
        · rw [getD_set_ne false (by decide)] at h ⊢; exact hz h
        · exact (fr1_congr (L := fun k => listed.getD k false) (L' := fun k => (listed.setIfInBounds 27 true).getD k false) (getD_set_ne (listed := listed) (i := 27) (j := 0) false (by decide)) (getD_set_ne (listed := listed) (i := 27) (j := 26) false (by decide)) (getD_set_ne (listed := listed) (i := 27) (j := 28) false (by decide)) (getD_set_ne (listed := listed) (i := 27) (j := 30) false (by decide)) (getD_set_ne (listed := listed) (i := 27) (j := 31) false (by decide)) (getD_set_ne (listed := listed) (i := 27) (j := 33) false (by decide)) (getD_set_ne (listed := listed) (i := 27) (j := 34) false (by decide)) (getD_set_ne (listed := listed) (i := 27) (j := 36) false (by decide))).symm
    · as_aux_lemma =>
        refine wpOp_step (o := _) rfl (fun K hK => ?_)
        have HC := Lib.hid (Tryz.strings_Repeat ⟨#[97]⟩ 64 W (by decide) (by decide))
        obtain ⟨A, hA⟩ : ∃ A, A = fr1 B (fun k => listed.getD k false) := ⟨_, rfl⟩
        rw [← hA]
        have HA := Lib.hid hA
        clear hA
        go_simp
        refine HC.out.mono ?_
        rintro e W' ⟨rfl, hb'⟩
        rw [HA.out]
        refine hK _ _ ⟨hb.trans (hb'.mono hb.size), fun h => ?_, B, fr1_put28 (L := fun k => listed.getD k false) (L' := fun k => (listed.setIfInBounds 28 true).getD k false) (getD_set_ne (listed := listed) (i := 28) (j := 0) false (by decide)) (getD_set_ne (listed := listed) (i := 28) (j := 26) false (by decide)) (getD_set_ne (listed := listed) (i := 28) (j := 30) false (by decide)) (getD_set_ne (listed := listed) (i := 28) (j := 31) false (by decide)) (getD_set_ne (listed := listed) (i := 28) (j := 33) false (by decide)) (getD_set_ne (listed := listed) (i := 28) (j := 34) false (by decide)) (getD_set_ne (listed := listed) (i := 28) (j := 36) false (by decide)) (hset 28 (by decide)), fun h => ?_⟩
        · rw [getD_set_ne false (by decide)] at h ⊢; exact hz h
        · rw [getD_set_ne false (by decide)] at h
          obtain ⟨hlo, n, hn, hM⟩ := hM h
          exact ⟨hlo, n, by omega, hM.below hb'⟩
    · as_aux_lemma =>
        have h0 := ready_dep hi 0 (by kernel_rfl)
        have hk := ready_dep hi 28 (by kernel_rfl)
        obtain ⟨hlo, n, hn, hM⟩ := hM h0
        obtain ⟨W', hrun, hM', hb'⟩ := hM.ins (t := 39) Tryz.underlying9 Tryz.underlying39 (by omega) hlo rA64 (by decide +kernel) (.bool false) (.bool false) (plainElem_bool Tryz.underlying4 _) ⟨by decide +kernel, congrArg Lit.bool (by decide +kernel)⟩
        refine wpOp_step (o := _) rfl (fun K hK => ?_)
        refine step_insert rfl 39 _ _ _ rfl (fr1_map h0) (fr1_tmp28 hk) rfl hrun (hK _ _ ⟨hb.trans hb', fun h => ?_, B, ?_, fun _ => ⟨hlo, n + 1, by omega, hM'⟩⟩)
        · rw [getD_set_ne false (by decide)] at h ⊢; exact hz h
        · exact (fr1_congr (L := fun k => listed.getD k false) (L' := fun k => (listed.setIfInBounds 29 true).getD k false) (getD_set_ne (listed := listed) (i := 29) (j := 0) false (by decide)) (getD_set_ne (listed := listed) (i := 29) (j := 26) false (by decide)) (getD_set_ne (listed := listed) (i := 29) (j := 28) false (by decide)) (getD_set_ne (listed := listed) (i := 29) (j := 30) false (by decide)) (getD_set_ne (listed := listed) (i := 29) (j := 31) false (by decide)) (getD_set_ne (listed := listed) (i := 29) (j := 33) false (by decide)) (getD_set_ne (listed := listed) (i := 29) (j := 34) false (by decide)) (getD_set_ne (listed := listed) (i := 29) (j := 36) false (by decide))).symm
    · as_aux_lemma =>
        refine wpOp_step (o := _) rfl (fun K hK => ?_)
        have HC := Lib.hid (Tryz.strings_Repeat ⟨#[97, 46]⟩ 127 W (by decide) (by decide))
        obtain ⟨A, hA⟩ : ∃ A, A = fr1 B (fun k => listed.getD k false) := ⟨_, rfl⟩
        rw [← hA]
        have HA := Lib.hid hA
        clear hA
        go_simp
        refine HC.out.mono ?_
        rintro e W' ⟨rfl, hb'⟩
        rw [HA.out]
        refine hK _ _ ⟨hb.trans (hb'.mono hb.size), fun h => ?_, B, fr1_put30 (L := fun k => listed.getD k false) (L' := fun k => (listed.setIfInBounds 30 true).getD k false) (getD_set_ne (listed := listed) (i := 30) (j := 0) false (by decide)) (getD_set_ne (listed := listed) (i := 30) (j := 26) false (by decide)) (getD_set_ne (listed := listed) (i := 30) (j := 28) false (by decide)) (getD_set_ne (listed := listed) (i := 30) (j := 31) false (by decide)) (getD_set_ne (listed := listed) (i := 30) (j := 33) false (by decide)) (getD_set_ne (listed := listed) (i := 30) (j := 34) false (by decide)) (getD_set_ne (listed := listed) (i := 30) (j := 36) false (by decide)) (hset 30 (by decide)), fun h => ?_⟩
        · rw [getD_set_ne false (by decide)] at h ⊢; exact hz h
        · rw [getD_set_ne false (by decide)] at h
          obtain ⟨hlo, n, hn, hM⟩ := hM h
          exact ⟨hlo, n, by omega, hM.below hb'⟩
    · as_aux_lemma =>
        have hk := ready_dep hi 30 (by kernel_rfl)
        refine wpOp_step (o := _) rfl (fun K hK => ?_)
        refine step_add rfl _ _ rfl (fr1_tmp30 hk) rfl (by decide +kernel) ?_
        refine hK _ _ ⟨hb, fun h => ?_, B, fr1_put31 (L := fun k => listed.getD k false) (L' := fun k => (listed.setIfInBounds 31 true).getD k false) (getD_set_ne (listed := listed) (i := 31) (j := 0) false (by decide)) (getD_set_ne (listed := listed) (i := 31) (j := 26) false (by decide)) (getD_set_ne (listed := listed) (i := 31) (j := 28) false (by decide)) (getD_set_ne (listed := listed) (i := 31) (j := 30) false (by decide)) (getD_set_ne (listed := listed) (i := 31) (j := 33) false (by decide)) (getD_set_ne (listed := listed) (i := 31) (j := 34) false (by decide)) (getD_set_ne (listed := listed) (i := 31) (j := 36) false (by decide)) (hset 31 (by decide)), fun h => ?_⟩
        · rw [getD_set_ne false (by decide)] at h ⊢; exact hz h
        · rw [getD_set_ne false (by decide)] at h
          obtain ⟨hlo, n, hn, hM⟩ := hM h
          exact ⟨hlo, n, by omega, hM⟩
    · as_aux_lemma =>
        have h0 := ready_dep hi 0 (by kernel_rfl)
        have hk := ready_dep hi 31 (by kernel_rfl)
        obtain ⟨hlo, n, hn, hM⟩ := hM h0
        obtain ⟨W', hrun, hM', hb'⟩ := hM.ins (t := 39) Tryz.underlying9 Tryz.underlying39 (by omega) hlo rD127a (by decide +kernel) (.bool true) (.bool true) (plainElem_bool Tryz.underlying4 _) ⟨by decide +kernel, congrArg Lit.bool (by decide +kernel)⟩
        refine wpOp_step (o := _) rfl (fun K hK => ?_)
        refine step_insert rfl 39 _ _ _ rfl (fr1_map h0) (fr1_tmp31 hk) rfl hrun (hK _ _ ⟨hb.trans hb', fun h => ?_, B, ?_, fun _ => ⟨hlo, n + 1, by omega, hM'⟩⟩)
        · rw [getD_set_ne false (by decide)] at h ⊢; exact hz h
        · exact (fr1_congr (L := fun k => listed.getD k false) (L' := fun k => (listed.setIfInBounds 32 true).getD k false) (getD_set_ne (listed := listed) (i := 32) (j := 0) false (by decide)) (getD_set_ne (listed := listed) (i := 32) (j := 26) false (by decide)) (getD_set_ne (listed := listed) (i := 32) (j := 28) false (by decide)) (getD_set_ne (listed := listed) (i := 32) (j := 30) false (by decide)) (getD_set_ne (listed := listed) (i := 32) (j := 31) false (by decide)) (getD_set_ne (listed := listed) (i := 32) (j := 33) false (by decide)) (getD_set_ne (listed := listed) (i := 32) (j := 34) false (by decide)) (getD_set_ne (listed := listed) (i := 32) (j := 36) false (by decide))).symm
    · as_aux_lemma =>
        refine wpOp_step (o := _) rfl (fun K hK => ?_)
        have HC := Lib.hid (Tryz.strings_Repeat ⟨#[97, 46]⟩ 128 W (by decide) (by decide))
        obtain ⟨A, hA⟩ : ∃ A, A = fr1 B (fun k => listed.getD k false) := ⟨_, rfl⟩
        rw [← hA]
        have HA := Lib.hid hA
        clear hA
        go_simp
        refine HC.out.mono ?_
        rintro e W' ⟨rfl, hb'⟩
        rw [HA.out]
        refine hK _ _ ⟨hb.trans (hb'.mono hb.size), fun h => ?_, B, fr1_put33 (L := fun k => listed.getD k false) (L' := fun k => (listed.setIfInBounds 33 true).getD k false) (getD_set_ne (listed := listed) (i := 33) (j := 0) false (by decide)) (getD_set_ne (listed := listed) (i := 33) (j := 26) false (by decide)) (getD_set_ne (listed := listed) (i := 33) (j := 28) false (by decide)) (getD_set_ne (listed := listed) (i := 33) (j := 30) false (by decide)) (getD_set_ne (listed := listed) (i := 33) (j := 31) false (by decide)) (getD_set_ne (listed := listed) (i := 33) (j := 34) false (by decide)) (getD_set_ne (listed := listed) (i := 33) (j := 36) false (by decide)) (hset 33 (by decide)), fun h => ?_⟩
        · rw [getD_set_ne false (by decide)] at h ⊢; exact hz h
        · rw [getD_set_ne false (by decide)] at h
          obtain ⟨hlo, n, hn, hM⟩ := hM h
          exact ⟨hlo, n, by omega, hM.below hb'⟩
    · as_aux_lemma =>
        have hk := ready_dep hi 33 (by kernel_rfl)
        refine wpOp_step (o := _) rfl (fun K hK => ?_)
        refine step_add rfl _ _ rfl (fr1_tmp33 hk) rfl (by decide +kernel) ?_
        refine hK _ _ ⟨hb, fun h => ?_, B, fr1_put34 (L := fun k => listed.getD k false) (L' := fun k => (listed.setIfInBounds 34 true).getD k false) (getD_set_ne (listed := listed) (i := 34) (j := 0) false (by decide)) (getD_set_ne (listed := listed) (i := 34) (j := 26) false (by decide)) (getD_set_ne (listed := listed) (i := 34) (j := 28) false (by decide)) (getD_set_ne (listed := listed) (i := 34) (j := 30) false (by decide)) (getD_set_ne (listed := listed) (i := 34) (j := 31) false (by decide)) (getD_set_ne (listed := listed) (i := 34) (j := 33) false (by decide)) (getD_set_ne (listed := listed) (i := 34) (j := 36) false (by decide)) (hset 34 (by decide)), fun h => ?_⟩
        · rw [getD_set_ne false (by decide)] at h ⊢; exact hz h
        · rw [getD_set_ne false (by decide)] at h
          obtain ⟨hlo, n, hn, hM⟩ := hM h
          exact ⟨hlo, n, by omega, hM⟩
    · as_aux_lemma =>
        have h0 := ready_dep hi 0 (by kernel_rfl)
        have hk := ready_dep hi 34 (by kernel_rfl)
        obtain ⟨hlo, n, hn, hM⟩ := hM h0
        obtain ⟨W', hrun, hM', hb'⟩ := hM.ins (t := 39) Tryz.underlying9 Tryz.underlying39 (by omega) hlo rD128a (by decide +kernel) (.bool false) (.bool false) (plainElem_bool Tryz.underlying4 _) ⟨by decide +kernel, congrArg Lit.bool (by decide +kernel)⟩
        refine wpOp_step (o := _) rfl (fun K hK => ?_)
        refine step_insert rfl 39 _ _ _ rfl (fr1_map h0) (fr1_tmp34 hk) rfl hrun (hK _ _ ⟨hb.trans hb', fun h => ?_, B, ?_, fun _ => ⟨hlo, n + 1, by omega, hM'⟩⟩)
        · rw [getD_set_ne false (by decide)] at h ⊢; exact hz h
        · exact (fr1_congr (L := fun k => listed.getD k false) (L' := fun k => (listed.setIfInBounds 35 true).getD k false) (getD_set_ne (listed := listed) (i := 35) (j := 0) false (by decide)) (getD_set_ne (listed := listed) (i := 35) (j := 26) false (by decide)) (getD_set_ne (listed := listed) (i := 35) (j := 28) false (by decide)) (getD_set_ne (listed := listed) (i := 35) (j := 30) false (by decide)) (getD_set_ne (listed := listed) (i := 35) (j := 31) false (by decide)) (getD_set_ne (listed := listed) (i := 35) (j := 33) false (by decide)) (getD_set_ne (listed := listed) (i := 35) (j := 34) false (by decide)) (getD_set_ne (listed := listed) (i := 35) (j := 36) false (by decide))).symm
    · as_aux_lemma =>
        have h0 := ready_dep hi 0 (by kernel_rfl)
        refine wpOp_step (o := _) rfl (fun K hK => ?_)
        refine step_move rfl _ rfl (fr1_map h0) ?_
        refine hK _ _ ⟨hb, fun h => ?_, B, fr1_put36 (L := fun k => listed.getD k false) (L' := fun k => (listed.setIfInBounds 36 true).getD k false) (getD_set_ne (listed := listed) (i := 36) (j := 0) false (by decide)) (getD_set_ne (listed := listed) (i := 36) (j := 26) false (by decide)) (getD_set_ne (listed := listed) (i := 36) (j := 28) false (by decide)) (getD_set_ne (listed := listed) (i := 36) (j := 30) false (by decide)) (getD_set_ne (listed := listed) (i := 36) (j := 31) false (by decide)) (getD_set_ne (listed := listed) (i := 36) (j := 33) false (by decide)) (getD_set_ne (listed := listed) (i := 36) (j := 34) false (by decide)) (hset 36 (by decide)), fun h => ?_⟩
        · rw [getD_set_ne false (by decide)]; exact h0
        · rw [getD_set_ne false (by decide)] at h
          obtain ⟨hlo, n, hn, hM⟩ := hM h
          exact ⟨hlo, n, by omega, hM⟩
  · intro listed a W hs hall hJ
    obtain ⟨hb, hz, B, rfl, hM⟩ := hJ
    obtain ⟨hlo, n, hn, hM⟩ := hM (hall 0 (by decide))
    obtain ⟨D, ho, hG⟩ := hM
    obtain ⟨W', hrun, hrg, hgr, hsz⟩ := (ho.mono (n' := 1000) (by omega)).range (string_keyed Tryz.underlying9) Tryz.underlying39
    refine wpOp_step (o := _) rfl (fun K hK => ?_)
    rw [fr1_congr (L := fun _ => true) (hall 0 (by decide)) (hall 26 (by decide)) (hall 28 (by decide)) (hall 30 (by decide)) (hall 31 (by decide)) (hall 33 (by decide)) (hall 34 (by decide)) (hall 36 (by decide))]
    refine step_range rfl 39 _ rfl rfl hrun ?_
    exact hK _ _ ⟨hb.trans ((Below.refl _ W).grown hgr hb.size (fun k hk => by cases hk)), B, W.heap.size, D, _, _, hlo, hb.size, hG, hrg, rfl⟩
  · rintro a W ⟨hb, B1, r1, D, left, cnt, hB, hr, hG, hrg, rfl⟩
    have HG := Lib.hid hG
    have HB := Lib.hid hb
    have HRG := Lib.hid hrg
    clear hG hb hrg
    simp only [fr1, pk, cond_true, Act.put, List.setIfInBounds_toArray, List.set_cons_succ, List.set_cons_zero]
    go_wp2_with fail
    go_loopg [1, 2] cnt (fun g v1 v2 W => KRel1 w B1 r1 D g v1 v2 W)
    case atStart => exact ⟨HB.out, left, HRG.out⟩
    case round =>
      obtain ⟨hb, left, hrg⟩ := hrel
      rcases hrg.next (string_keyed Tryz.underlying9) 0 with ⟨hc0, hl0, hnx⟩ | ⟨key, v, kl, y, w1, cnt1, hkey, hlk, hv, hat, hnx, hrg1, hlt, hg1, hs1, hen⟩
      · skip
        have HB1 := Lib.hid hb
        clear hrg HRG HB hb hl0
        go_wp2_with fail
        refine wp_region_any (by kernel_rfl) ?_
        refine wpAny_lastop 35 (by kernel_rfl) (by kernel_rfl) (by kernel_rfl) (J2 w u0 u1 u2 (.map (some B1)) (.string rA63) (.string rA64) (.string rD127) (.string rD127a) (.string rD128) (.string rD128a) (.map (some B1)) (.pointer (some ⟨r1, 0, none⟩)) (.tuple #[.bool false]) (.bool false) u20 u21 u22 u23 u24 u25 u26) (F2 w u0 u1 u2 (.map (some B1)) (.string rA63) (.string rA64) (.string rD127) (.string rD127a) (.string rD128) (.string rD128a) (.map (some B1)) (.pointer (some ⟨r1, 0, none⟩)) (.tuple #[.bool false]) (.bool false) u20 u21 u22 u23 u24 u25 u26) ?_ ?_ ?_ ?_
        · exact ⟨HB1.out.drew, fun h => (by cases h), 0, rfl, fun h => (by cases h)⟩
        · intro listed a W i him hs hJ hi
          obtain ⟨hb, hz, B, rfl, hM⟩ := hJ
          have hcnt := listed_count (mem_ready.1 hi).1
          have hset : ∀ k, k < 36 → (listed.setIfInBounds k true).getD k false = true := fun k hk => by rw [getD_set _ _ _ (by omega)]; simp
          obtain rfl | rfl | rfl | rfl | rfl | rfl | rfl | rfl | rfl | rfl | rfl | rfl | rfl | rfl | rfl | rfl | rfl | rfl | rfl | rfl | rfl | rfl | rfl | rfl | rfl | rfl | rfl | rfl | rfl | rfl | rfl | rfl | rfl | rfl | rfl : i = 0 ∨ i = 1 ∨ i = 2 ∨ i = 3 ∨ i = 4 ∨ i = 5 ∨ i = 6 ∨ i = 7 ∨ i = 8 ∨ i = 9 ∨ i = 10 ∨ i = 11 ∨ i = 12 ∨ i = 13 ∨ i = 14 ∨ i = 15 ∨ i = 16 ∨ i = 17 ∨ i = 18 ∨ i = 19 ∨ i = 20 ∨ i = 21 ∨ i = 22 ∨ i = 23 ∨ i = 24 ∨ i = 25 ∨ i = 26 ∨ i = 27 ∨ i = 28 ∨ i = 29 ∨ i = 30 ∨ i = 31 ∨ i = 32 ∨ i = 33 ∨ i = 34 := by omega
          · as_aux_lemma =>
              refine wpOp_step (o := _) rfl (fun K hK => ?_)
              have hl0 : listed.getD 0 false = false := by
                have := (mem_ready.1 hi).1
                have h2 : 0 < listed.size := by omega
                simp [h2] at this ⊢
                exact this
              have hz0 : listed.getD 34 false = false := by
                cases h : listed.getD 34 false with
                | false => rfl
                | true => rw [hz h] at hl0; cases hl0
              refine step_make rfl 40 rfl ?_
              refine hK _ _ ⟨hb.trans ((alloc_below W _).mono hb.size), fun _ => hset 0 (by decide), W.heap.size, fr2_make (L := fun k => listed.getD k false) (L' := fun k => (listed.setIfInBounds 0 true).getD k false) (getD_set_ne (listed := listed) (i := 0) (j := 18) false (by decide)) (getD_set_ne (listed := listed) (i := 0) (j := 19) false (by decide)) (getD_set_ne (listed := listed) (i := 0) (j := 21) false (by decide)) (getD_set_ne (listed := listed) (i := 0) (j := 22) false (by decide)) (getD_set_ne (listed := listed) (i := 0) (j := 24) false (by decide)) (getD_set_ne (listed := listed) (i := 0) (j := 25) false (by decide)) (getD_set_ne (listed := listed) (i := 0) (j := 27) false (by decide)) (getD_set_ne (listed := listed) (i := 0) (j := 28) false (by decide)) (getD_set_ne (listed := listed) (i := 0) (j := 29) false (by decide)) (getD_set_ne (listed := listed) (i := 0) (j := 31) false (by decide)) (getD_set_ne (listed := listed) (i := 0) (j := 32) false (by decide)) (getD_set_ne (listed := listed) (i := 0) (j := 34) false (by decide)) (hset 0 (by decide)) hz0, fun _ => ⟨hb.size, 0, ?_, MapIn.made W⟩⟩
              have := List.count_le_length (a := false) (l := (listed.setIfInBounds 0 true).toList)
              simp at this
              simp
              omega
          · as_aux_lemma =>
              have h0 := ready_dep hi 0 (by kernel_rfl)
              obtain ⟨hlo, n, hn, hM⟩ := hM h0
              obtain ⟨W', hrun, hM', hb'⟩ := hM.ins (t := 40) Tryz.underlying9 Tryz.underlying40 (by omega) hlo ⟨#[97, 64, 98]⟩ (by decide +kernel) (.int .i64 0) (.int .i64 0) (plainElem_int Tryz.underlying23 (by decide)) ⟨by decide +kernel, congrArg (Lit.int .i64) (by decide +kernel)⟩
              refine wpOp_step (o := _) rfl (fun K hK => ?_)
              refine step_insert rfl 40 _ _ _ rfl (fr2_map h0) rfl rfl hrun (hK _ _ ⟨hb.trans hb', fun h => ?_, B, ?_, fun _ => ⟨hlo, n + 1, by omega, hM'⟩⟩)
              · rw [getD_set_ne false (by decide)] at h ⊢; exact hz h
              · exact (fr2_congr (L := fun k => listed.getD k false) (L' := fun k => (listed.setIfInBounds 1 true).getD k false) (getD_set_ne (listed := listed) (i := 1) (j := 0) false (by decide)) (getD_set_ne (listed := listed) (i := 1) (j := 18) false (by decide)) (getD_set_ne (listed := listed) (i := 1) (j := 19) false (by decide)) (getD_set_ne (listed := listed) (i := 1) (j := 21) false (by decide)) (getD_set_ne (listed := listed) (i := 1) (j := 22) false (by decide)) (getD_set_ne (listed := listed) (i := 1) (j := 24) false (by decide)) (getD_set_ne (listed := listed) (i := 1) (j := 25) false (by decide)) (getD_set_ne (listed := listed) (i := 1) (j := 27) false (by decide)) (getD_set_ne (listed := listed) (i := 1) (j := 28) false (by decide)) (getD_set_ne (listed := listed) (i := 1) (j := 29) false (by decide)) (getD_set_ne (listed := listed) (i := 1) (j := 31) false (by decide)) (getD_set_ne (listed := listed) (i := 1) (j := 32) false (by decide)) (getD_set_ne (listed := listed) (i := 1) (j := 34) false (by decide))).symm
          · as_aux_lemma =>
              have h0 := ready_dep hi 0 (by kernel_rfl)
              obtain ⟨hlo, n, hn, hM⟩ := hM h0
              obtain ⟨W', hrun, hM', hb'⟩ := hM.ins (t := 40) Tryz.underlying9 Tryz.underlying40 (by omega) hlo ⟨#[97, 46, 98, 43, 99, 64, 100]⟩ (by decide +kernel) (.int .i64 0) (.int .i64 0) (plainElem_int Tryz.underlying23 (by decide)) ⟨by decide +kernel, congrArg (Lit.int .i64) (by decide +kernel)⟩
              refine wpOp_step (o := _) rfl (fun K hK => ?_)
              refine step_insert rfl 40 _ _ _ rfl (fr2_map h0) rfl rfl hrun (hK _ _ ⟨hb.trans hb', fun h => ?_, B, ?_, fun _ => ⟨hlo, n + 1, by omega, hM'⟩⟩)
              · rw [getD_set_ne false (by decide)] at h ⊢; exact hz h
              · exact (fr2_congr (L := fun k => listed.getD k false) (L' := fun k => (listed.setIfInBounds 2 true).getD k false) (getD_set_ne (listed := listed) (i := 2) (j := 0) false (by decide)) (getD_set_ne (listed := listed) (i := 2) (j := 18) false (by decide)) (getD_set_ne (listed := listed) (i := 2) (j := 19) false (by decide)) (getD_set_ne (listed := listed) (i := 2) (j := 21) false (by decide)) (getD_set_ne (listed := listed) (i := 2) (j := 22) false (by decide)) (getD_set_ne (listed := listed) (i := 2) (j := 24) false (by decide)) (getD_set_ne (listed := listed) (i := 2) (j := 25) false (by decide)) (getD_set_ne (listed := listed) (i := 2) (j := 27) false (by decide)) (getD_set_ne (listed := listed) (i := 2) (j := 28) false (by decide)) (getD_set_ne (listed := listed) (i := 2) (j := 29) false (by decide)) (getD_set_ne (listed := listed) (i := 2) (j := 31) false (by decide)) (getD_set_ne (listed := listed) (i := 2) (j := 32) false (by decide)) (getD_set_ne (listed := listed) (i := 2) (j := 34) false (by decide))).symm
          · as_aux_lemma =>
              have h0 := ready_dep hi 0 (by kernel_rfl)
              obtain ⟨hlo, n, hn, hM⟩ := hM h0
              obtain ⟨W', hrun, hM', hb'⟩ := hM.ins (t := 40) Tryz.underlying9 Tryz.underlying40 (by omega) hlo ⟨#[34, 92, 34, 34, 64, 98]⟩ (by decide +kernel) (.int .i64 0) (.int .i64 0) (plainElem_int Tryz.underlying23 (by decide)) ⟨by decide +kernel, congrArg (Lit.int .i64) (by decide +kernel)⟩
              refine wpOp_step (o := _) rfl (fun K hK => ?_)
              refine step_insert rfl 40 _ _ _ rfl (fr2_map h0) rfl rfl hrun (hK _ _ ⟨hb.trans hb', fun h => ?_, B, ?_, fun _ => ⟨hlo, n + 1, by omega, hM'⟩⟩)
              · rw [getD_set_ne false (by decide)] at h ⊢; exact hz h
              · exact (fr2_congr (L := fun k => listed.getD k false) (L' := fun k => (listed.setIfInBounds 3 true).getD k false) (getD_set_ne (listed := listed) (i := 3) (j := 0) false (by decide)) (getD_set_ne (listed := listed) (i := 3) (j := 18) false (by decide)) (getD_set_ne (listed := listed) (i := 3) (j := 19) false (by decide)) (getD_set_ne (listed := listed) (i := 3) (j := 21) false (by decide)) (getD_set_ne (listed := listed) (i := 3) (j := 22) false (by decide)) (getD_set_ne (listed := listed) (i := 3) (j := 24) false (by decide)) (getD_set_ne (listed := listed) (i := 3) (j := 25) false (by decide)) (getD_set_ne (listed := listed) (i := 3) (j := 27) false (by decide)) (getD_set_ne (listed := listed) (i := 3) (j := 28) false (by decide)) (getD_set_ne (listed := listed) (i := 3) (j := 29) false (by decide)) (getD_set_ne (listed := listed) (i := 3) (j := 31) false (by decide)) (getD_set_ne (listed := listed) (i := 3) (j := 32) false (by decide)) (getD_set_ne (listed := listed) (i := 3) (j := 34) false (by decide))).symm
          · as_aux_lemma =>
              have h0 := ready_dep hi 0 (by kernel_rfl)
              obtain ⟨hlo, n, hn, hM⟩ := hM h0
              obtain ⟨W', hrun, hM', hb'⟩ := hM.ins (t := 40) Tryz.underlying9 Tryz.underlying40 (by omega) hlo ⟨#[34, 64, 34, 64, 98]⟩ (by decide +kernel) (.int .i64 0) (.int .i64 0) (plainElem_int Tryz.underlying23 (by decide)) ⟨by decide +kernel, congrArg (Lit.int .i64) (by decide +kernel)⟩
              refine wpOp_step (o := _) rfl (fun K hK => ?_)
              refine step_insert rfl 40 _ _ _ rfl (fr2_map h0) rfl rfl hrun (hK _ _ ⟨hb.trans hb', fun h => ?_, B, ?_, fun _ => ⟨hlo, n + 1, by omega, hM'⟩⟩)
              · rw [getD_set_ne false (by decide)] at h ⊢; exact hz h
              · exact (fr2_congr (L := fun k => listed.getD k false) (L' := fun k => (listed.setIfInBounds 4 true).getD k false) (getD_set_ne (listed := listed) (i := 4) (j := 0) false (by decide)) (getD_set_ne (listed := listed) (i := 4) (j := 18) false (by decide)) (getD_set_ne (listed := listed) (i := 4) (j := 19) false (by decide)) (getD_set_ne (listed := listed) (i := 4) (j := 21) false (by decide)) (getD_set_ne (listed := listed) (i := 4) (j := 22) false (by decide)) (getD_set_ne (listed := listed) (i := 4) (j := 24) false (by decide)) (getD_set_ne (listed := listed) (i := 4) (j := 25) false (by decide)) (getD_set_ne (listed := listed) (i := 4) (j := 27) false (by decide)) (getD_set_ne (listed := listed) (i := 4) (j := 28) false (by decide)) (getD_set_ne (listed := listed) (i := 4) (j := 29) false (by decide)) (getD_set_ne (listed := listed) (i := 4) (j := 31) false (by decide)) (getD_set_ne (listed := listed) (i := 4) (j := 32) false (by decide)) (getD_set_ne (listed := listed) (i := 4) (j := 34) false (by decide))).symm
          · as_aux_lemma =>
              have h0 := ready_dep hi 0 (by kernel_rfl)
              obtain ⟨hlo, n, hn, hM⟩ := hM h0
              obtain ⟨W', hrun, hM', hb'⟩ := hM.ins (t := 40) Tryz.underlying9 Tryz.underlying40 (by omega) hlo ⟨#[]⟩ (by decide +kernel) (.int .i64 5) (.int .i64 5) (plainElem_int Tryz.underlying23 (by decide)) ⟨by decide +kernel, congrArg (Lit.int .i64) (by decide +kernel)⟩
              refine wpOp_step (o := _) rfl (fun K hK => ?_)
              refine step_insert rfl 40 _ _ _ rfl (fr2_map h0) rfl rfl hrun (hK _ _ ⟨hb.trans hb', fun h => ?_, B, ?_, fun _ => ⟨hlo, n + 1, by omega, hM'⟩⟩)
              · rw [getD_set_ne false (by decide)] at h ⊢; exact hz h
              · exact (fr2_congr (L := fun k => listed.getD k false) (L' := fun k => (listed.setIfInBounds 5 true).getD k false) (getD_set_ne (listed := listed) (i := 5) (j := 0) false (by decide)) (getD_set_ne (listed := listed) (i := 5) (j := 18) false (by decide)) (getD_set_ne (listed := listed) (i := 5) (j := 19) false (by decide)) (getD_set_ne (listed := listed) (i := 5) (j := 21) false (by decide)) (getD_set_ne (listed := listed) (i := 5) (j := 22) false (by decide)) (getD_set_ne (listed := listed) (i := 5) (j := 24) false (by decide)) (getD_set_ne (listed := listed) (i := 5) (j := 25) false (by decide)) (getD_set_ne (listed := listed) (i := 5) (j := 27) false (by decide)) (getD_set_ne (listed := listed) (i := 5) (j := 28) false (by decide)) (getD_set_ne (listed := listed) (i := 5) (j := 29) false (by decide)) (getD_set_ne (listed := listed) (i := 5) (j := 31) false (by decide)) (getD_set_ne (listed := listed) (i := 5) (j := 32) false (by decide)) (getD_set_ne (listed := listed) (i := 5) (j := 34) false (by decide))).symm
          · as_aux_lemma =>
              have h0 := ready_dep hi 0 (by kernel_rfl)
              obtain ⟨hlo, n, hn, hM⟩ := hM h0
              obtain ⟨W', hrun, hM', hb'⟩ := hM.ins (t := 40) Tryz.underlying9 Tryz.underlying40 (by omega) hlo ⟨#[64, 98]⟩ (by decide +kernel) (.int .i64 5) (.int .i64 5) (plainElem_int Tryz.underlying23 (by decide)) ⟨by decide +kernel, congrArg (Lit.int .i64) (by decide +kernel)⟩
              refine wpOp_step (o := _) rfl (fun K hK => ?_)
              refine step_insert rfl 40 _ _ _ rfl (fr2_map h0) rfl rfl hrun (hK _ _ ⟨hb.trans hb', fun h => ?_, B, ?_, fun _ => ⟨hlo, n + 1, by omega, hM'⟩⟩)
              · rw [getD_set_ne false (by decide)] at h ⊢; exact hz h
              · exact (fr2_congr (L := fun k => listed.getD k false) (L' := fun k => (listed.setIfInBounds 6 true).getD k false) (getD_set_ne (listed := listed) (i := 6) (j := 0) false (by decide)) (getD_set_ne (listed := listed) (i := 6) (j := 18) false (by decide)) (getD_set_ne (listed := listed) (i := 6) (j := 19) false (by decide)) (getD_set_ne (listed := listed) (i := 6) (j := 21) false (by decide)) (getD_set_ne (listed := listed) (i := 6) (j := 22) false (by decide)) (getD_set_ne (listed := listed) (i := 6) (j := 24) false (by decide)) (getD_set_ne (listed := listed) (i := 6) (j := 25) false (by decide)) (getD_set_ne (listed := listed) (i := 6) (j := 27) false (by decide)) (getD_set_ne (listed := listed) (i := 6) (j := 28) false (by decide)) (getD_set_ne (listed := listed) (i := 6) (j := 29) false (by decide)) (getD_set_ne (listed := listed) (i := 6) (j := 31) false (by decide)) (getD_set_ne (listed := listed) (i := 6) (j := 32) false (by decide)) (getD_set_ne (listed := listed) (i := 6) (j := 34) false (by decide))).symm
          · as_aux_lemma =>
              have h0 := ready_dep hi 0 (by kernel_rfl)
              obtain ⟨hlo, n, hn, hM⟩ := hM h0
              obtain ⟨W', hrun, hM', hb'⟩ := hM.ins (t := 40) Tryz.underlying9 Tryz.underlying40 (by omega) hlo ⟨#[97, 64]⟩ (by decide +kernel) (.int .i64 5) (.int .i64 5) (plainElem_int Tryz.underlying23 (by decide)) ⟨by decide +kernel, congrArg (Lit.int .i64) (by decide +kernel)⟩
              refine wpOp_step (o := _) rfl (fun K hK => ?_)
              refine step_insert rfl 40 _ _ _ rfl (fr2_map h0) rfl rfl hrun (hK _ _ ⟨hb.trans hb', fun h => ?_, B, ?_, fun _ => ⟨hlo, n + 1, by omega, hM'⟩⟩)
              · rw [getD_set_ne false (by decide)] at h ⊢; exact hz h
              · exact (fr2_congr (L := fun k => listed.getD k false) (L' := fun k => (listed.setIfInBounds 7 true).getD k false) (getD_set_ne (listed := listed) (i := 7) (j := 0) false (by decide)) (getD_set_ne (listed := listed) (i := 7) (j := 18) false (by decide)) (getD_set_ne (listed := listed) (i := 7) (j := 19) false (by decide)) (getD_set_ne (listed := listed) (i := 7) (j := 21) false (by decide)) (getD_set_ne (listed := listed) (i := 7) (j := 22) false (by decide)) (getD_set_ne (listed := listed) (i := 7) (j := 24) false (by decide)) (getD_set_ne (listed := listed) (i := 7) (j := 25) false (by decide)) (getD_set_ne (listed := listed) (i := 7) (j := 27) false (by decide)) (getD_set_ne (listed := listed) (i := 7) (j := 28) false (by decide)) (getD_set_ne (listed := listed) (i := 7) (j := 29) false (by decide)) (getD_set_ne (listed := listed) (i := 7) (j := 31) false (by decide)) (getD_set_ne (listed := listed) (i := 7) (j := 32) false (by decide)) (getD_set_ne (listed := listed) (i := 7) (j := 34) false (by decide))).symm
          · as_aux_lemma =>
              have h0 := ready_dep hi 0 (by kernel_rfl)
              obtain ⟨hlo, n, hn, hM⟩ := hM h0
              obtain ⟨W', hrun, hM', hb'⟩ := hM.ins (t := 40) Tryz.underlying9 Tryz.underlying40 (by omega) hlo ⟨#[97]⟩ (by decide +kernel) (.int .i64 5) (.int .i64 5) (plainElem_int Tryz.underlying23 (by decide)) ⟨by decide +kernel, congrArg (Lit.int .i64) (by decide +kernel)⟩
              refine wpOp_step (o := _) rfl (fun K hK => ?_)
              refine step_insert rfl 40 _ _ _ rfl (fr2_map h0) rfl rfl hrun (hK _ _ ⟨hb.trans hb', fun h => ?_, B, ?_, fun _ => ⟨hlo, n + 1, by omega, hM'⟩⟩)
              · rw [getD_set_ne false (by decide)] at h ⊢; exact hz h
              · exact (fr2_congr (L := fun k => listed.getD k false) (L' := fun k => (listed.setIfInBounds 8 true).getD k false) (getD_set_ne (listed := listed) (i := 8) (j := 0) false (by decide)) (getD_set_ne (listed := listed) (i := 8) (j := 18) false (by decide)) (getD_set_ne (listed := listed) (i := 8) (j := 19) false (by decide)) (getD_set_ne (listed := listed) (i := 8) (j := 21) false (by decide)) (getD_set_ne (listed := listed) (i := 8) (j := 22) false (by decide)) (getD_set_ne (listed := listed) (i := 8) (j := 24) false (by decide)) (getD_set_ne (listed := listed) (i := 8) (j := 25) false (by decide)) (getD_set_ne (listed := listed) (i := 8) (j := 27) false (by decide)) (getD_set_ne (listed := listed) (i := 8) (j := 28) false (by decide)) (getD_set_ne (listed := listed) (i := 8) (j := 29) false (by decide)) (getD_set_ne (listed := listed) (i := 8) (j := 31) false (by decide)) (getD_set_ne (listed := listed) (i := 8) (j := 32) false (by decide)) (getD_set_ne (listed := listed) (i := 8) (j := 34) false (by decide))).symm
          · as_aux_lemma =>
              have h0 := ready_dep hi 0 (by kernel_rfl)
              obtain ⟨hlo, n, hn, hM⟩ := hM h0
              obtain ⟨W', hrun, hM', hb'⟩ := hM.ins (t := 40) Tryz.underlying9 Tryz.underlying40 (by omega) hlo ⟨#[97, 64, 98, 64, 99]⟩ (by decide +kernel) (.int .i64 5) (.int .i64 5) (plainElem_int Tryz.underlying23 (by decide)) ⟨by decide +kernel, congrArg (Lit.int .i64) (by decide +kernel)⟩
              refine wpOp_step (o := _) rfl (fun K hK => ?_)
              refine step_insert rfl 40 _ _ _ rfl (fr2_map h0) rfl rfl hrun (hK _ _ ⟨hb.trans hb', fun h => ?_, B, ?_, fun _ => ⟨hlo, n + 1, by omega, hM'⟩⟩)
              · rw [getD_set_ne false (by decide)] at h ⊢; exact hz h
              · exact (fr2_congr (L := fun k => listed.getD k false) (L' := fun k => (listed.setIfInBounds 9 true).getD k false) (getD_set_ne (listed := listed) (i := 9) (j := 0) false (by decide)) (getD_set_ne (listed := listed) (i := 9) (j := 18) false (by decide)) (getD_set_ne (listed := listed) (i := 9) (j := 19) false (by decide)) (getD_set_ne (listed := listed) (i := 9) (j := 21) false (by decide)) (getD_set_ne (listed := listed) (i := 9) (j := 22) false (by decide)) (getD_set_ne (listed := listed) (i := 9) (j := 24) false (by decide)) (getD_set_ne (listed := listed) (i := 9) (j := 25) false (by decide)) (getD_set_ne (listed := listed) (i := 9) (j := 27) false (by decide)) (getD_set_ne (listed := listed) (i := 9) (j := 28) false (by decide)) (getD_set_ne (listed := listed) (i := 9) (j := 29) false (by decide)) (getD_set_ne (listed := listed) (i := 9) (j := 31) false (by decide)) (getD_set_ne (listed := listed) (i := 9) (j := 32) false (by decide)) (getD_set_ne (listed := listed) (i := 9) (j := 34) false (by decide))).symm
          · as_aux_lemma =>
              have h0 := ready_dep hi 0 (by kernel_rfl)
              obtain ⟨hlo, n, hn, hM⟩ := hM h0
              obtain ⟨W', hrun, hM', hb'⟩ := hM.ins (t := 40) Tryz.underlying9 Tryz.underlying40 (by omega) hlo ⟨#[97, 46, 64, 98]⟩ (by decide +kernel) (.int .i64 5) (.int .i64 5) (plainElem_int Tryz.underlying23 (by decide)) ⟨by decide +kernel, congrArg (Lit.int .i64) (by decide +kernel)⟩
              refine wpOp_step (o := _) rfl (fun K hK => ?_)
              refine step_insert rfl 40 _ _ _ rfl (fr2_map h0) rfl rfl hrun (hK _ _ ⟨hb.trans hb', fun h => ?_, B, ?_, fun _ => ⟨hlo, n + 1, by omega, hM'⟩⟩)
              · rw [getD_set_ne false (by decide)] at h ⊢; exact hz h
              · exact (fr2_congr (L := fun k => listed.getD k false) (L' := fun k => (listed.setIfInBounds 10 true).getD k false) (getD_set_ne (listed := listed) (i := 10) (j := 0) false (by decide)) (getD_set_ne (listed := listed) (i := 10) (j := 18) false (by decide)) (getD_set_ne (listed := listed) (i := 10) (j := 19) false (by decide)) (getD_set_ne (listed := listed) (i := 10) (j := 21) false (by decide)) (getD_set_ne (listed := listed) (i := 10) (j := 22) false (by decide)) (getD_set_ne (listed := listed) (i := 10) (j := 24) false (by decide)) (getD_set_ne (listed := listed) (i := 10) (j := 25) false (by decide)) (getD_set_ne (listed := listed) (i := 10) (j := 27) false (by decide)) (getD_set_ne (listed := listed) (i := 10) (j := 28) false (by decide)) (getD_set_ne (listed := listed) (i := 10) (j := 29) false (by decide)) (getD_set_ne (listed := listed) (i := 10) (j := 31) false (by decide)) (getD_set_ne (listed := listed) (i := 10) (j := 32) false (by decide)) (getD_set_ne (listed := listed) (i := 10) (j := 34) false (by decide))).symm
          · as_aux_lemma =>
              have h0 := ready_dep hi 0 (by kernel_rfl)
              obtain ⟨hlo, n, hn, hM⟩ := hM h0
              obtain ⟨W', hrun, hM', hb'⟩ := hM.ins (t := 40) Tryz.underlying9 Tryz.underlying40 (by omega) hlo ⟨#[46, 97, 64, 98]⟩ (by decide +kernel) (.int .i64 5) (.int .i64 5) (plainElem_int Tryz.underlying23 (by decide)) ⟨by decide +kernel, congrArg (Lit.int .i64) (by decide +kernel)⟩
              refine wpOp_step (o := _) rfl (fun K hK => ?_)
              refine step_insert rfl 40 _ _ _ rfl (fr2_map h0) rfl rfl hrun (hK _ _ ⟨hb.trans hb', fun h => ?_, B, ?_, fun _ => ⟨hlo, n + 1, by omega, hM'⟩⟩)
              · rw [getD_set_ne false (by decide)] at h ⊢; exact hz h
              · exact (fr2_congr (L := fun k => listed.getD k false) (L' := fun k => (listed.setIfInBounds 11 true).getD k false) (getD_set_ne (listed := listed) (i := 11) (j := 0) false (by decide)) (getD_set_ne (listed := listed) (i := 11) (j := 18) false (by decide)) (getD_set_ne (listed := listed) (i := 11) (j := 19) false (by decide)) (getD_set_ne (listed := listed) (i := 11) (j := 21) false (by decide)) (getD_set_ne (listed := listed) (i := 11) (j := 22) false (by decide)) (getD_set_ne (listed := listed) (i := 11) (j := 24) false (by decide)) (getD_set_ne (listed := listed) (i := 11) (j := 25) false (by decide)) (getD_set_ne (listed := listed) (i := 11) (j := 27) false (by decide)) (getD_set_ne (listed := listed) (i := 11) (j := 28) false (by decide)) (getD_set_ne (listed := listed) (i := 11) (j := 29) false (by decide)) (getD_set_ne (listed := listed) (i := 11) (j := 31) false (by decide)) (getD_set_ne (listed := listed) (i := 11) (j := 32) false (by decide)) (getD_set_ne (listed := listed) (i := 11) (j := 34) false (by decide))).symm
          · as_aux_lemma =>
              have h0 := ready_dep hi 0 (by kernel_rfl)
              obtain ⟨hlo, n, hn, hM⟩ := hM h0
              obtain ⟨W', hrun, hM', hb'⟩ := hM.ins (t := 40) Tryz.underlying9 Tryz.underlying40 (by omega) hlo ⟨#[97, 46, 46, 98, 64, 99]⟩ (by decide +kernel) (.int .i64 5) (.int .i64 5) (plainElem_int Tryz.underlying23 (by decide)) ⟨by decide +kernel, congrArg (Lit.int .i64) (by decide +kernel)⟩
              refine wpOp_step (o := _) rfl (fun K hK => ?_)
              refine step_insert rfl 40 _ _ _ rfl (fr2_map h0) rfl rfl hrun (hK _ _ ⟨hb.trans hb', fun h => ?_, B, ?_, fun _ => ⟨hlo, n + 1, by omega, hM'⟩⟩)
              · rw [getD_set_ne false (by decide)] at h ⊢; exact hz h
              · exact (fr2_congr (L := fun k => listed.getD k false) (L' := fun k => (listed.setIfInBounds 12 true).getD k false) (getD_set_ne (listed := listed) (i := 12) (j := 0) false (by decide)) (getD_set_ne (listed := listed) (i := 12) (j := 18) false (by decide)) (getD_set_ne (listed := listed) (i := 12) (j := 19) false (by decide)) (getD_set_ne (listed := listed) (i := 12) (j := 21) false (by decide)) (getD_set_ne (listed := listed) (i := 12) (j := 22) false (by decide)) (getD_set_ne (listed := listed) (i := 12) (j := 24) false (by decide)) (getD_set_ne (listed := listed) (i := 12) (j := 25) false (by decide)) (getD_set_ne (listed := listed) (i := 12) (j := 27) false (by decide)) (getD_set_ne (listed := listed) (i := 12) (j := 28) false (by decide)) (getD_set_ne (listed := listed) (i := 12) (j := 29) false (by decide)) (getD_set_ne (listed := listed) (i := 12) (j := 31) false (by decide)) (getD_set_ne (listed := listed) (i := 12) (j := 32) false (by decide)) (getD_set_ne (listed := listed) (i := 12) (j := 34) false (by decide))).symm
          · as_aux_lemma =>
              have h0 := ready_dep hi 0 (by kernel_rfl)
              obtain ⟨hlo, n, hn, hM⟩ := hM h0
              obtain ⟨W', hrun, hM', hb'⟩ := hM.ins (t := 40) Tryz.underlying9 Tryz.underlying40 (by omega) hlo ⟨#[97, 32, 98, 64, 99]⟩ (by decide +kernel) (.int .i64 5) (.int .i64 5) (plainElem_int Tryz.underlying23 (by decide)) ⟨by decide +kernel, congrArg (Lit.int .i64) (by decide +kernel)⟩
              refine wpOp_step (o := _) rfl (fun K hK => ?_)
              refine step_insert rfl 40 _ _ _ rfl (fr2_map h0) rfl rfl hrun (hK _ _ ⟨hb.trans hb', fun h => ?_, B, ?_, fun _ => ⟨hlo, n + 1, by omega, hM'⟩⟩)
              · rw [getD_set_ne false (by decide)] at h ⊢; exact hz h
              · exact (fr2_congr (L := fun k => listed.getD k false) (L' := fun k => (listed.setIfInBounds 13 true).getD k false) (getD_set_ne (listed := listed) (i := 13) (j := 0) false (by decide)) (getD_set_ne (listed := listed) (i := 13) (j := 18) false (by decide)) (getD_set_ne (listed := listed) (i := 13) (j := 19) false (by decide)) (getD_set_ne (listed := listed) (i := 13) (j := 21) false (by decide)) (getD_set_ne (listed := listed) (i := 13) (j := 22) false (by decide)) (getD_set_ne (listed := listed) (i := 13) (j := 24) false (by decide)) (getD_set_ne (listed := listed) (i := 13) (j := 25) false (by decide)) (getD_set_ne (listed := listed) (i := 13) (j := 27) false (by decide)) (getD_set_ne (listed := listed) (i := 13) (j := 28) false (by decide)) (getD_set_ne (listed := listed) (i := 13) (j := 29) false (by decide)) (getD_set_ne (listed := listed) (i := 13) (j := 31) false (by decide)) (getD_set_ne (listed := listed) (i := 13) (j := 32) false (by decide)) (getD_set_ne (listed := listed) (i := 13) (j := 34) false (by decide))).symm
          · as_aux_lemma =>
              have h0 := ready_dep hi 0 (by kernel_rfl)
              obtain ⟨hlo, n, hn, hM⟩ := hM h0
              obtain ⟨W', hrun, hM', hb'⟩ := hM.ins (t := 40) Tryz.underlying9 Tryz.underlying40 (by omega) hlo ⟨#[34, 34, 64, 98]⟩ (by decide +kernel) (.int .i64 5) (.int .i64 5) (plainElem_int Tryz.underlying23 (by decide)) ⟨by decide +kernel, congrArg (Lit.int .i64) (by decide +kernel)⟩
              refine wpOp_step (o := _) rfl (fun K hK => ?_)
              refine step_insert rfl 40 _ _ _ rfl (fr2_map h0) rfl rfl hrun (hK _ _ ⟨hb.trans hb', fun h => ?_, B, ?_, fun _ => ⟨hlo, n + 1, by omega, hM'⟩⟩)
              · rw [getD_set_ne false (by decide)] at h ⊢; exact hz h
              · exact (fr2_congr (L := fun k => listed.getD k false) (L' := fun k => (listed.setIfInBounds 14 true).getD k false) (getD_set_ne (listed := listed) (i := 14) (j := 0) false (by decide)) (getD_set_ne (listed := listed) (i := 14) (j := 18) false (by decide)) (getD_set_ne (listed := listed) (i := 14) (j := 19) false (by decide)) (getD_set_ne (listed := listed) (i := 14) (j := 21) false (by decide)) (getD_set_ne (listed := listed) (i := 14) (j := 22) false (by decide)) (getD_set_ne (listed := listed) (i := 14) (j := 24) false (by decide)) (getD_set_ne (listed := listed) (i := 14) (j := 25) false (by decide)) (getD_set_ne (listed := listed) (i := 14) (j := 27) false (by decide)) (getD_set_ne (listed := listed) (i := 14) (j := 28) false (by decide)) (getD_set_ne (listed := listed) (i := 14) (j := 29) false (by decide)) (getD_set_ne (listed := listed) (i := 14) (j := 31) false (by decide)) (getD_set_ne (listed := listed) (i := 14) (j := 32) false (by decide)) (getD_set_ne (listed := listed) (i := 14) (j := 34) false (by decide))).symm
          · as_aux_lemma =>
              have h0 := ready_dep hi 0 (by kernel_rfl)
              obtain ⟨hlo, n, hn, hM⟩ := hM h0
              obtain ⟨W', hrun, hM', hb'⟩ := hM.ins (t := 40) Tryz.underlying9 Tryz.underlying40 (by omega) hlo ⟨#[34, 97, 64, 98]⟩ (by decide +kernel) (.int .i64 5) (.int .i64 5) (plainElem_int Tryz.underlying23 (by decide)) ⟨by decide +kernel, congrArg (Lit.int .i64) (by decide +kernel)⟩
              refine wpOp_step (o := _) rfl (fun K hK => ?_)
              refine step_insert rfl 40 _ _ _ rfl (fr2_map h0) rfl rfl hrun (hK _ _ ⟨hb.trans hb', fun h => ?_, B, ?_, fun _ => ⟨hlo, n + 1, by omega, hM'⟩⟩)
              · rw [getD_set_ne false (by decide)] at h ⊢; exact hz h
              · exact (fr2_congr (L := fun k => listed.getD k false) (L' := fun k => (listed.setIfInBounds 15 true).getD k false) (getD_set_ne (listed := listed) (i := 15) (j := 0) false (by decide)) (getD_set_ne (listed := listed) (i := 15) (j := 18) false (by decide)) (getD_set_ne (listed := listed) (i := 15) (j := 19) false (by decide)) (getD_set_ne (listed := listed) (i := 15) (j := 21) false (by decide)) (getD_set_ne (listed := listed) (i := 15) (j := 22) false (by decide)) (getD_set_ne (listed := listed) (i := 15) (j := 24) false (by decide)) (getD_set_ne (listed := listed) (i := 15) (j := 25) false (by decide)) (getD_set_ne (listed := listed) (i := 15) (j := 27) false (by decide)) (getD_set_ne (listed := listed) (i := 15) (j := 28) false (by decide)) (getD_set_ne (listed := listed) (i := 15) (j := 29) false (by decide)) (getD_set_ne (listed := listed) (i := 15) (j := 31) false (by decide)) (getD_set_ne (listed := listed) (i := 15) (j := 32) false (by decide)) (getD_set_ne (listed := listed) (i := 15) (j := 34) false (by decide))).symm
          · as_aux_lemma =>
              have h0 := ready_dep hi 0 (by kernel_rfl)
              obtain ⟨hlo, n, hn, hM⟩ := hM h0
              obtain ⟨W', hrun, hM', hb'⟩ := hM.ins (t := 40) Tryz.underlying9 Tryz.underlying40 (by omega) hlo ⟨#[34, 97, 34, 98, 64, 99]⟩ (by decide +kernel) (.int .i64 5) (.int .i64 5) (plainElem_int Tryz.underlying23 (by decide)) ⟨by decide +kernel, congrArg (Lit.int .i64) (by decide +kernel)⟩
              refine wpOp_step (o := _) rfl (fun K hK => ?_)
              refine step_insert rfl 40 _ _ _ rfl (fr2_map h0) rfl rfl hrun (hK _ _ ⟨hb.trans hb', fun h => ?_, B, ?_, fun _ => ⟨hlo, n + 1, by omega, hM'⟩⟩)
              · rw [getD_set_ne false (by decide)] at h ⊢; exact hz h
              · exact (fr2_congr (L := fun k => listed.getD k false) (L' := fun k => (listed.setIfInBounds 16 true).getD k false) (getD_set_ne (listed := listed) (i := 16) (j := 0) false (by decide)) (getD_set_ne (listed := listed) (i := 16) (j := 18) false (by decide)) (getD_set_ne (listed := listed) (i := 16) (j := 19) false (by decide)) (getD_set_ne (listed := listed) (i := 16) (j := 21) false (by decide)) (getD_set_ne (listed := listed) (i := 16) (j := 22) false (by decide)) (getD_set_ne (listed := listed) (i := 16) (j := 24) false (by decide)) (getD_set_ne (listed := listed) (i := 16) (j := 25) false (by decide)) (getD_set_ne (listed := listed) (i := 16) (j := 27) false (by decide)) (getD_set_ne (listed := listed) (i := 16) (j := 28) false (by decide)) (getD_set_ne (listed := listed) (i := 16) (j := 29) false (by decide)) (getD_set_ne (listed := listed) (i := 16) (j := 31) false (by decide)) (getD_set_ne (listed := listed) (i := 16) (j := 32) false (by decide)) (getD_set_ne (listed := listed) (i := 16) (j := 34) false (by decide))).symm
          · as_aux_lemma =>
              have h0 := ready_dep hi 0 (by kernel_rfl)
              obtain ⟨hlo, n, hn, hM⟩ := hM h0
              obtain ⟨W', hrun, hM', hb'⟩ := hM.ins (t := 40) Tryz.underlying9 Tryz.underlying40 (by omega) hlo ⟨#[97, 64, 98, 32]⟩ (by decide +kernel) (.int .i64 5) (.int .i64 5) (plainElem_int Tryz.underlying23 (by decide)) ⟨by decide +kernel, congrArg (Lit.int .i64) (by decide +kernel)⟩
              refine wpOp_step (o := _) rfl (fun K hK => ?_)
              refine step_insert rfl 40 _ _ _ rfl (fr2_map h0) rfl rfl hrun (hK _ _ ⟨hb.trans hb', fun h => ?_, B, ?_, fun _ => ⟨hlo, n + 1, by omega, hM'⟩⟩)
              · rw [getD_set_ne false (by decide)] at h ⊢; exact hz h
              · exact (fr2_congr (L := fun k => listed.getD k false) (L' := fun k => (listed.setIfInBounds 17 true).getD k false) (getD_set_ne (listed := listed) (i := 17) (j := 0) false (by decide)) (getD_set_ne (listed := listed) (i := 17) (j := 18) false (by decide)) (getD_set_ne (listed := listed) (i := 17) (j := 19) false (by decide)) (getD_set_ne (listed := listed) (i := 17) (j := 21) false (by decide)) (getD_set_ne (listed := listed) (i := 17) (j := 22) false (by decide)) (getD_set_ne (listed := listed) (i := 17) (j := 24) false (by decide)) (getD_set_ne (listed := listed) (i := 17) (j := 25) false (by decide)) (getD_set_ne (listed := listed) (i := 17) (j := 27) false (by decide)) (getD_set_ne (listed := listed) (i := 17) (j := 28) false (by decide)) (getD_set_ne (listed := listed) (i := 17) (j := 29) false (by decide)) (getD_set_ne (listed := listed) (i := 17) (j := 31) false (by decide)) (getD_set_ne (listed := listed) (i := 17) (j := 32) false (by decide)) (getD_set_ne (listed := listed) (i := 17) (j := 34) false (by decide))).symm
          · as_aux_lemma =>
              refine wpOp_step (o := _) rfl (fun K hK => ?_)
              have HC := Lib.hid (Tryz.strings_Repeat ⟨#[120]⟩ 64 W (by decide) (by decide))
              obtain ⟨A, hA⟩ : ∃ A, A = fr2 B (fun k => listed.getD k false) u0 u1 u2 (.map (some B1)) (.string rA63) (.string rA64) (.string rD127) (.string rD127a) (.string rD128) (.string rD128a) (.map (some B1)) (.pointer (some ⟨r1, 0, none⟩)) (.tuple #[.bool false]) (.bool false) u20 u21 u22 u23 u24 u25 u26 := ⟨_, rfl⟩
              rw [← hA]
              have HA := Lib.hid hA
              clear hA
              go_simp
              refine HC.out.mono ?_
              rintro e W' ⟨rfl, hb'⟩
              rw [HA.out]
              refine hK _ _ ⟨hb.trans (hb'.mono hb.size), fun h => ?_, B, fr2_put18 (L := fun k => listed.getD k false) (L' := fun k => (listed.setIfInBounds 18 true).getD k false) (getD_set_ne (listed := listed) (i := 18) (j := 0) false (by decide)) (getD_set_ne (listed := listed) (i := 18) (j := 19) false (by decide)) (getD_set_ne (listed := listed) (i := 18) (j := 21) false (by decide)) (getD_set_ne (listed := listed) (i := 18) (j := 22) false (by decide)) (getD_set_ne (listed := listed) (i := 18) (j := 24) false (by decide)) (getD_set_ne (listed := listed) (i := 18) (j := 25) false (by decide)) (getD_set_ne (listed := listed) (i := 18) (j := 27) false (by decide)) (getD_set_ne (listed := listed) (i := 18) (j := 28) false (by decide)) (getD_set_ne (listed := listed) (i := 18) (j := 29) false (by decide)) (getD_set_ne (listed := listed) (i := 18) (j := 31) false (by decide)) (getD_set_ne (listed := listed) (i := 18) (j := 32) false (by decide)) (getD_set_ne (listed := listed) (i := 18) (j := 34) false (by decide)) (hset 18 (by decide)), fun h => ?_⟩
              · rw [getD_set_ne false (by decide)] at h ⊢; exact hz h
              · rw [getD_set_ne false (by decide)] at h
                obtain ⟨hlo, n, hn, hM⟩ := hM h
                exact ⟨hlo, n, by omega, hM.below hb'⟩
          · as_aux_lemma =>
              have hk := ready_dep hi 18 (by kernel_rfl)
              refine wpOp_step (o := _) rfl (fun K hK => ?_)
              refine step_add rfl _ _ rfl (fr2_tmp18 hk) rfl (by decide +kernel) ?_
              refine hK _ _ ⟨hb, fun h => ?_, B, fr2_put19 (L := fun k => listed.getD k false) (L' := fun k => (listed.setIfInBounds 19 true).getD k false) (getD_set_ne (listed := listed) (i := 19) (j := 0) false (by decide)) (getD_set_ne (listed := listed) (i := 19) (j := 18) false (by decide)) (getD_set_ne (listed := listed) (i := 19) (j := 21) false (by decide)) (getD_set_ne (listed := listed) (i := 19) (j := 22) false (by decide)) (getD_set_ne (listed := listed) (i := 19) (j := 24) false (by decide)) (getD_set_ne (listed := listed) (i := 19) (j := 25) false (by decide)) (getD_set_ne (listed := listed) (i := 19) (j := 27) false (by decide)) (getD_set_ne (listed := listed) (i := 19) (j := 28) false (by decide)) (getD_set_ne (listed := listed) (i := 19) (j := 29) false (by decide)) (getD_set_ne (listed := listed) (i := 19) (j := 31) false (by decide)) (getD_set_ne (listed := listed) (i := 19) (j := 32) false (by decide)) (getD_set_ne (listed := listed) (i := 19) (j := 34) false (by decide)) (hset 19 (by decide)), fun h => ?_⟩
              · rw [getD_set_ne false (by decide)] at h ⊢; exact hz h
              · rw [getD_set_ne false (by decide)] at h
                obtain ⟨hlo, n, hn, hM⟩ := hM h
                exact ⟨hlo, n, by omega, hM⟩
          · as_aux_lemma =>
              have h0 := ready_dep hi 0 (by kernel_rfl)
              have hk := ready_dep hi 19 (by kernel_rfl)
              obtain ⟨hlo, n, hn, hM⟩ := hM h0
              obtain ⟨W', hrun, hM', hb'⟩ := hM.ins (t := 40) Tryz.underlying9 Tryz.underlying40 (by omega) hlo sX64b (by decide +kernel) (.int .i64 0) (.int .i64 0) (plainElem_int Tryz.underlying23 (by decide)) ⟨by decide +kernel, congrArg (Lit.int .i64) (by decide +kernel)⟩
              refine wpOp_step (o := _) rfl (fun K hK => ?_)
              refine step_insert rfl 40 _ _ _ rfl (fr2_map h0) (fr2_tmp19 hk) rfl hrun (hK _ _ ⟨hb.trans hb', fun h => ?_, B, ?_, fun _ => ⟨hlo, n + 1, by omega, hM'⟩⟩)
              · rw [getD_set_ne false (by decide)] at h ⊢; exact hz h
              · exact (fr2_congr (L := fun k => listed.getD k false) (L' := fun k => (listed.setIfInBounds 20 true).getD k false) (getD_set_ne (listed := listed) (i := 20) (j := 0) false (by decide)) (getD_set_ne (listed := listed) (i := 20) (j := 18) false (by decide)) (getD_set_ne (listed := listed) (i := 20) (j := 19) false (by decide)) (getD_set_ne (listed := listed) (i := 20) (j := 21) false (by decide)) (getD_set_ne (listed := listed) (i := 20) (j := 22) false (by decide)) (getD_set_ne (listed := listed) (i := 20) (j := 24) false (by decide)) (getD_set_ne (listed := listed) (i := 20) (j := 25) false (by decide)) (getD_set_ne (listed := listed) (i := 20) (j := 27) false (by decide)) (getD_set_ne (listed := listed) (i := 20) (j := 28) false (by decide)) (getD_set_ne (listed := listed) (i := 20) (j := 29) false (by decide)) (getD_set_ne (listed := listed) (i := 20) (j := 31) false (by decide)) (getD_set_ne (listed := listed) (i := 20) (j := 32) false (by decide)) (getD_set_ne (listed := listed) (i := 20) (j := 34) false (by decide))).symm
          · as_aux_lemma =>
              refine wpOp_step (o := _) rfl (fun K hK => ?_)
              have HC := Lib.hid (Tryz.strings_Repeat ⟨#[120]⟩ 65 W (by decide) (by decide))
              obtain ⟨A, hA⟩ : ∃ A, A = fr2 B (fun k => listed.getD k false) u0 u1 u2 (.map (some B1)) (.string rA63) (.string rA64) (.string rD127) (.string rD127a) (.string rD128) (.string rD128a) (.map (some B1)) (.pointer (some ⟨r1, 0, none⟩)) (.tuple #[.bool false]) (.bool false) u20 u21 u22 u23 u24 u25 u26 := ⟨_, rfl⟩
              rw [← hA]
              have HA := Lib.hid hA
              clear hA
              go_simp
              refine HC.out.mono ?_
              rintro e W' ⟨rfl, hb'⟩
              rw [HA.out]
              refine hK _ _ ⟨hb.trans (hb'.mono hb.size), fun h => ?_, B, fr2_put21 (L := fun k => listed.getD k false) (L' := fun k => (listed.setIfInBounds 21 true).getD k false) (getD_set_ne (listed := listed) (i := 21) (j := 0) false (by decide)) (getD_set_ne (listed := listed) (i := 21) (j := 18) false (by decide)) (getD_set_ne (listed := listed) (i := 21) (j := 19) false (by decide)) (getD_set_ne (listed := listed) (i := 21) (j := 22) false (by decide)) (getD_set_ne (listed := listed) (i := 21) (j := 24) false (by decide)) (getD_set_ne (listed := listed) (i := 21) (j := 25) false (by decide)) (getD_set_ne (listed := listed) (i := 21) (j := 27) false (by decide)) (getD_set_ne (listed := listed) (i := 21) (j := 28) false (by decide)) (getD_set_ne (listed := listed) (i := 21) (j := 29) false (by decide)) (getD_set_ne (listed := listed) (i := 21) (j := 31) false (by decide)) (getD_set_ne (listed := listed) (i := 21) (j := 32) false (by decide)) (getD_set_ne (listed := listed) (i := 21) (j := 34) false (by decide)) (hset 21 (by decide)), fun h => ?_⟩
              · rw [getD_set_ne false (by decide)] at h ⊢; exact hz h
              · rw [getD_set_ne false (by decide)] at h
                obtain ⟨hlo, n, hn, hM⟩ := hM h
                exact ⟨hlo, n, by omega, hM.below hb'⟩
          · as_aux_lemma =>
              have hk := ready_dep hi 21 (by kernel_rfl)
              refine wpOp_step (o := _) rfl (fun K hK => ?_)
              refine step_add rfl _ _ rfl (fr2_tmp21 hk) rfl (by decide +kernel) ?_
              refine hK _ _ ⟨hb, fun h => ?_, B, fr2_put22 (L := fun k => listed.getD k false) (L' := fun k => (listed.setIfInBounds 22 true).getD k false) (getD_set_ne (listed := listed) (i := 22) (j := 0) false (by decide)) (getD_set_ne (listed := listed) (i := 22) (j := 18) false (by decide)) (getD_set_ne (listed := listed) (i := 22) (j := 19) false (by decide)) (getD_set_ne (listed := listed) (i := 22) (j := 21) false (by decide)) (getD_set_ne (listed := listed) (i := 22) (j := 24) false (by decide)) (getD_set_ne (listed := listed) (i := 22) (j := 25) false (by decide)) (getD_set_ne (listed := listed) (i := 22) (j := 27) false (by decide)) (getD_set_ne (listed := listed) (i := 22) (j := 28) false (by decide)) (getD_set_ne (listed := listed) (i := 22) (j := 29) false (by decide)) (getD_set_ne (listed := listed) (i := 22) (j := 31) false (by decide)) (getD_set_ne (listed := listed) (i := 22) (j := 32) false (by decide)) (getD_set_ne (listed := listed) (i := 22) (j := 34) false (by decide)) (hset 22 (by decide)), fun h => ?_⟩
              · rw [getD_set_ne false (by decide)] at h ⊢; exact hz h
              · rw [getD_set_ne false (by decide)] at h
                obtain ⟨hlo, n, hn, hM⟩ := hM h
                exact ⟨hlo, n, by omega, hM⟩
          · as_aux_lemma =>
              have h0 := ready_dep hi 0 (by kernel_rfl)
              have hk := ready_dep hi 22 (by kernel_rfl)
              obtain ⟨hlo, n, hn, hM⟩ := hM h0
              obtain ⟨W', hrun, hM', hb'⟩ := hM.ins (t := 40) Tryz.underlying9 Tryz.underlying40 (by omega) hlo sX65b (by decide +kernel) (.int .i64 3) (.int .i64 3) (plainElem_int Tryz.underlying23 (by decide)) ⟨by decide +kernel, congrArg (Lit.int .i64) (by decide +kernel)⟩
              refine wpOp_step (o := _) rfl (fun K hK => ?_)
              refine step_insert rfl 40 _ _ _ rfl (fr2_map h0) (fr2_tmp22 hk) rfl hrun (hK _ _ ⟨hb.trans hb', fun h => ?_, B, ?_, fun _ => ⟨hlo, n + 1, by omega, hM'⟩⟩)
              · rw [getD_set_ne false (by decide)] at h ⊢; exact hz h
              · exact (fr2_congr (L := fun k => listed.getD k false) (L' := fun k => (listed.setIfInBounds 23 true).getD k false) (getD_set_ne (listed := listed) (i := 23) (j := 0) false (by decide)) (getD_set_ne (listed := listed) (i := 23) (j := 18) false (by decide)) (getD_set_ne (listed := listed) (i := 23) (j := 19) false (by decide)) (getD_set_ne (listed := listed) (i := 23) (j := 21) false (by decide)) (getD_set_ne (listed := listed) (i := 23) (j := 22) false (by decide)) (getD_set_ne (listed := listed) (i := 23) (j := 24) false (by decide)) (getD_set_ne (listed := listed) (i := 23) (j := 25) false (by decide)) (getD_set_ne (listed := listed) (i := 23) (j := 27) false (by decide)) (getD_set_ne (listed := listed) (i := 23) (j := 28) false (by decide)) (getD_set_ne (listed := listed) (i := 23) (j := 29) false (by decide)) (getD_set_ne (listed := listed) (i := 23) (j := 31) false (by decide)) (getD_set_ne (listed := listed) (i := 23) (j := 32) false (by decide)) (getD_set_ne (listed := listed) (i := 23) (j := 34) false (by decide))).symm
          · as_aux_lemma =>
              refine wpOp_step (o := _) rfl (fun K hK => ?_)
              have HC := Lib.hid (Tryz.strings_Repeat ⟨#[98]⟩ 64 W (by decide) (by decide))
              obtain ⟨A, hA⟩ : ∃ A, A = fr2 B (fun k => listed.getD k false) u0 u1 u2 (.map (some B1)) (.string rA63) (.string rA64) (.string rD127) (.string rD127a) (.string rD128) (.string rD128a) (.map (some B1)) (.pointer (some ⟨r1, 0, none⟩)) (.tuple #[.bool false]) (.bool false) u20 u21 u22 u23 u24 u25 u26 := ⟨_, rfl⟩
              rw [← hA]
              have HA := Lib.hid hA
              clear hA
              go_simp
              refine HC.out.mono ?_
              rintro e W' ⟨rfl, hb'⟩
              rw [HA.out]
              refine hK _ _ ⟨hb.trans (hb'.mono hb.size), fun h => ?_, B, fr2_put24 (L := fun k => listed.getD k false) (L' := fun k => (listed.setIfInBounds 24 true).getD k false) (getD_set_ne (listed := listed) (i := 24) (j := 0) false (by decide)) (getD_set_ne (listed := listed) (i := 24) (j := 18) false (by decide)) (getD_set_ne (listed := listed) (i := 24) (j := 19) false (by decide)) (getD_set_ne (listed := listed) (i := 24) (j := 21) false (by decide)) (getD_set_ne (listed := listed) (i := 24) (j := 22) false (by decide)) (getD_set_ne (listed := listed) (i := 24) (j := 25) false (by decide)) (getD_set_ne (listed := listed) (i := 24) (j := 27) false (by decide)) (getD_set_ne (listed := listed) (i := 24) (j := 28) false (by decide)) (getD_set_ne (listed := listed) (i := 24) (j := 29) false (by decide)) (getD_set_ne (listed := listed) (i := 24) (j := 31) false (by decide)) (getD_set_ne (listed := listed) (i := 24) (j := 32) false (by decide)) (getD_set_ne (listed := listed) (i := 24) (j := 34) false (by decide)) (hset 24 (by decide)), fun h => ?_⟩
              · rw [getD_set_ne false (by decide)] at h ⊢; exact hz h
              · rw [getD_set_ne false (by decide)] at h
                obtain ⟨hlo, n, hn, hM⟩ := hM h
                exact ⟨hlo, n, by omega, hM.below hb'⟩
          · as_aux_lemma =>
              have hk := ready_dep hi 24 (by kernel_rfl)
              refine wpOp_step (o := _) rfl (fun K hK => ?_)
              refine step_add rfl _ _ rfl rfl (fr2_tmp24 hk) (by decide +kernel) ?_
              refine hK _ _ ⟨hb, fun h => ?_, B, fr2_put25 (L := fun k => listed.getD k false) (L' := fun k => (listed.setIfInBounds 25 true).getD k false) (getD_set_ne (listed := listed) (i := 25) (j := 0) false (by decide)) (getD_set_ne (listed := listed) (i := 25) (j := 18) false (by decide)) (getD_set_ne (listed := listed) (i := 25) (j := 19) false (by decide)) (getD_set_ne (listed := listed) (i := 25) (j := 21) false (by decide)) (getD_set_ne (listed := listed) (i := 25) (j := 22) false (by decide)) (getD_set_ne (listed := listed) (i := 25) (j := 24) false (by decide)) (getD_set_ne (listed := listed) (i := 25) (j := 27) false (by decide)) (getD_set_ne (listed := listed) (i := 25) (j := 28) false (by decide)) (getD_set_ne (listed := listed) (i := 25) (j := 29) false (by decide)) (getD_set_ne (listed := listed) (i := 25) (j := 31) false (by decide)) (getD_set_ne (listed := listed) (i := 25) (j := 32) false (by decide)) (getD_set_ne (listed := listed) (i := 25) (j := 34) false (by decide)) (hset 25 (by decide)), fun h => ?_⟩
              · rw [getD_set_ne false (by decide)] at h ⊢; exact hz h
              · rw [getD_set_ne false (by decide)] at h
                obtain ⟨hlo, n, hn, hM⟩ := hM h
                exact ⟨hlo, n, by omega, hM⟩
          · as_aux_lemma =>
              have h0 := ready_dep hi 0 (by kernel_rfl)
              have hk := ready_dep hi 25 (by kernel_rfl)
              obtain ⟨hlo, n, hn, hM⟩ := hM h0
              obtain ⟨W', hrun, hM', hb'⟩ := hM.ins (t := 40) Tryz.underlying9 Tryz.underlying40 (by omega) hlo sB64a (by decide +kernel) (.int .i64 3) (.int .i64 3) (plainElem_int Tryz.underlying23 (by decide)) ⟨by decide +kernel, congrArg (Lit.int .i64) (by decide +kernel)⟩
              refine wpOp_step (o := _) rfl (fun K hK => ?_)
              refine step_insert rfl 40 _ _ _ rfl (fr2_map h0) (fr2_tmp25 hk) rfl hrun (hK _ _ ⟨hb.trans hb', fun h => ?_, B, ?_, fun _ => ⟨hlo, n + 1, by omega, hM'⟩⟩)
              · rw [getD_set_ne false (by decide)] at h ⊢; exact hz h
              · exact (fr2_congr (L := fun k => listed.getD k false) (L' := fun k => (listed.setIfInBounds 26 true).getD k false) (getD_set_ne (listed := listed) (i := 26) (j := 0) false (by decide)) (getD_set_ne (listed := listed) (i := 26) (j := 18) false (by decide)) (getD_set_ne (listed := listed) (i := 26) (j := 19) false (by decide)) (getD_set_ne (listed := listed) (i := 26) (j := 21) false (by decide)) (getD_set_ne (listed := listed) (i := 26) (j := 22) false (by decide)) (getD_set_ne (listed := listed) (i := 26) (j := 24) false (by decide)) (getD_set_ne (listed := listed) (i := 26) (j := 25) false (by decide)) (getD_set_ne (listed := listed) (i := 26) (j := 27) false (by decide)) (getD_set_ne (listed := listed) (i := 26) (j := 28) false (by decide)) (getD_set_ne (listed := listed) (i := 26) (j := 29) false (by decide)) (getD_set_ne (listed := listed) (i := 26) (j := 31) false (by decide)) (getD_set_ne (listed := listed) (i := 26) (j := 32) false (by decide)) (getD_set_ne (listed := listed) (i := 26) (j := 34) false (by decide))).symm
          · as_aux_lemma =>
              refine wpOp_step (o := _) rfl (fun K hK => ?_)
              have HC := Lib.hid (Tryz.strings_Repeat ⟨#[120, 32]⟩ 32 W (by decide) (by decide))
              obtain ⟨A, hA⟩ : ∃ A, A = fr2 B (fun k => listed.getD k false) u0 u1 u2 (.map (some B1)) (.string rA63) (.string rA64) (.string rD127) (.string rD127a) (.string rD128) (.string rD128a) (.map (some B1)) (.pointer (some ⟨r1, 0, none⟩)) (.tuple #[.bool false]) (.bool false) u20 u21 u22 u23 u24 u25 u26 := ⟨_, rfl⟩
              rw [← hA]
              have HA := Lib.hid hA
              clear hA
              go_simp
              refine HC.out.mono ?_
              rintro e W' ⟨rfl, hb'⟩
              rw [HA.out]
              refine hK _ _ ⟨hb.trans (hb'.mono hb.size), fun h => ?_, B, fr2_put27 (L := fun k => listed.getD k false) (L' := fun k => (listed.setIfInBounds 27 true).getD k false) (getD_set_ne (listed := listed) (i := 27) (j := 0) false (by decide)) (getD_set_ne (listed := listed) (i := 27) (j := 18) false (by decide)) (getD_set_ne (listed := listed) (i := 27) (j := 19) false (by decide)) (getD_set_ne (listed := listed) (i := 27) (j := 21) false (by decide)) (getD_set_ne (listed := listed) (i := 27) (j := 22) false (by decide)) (getD_set_ne (listed := listed) (i := 27) (j := 24) false (by decide)) (getD_set_ne (listed := listed) (i := 27) (j := 25) false (by decide)) (getD_set_ne (listed := listed) (i := 27) (j := 28) false (by decide)) (getD_set_ne (listed := listed) (i := 27) (j := 29) false (by decide)) (getD_set_ne (listed := listed) (i := 27) (j := 31) false (by decide)) (getD_set_ne (listed := listed) (i := 27) (j := 32) false (by decide)) (getD_set_ne (listed := listed) (i := 27) (j := 34) false (by decide)) (hset 27 (by decide)), fun h => ?_⟩
              · rw [getD_set_ne false (by decide)] at h ⊢; exact hz h
              · rw [getD_set_ne false (by decide)] at h
                obtain ⟨hlo, n, hn, hM⟩ := hM h
                exact ⟨hlo, n, by omega, hM.below hb'⟩
          · as_aux_lemma =>
              have hk := ready_dep hi 27 (by kernel_rfl)
              refine wpOp_step (o := _) rfl (fun K hK => ?_)
              refine step_add rfl _ _ rfl rfl (fr2_tmp27 hk) (by decide +kernel) ?_
              refine hK _ _ ⟨hb, fun h => ?_, B, fr2_put28 (L := fun k => listed.getD k false) (L' := fun k => (listed.setIfInBounds 28 true).getD k false) (getD_set_ne (listed := listed) (i := 28) (j := 0) false (by decide)) (getD_set_ne (listed := listed) (i := 28) (j := 18) false (by decide)) (getD_set_ne (listed := listed) (i := 28) (j := 19) false (by decide)) (getD_set_ne (listed := listed) (i := 28) (j := 21) false (by decide)) (getD_set_ne (listed := listed) (i := 28) (j := 22) false (by decide)) (getD_set_ne (listed := listed) (i := 28) (j := 24) false (by decide)) (getD_set_ne (listed := listed) (i := 28) (j := 25) false (by decide)) (getD_set_ne (listed := listed) (i := 28) (j := 27) false (by decide)) (getD_set_ne (listed := listed) (i := 28) (j := 29) false (by decide)) (getD_set_ne (listed := listed) (i := 28) (j := 31) false (by decide)) (getD_set_ne (listed := listed) (i := 28) (j := 32) false (by decide)) (getD_set_ne (listed := listed) (i := 28) (j := 34) false (by decide)) (hset 28 (by decide)), fun h => ?_⟩
              · rw [getD_set_ne false (by decide)] at h ⊢; exact hz h
              · rw [getD_set_ne false (by decide)] at h
                obtain ⟨hlo, n, hn, hM⟩ := hM h
                exact ⟨hlo, n, by omega, hM⟩
          · as_aux_lemma =>
              have hk := ready_dep hi 28 (by kernel_rfl)
              refine wpOp_step (o := _) rfl (fun K hK => ?_)
              refine step_add rfl _ _ rfl (fr2_tmp28 hk) rfl (by decide +kernel) ?_
              refine hK _ _ ⟨hb, fun h => ?_, B, fr2_put29 (L := fun k => listed.getD k false) (L' := fun k => (listed.setIfInBounds 29 true).getD k false) (getD_set_ne (listed := listed) (i := 29) (j := 0) false (by decide)) (getD_set_ne (listed := listed) (i := 29) (j := 18) false (by decide)) (getD_set_ne (listed := listed) (i := 29) (j := 19) false (by decide)) (getD_set_ne (listed := listed) (i := 29) (j := 21) false (by decide)) (getD_set_ne (listed := listed) (i := 29) (j := 22) false (by decide)) (getD_set_ne (listed := listed) (i := 29) (j := 24) false (by decide)) (getD_set_ne (listed := listed) (i := 29) (j := 25) false (by decide)) (getD_set_ne (listed := listed) (i := 29) (j := 27) false (by decide)) (getD_set_ne (listed := listed) (i := 29) (j := 28) false (by decide)) (getD_set_ne (listed := listed) (i := 29) (j := 31) false (by decide)) (getD_set_ne (listed := listed) (i := 29) (j := 32) false (by decide)) (getD_set_ne (listed := listed) (i := 29) (j := 34) false (by decide)) (hset 29 (by decide)), fun h => ?_⟩
              · rw [getD_set_ne false (by decide)] at h ⊢; exact hz h
              · rw [getD_set_ne false (by decide)] at h
                obtain ⟨hlo, n, hn, hM⟩ := hM h
                exact ⟨hlo, n, by omega, hM⟩
          · as_aux_lemma =>
              have h0 := ready_dep hi 0 (by kernel_rfl)
              have hk := ready_dep hi 29 (by kernel_rfl)
              obtain ⟨hlo, n, hn, hM⟩ := hM h0
              obtain ⟨W', hrun, hM', hb'⟩ := hM.ins (t := 40) Tryz.underlying9 Tryz.underlying40 (by omega) hlo sX32b (by decide +kernel) (.int .i64 0) (.int .i64 0) (plainElem_int Tryz.underlying23 (by decide)) ⟨by decide +kernel, congrArg (Lit.int .i64) (by decide +kernel)⟩
              refine wpOp_step (o := _) rfl (fun K hK => ?_)
              refine step_insert rfl 40 _ _ _ rfl (fr2_map h0) (fr2_tmp29 hk) rfl hrun (hK _ _ ⟨hb.trans hb', fun h => ?_, B, ?_, fun _ => ⟨hlo, n + 1, by omega, hM'⟩⟩)
              · rw [getD_set_ne false (by decide)] at h ⊢; exact hz h
              · exact (fr2_congr (L := fun k => listed.getD k false) (L' := fun k => (listed.setIfInBounds 30 true).getD k false) (getD_set_ne (listed := listed) (i := 30) (j := 0) false (by decide)) (getD_set_ne (listed := listed) (i := 30) (j := 18) false (by decide)) (getD_set_ne (listed := listed) (i := 30) (j := 19) false (by decide)) (getD_set_ne (listed := listed) (i := 30) (j := 21) false (by decide)) (getD_set_ne (listed := listed) (i := 30) (j := 22) false (by decide)) (getD_set_ne (listed := listed) (i := 30) (j := 24) false (by decide)) (getD_set_ne (listed := listed) (i := 30) (j := 25) false (by decide)) (getD_set_ne (listed := listed) (i := 30) (j := 27) false (by decide)) (getD_set_ne (listed := listed) (i := 30) (j := 28) false (by decide)) (getD_set_ne (listed := listed) (i := 30) (j := 29) false (by decide)) (getD_set_ne (listed := listed) (i := 30) (j := 31) false (by decide)) (getD_set_ne (listed := listed) (i := 30) (j := 32) false (by decide)) (getD_set_ne (listed := listed) (i := 30) (j := 34) false (by decide))).symm
          · as_aux_lemma =>
              refine wpOp_step (o := _) rfl (fun K hK => ?_)
              have HC := Lib.hid (Tryz.strings_Repeat ⟨#[120]⟩ 65 W (by decide) (by decide))
              obtain ⟨A, hA⟩ : ∃ A, A = fr2 B (fun k => listed.getD k false) u0 u1 u2 (.map (some B1)) (.string rA63) (.string rA64) (.string rD127) (.string rD127a) (.string rD128) (.string rD128a) (.map (some B1)) (.pointer (some ⟨r1, 0, none⟩)) (.tuple #[.bool false]) (.bool false) u20 u21 u22 u23 u24 u25 u26 := ⟨_, rfl⟩
              rw [← hA]
              have HA := Lib.hid hA
              clear hA
              go_simp
              refine HC.out.mono ?_
              rintro e W' ⟨rfl, hb'⟩
              rw [HA.out]
              refine hK _ _ ⟨hb.trans (hb'.mono hb.size), fun h => ?_, B, fr2_put31 (L := fun k => listed.getD k false) (L' := fun k => (listed.setIfInBounds 31 true).getD k false) (getD_set_ne (listed := listed) (i := 31) (j := 0) false (by decide)) (getD_set_ne (listed := listed) (i := 31) (j := 18) false (by decide)) (getD_set_ne (listed := listed) (i := 31) (j := 19) false (by decide)) (getD_set_ne (listed := listed) (i := 31) (j := 21) false (by decide)) (getD_set_ne (listed := listed) (i := 31) (j := 22) false (by decide)) (getD_set_ne (listed := listed) (i := 31) (j := 24) false (by decide)) (getD_set_ne (listed := listed) (i := 31) (j := 25) false (by decide)) (getD_set_ne (listed := listed) (i := 31) (j := 27) false (by decide)) (getD_set_ne (listed := listed) (i := 31) (j := 28) false (by decide)) (getD_set_ne (listed := listed) (i := 31) (j := 29) false (by decide)) (getD_set_ne (listed := listed) (i := 31) (j := 32) false (by decide)) (getD_set_ne (listed := listed) (i := 31) (j := 34) false (by decide)) (hset 31 (by decide)), fun h => ?_⟩
              · rw [getD_set_ne false (by decide)] at h ⊢; exact hz h
              · rw [getD_set_ne false (by decide)] at h
                obtain ⟨hlo, n, hn, hM⟩ := hM h
                exact ⟨hlo, n, by omega, hM.below hb'⟩
          · as_aux_lemma =>
              have hk := ready_dep hi 31 (by kernel_rfl)
              refine wpOp_step (o := _) rfl (fun K hK => ?_)
              refine step_add rfl _ _ rfl (fr2_tmp31 hk) rfl (by decide +kernel) ?_
              refine hK _ _ ⟨hb, fun h => ?_, B, fr2_put32 (L := fun k => listed.getD k false) (L' := fun k => (listed.setIfInBounds 32 true).getD k false) (getD_set_ne (listed := listed) (i := 32) (j := 0) false (by decide)) (getD_set_ne (listed := listed) (i := 32) (j := 18) false (by decide)) (getD_set_ne (listed := listed) (i := 32) (j := 19) false (by decide)) (getD_set_ne (listed := listed) (i := 32) (j := 21) false (by decide)) (getD_set_ne (listed := listed) (i := 32) (j := 22) false (by decide)) (getD_set_ne (listed := listed) (i := 32) (j := 24) false (by decide)) (getD_set_ne (listed := listed) (i := 32) (j := 25) false (by decide)) (getD_set_ne (listed := listed) (i := 32) (j := 27) false (by decide)) (getD_set_ne (listed := listed) (i := 32) (j := 28) false (by decide)) (getD_set_ne (listed := listed) (i := 32) (j := 29) false (by decide)) (getD_set_ne (listed := listed) (i := 32) (j := 31) false (by decide)) (getD_set_ne (listed := listed) (i := 32) (j := 34) false (by decide)) (hset 32 (by decide)), fun h => ?_⟩
              · rw [getD_set_ne false (by decide)] at h ⊢; exact hz h
              · rw [getD_set_ne false (by decide)] at h
                obtain ⟨hlo, n, hn, hM⟩ := hM h
                exact ⟨hlo, n, by omega, hM⟩
          · as_aux_lemma =>
              have h0 := ready_dep hi 0 (by kernel_rfl)
              have hk := ready_dep hi 32 (by kernel_rfl)
              obtain ⟨hlo, n, hn, hM⟩ := hM h0
              obtain ⟨W', hrun, hM', hb'⟩ := hM.ins (t := 40) Tryz.underlying9 Tryz.underlying40 (by omega) hlo sX65u (by decide +kernel) (.int .i64 5) (.int .i64 5) (plainElem_int Tryz.underlying23 (by decide)) ⟨by decide +kernel, congrArg (Lit.int .i64) (by decide +kernel)⟩
              refine wpOp_step (o := _) rfl (fun K hK => ?_)
              refine step_insert rfl 40 _ _ _ rfl (fr2_map h0) (fr2_tmp32 hk) rfl hrun (hK _ _ ⟨hb.trans hb', fun h => ?_, B, ?_, fun _ => ⟨hlo, n + 1, by omega, hM'⟩⟩)
              · rw [getD_set_ne false (by decide)] at h ⊢; exact hz h
              · exact (fr2_congr (L := fun k => listed.getD k false) (L' := fun k => (listed.setIfInBounds 33 true).getD k false) (getD_set_ne (listed := listed) (i := 33) (j := 0) false (by decide)) (getD_set_ne (listed := listed) (i := 33) (j := 18) false (by decide)) (getD_set_ne (listed := listed) (i := 33) (j := 19) false (by decide)) (getD_set_ne (listed := listed) (i := 33) (j := 21) false (by decide)) (getD_set_ne (listed := listed) (i := 33) (j := 22) false (by decide)) (getD_set_ne (listed := listed) (i := 33) (j := 24) false (by decide)) (getD_set_ne (listed := listed) (i := 33) (j := 25) false (by decide)) (getD_set_ne (listed := listed) (i := 33) (j := 27) false (by decide)) (getD_set_ne (listed := listed) (i := 33) (j := 28) false (by decide)) (getD_set_ne (listed := listed) (i := 33) (j := 29) false (by decide)) (getD_set_ne (listed := listed) (i := 33) (j := 31) false (by decide)) (getD_set_ne (listed := listed) (i := 33) (j := 32) false (by decide)) (getD_set_ne (listed := listed) (i := 33) (j := 34) false (by decide))).symm
          · as_aux_lemma =>
              have h0 := ready_dep hi 0 (by kernel_rfl)
              refine wpOp_step (o := _) rfl (fun K hK => ?_)
              refine step_move rfl _ rfl (fr2_map h0) ?_
              refine hK _ _ ⟨hb, fun h => ?_, B, fr2_put34 (L := fun k => listed.getD k false) (L' := fun k => (listed.setIfInBounds 34 true).getD k false) (getD_set_ne (listed := listed) (i := 34) (j := 0) false (by decide)) (getD_set_ne (listed := listed) (i := 34) (j := 18) false (by decide)) (getD_set_ne (listed := listed) (i := 34) (j := 19) false (by decide)) (getD_set_ne (listed := listed) (i := 34) (j := 21) false (by decide)) (getD_set_ne (listed := listed) (i := 34) (j := 22) false (by decide)) (getD_set_ne (listed := listed) (i := 34) (j := 24) false (by decide)) (getD_set_ne (listed := listed) (i := 34) (j := 25) false (by decide)) (getD_set_ne (listed := listed) (i := 34) (j := 27) false (by decide)) (getD_set_ne (listed := listed) (i := 34) (j := 28) false (by decide)) (getD_set_ne (listed := listed) (i := 34) (j := 29) false (by decide)) (getD_set_ne (listed := listed) (i := 34) (j := 31) false (by decide)) (getD_set_ne (listed := listed) (i := 34) (j := 32) false (by decide)) (hset 34 (by decide)), fun h => ?_⟩
              · rw [getD_set_ne false (by decide)]; exact h0
              · rw [getD_set_ne false (by decide)] at h
                obtain ⟨hlo, n, hn, hM⟩ := hM h
                exact ⟨hlo, n, by omega, hM⟩
        · intro listed a W hs hall hJ
          obtain ⟨hb, hz, B, rfl, hM⟩ := hJ
          obtain ⟨hlo, n, hn, hM⟩ := hM (hall 0 (by decide))
          obtain ⟨D, ho, hG⟩ := hM
          obtain ⟨W', hrun, hrg, hgr, hsz⟩ := (ho.mono (n' := 1000) (by omega)).range (string_keyed Tryz.underlying9) Tryz.underlying40
          refine wpOp_step (o := _) rfl (fun K hK => ?_)
          rw [fr2_congr (L := fun _ => true) (hall 0 (by decide)) (hall 18 (by decide)) (hall 19 (by decide)) (hall 21 (by decide)) (hall 22 (by decide)) (hall 24 (by decide)) (hall 25 (by decide)) (hall 27 (by decide)) (hall 28 (by decide)) (hall 29 (by decide)) (hall 31 (by decide)) (hall 32 (by decide)) (hall 34 (by decide))]
          refine step_range rfl 40 _ rfl rfl hrun ?_
          exact hK _ _ ⟨hb.trans ((Below.refl _ W).grown hgr hb.size (fun k hk => by cases hk)), B, W.heap.size, D, _, _, hlo, hb.size, hG, hrg, rfl⟩
        · rintro a W ⟨hb, B2, r2, D2, left2, cnt2, hB2, hr2, hG2, hrg2, rfl⟩
          have HG2 := Lib.hid hG2
          have HBB := Lib.hid hb
          have HRG2 := Lib.hid hrg2
          clear hG2 hb hrg2
          simp only [fr2, pk, cond_true, Act.put, List.setIfInBounds_toArray, List.set_cons_succ, List.set_cons_zero]
          go_wp2_with fail
          go_loopg [3, 4, 5, 6] cnt2 (fun g v3 v4 v5 v6 W => KRel2 w B2 r2 D2 g W)
          case atStart => exact ⟨HBB.out, left2, HRG2.out⟩
          case round =>
            obtain ⟨hb, left, hrg⟩ := hrel
            rcases hrg.next (string_keyed Tryz.underlying9) 0 with ⟨hc0, hl0, hnx⟩ | ⟨key, v, kl, y, w1, cnt1, hkey, hlk, hv, hat, hnx, hrg1, hlt, hg1, hs1, hen⟩
            · have HB3 := Lib.hid hb
              clear hrg HRG2 HBB hb hl0
              have HP3 := Lib.hid (fun W (hE : Env W) => Parse_any ⟨#[34, 97, 46, 98, 34, 64, 99]⟩ (by decide) W hE)
              rw [par3] at HP3
              have HT1 := Lib.hid (fun W (hE : Env W) => ktext [97, 46, 98] [99] _ txt1 (by decide) (by decide) W hE)
              have HT2 := Lib.hid (fun W (hE : Env W) => ktext [97, 92] [98] _ txt2 (by decide) (by decide) W hE)
              have HT3 := Lib.hid (fun W (hE : Env W) => ktext [97] [98, 95] _ txt3 (by decide) (by decide) W hE)
              have HT4 := Lib.hid (fun W (hE : Env W) => ktext [] [98] _ txt4 (by decide) (by decide) W hE)
              have HM5 := Lib.hid (fun W (hE : Env W) => kmay W hE)
              have HC6 := Lib.hid (fun W => CompareA_any ⟨#[122]⟩ ⟨#[65]⟩ ⟨#[97]⟩ ⟨#[98]⟩ (by decide) (by decide) (by decide) (by decide) W)
              have HC7 := Lib.hid (fun W => CompareA_any ⟨#[90]⟩ ⟨#[98]⟩ ⟨#[97]⟩ ⟨#[66]⟩ (by decide) (by decide) (by decide) (by decide) W)
              have HS8 := Lib.hid (fun W => SameA_any ⟨#[65]⟩ ⟨#[98]⟩ ⟨#[97]⟩ ⟨#[98]⟩ (by decide) (by decide) (by decide) (by decide) W)
              have HL9 := Lib.hid (fun W => Below_any ⟨#[46, 98]⟩ ⟨#[98]⟩ (by decide) (by decide) W)
              have HL10 := Lib.hid (fun W => Below_any ⟨#[97, 46, 98]⟩ ⟨#[66]⟩ (by decide) (by decide) W)
              have HL11 := Lib.hid (fun W => Below_any ⟨#[]⟩ ⟨#[]⟩ (by decide) (by decide) W)
              have hlt6 := ord3
              have hlt7 := ord4
              generalize ordS ⟨#[122]⟩ ⟨#[65]⟩ ⟨#[97]⟩ ⟨#[98]⟩ = O6 at HC6 hlt6
              generalize ordS ⟨#[90]⟩ ⟨#[98]⟩ ⟨#[97]⟩ ⟨#[66]⟩ = O7 at HC7 hlt7
              rw [ord5] at HS8
              rw [bel1] at HL9
              rw [bel2] at HL10
              rw [bel3] at HL11
              go_wp2_with fail
              refine (HP3.out _ (hE.below HB3.out)).mono ?_
              rintro e w5 ⟨rfl, hb5⟩
              simp only [parV, addrV]
              have T1 := Two.made w5 (.string ⟨#[97, 46, 98]⟩) (.string ⟨#[99]⟩) 30
              have hbA := (HB3.out.trans (hb5.mono HB3.out.size))
              have hbA := hbA.trans ((alloc_below w5 (.cells #[.string ⟨#[97, 46, 98]⟩, .string ⟨#[99]⟩] 30)).mono hbA.size)
              obtain ⟨-, c0, c1, f0, f1⟩ := T1
              have HBA := Lib.hid hbA
              clear hbA
              go_wp2_with fail
              refine (HT1.out _ (hE.below HBA.out)).mono ?_
              rintro e x1 ⟨rfl, hx1⟩
              have HX1 := Lib.hid (HBA.out.trans (hx1.mono HBA.out.size))
              clear hx1 c0 c1 f0 f1
              go_wp2_with fail
              refine (HT2.out _ (hE.below HX1.out)).mono ?_
              rintro e x2 ⟨rfl, hx2⟩
              have HX2 := Lib.hid (HX1.out.trans (hx2.mono HX1.out.size))
              clear hx2
              go_wp2_with fail
              refine (HT3.out _ (hE.below HX2.out)).mono ?_
              rintro e x3 ⟨rfl, hx3⟩
              have HX3 := Lib.hid (HX2.out.trans (hx3.mono HX2.out.size))
              clear hx3
              go_wp2_with fail
              refine (HT4.out _ (hE.below HX3.out)).mono ?_
              rintro e x4 ⟨rfl, hx4⟩
              have HX4 := Lib.hid (HX3.out.trans (hx4.mono HX3.out.size))
              clear hx4
              go_wp2_with fail
              refine (HM5.out _ (hE.below HX4.out)).mono ?_
              rintro e x5 ⟨rfl, hx5⟩
              have HX5 := Lib.hid (HX4.out.trans (hx5.mono HX4.out.size))
              clear hx5
              go_wp2_with fail
              refine (HC6.out _).mono ?_
              rintro e x6 ⟨rfl, hx6⟩
              have HX6 := Lib.hid (HX5.out.trans (hx6.mono HX5.out.size))
              clear hx6
              go_wp2_with fail
              refine (HC7.out _).mono ?_
              rintro e x7 ⟨rfl, hx7⟩
              have HX7 := Lib.hid (HX6.out.trans (hx7.mono HX6.out.size))
              clear hx7
              go_wp2_with fail
              refine (HS8.out _).mono ?_
              rintro e x8 ⟨rfl, hx8⟩
              have HX8 := Lib.hid (HX7.out.trans (hx8.mono HX7.out.size))
              clear hx8
              go_wp2_with fail
              refine (HL9.out _).mono ?_
              rintro e x9 ⟨rfl, hx9⟩
              have HX9 := Lib.hid (HX8.out.trans (hx9.mono HX8.out.size))
              clear hx9
              go_wp2_with fail
              refine (HL10.out _).mono ?_
              rintro e x10 ⟨rfl, hx10⟩
              have HX10 := Lib.hid (HX9.out.trans (hx10.mono HX9.out.size))
              clear hx10
              go_wp2_with fail
              refine (HL11.out _).mono ?_
              rintro e x11 ⟨rfl, hx11⟩
              have HX11 := Lib.hid (HX10.out.trans (hx11.mono HX10.out.size))
              clear hx11
              have HW := Lib.hid (wakes_any x11 (hE.below HX11.out))
              go_wp2_with fail
              refine HW.out.mono ?_
              rintro e x12 ⟨rfl, hx12⟩
              have HX12 := Lib.hid (HX11.out.trans (hx12.mono HX11.out.size))
              clear hx12
              go_wp2
              go_ret
              exact ⟨rfl, HX12.out⟩
            · obtain ⟨x, rfl⟩ := keyString Tryz.underlying9 _ _ hkey
              obtain ⟨c, rfl⟩ := intInv (q := .i64) Tryz.underlying23 _ _ hv
              obtain rfl := keyString2 Tryz.underlying9 hkey
              obtain ⟨c', hc', rfl, -⟩ := plainElem_int_inv (q := .i64) Tryz.underlying23 hv
              cases hc'
              obtain ⟨hxl, hxc⟩ := HG2.out _ _ hat
              have hxs : x.size ≤ 1000 := by rw [← list_len]; exact hxl
              have hcc : c = ((parseL x.data.toList).2.2 : Int) := by cases hxc; rfl
              have hb1 : Below w.heap.size w w1 := hb.grown hg1 hb.size (fun k hk => by cases hk; exact hr2)
              have HM := Lib.hid (Parse_any x (by omega) w1 (hE.below hb1))
              have hq : (((parseL x.data.toList).2.2 : Int) != c) = false := by rw [hcc]; simp
              generalize parseL x.data.toList = X at HM hq
              obtain ⟨xa, xb, er⟩ := X
              simp only at hq
              simp only [parV, addrV] at HM
              have HRG1 := Lib.hid hrg1
              have HB4 := Lib.hid hb1
              clear hkey hlk hv hat hrg hrg1 hg1 hs1 hxl hxc hxs hcc hb1 hb
              go_wp2_with fail
              refine HM.out.mono ?_
              rintro e w2 ⟨rfl, hb2⟩
              have hbz := hb2.trans ((alloc_below w2 (.cells #[.string ⟨xa.toArray⟩, .string ⟨xb.toArray⟩] 30)).mono hb2.size)
              go_wp2_with fail
              go_roundg cnt1
              case rel => exact ⟨HB4.out.trans (hbz.mono HB4.out.size), _, World.ranges.below HRG1.out hbz⟩
              case measure => exact hlt
      · obtain ⟨x, rfl⟩ := keyString Tryz.underlying9 _ _ hkey
        obtain ⟨c, rfl⟩ := boolInv Tryz.underlying4 _ _ hv
        obtain rfl := keyString2 Tryz.underlying9 hkey
        obtain ⟨c', hc', rfl⟩ := plainElem_bool_inv Tryz.underlying4 hv
        cases hc'
        obtain ⟨hxl, hxc⟩ := HG.out _ _ hat
        have hxs : x.size ≤ 1000 := by rw [← list_len]; exact hxl
        have hcc : decide (domL x.data.toList = 0) = c := by cases hxc; rfl
        have hb1 : Below w.heap.size w w1 := hb.grown hg1 hb.size (fun k hk => by cases hk; exact hr)
        have HM := Lib.hid (MayDomain_any x (by omega) w1 (hE.below hb1))
        rw [hcc] at HM
        have hq : (c != c) = false := by simp
        have HRG1 := Lib.hid hrg1
        have HB1 := Lib.hid hb1
        clear hkey hlk hv hat hrg hrg1 hg1 hs1 hxl hxc hxs hcc hb1 hb
        go_wp2_with fail
        refine HM.out.mono ?_
        rintro e w2 ⟨rfl, hb2⟩
        go_wp2_with fail
        go_roundg cnt1
        case rel => exact ⟨HB1.out.trans (hb2.mono HB1.out.size), _, World.ranges.below HRG1.out hb2⟩
        case measure => exact hlt
end Go.Proofs.YtffngbjnbigipaaGreatDoor
