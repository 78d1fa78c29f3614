/- The law CodingJoins, walked: it returns true for two slices of bytes that lie in memory, each of at most 2^47 - 4096 bytes, and any uint16, where the package's table and unicode/utf8's two tables read as their texts lay them. -/
import Derived.Test.YthnohioamefbmaaDoorMapsA
import Derived.Laws.EntriesVeiled
import Derived.Deep.RegionHeld3
namespace Go.Proofs.YthnohioamefbmaaDoor
open Go.RowKit Go.Lib
set_option linter.unusedSimpArgs false
set_option linter.unusedVariables false

/-- what the law works on: bytes, at most 300, whose capacity has room for them. -/
def Cutd (wc : World) (v : Value) : Prop :=
  ∃ (l : List Nat) (p : Option Addr) (cap : Nat), v = .slice p l.length cap ∧ Bytes wc (.slice p l.length cap) l ∧ l.length ≤ 300 ∧ (∀ x ∈ l, x < 256) ∧ l.length ≤ cap ∧ cap ≤ 140737488351232 ∧ (p = none → cap = 0)
theorem cut_rel (w : World) (n cap0 : Nat) (p0 : Option Addr) (l0 : List Nat) (nq : Nat) (hlf : ∀ x ∈ l0, x < 256) (hsv : Bytes w (.slice p0 n cap0) l0) (hnc : n ≤ cap0) (hcap : cap0 ≤ 140737488351232) (hnil : p0 = none → cap0 = 0) :
    Cutd (w.drewN nq) (.slice p0 (min (n : Int) 300).toNat cap0) := by
  have hl0 : l0.length = n := by obtain ⟨p', cap', he, _⟩ := hsv; cases he; rfl
  have hm : (min (n : Int) 300).toNat = min n 300 := by omega
  have hlen : (l0.take (min n 300)).length = min n 300 := by rw [List.length_take]; omega
  rw [hm]
  refine ⟨l0.take (min n 300), p0, cap0, by rw [hlen], ?_, by omega, fun x hx => hlf x (List.mem_of_mem_take hx), by omega, hcap, hnil⟩
  rw [hlen]
  exact (take_bytes hsv (by omega)).below (drewN_below w nq)
theorem step_append_eq {ops : Array Oper} {o : Oper} {a : Act} {w : World} {K : Act → World → Prop} {Q : Exit → Act → World → Prop} {E : Prop}
    (hg : o.guard = none) (s x : Operand) (hop : o.op = Op.call { callee := Callee.builtin Builtin.append, args := #[s, x], argTypes := #[22, 22] }) (hty : o.type = 22)
    (v xv v' : Value) (w' : World) (hs : a.eval s = v) (hx : a.eval x = xv) (hrun : (Builtin.append_ #[22, 22] 22 #[v, xv]).run Tryd.prog w = .ok v' w') (hK : K (a.put o.dst v') w') :
    if Region.wanted o (yielded ops a.tmps) = true then Oper.wp Tryd.prog o a w K Q else E := by
  have hw : Region.wanted o (yielded ops a.tmps) = true := by simp [Region.wanted, hg]
  rw [if_pos hw]
  unfold Oper.wp
  simp [execOp, hop, hty, resolve, invoke, builtin, hs, hx, hrun, Result.andThen]
  exact hK
theorem tell_small (t : Nat) (ht : IsKind t) (l : List Nat) (hl : ∀ x ∈ l, x < 256) (h : l.length ≤ 300) : (tellL (lettersOf t) t (fillOf t) l).length ≤ 4000 := by
  rw [tell_len t ht l hl]
  rcases ht with rfl | rfl | rfl
  · show _ + (1 - _ % 1) % 1 ≤ _; omega
  · show _ + (4 - _ % 4) % 4 ≤ _; omega
  · show _ + (1 - _ % 1) % 1 ≤ _; omega
theorem add_texts (X Y : List UInt8) (hX : X.length ≤ 4000) (hY : Y.length ≤ 4000) : Op.stringOp .add ⟨X.toArray⟩ ⟨Y.toArray⟩ = pure (.string ⟨(X ++ Y).toArray⟩) := by
  have e1 : (⟨X.toArray⟩ : ByteArray).size = X.length := rfl
  have e2 : (⟨Y.toArray⟩ : ByteArray).size = Y.length := rfl
  have hm : IntKind.i64.max = 9223372036854775807 := rfl
  have hn : ¬ ((((⟨X.toArray⟩ : ByteArray).size + (⟨Y.toArray⟩ : ByteArray).size : Nat) : Int) > IntKind.i64.max) := by rw [e1, e2, hm]; omega
  unfold Op.stringOp
  simp only [hn, if_false, cat_bytes]
theorem own_some {w : World} {B : Nat} {v : Value} {l : List Nat} (h : w.ownsRow B 5 1 v l.length (l.map fun (c : Nat) => Value.int .u8 (c : Int))) (hl : ¬ l.length = 0) :
    ∃ g cap, v = .slice (some ⟨g, 0, none⟩) l.length cap ∧ (∀ i, i < l.length → w.cell? ⟨g, i, none⟩ = some (.int .u8 (l.getD i 0 : Nat)) ∧ w.frozen? ⟨g, i, none⟩ = false) ∧ B ≤ g ∧ g < w.heap.size := by
  obtain ⟨_, ⟨rfl, h⟩ | ⟨g, cap, cur, rfl, hg, hh, h1, h2, h3, h4⟩⟩ := h
  · simp at h; subst h; simp at hl
  · refine ⟨g, cap, rfl, fun i hi => ⟨?_, by simp [World.frozen?, hh]⟩, hg, lt_of_block hh⟩
    have e : cur[i]? = some (.int .u8 (l.getD i 0 : Nat)) := by
      have : cur.toList[i]? = (cur.toList.take (l.length * 1))[i]? := by rw [List.getElem?_take]; simp; omega
      rw [← Array.getElem?_toList, this, h4]
      simp [List.getD_eq_getElem?_getD, hi]
    simpa [World.cell?, hh] using e
theorem xor_all : ∀ x, x < 256 → ∀ j, j < 8 → 0 ≤ bits BinOp.xor IntKind.u8 ((x : Nat) : Int) (2 ^ (j : Nat) % 256) ∧ bits BinOp.xor IntKind.u8 ((x : Nat) : Int) (2 ^ (j : Nat) % 256) < 256 ∧ bits BinOp.xor IntKind.u8 ((x : Nat) : Int) (2 ^ (j : Nat) % 256) ≠ ((x : Nat) : Int) := by decide +kernel
theorem xor_bit (x : Nat) (hx : x < 256) (j : Nat) (hj : j < 8) : ∃ z : Nat, bits BinOp.xor IntKind.u8 (x : Int) (2 ^ j % 256) = (z : Int) ∧ z < 256 ∧ z ≠ x := by
  obtain ⟨h0, h1, h2⟩ := xor_all x hx j hj
  refine ⟨(bits BinOp.xor IntKind.u8 (x : Int) (2 ^ j % 256)).toNat, (Int.toNat_of_nonneg h0).symm, by omega, fun e => h2 ?_⟩
  rw [← Int.toNat_of_nonneg h0, e]
theorem set_ne {b : List Nat} {m z : Nat} (hm : m < b.length) (hz : z ≠ b[m]) : b.set m z ≠ b := by
  intro e
  have := congrArg (fun l : List Nat => l[m]?) e
  simp [hm] at this
  exact hz this
theorem text_ne {X Y : List UInt8} (h : X ≠ Y) : ((⟨X.toArray⟩ : ByteArray).toList == (⟨Y.toArray⟩ : ByteArray).toList) = false := by
  rw [ByteArray.toList_eq, ByteArray.toList_eq]
  simpa using h
theorem set_bytes {w : World} {g cap m z : Nat} {b : List Nat} (h : ∀ i, i < b.length → w.cell? ⟨g, i, none⟩ = some (.int .u8 (b.getD i 0 : Nat)) ∧ w.frozen? ⟨g, i, none⟩ = false) (hg : g < w.heap.size) (hm : m < b.length) :
    Bytes (w.setCell ⟨g, m, none⟩ (.int .u8 (z : Int))) (.slice (some ⟨g, 0, none⟩) b.length cap) (b.set m z) := by
  refine ⟨some ⟨g, 0, none⟩, cap, by simp, .inr ⟨g, 0, rfl, by simpa [World.setCell] using hg, fun i hi => ?_⟩⟩
  rw [List.length_set] at hi
  rw [Nat.zero_add]
  by_cases hi2 : m = i
  · subst hi2
    rw [World.cell?_setCell_same' _ _ _ (by rw [(h m hi).1]; rfl)]
    simp [List.getD_eq_getElem?_getD, hi]
  · have hne : (⟨g, m, none⟩ : Addr) ≠ ⟨g, i, none⟩ := by
      intro e
      injection e with _ h2
      exact hi2 h2
    rw [World.cell?_setCell_other (h := hne), (h i hi).1]
    simp [List.getD_eq_getElem?_getD, hi, hi2]
def JRel (w : World) (v0 v1 : Value) (wc : World) : Prop := Cutd wc v0 ∧ Cutd wc v1 ∧ Below w.heap.size w wc

set_option maxRecDepth 100000 in
set_option maxHeartbeats 8000000 in
theorem joins_any (w : World) (hT : Tabs w) (n0 cap0 : Nat) (p0 : Option Addr) (l0 : List Nat) (hlf0 : ∀ x ∈ l0, x < 256) (hsv0 : Bytes w (.slice p0 n0 cap0) l0) (hnc0 : n0 ≤ cap0) (hcap0 : cap0 ≤ 140737488351232) (hnil0 : p0 = none → cap0 = 0)
    (n1 cap1 : Nat) (p1 : Option Addr) (l1 : List Nat) (hlf1 : ∀ x ∈ l1, x < 256) (hsv1 : Bytes w (.slice p1 n1 cap1) l1) (hnc1 : n1 ≤ cap1) (hcap1 : cap1 ≤ 140737488351232) (hnil1 : p1 = none → cap1 = 0) (k : Nat) (hk : k < 65536) :
    Calls Tryd.prog 5 #[.slice p0 n0 cap0, .slice p1 n1 cap1, .int .u16 (k : Int)] w fun e w' => e = .returned (.bool true) ∧ Below w.heap.size w w' := by
  have hmm := @run_makeMap Tryd.prog
  go_enter Tryd.func5, Tryd.ntmps5
  go_upto_region 1 with (fail)
  go_cut [0, 1] (fun v0 v1 wc => JRel w v0 v1 wc)
  case first =>
    by_cases hn : n0 ≤ 300
    · by_cases hs : n1 ≤ 300
      · go_wp2_with fail
        go_quiet (fail)
        go_wp2_with fail
        go_meet
        case rel => exact ⟨cut_rel w n0 cap0 p0 l0 _ hlf0 hsv0 hnc0 hcap0 hnil0, cut_rel w n1 cap1 p1 l1 _ hlf1 hsv1 hnc1 hcap1 hnil1, drewN_below w _⟩
      · go_wp2_with fail
        go_quiet (fail)
        go_wp2_with fail
        go_meet
        case rel => exact ⟨cut_rel w n0 cap0 p0 l0 _ hlf0 hsv0 hnc0 hcap0 hnil0, cut_rel w n1 cap1 p1 l1 _ hlf1 hsv1 hnc1 hcap1 hnil1, drewN_below w _⟩
    · by_cases hs : n1 ≤ 300
      · go_wp2_with fail
        go_quiet (fail)
        go_wp2_with fail
        go_meet
        case rel => exact ⟨cut_rel w n0 cap0 p0 l0 _ hlf0 hsv0 hnc0 hcap0 hnil0, cut_rel w n1 cap1 p1 l1 _ hlf1 hsv1 hnc1 hcap1 hnil1, drewN_below w _⟩
      · go_wp2_with fail
        go_quiet (fail)
        go_wp2_with fail
        go_meet
        case rel => exact ⟨cut_rel w n0 cap0 p0 l0 _ hlf0 hsv0 hnc0 hcap0 hnil0, cut_rel w n1 cap1 p1 l1 _ hlf1 hsv1 hnc1 hcap1 hnil1, drewN_below w _⟩
  case rest =>
    obtain ⟨⟨a, pa, ca, rfl, hBa, hal, haf, hac, hac2, hanil⟩, ⟨b, pb, cb, rfl, hBb, hbl, hbf, hbc, hbc2, hbnil⟩, hbw⟩ := hcut
    have hTc : Tabs wc := hT.below hbw
    clear hsv0 hnc0 hcap0 hnil0 hlf0 hsv1 hnc1 hcap1 hnil1 hlf1
    obtain ⟨w1, w2, w3, r1, r2, r3, hb3, hlt3, hlook⟩ := three_map wc 5 3 1 (by decide) (by decide) (by decide)
    go_wp2_with fail
    refine (kinds_any w3).mono ?_
    rintro e w' ⟨rfl, rfl⟩
    clear hmm r1 r2 r3
    go_wp2_with fail
    go_loopg [26] 3 (fun g v W => RoundRel w w3 g v W)
    case atStart => exact ⟨0, by omega, by omega, rfl, Below.refl _ _⟩
    case round =>
      obtain ⟨i, hi, hig, rfl, hbr⟩ := hrel
      have hb3r : Below w3.heap.size w3 wr := ((Below.refl _ w3).alloc (Nat.le_refl _) _).trans (hbr.mono (by rw [World.size_alloc]; omega))
      have hbcr : Below wc.heap.size wc wr := hb3.trans (hb3r.mono hb3.size)
      have hTr : Tabs wr := hTc.below hbcr
      have hBar := hBa.below hbcr
      have hBbr := hBb.below hbcr
      have HIG := Lib.hid hig
      clear hig
      obtain rfl | rfl | rfl | rfl : i = 0 ∨ i = 1 ∨ i = 2 ∨ i = 3 := by omega
      · have k0 := kindsO_cell w3 wr hbr 0
        have k1 := kindsO_cell w3 wr hbr 1
        have k2 := kindsO_cell w3 wr hbr 2
        simp only [List.getElem?_toArray, List.getElem?_cons_zero, List.getElem?_cons_succ] at k0 k1 k2
        have hBox := Lib.hid (box_two wr _ (.int .i64 5) (.func (.func 12) #[] #[]) (.func (.func 14) #[] #[]) (Below.refl _ _))
        go_wp2_with fail
        have q0 := hBox.out.1
        have hLk := hlook (wr.alloc (.cells #[.int .i64 5, .func (.func 12) #[] #[], .func (.func 14) #[] #[]] 28)) (((alloc_below wr _).block _ (by have := hbcr.size; have := hb3r.size; omega)).trans (hb3r.block _ hlt3))
        have hg : ∀ n, (Instr.lookup 43 (.map (some wc.heap.size)) (.int .i64 5) false).run Tryd.prog ((wr.alloc (.cells #[.int .i64 5, .func (.func 12) #[] #[], .func (.func 14) #[] #[]] 28)).drewN n) = .ok (.int .i64 5) ((wr.alloc (.cells #[.int .i64 5, .func (.func 12) #[] #[], .func (.func 14) #[] #[]] 28)).drewN n) := fun n => (hlook ((wr.alloc (.cells #[.int .i64 5, .func (.func 12) #[] #[], .func (.func 14) #[] #[]] 28)).drewN n) (((alloc_below wr _).block _ (by have := hbcr.size; have := hb3r.size; omega)).trans (hb3r.block _ hlt3))).1
        go_quiet (fail)
        generalize hW0 : (wr.alloc (.cells #[.int .i64 5, .func (.func 12) #[] #[], .func (.func 14) #[] #[]] 28)).drewN nq = W0
        have hb0 : Below wr.heap.size wr W0 := by rw [← hW0]; exact (alloc_below wr _).trans ((drewN_below _ _).mono (by rw [World.size_alloc]; omega))
        have hS0 : W0.cell? ⟨wr.heap.size, 0, none⟩ = some (.int .i64 5) ∧ W0.cell? ⟨wr.heap.size, 1, none⟩ = some (.func (.func 12) #[] #[]) := by rw [← hW0]; exact hBox.out
        have hlt0 : wr.heap.size < W0.heap.size := by rw [← hW0]; show wr.heap.size < (wr.alloc _).heap.size; rw [World.size_alloc]; omega
        clear hW0 hg hLk q0
        have hT0 := (hTr.below hb0).drew
        have hBa0 := (hBar.below hb0).drew
        have hBb0 := (hBbr.below hb0).drew
        have hS0d := two_drew hS0
        have hwl : (a.take (a.length / 5 * 5)).length ≤ 300 := by rw [List.length_take]; omega
        have hwm : a.length / 5 * 5 ≤ a.length := by omega
        have hwf : ∀ x ∈ a.take (a.length / 5 * 5), x < 256 := fun x hx => haf x (List.mem_of_mem_take hx)
        have hwB : Bytes W0.drew (.slice pa (a.length / 5 * 5) ca) (a.take (a.length / 5 * 5)) := take_bytes hBa0 hwm
        have hj := tell_join 5 (.inl rfl) 5 (.inl ⟨rfl, rfl⟩) (a.take (a.length / 5 * 5)) b hwf hbf (by rw [List.length_take]; omega)
        have hwbf : ∀ x ∈ a.take (a.length / 5 * 5) ++ b, x < 256 := fun x hx => (List.mem_append.1 hx).elim (hwf x) (hbf x)
        have HC50 := fun W (hT : Tabs W) va (hb : Bytes W va (a.take (a.length / 5 * 5) ++ b)) => base32_any va _ (by rw [List.length_append]; omega) W hT hwbf hb
        have HC54 := fun W (hT : Tabs W) (hb : Bytes W (.slice pa (a.length / 5 * 5) ca) (a.take (a.length / 5 * 5))) => base32_any _ _ (by omega) W hT hwf hb
        have HC58 := fun W (hT : Tabs W) (hb : Bytes W (.slice pb b.length cb) b) => base32_any _ _ (by omega) W hT hbf hb
        rw [show tellL L32 5 1 (a.take (a.length / 5 * 5) ++ b) = _ from hj] at HC50
        change ∀ W (hT : Tabs W) (hb : Bytes W (.slice pa (a.length / 5 * 5) ca) (a.take (a.length / 5 * 5))), Calls Tryd.prog 12 #[.slice pa (a.length / 5 * 5) ca] W (TellPost W (tellL (lettersOf 5) 5 (fillOf 5) (a.take (a.length / 5 * 5)))) at HC54
        change ∀ W (hT : Tabs W) (hb : Bytes W (.slice pb b.length cb) b), Calls Tryd.prog 12 #[.slice pb b.length cb] W (TellPost W (tellL (lettersOf 5) 5 (fillOf 5) b)) at HC58
        have hXl := tell_small 5 (.inl rfl) _ hwf hwl
        have hYl := tell_small 5 (.inl rfl) b hbf hbl
        generalize tellL (lettersOf 5) 5 (fillOf 5) (a.take (a.length / 5 * 5)) = X at HC50 HC54 hj hXl
        have hcl : (a.take (a.length / 5 * 5)).length = a.length / 5 * 5 := by rw [List.length_take]; omega
        generalize a.take (a.length / 5 * 5) = wh at *
        generalize hY : tellL (lettersOf 5) 5 (fillOf 5) b = Y at HC50 HC58 hj hYl
        have HY := Lib.hid hY
        clear hY
        have hadd := add_texts X Y hXl hYl
        have H50 := Lib.hid HC50
        have H54 := Lib.hid HC54
        have H58 := Lib.hid HC58
        clear HC50 HC54 HC58 hj
        go_wp2_with fail
        go_region_held3 (fun W => W.cell? ⟨wr.heap.size, 0, none⟩ = some (.int .i64 5) ∧ W.cell? ⟨wr.heap.size, 1, none⟩ = some (.func (.func 12) #[] #[]))
          (first | go_keep | exact hS7 | exact hS6 | exact hS5 | exact hSa | exact hS4)
          (first
            | (refine step_append_eq rfl _ _ rfl rfl _ _ _ _ rfl rfl hrun ?_)
            | (go_at_call 18; refine (clone_any _ wh _ hwB (by omega)).mono ?_; rintro e w4 ⟨vc, rfl, hown, hb4⟩; obtain ⟨va, wa, hrun, hva, hga⟩ := append_any w4 _ vc wh b hown hb4.size _ (hBb0.below hb4) (fun n c he => by cases he; exact hbnil rfl) (by omega) (by omega); have hb4a := hb4.grown hga hb4.size (own_base hown); have hS4 := two_below hS0d hlt0 hb4; have hSa := two_below hS0d hlt0 hb4a; have hlta := Nat.lt_of_lt_of_le hlt0 hb4a.size; have hTa := hT0.below hb4a)
            | (go_at_call 12; refine (H50.out _ hTa va hva).mono ?_; rintro e w5 ⟨rfl, hb5⟩; have hS5 := two_below hSa hlta hb5; have hb5a := hb4a.trans (hb5.mono hb4a.size); have hlt5 := Nat.lt_of_lt_of_le hlt0 hb5a.size; have hT5 := hT0.below hb5a)
            | (go_at_call 12; refine (H54.out _ hT5 (hwB.below hb5a)).mono ?_; rintro e w6 ⟨rfl, hb6⟩; have hS6 := two_below hS5 hlt5 hb6; have hb6a := hb5a.trans (hb6.mono hb5a.size); have hlt6 := Nat.lt_of_lt_of_le hlt0 hb6a.size; have hT6 := hT0.below hb6a)
            | (go_at_call 12; refine (H58.out _ hT6 (hBb0.below hb6a)).mono ?_; rintro e w7 ⟨rfl, hb7⟩; have hS7 := two_below hS6 hlt6 hb7; have hb7a := hb6a.trans (hb7.mono hb6a.size)))
        have hcb7 := (drew_below W0).trans (hb7a.mono (Nat.le_refl _))
        have hw7 : Below wr.heap.size wr w7 := hb0.trans (hcb7.mono hb0.size)
        clear hown hrun hva hga hb4 hb4a hb5 hb5a hb6 hb6a hb7 hb7a hS4 hSa hS5 hS6 hTa hT5 hT6 hlta hlt5 hlt6 hwB hadd
        have hlt7 : wr.heap.size < w7.heap.size := Nat.lt_of_lt_of_le hlt0 hcb7.size
        have hT7 := hTr.below hw7
        have hB7 := hBbr.below hw7
        by_cases hbz : b.length = 0
        · go_wp2_with fail
          go_roundg 2
          case rel => exact ⟨1, by omega, by omega, rfl, hbr.trans (hw7.mono hbr.size)⟩
          case measure => have := HIG.out; omega
        · go_wp2_with fail
          refine (clone_any _ b _ hB7 (by omega)).mono ?_
          rintro e w8 ⟨vc8, rfl, hown8, hb8⟩
          obtain ⟨g, cg, rfl, hg8, hgB, hglt⟩ := own_some hown8 hbz
          have hm : k % b.length < b.length := Nat.mod_lt _ (by omega)
          obtain ⟨c0, f0⟩ := hg8 (k % b.length) hm
          go_wp2_with fail
          have hbm := hbf (b[k % b.length]'hm) (List.getElem_mem hm)
          obtain ⟨z, hz, hz2, hzne⟩ := xor_bit (b[k % b.length]'hm) hbm (k % 8) (Nat.mod_lt _ (by omega))
          rw [hz]
          have hB9 := set_bytes (cap := cg) hg8 hglt hm (z := z)
          have hb9 : Below w7.heap.size w7 (w8.setCell ⟨g, k % b.length, none⟩ (.int .u8 (z : Int))) := hb8.setCell hgB _
          generalize w8.setCell ⟨g, k % b.length, none⟩ (.int .u8 (z : Int)) = w9 at hB9 hb9 ⊢
          have hcf : ∀ x ∈ b.set (k % b.length) z, x < 256 := fun x hx => (List.mem_or_eq_of_mem_set hx).elim (hbf x) (fun e => e ▸ hz2)
          have hcl : (b.set (k % b.length) z).length = b.length := List.length_set
          have hcn : b.set (k % b.length) z ≠ b := set_ne hm hzne
          clear hg8 c0 f0 hz hown8 hb8
          have htn : tellL (lettersOf 5) 5 (fillOf 5) (b.set (k % b.length) z) ≠ Y := fun e => hcn (tell_inj 5 (.inl rfl) _ _ hcf hbf hcl (e.trans HY.out.symm))
          have htl : (tellL (lettersOf 5) 5 (fillOf 5) (b.set (k % b.length) z)).length = Y.length := (tell_len_same 5 (.inl rfl) _ _ hcf hbf hcl).trans (congrArg List.length HY.out)
          have HCc := fun W (hT : Tabs W) (hb : Bytes W (.slice (some ⟨g, 0, none⟩) b.length cg) (b.set (k % b.length) z)) => base32_any _ _ (by omega) W hT hcf hb
          change ∀ W (hT : Tabs W) (hb : Bytes W (.slice (some ⟨g, 0, none⟩) b.length cg) (b.set (k % b.length) z)), Calls Tryd.prog 12 #[.slice (some ⟨g, 0, none⟩) b.length cg] W (TellPost W (tellL (lettersOf 5) 5 (fillOf 5) (b.set (k % b.length) z))) at HCc
          generalize tellL (lettersOf 5) 5 (fillOf 5) (b.set (k % b.length) z) = Z at HCc htn htl
          generalize b.set (k % b.length) z = c at hB9 HCc hcf
          have hnb := text_ne htn
          have hz1 : ¬ Z = Y := htn
          have hz2 : (Z == Y) = false := by simpa using htn
          have hz3 : ¬ (⟨Z.toArray⟩ : ByteArray) = ⟨Y.toArray⟩ := fun e => htn (by simpa using e)
          have hz5 : ¬ Z.toArray = Y.toArray := fun e => htn (by simpa using e)
          have hz6 : (Z.toArray == Y.toArray) = false := by simpa using htn
          have hz7 : decide (Z = Y) = false := by simpa using htn
          have hlen1 : (⟨Z.toArray⟩ : ByteArray).size = (⟨Y.toArray⟩ : ByteArray).size := htl
          have HC := Lib.hid HCc
          clear HCc htn htl hcn
          have hS9 := (two_below (two_below hS7 hlt7 hb9) (Nat.lt_of_lt_of_le hlt7 hb9.size) (drew_below _))
          have hw9 : Below wr.heap.size wr w9 := hw7.trans (hb9.mono hw7.size)
          have hT9 := (hTr.below hw9).drew
          have hB9d := hB9.drew
          have hBb9 := (hBbr.below hw9).drew
          have hlt9 : wr.heap.size < w9.heap.size := Nat.lt_of_lt_of_le hlt7 hb9.size
          have hlen2 : Z.length = Y.length := hlen1
          go_region_held3 (fun W => W.cell? ⟨wr.heap.size, 0, none⟩ = some (.int .i64 5) ∧ W.cell? ⟨wr.heap.size, 1, none⟩ = some (.func (.func 12) #[] #[]))
            (first | go_keep | exact hS13 | exact hS12 | exact hS11 | exact hS10)
            (first
              | (go_at_call 12; refine (HC.out _ hT9 hB9d).mono ?_; rintro e u1 ⟨rfl, hu1⟩; have hS10 := two_below hS9 hlt9 hu1; have hlt10 := Nat.lt_of_lt_of_le hlt9 hu1.size; have hT10 := hT9.below hu1)
              | (go_at_call 12; refine (H58.out _ hT10 (hBb9.below hu1)).mono ?_; rintro e u2 ⟨rfl, hu2⟩; have hS11 := two_below hS10 hlt10 hu2; have hu2a := hu1.trans (hu2.mono hu1.size); have hlt11 := Nat.lt_of_lt_of_le hlt9 hu2a.size; have hT11 := hT9.below hu2a)
              | (go_at_call 12; refine (HC.out _ hT11 (hB9d.below hu2a)).mono ?_; rintro e u3 ⟨rfl, hu3⟩; have hS12 := two_below hS11 hlt11 hu3; have hu3a := hu2a.trans (hu3.mono hu2a.size); have hlt12 := Nat.lt_of_lt_of_le hlt9 hu3a.size; have hT12 := hT9.below hu3a)
              | (go_at_call 12; refine (H58.out _ hT12 (hBb9.below hu3a)).mono ?_; rintro e u4 ⟨rfl, hu4⟩; have hS13 := two_below hS12 hlt12 hu4; have hu4a := hu3a.trans (hu4.mono hu3a.size)))
          go_wp2_with fail
          go_roundg 2
          case rel => exact ⟨1, by omega, by omega, rfl, hbr.trans ((hw9.trans (((drew_below w9).trans hu4a).mono hw9.size)).mono hbr.size)⟩
          case measure => have := HIG.out; omega
      · have k0 := kindsO_cell w3 wr hbr 3
        have k1 := kindsO_cell w3 wr hbr 4
        have k2 := kindsO_cell w3 wr hbr 5
        simp only [List.getElem?_toArray, List.getElem?_cons_zero, List.getElem?_cons_succ] at k0 k1 k2
        have hBox := Lib.hid (box_two wr _ (.int .i64 6) (.func (.func 13) #[] #[]) (.func (.func 15) #[] #[]) (Below.refl _ _))
        go_wp2_with fail
        have q0 := hBox.out.1
        have hLk := hlook (wr.alloc (.cells #[.int .i64 6, .func (.func 13) #[] #[], .func (.func 15) #[] #[]] 28)) (((alloc_below wr _).block _ (by have := hbcr.size; have := hb3r.size; omega)).trans (hb3r.block _ hlt3))
        have hg : ∀ n, (Instr.lookup 43 (.map (some wc.heap.size)) (.int .i64 6) false).run Tryd.prog ((wr.alloc (.cells #[.int .i64 6, .func (.func 13) #[] #[], .func (.func 15) #[] #[]] 28)).drewN n) = .ok (.int .i64 3) ((wr.alloc (.cells #[.int .i64 6, .func (.func 13) #[] #[], .func (.func 15) #[] #[]] 28)).drewN n) := fun n => (hlook ((wr.alloc (.cells #[.int .i64 6, .func (.func 13) #[] #[], .func (.func 15) #[] #[]] 28)).drewN n) (((alloc_below wr _).block _ (by have := hbcr.size; have := hb3r.size; omega)).trans (hb3r.block _ hlt3))).2.1
        go_quiet (fail)
        generalize hW0 : (wr.alloc (.cells #[.int .i64 6, .func (.func 13) #[] #[], .func (.func 15) #[] #[]] 28)).drewN nq = W0
        have hb0 : Below wr.heap.size wr W0 := by rw [← hW0]; exact (alloc_below wr _).trans ((drewN_below _ _).mono (by rw [World.size_alloc]; omega))
        have hS0 : W0.cell? ⟨wr.heap.size, 0, none⟩ = some (.int .i64 6) ∧ W0.cell? ⟨wr.heap.size, 1, none⟩ = some (.func (.func 13) #[] #[]) := by rw [← hW0]; exact hBox.out
        have hlt0 : wr.heap.size < W0.heap.size := by rw [← hW0]; show wr.heap.size < (wr.alloc _).heap.size; rw [World.size_alloc]; omega
        clear hW0 hg hLk q0
        have hT0 := (hTr.below hb0).drew
        have hBa0 := (hBar.below hb0).drew
        have hBb0 := (hBbr.below hb0).drew
        have hS0d := two_drew hS0
        have hwl : (a.take (a.length / 3 * 3)).length ≤ 300 := by rw [List.length_take]; omega
        have hwm : a.length / 3 * 3 ≤ a.length := by omega
        have hwf : ∀ x ∈ a.take (a.length / 3 * 3), x < 256 := fun x hx => haf x (List.mem_of_mem_take hx)
        have hwB : Bytes W0.drew (.slice pa (a.length / 3 * 3) ca) (a.take (a.length / 3 * 3)) := take_bytes hBa0 hwm
        have hj := tell_join 6 (.inr (.inl rfl)) 3 (.inr (.inl ⟨rfl, rfl⟩)) (a.take (a.length / 3 * 3)) b hwf hbf (by rw [List.length_take]; omega)
        have hwbf : ∀ x ∈ a.take (a.length / 3 * 3) ++ b, x < 256 := fun x hx => (List.mem_append.1 hx).elim (hwf x) (hbf x)
        have HC50 := fun W (hT : Tabs W) va (hb : Bytes W va (a.take (a.length / 3 * 3) ++ b)) => base64_any va _ (by rw [List.length_append]; omega) W hT hwbf hb
        have HC54 := fun W (hT : Tabs W) (hb : Bytes W (.slice pa (a.length / 3 * 3) ca) (a.take (a.length / 3 * 3))) => base64_any _ _ (by omega) W hT hwf hb
        have HC58 := fun W (hT : Tabs W) (hb : Bytes W (.slice pb b.length cb) b) => base64_any _ _ (by omega) W hT hbf hb
        rw [show tellL L64 6 4 (a.take (a.length / 3 * 3) ++ b) = _ from hj] at HC50
        change ∀ W (hT : Tabs W) (hb : Bytes W (.slice pa (a.length / 3 * 3) ca) (a.take (a.length / 3 * 3))), Calls Tryd.prog 13 #[.slice pa (a.length / 3 * 3) ca] W (TellPost W (tellL (lettersOf 6) 6 (fillOf 6) (a.take (a.length / 3 * 3)))) at HC54
        change ∀ W (hT : Tabs W) (hb : Bytes W (.slice pb b.length cb) b), Calls Tryd.prog 13 #[.slice pb b.length cb] W (TellPost W (tellL (lettersOf 6) 6 (fillOf 6) b)) at HC58
        have hXl := tell_small 6 (.inr (.inl rfl)) _ hwf hwl
        have hYl := tell_small 6 (.inr (.inl rfl)) b hbf hbl
        generalize tellL (lettersOf 6) 6 (fillOf 6) (a.take (a.length / 3 * 3)) = X at HC50 HC54 hj hXl
        have hcl : (a.take (a.length / 3 * 3)).length = a.length / 3 * 3 := by rw [List.length_take]; omega
        generalize a.take (a.length / 3 * 3) = wh at *
        generalize hY : tellL (lettersOf 6) 6 (fillOf 6) b = Y at HC50 HC58 hj hYl
        have HY := Lib.hid hY
        clear hY
        have hadd := add_texts X Y hXl hYl
        have H50 := Lib.hid HC50
        have H54 := Lib.hid HC54
        have H58 := Lib.hid HC58
        clear HC50 HC54 HC58 hj
        go_wp2_with fail
        go_region_held3 (fun W => W.cell? ⟨wr.heap.size, 0, none⟩ = some (.int .i64 6) ∧ W.cell? ⟨wr.heap.size, 1, none⟩ = some (.func (.func 13) #[] #[]))
          (first | go_keep | exact hS7 | exact hS6 | exact hS5 | exact hSa | exact hS4)
          (first
            | (refine step_append_eq rfl _ _ rfl rfl _ _ _ _ rfl rfl hrun ?_)
            | (go_at_call 18; refine (clone_any _ wh _ hwB (by omega)).mono ?_; rintro e w4 ⟨vc, rfl, hown, hb4⟩; obtain ⟨va, wa, hrun, hva, hga⟩ := append_any w4 _ vc wh b hown hb4.size _ (hBb0.below hb4) (fun n c he => by cases he; exact hbnil rfl) (by omega) (by omega); have hb4a := hb4.grown hga hb4.size (own_base hown); have hS4 := two_below hS0d hlt0 hb4; have hSa := two_below hS0d hlt0 hb4a; have hlta := Nat.lt_of_lt_of_le hlt0 hb4a.size; have hTa := hT0.below hb4a)
            | (go_at_call 13; refine (H50.out _ hTa va hva).mono ?_; rintro e w5 ⟨rfl, hb5⟩; have hS5 := two_below hSa hlta hb5; have hb5a := hb4a.trans (hb5.mono hb4a.size); have hlt5 := Nat.lt_of_lt_of_le hlt0 hb5a.size; have hT5 := hT0.below hb5a)
            | (go_at_call 13; refine (H54.out _ hT5 (hwB.below hb5a)).mono ?_; rintro e w6 ⟨rfl, hb6⟩; have hS6 := two_below hS5 hlt5 hb6; have hb6a := hb5a.trans (hb6.mono hb5a.size); have hlt6 := Nat.lt_of_lt_of_le hlt0 hb6a.size; have hT6 := hT0.below hb6a)
            | (go_at_call 13; refine (H58.out _ hT6 (hBb0.below hb6a)).mono ?_; rintro e w7 ⟨rfl, hb7⟩; have hS7 := two_below hS6 hlt6 hb7; have hb7a := hb6a.trans (hb7.mono hb6a.size)))
        have hcb7 := (drew_below W0).trans (hb7a.mono (Nat.le_refl _))
        have hw7 : Below wr.heap.size wr w7 := hb0.trans (hcb7.mono hb0.size)
        clear hown hrun hva hga hb4 hb4a hb5 hb5a hb6 hb6a hb7 hb7a hS4 hSa hS5 hS6 hTa hT5 hT6 hlta hlt5 hlt6 hwB hadd
        have hlt7 : wr.heap.size < w7.heap.size := Nat.lt_of_lt_of_le hlt0 hcb7.size
        have hT7 := hTr.below hw7
        have hB7 := hBbr.below hw7
        by_cases hbz : b.length = 0
        · go_wp2_with fail
          go_roundg 1
          case rel => exact ⟨2, by omega, by omega, rfl, hbr.trans (hw7.mono hbr.size)⟩
          case measure => have := HIG.out; omega
        · go_wp2_with fail
          refine (clone_any _ b _ hB7 (by omega)).mono ?_
          rintro e w8 ⟨vc8, rfl, hown8, hb8⟩
          obtain ⟨g, cg, rfl, hg8, hgB, hglt⟩ := own_some hown8 hbz
          have hm : k % b.length < b.length := Nat.mod_lt _ (by omega)
          obtain ⟨c0, f0⟩ := hg8 (k % b.length) hm
          go_wp2_with fail
          have hbm := hbf (b[k % b.length]'hm) (List.getElem_mem hm)
          obtain ⟨z, hz, hz2, hzne⟩ := xor_bit (b[k % b.length]'hm) hbm (k % 8) (Nat.mod_lt _ (by omega))
          rw [hz]
          have hB9 := set_bytes (cap := cg) hg8 hglt hm (z := z)
          have hb9 : Below w7.heap.size w7 (w8.setCell ⟨g, k % b.length, none⟩ (.int .u8 (z : Int))) := hb8.setCell hgB _
          generalize w8.setCell ⟨g, k % b.length, none⟩ (.int .u8 (z : Int)) = w9 at hB9 hb9 ⊢
          have hcf : ∀ x ∈ b.set (k % b.length) z, x < 256 := fun x hx => (List.mem_or_eq_of_mem_set hx).elim (hbf x) (fun e => e ▸ hz2)
          have hcl : (b.set (k % b.length) z).length = b.length := List.length_set
          have hcn : b.set (k % b.length) z ≠ b := set_ne hm hzne
          clear hg8 c0 f0 hz hown8 hb8
          have htn : tellL (lettersOf 6) 6 (fillOf 6) (b.set (k % b.length) z) ≠ Y := fun e => hcn (tell_inj 6 (.inr (.inl rfl)) _ _ hcf hbf hcl (e.trans HY.out.symm))
          have htl : (tellL (lettersOf 6) 6 (fillOf 6) (b.set (k % b.length) z)).length = Y.length := (tell_len_same 6 (.inr (.inl rfl)) _ _ hcf hbf hcl).trans (congrArg List.length HY.out)
          have HCc := fun W (hT : Tabs W) (hb : Bytes W (.slice (some ⟨g, 0, none⟩) b.length cg) (b.set (k % b.length) z)) => base64_any _ _ (by omega) W hT hcf hb
          change ∀ W (hT : Tabs W) (hb : Bytes W (.slice (some ⟨g, 0, none⟩) b.length cg) (b.set (k % b.length) z)), Calls Tryd.prog 13 #[.slice (some ⟨g, 0, none⟩) b.length cg] W (TellPost W (tellL (lettersOf 6) 6 (fillOf 6) (b.set (k % b.length) z))) at HCc
          generalize tellL (lettersOf 6) 6 (fillOf 6) (b.set (k % b.length) z) = Z at HCc htn htl
          generalize b.set (k % b.length) z = c at hB9 HCc hcf
          have hnb := text_ne htn
          have hz1 : ¬ Z = Y := htn
          have hz2 : (Z == Y) = false := by simpa using htn
          have hz3 : ¬ (⟨Z.toArray⟩ : ByteArray) = ⟨Y.toArray⟩ := fun e => htn (by simpa using e)
          have hz5 : ¬ Z.toArray = Y.toArray := fun e => htn (by simpa using e)
          have hz6 : (Z.toArray == Y.toArray) = false := by simpa using htn
          have hz7 : decide (Z = Y) = false := by simpa using htn
          have hlen1 : (⟨Z.toArray⟩ : ByteArray).size = (⟨Y.toArray⟩ : ByteArray).size := htl
          have HC := Lib.hid HCc
          clear HCc htn htl hcn
          have hS9 := (two_below (two_below hS7 hlt7 hb9) (Nat.lt_of_lt_of_le hlt7 hb9.size) (drew_below _))
          have hw9 : Below wr.heap.size wr w9 := hw7.trans (hb9.mono hw7.size)
          have hT9 := (hTr.below hw9).drew
          have hB9d := hB9.drew
          have hBb9 := (hBbr.below hw9).drew
          have hlt9 : wr.heap.size < w9.heap.size := Nat.lt_of_lt_of_le hlt7 hb9.size
          have hlen2 : Z.length = Y.length := hlen1
          go_region_held3 (fun W => W.cell? ⟨wr.heap.size, 0, none⟩ = some (.int .i64 6) ∧ W.cell? ⟨wr.heap.size, 1, none⟩ = some (.func (.func 13) #[] #[]))
            (first | go_keep | exact hS13 | exact hS12 | exact hS11 | exact hS10)
            (first
              | (go_at_call 13; refine (HC.out _ hT9 hB9d).mono ?_; rintro e u1 ⟨rfl, hu1⟩; have hS10 := two_below hS9 hlt9 hu1; have hlt10 := Nat.lt_of_lt_of_le hlt9 hu1.size; have hT10 := hT9.below hu1)
              | (go_at_call 13; refine (H58.out _ hT10 (hBb9.below hu1)).mono ?_; rintro e u2 ⟨rfl, hu2⟩; have hS11 := two_below hS10 hlt10 hu2; have hu2a := hu1.trans (hu2.mono hu1.size); have hlt11 := Nat.lt_of_lt_of_le hlt9 hu2a.size; have hT11 := hT9.below hu2a)
              | (go_at_call 13; refine (HC.out _ hT11 (hB9d.below hu2a)).mono ?_; rintro e u3 ⟨rfl, hu3⟩; have hS12 := two_below hS11 hlt11 hu3; have hu3a := hu2a.trans (hu3.mono hu2a.size); have hlt12 := Nat.lt_of_lt_of_le hlt9 hu3a.size; have hT12 := hT9.below hu3a)
              | (go_at_call 13; refine (H58.out _ hT12 (hBb9.below hu3a)).mono ?_; rintro e u4 ⟨rfl, hu4⟩; have hS13 := two_below hS12 hlt12 hu4; have hu4a := hu3a.trans (hu4.mono hu3a.size)))
          go_wp2_with fail
          go_roundg 1
          case rel => exact ⟨2, by omega, by omega, rfl, hbr.trans ((hw9.trans (((drew_below w9).trans hu4a).mono hw9.size)).mono hbr.size)⟩
          case measure => have := HIG.out; omega
      · have k0 := kindsO_cell w3 wr hbr 6
        have k1 := kindsO_cell w3 wr hbr 7
        have k2 := kindsO_cell w3 wr hbr 8
        simp only [List.getElem?_toArray, List.getElem?_cons_zero, List.getElem?_cons_succ] at k0 k1 k2
        have hBox := Lib.hid (box_two wr _ (.int .i64 4) (.func (.func 17) #[] #[]) (.func (.func 16) #[] #[]) (Below.refl _ _))
        go_wp2_with fail
        have q0 := hBox.out.1
        have hLk := hlook (wr.alloc (.cells #[.int .i64 4, .func (.func 17) #[] #[], .func (.func 16) #[] #[]] 28)) (((alloc_below wr _).block _ (by have := hbcr.size; have := hb3r.size; omega)).trans (hb3r.block _ hlt3))
        have hg : ∀ n, (Instr.lookup 43 (.map (some wc.heap.size)) (.int .i64 4) false).run Tryd.prog ((wr.alloc (.cells #[.int .i64 4, .func (.func 17) #[] #[], .func (.func 16) #[] #[]] 28)).drewN n) = .ok (.int .i64 1) ((wr.alloc (.cells #[.int .i64 4, .func (.func 17) #[] #[], .func (.func 16) #[] #[]] 28)).drewN n) := fun n => (hlook ((wr.alloc (.cells #[.int .i64 4, .func (.func 17) #[] #[], .func (.func 16) #[] #[]] 28)).drewN n) (((alloc_below wr _).block _ (by have := hbcr.size; have := hb3r.size; omega)).trans (hb3r.block _ hlt3))).2.2
        go_quiet (fail)
        generalize hW0 : (wr.alloc (.cells #[.int .i64 4, .func (.func 17) #[] #[], .func (.func 16) #[] #[]] 28)).drewN nq = W0
        have hb0 : Below wr.heap.size wr W0 := by rw [← hW0]; exact (alloc_below wr _).trans ((drewN_below _ _).mono (by rw [World.size_alloc]; omega))
        have hS0 : W0.cell? ⟨wr.heap.size, 0, none⟩ = some (.int .i64 4) ∧ W0.cell? ⟨wr.heap.size, 1, none⟩ = some (.func (.func 17) #[] #[]) := by rw [← hW0]; exact hBox.out
        have hlt0 : wr.heap.size < W0.heap.size := by rw [← hW0]; show wr.heap.size < (wr.alloc _).heap.size; rw [World.size_alloc]; omega
        clear hW0 hg hLk q0
        have hT0 := (hTr.below hb0).drew
        have hBa0 := (hBar.below hb0).drew
        have hBb0 := (hBbr.below hb0).drew
        have hS0d := two_drew hS0
        have hwl : (a.take (a.length / 1 * 1)).length ≤ 300 := by rw [List.length_take]; omega
        have hwm : a.length / 1 * 1 ≤ a.length := by omega
        have hwf : ∀ x ∈ a.take (a.length / 1 * 1), x < 256 := fun x hx => haf x (List.mem_of_mem_take hx)
        have hwB : Bytes W0.drew (.slice pa (a.length / 1 * 1) ca) (a.take (a.length / 1 * 1)) := take_bytes hBa0 hwm
        have hj := tell_join 4 (.inr (.inr rfl)) 1 (.inr (.inr ⟨rfl, rfl⟩)) (a.take (a.length / 1 * 1)) b hwf hbf (by rw [List.length_take]; omega)
        have hwbf : ∀ x ∈ a.take (a.length / 1 * 1) ++ b, x < 256 := fun x hx => (List.mem_append.1 hx).elim (hwf x) (hbf x)
        have HC50 := fun W (hT : Tabs W) va (hb : Bytes W va (a.take (a.length / 1 * 1) ++ b)) => hex_any va _ (by rw [List.length_append]; omega) W hT hwbf hb
        have HC54 := fun W (hT : Tabs W) (hb : Bytes W (.slice pa (a.length / 1 * 1) ca) (a.take (a.length / 1 * 1))) => hex_any _ _ (by omega) W hT hwf hb
        have HC58 := fun W (hT : Tabs W) (hb : Bytes W (.slice pb b.length cb) b) => hex_any _ _ (by omega) W hT hbf hb
        rw [show tellL L16 4 1 (a.take (a.length / 1 * 1) ++ b) = _ from hj] at HC50
        change ∀ W (hT : Tabs W) (hb : Bytes W (.slice pa (a.length / 1 * 1) ca) (a.take (a.length / 1 * 1))), Calls Tryd.prog 17 #[.slice pa (a.length / 1 * 1) ca] W (TellPost W (tellL (lettersOf 4) 4 (fillOf 4) (a.take (a.length / 1 * 1)))) at HC54
        change ∀ W (hT : Tabs W) (hb : Bytes W (.slice pb b.length cb) b), Calls Tryd.prog 17 #[.slice pb b.length cb] W (TellPost W (tellL (lettersOf 4) 4 (fillOf 4) b)) at HC58
        have hXl := tell_small 4 (.inr (.inr rfl)) _ hwf hwl
        have hYl := tell_small 4 (.inr (.inr rfl)) b hbf hbl
        generalize tellL (lettersOf 4) 4 (fillOf 4) (a.take (a.length / 1 * 1)) = X at HC50 HC54 hj hXl
        have hcl : (a.take (a.length / 1 * 1)).length = a.length / 1 * 1 := by rw [List.length_take]; omega
        generalize a.take (a.length / 1 * 1) = wh at *
        generalize hY : tellL (lettersOf 4) 4 (fillOf 4) b = Y at HC50 HC58 hj hYl
        have HY := Lib.hid hY
        clear hY
        have hadd := add_texts X Y hXl hYl
        simp only [Nat.div_one, Nat.mul_one] at hwB HC54
        have H50 := Lib.hid HC50
        have H54 := Lib.hid HC54
        have H58 := Lib.hid HC58
        clear HC50 HC54 HC58 hj
        go_wp2_with fail
        go_region_held3 (fun W => W.cell? ⟨wr.heap.size, 0, none⟩ = some (.int .i64 4) ∧ W.cell? ⟨wr.heap.size, 1, none⟩ = some (.func (.func 17) #[] #[]))
          (first | go_keep | exact hS7 | exact hS6 | exact hS5 | exact hSa | exact hS4)
          (first
            | (refine step_append_eq rfl _ _ rfl rfl _ _ _ _ rfl rfl hrun ?_)
            | (go_at_call 18; refine (clone_any _ wh _ hwB (by omega)).mono ?_; rintro e w4 ⟨vc, rfl, hown, hb4⟩; obtain ⟨va, wa, hrun, hva, hga⟩ := append_any w4 _ vc wh b hown hb4.size _ (hBb0.below hb4) (fun n c he => by cases he; exact hbnil rfl) (by omega) (by omega); have hb4a := hb4.grown hga hb4.size (own_base hown); have hS4 := two_below hS0d hlt0 hb4; have hSa := two_below hS0d hlt0 hb4a; have hlta := Nat.lt_of_lt_of_le hlt0 hb4a.size; have hTa := hT0.below hb4a)
            | (go_at_call 17; refine (H50.out _ hTa va hva).mono ?_; rintro e w5 ⟨rfl, hb5⟩; have hS5 := two_below hSa hlta hb5; have hb5a := hb4a.trans (hb5.mono hb4a.size); have hlt5 := Nat.lt_of_lt_of_le hlt0 hb5a.size; have hT5 := hT0.below hb5a)
            | (go_at_call 17; refine (H54.out _ hT5 (hwB.below hb5a)).mono ?_; rintro e w6 ⟨rfl, hb6⟩; have hS6 := two_below hS5 hlt5 hb6; have hb6a := hb5a.trans (hb6.mono hb5a.size); have hlt6 := Nat.lt_of_lt_of_le hlt0 hb6a.size; have hT6 := hT0.below hb6a)
            | (go_at_call 17; refine (H58.out _ hT6 (hBb0.below hb6a)).mono ?_; rintro e w7 ⟨rfl, hb7⟩; have hS7 := two_below hS6 hlt6 hb7; have hb7a := hb6a.trans (hb7.mono hb6a.size)))
        have hcb7 := (drew_below W0).trans (hb7a.mono (Nat.le_refl _))
        have hw7 : Below wr.heap.size wr w7 := hb0.trans (hcb7.mono hb0.size)
        clear hown hrun hva hga hb4 hb4a hb5 hb5a hb6 hb6a hb7 hb7a hS4 hSa hS5 hS6 hTa hT5 hT6 hlta hlt5 hlt6 hwB hadd
        have hlt7 : wr.heap.size < w7.heap.size := Nat.lt_of_lt_of_le hlt0 hcb7.size
        have hT7 := hTr.below hw7
        have hB7 := hBbr.below hw7
        by_cases hbz : b.length = 0
        · go_wp2_with fail
          go_roundg 0
          case rel => exact ⟨3, by omega, by omega, rfl, hbr.trans (hw7.mono hbr.size)⟩
          case measure => have := HIG.out; omega
        · go_wp2_with fail
          refine (clone_any _ b _ hB7 (by omega)).mono ?_
          rintro e w8 ⟨vc8, rfl, hown8, hb8⟩
          obtain ⟨g, cg, rfl, hg8, hgB, hglt⟩ := own_some hown8 hbz
          have hm : k % b.length < b.length := Nat.mod_lt _ (by omega)
          obtain ⟨c0, f0⟩ := hg8 (k % b.length) hm
          go_wp2_with fail
          have hbm := hbf (b[k % b.length]'hm) (List.getElem_mem hm)
          obtain ⟨z, hz, hz2, hzne⟩ := xor_bit (b[k % b.length]'hm) hbm (k % 8) (Nat.mod_lt _ (by omega))
          rw [hz]
          have hB9 := set_bytes (cap := cg) hg8 hglt hm (z := z)
          have hb9 : Below w7.heap.size w7 (w8.setCell ⟨g, k % b.length, none⟩ (.int .u8 (z : Int))) := hb8.setCell hgB _
          generalize w8.setCell ⟨g, k % b.length, none⟩ (.int .u8 (z : Int)) = w9 at hB9 hb9 ⊢
          have hcf : ∀ x ∈ b.set (k % b.length) z, x < 256 := fun x hx => (List.mem_or_eq_of_mem_set hx).elim (hbf x) (fun e => e ▸ hz2)
          have hcl : (b.set (k % b.length) z).length = b.length := List.length_set
          have hcn : b.set (k % b.length) z ≠ b := set_ne hm hzne
          clear hg8 c0 f0 hz hown8 hb8
          have htn : tellL (lettersOf 4) 4 (fillOf 4) (b.set (k % b.length) z) ≠ Y := fun e => hcn (tell_inj 4 (.inr (.inr rfl)) _ _ hcf hbf hcl (e.trans HY.out.symm))
          have htl : (tellL (lettersOf 4) 4 (fillOf 4) (b.set (k % b.length) z)).length = Y.length := (tell_len_same 4 (.inr (.inr rfl)) _ _ hcf hbf hcl).trans (congrArg List.length HY.out)
          have HCc := fun W (hT : Tabs W) (hb : Bytes W (.slice (some ⟨g, 0, none⟩) b.length cg) (b.set (k % b.length) z)) => hex_any _ _ (by omega) W hT hcf hb
          change ∀ W (hT : Tabs W) (hb : Bytes W (.slice (some ⟨g, 0, none⟩) b.length cg) (b.set (k % b.length) z)), Calls Tryd.prog 17 #[.slice (some ⟨g, 0, none⟩) b.length cg] W (TellPost W (tellL (lettersOf 4) 4 (fillOf 4) (b.set (k % b.length) z))) at HCc
          generalize tellL (lettersOf 4) 4 (fillOf 4) (b.set (k % b.length) z) = Z at HCc htn htl
          generalize b.set (k % b.length) z = c at hB9 HCc hcf
          have hnb := text_ne htn
          have hz1 : ¬ Z = Y := htn
          have hz2 : (Z == Y) = false := by simpa using htn
          have hz3 : ¬ (⟨Z.toArray⟩ : ByteArray) = ⟨Y.toArray⟩ := fun e => htn (by simpa using e)
          have hz5 : ¬ Z.toArray = Y.toArray := fun e => htn (by simpa using e)
          have hz6 : (Z.toArray == Y.toArray) = false := by simpa using htn
          have hz7 : decide (Z = Y) = false := by simpa using htn
          have hlen1 : (⟨Z.toArray⟩ : ByteArray).size = (⟨Y.toArray⟩ : ByteArray).size := htl
          have HC := Lib.hid HCc
          clear HCc htn htl hcn
          have hS9 := (two_below (two_below hS7 hlt7 hb9) (Nat.lt_of_lt_of_le hlt7 hb9.size) (drew_below _))
          have hw9 : Below wr.heap.size wr w9 := hw7.trans (hb9.mono hw7.size)
          have hT9 := (hTr.below hw9).drew
          have hB9d := hB9.drew
          have hBb9 := (hBbr.below hw9).drew
          have hlt9 : wr.heap.size < w9.heap.size := Nat.lt_of_lt_of_le hlt7 hb9.size
          have hlen2 : Z.length = Y.length := hlen1
          go_region_held3 (fun W => W.cell? ⟨wr.heap.size, 0, none⟩ = some (.int .i64 4) ∧ W.cell? ⟨wr.heap.size, 1, none⟩ = some (.func (.func 17) #[] #[]))
            (first | go_keep | exact hS13 | exact hS12 | exact hS11 | exact hS10)
            (first
              | (go_at_call 17; refine (HC.out _ hT9 hB9d).mono ?_; rintro e u1 ⟨rfl, hu1⟩; have hS10 := two_below hS9 hlt9 hu1; have hlt10 := Nat.lt_of_lt_of_le hlt9 hu1.size; have hT10 := hT9.below hu1)
              | (go_at_call 17; refine (H58.out _ hT10 (hBb9.below hu1)).mono ?_; rintro e u2 ⟨rfl, hu2⟩; have hS11 := two_below hS10 hlt10 hu2; have hu2a := hu1.trans (hu2.mono hu1.size); have hlt11 := Nat.lt_of_lt_of_le hlt9 hu2a.size; have hT11 := hT9.below hu2a)
              | (go_at_call 17; refine (HC.out _ hT11 (hB9d.below hu2a)).mono ?_; rintro e u3 ⟨rfl, hu3⟩; have hS12 := two_below hS11 hlt11 hu3; have hu3a := hu2a.trans (hu3.mono hu2a.size); have hlt12 := Nat.lt_of_lt_of_le hlt9 hu3a.size; have hT12 := hT9.below hu3a)
              | (go_at_call 17; refine (H58.out _ hT12 (hBb9.below hu3a)).mono ?_; rintro e u4 ⟨rfl, hu4⟩; have hS13 := two_below hS12 hlt12 hu4; have hu4a := hu3a.trans (hu4.mono hu3a.size)))
          go_wp2_with fail
          go_roundg 0
          case rel => exact ⟨3, by omega, by omega, rfl, hbr.trans ((hw9.trans (((drew_below w9).trans hu4a).mono hw9.size)).mono hbr.size)⟩
          case measure => have := HIG.out; omega
      · go_wp2_with fail
        refine (wakes_any _ hTr).mono ?_
        rintro e w9 ⟨rfl, hb9⟩
        go_wp2
        go_ret
        exact ⟨rfl, (hbw.trans (hbcr.mono hbw.size)).trans (hb9.mono (hbw.trans (hbcr.mono hbw.size)).size)⟩
end Go.Proofs.YthnohioamefbmaaDoor
