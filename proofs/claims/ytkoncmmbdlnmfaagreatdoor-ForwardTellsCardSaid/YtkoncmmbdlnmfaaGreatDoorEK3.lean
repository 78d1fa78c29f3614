/- Several texts joined into one (a claim has a limit of files). -/
import Derived.Test.YtkoncmmbdlnmfaaGreatDoorLinJ
import Derived.DeepKeys4
/- forward.Parse's test for faults: what it hands back. -/
namespace Go.Proofs.YtkoncmmbdlnmfaaGreatDoor
open Go.RowKit Go.Lib
set_option linter.unusedSimpArgs false
set_option linter.unusedVariables false
set_option linter.unnecessarySimpa false
set_option maxRecDepth 100000

theorem clo39 (a : Nat × Nat) (w : World) : Calls Tryz.prog 39 #[.agg #[.int .i64 (a.1 : Int), .int .i64 (a.2 : Int)]] w fun e w' => e = .returned (.bool (a.2 != 9)) ∧ Below w.heap.size w w' := by
  obtain ⟨x, y⟩ := a
  simp only
  have ht1 := Two.made w (.int .i64 (x : Int)) (.int .i64 (y : Int)) 81
  have hb1 := alloc_below w (.cells #[.int .i64 (x : Int), .int .i64 (y : Int)] 81)
  generalize hw1 : w.alloc (.cells #[.int .i64 (x : Int), .int .i64 (y : Int)] 81) = w1 at ht1 hb1
  obtain ⟨-, c0, c1, f0, f1⟩ := ht1
  by_cases h9 : y = 9
  · subst h9
    go_enter Tryz.func39, Tryz.ntmps39
    go_wp2
    go_ret
    exact ⟨rfl, alloc_below _ _⟩
  · have n9 : ((y : Int) != 9) = true := by rw [bne_iff_ne]; omega
    have m9 : (y != 9) = true := by rw [bne_iff_ne]; exact h9
    rw [m9]
    go_enter Tryz.func39, Tryz.ntmps39
    go_wp2
    go_ret
    exact ⟨rfl, hb1⟩
def CoRel (l : List (Nat × Nat)) (w : World) (g : Nat) (v8 : Value) (W : World) : Prop :=
  ∃ k : Nat, v8 = .int .i64 (k : Int) ∧ k ≤ l.length ∧ g = l.length - k ∧ Below w.heap.size w W ∧ (∀ (i : Nat) (a : Nat × Nat), i < k → l[i]? = some a → (a.2 != 9) = false)
set_option maxHeartbeats 4000000 in
theorem IdxF (l : List (Nat × Nat)) (v : Value) (w : World) (hrow : GRow 2 faC w v l) (hl : l.length ≤ 1000000) :
    Calls Tryz.prog 78 #[v, .func (.func 39) #[] #[]] w fun e w' => ∃ i : Int, e = .returned (.int .i64 i) ∧ decide (0 ≤ i) = (l.any fun a => a.2 != 9) ∧ Below w.heap.size w w' := by
  have HROW := Lib.hid hrow
  obtain ⟨p, cap, rfl, -⟩ := hrow
  go_enter Tryz.func78, Tryz.ntmps78
  go_wp2_with fail
  go_loopg [8] l.length (fun g v8 W => CoRel l w g v8 W)
  case atStart => exact ⟨0, rfl, Nat.zero_le _, rfl, Below.refl _ _, fun i a h => by omega⟩
  case round =>
    obtain ⟨k, rfl, hk, hg, hb, hall⟩ := hrel
    have HG := Lib.hid hg
    have HB := Lib.hid hb
    have HALL := Lib.hid hall
    clear hg hb hall
    by_cases hlt : k < l.length
    · have hk0 : (0 : Int) ≤ (k : Int) := by omega
      have hk1 : (k : Int) < (l.length : Int) := by omega
      have hwk : IntKind.i64.wrap ((k : Int) + 1) = (k : Int) + 1 := by rw [IntKind.wrap_i64]; omega
      have hr := HROW.out.below HB.out
      obtain ⟨p', cap', he, h⟩ := hr
      obtain rfl : cap = cap' := by injection he
      obtain rfl : p = p' := by injection he
      obtain ⟨b, o, hp, hc⟩ := grow_at h hlt
      subst hp
      clear he h
      have hx := List.getElem?_eq_getElem hlt
      have c0 := hc k _ hx 0 _ rfl
      have c1 := hc k _ hx 1 _ rfl
      rw [Nat.add_zero] at c0
      have HC := Lib.hid (clo39 l[k] wr)
      have HK := Lib.hid hx
      have HMEM := Lib.hid (List.getElem_mem hlt)
      clear hc hx
      generalize l[k] = a at c0 c1 HC HK HMEM
      obtain ⟨x, y⟩ := a
      simp only at HC c0 c1
      cases hm : (y != 9) with
      | false =>
        rw [hm] at HC
        have HM := Lib.hid hm
        clear hm
        go_wp2_with fail
        refine HC.out.mono ?_
        rintro e w2 ⟨rfl, hb2⟩
        go_wp2_with fail
        go_roundg (l.length - (k + 1))
        case rel =>
          refine ⟨k + 1, by go_num, by omega, rfl, HB.out.trans (hb2.mono HB.out.size), fun i a hi ha => ?_⟩
          by_cases hik : i < k
          · exact HALL.out i a hik ha
          · obtain rfl : i = k := by omega
            rw [HK.out] at ha
            cases ha
            exact HM.out
        case measure => have := HG.out; omega
      | true =>
        rw [hm] at HC
        have HM := Lib.hid hm
        clear hm
        go_wp2_with fail
        refine HC.out.mono ?_
        rintro e w2 ⟨rfl, hb2⟩
        go_wp2
        go_ret
        refine ⟨_, rfl, ?_, HB.out.trans (hb2.mono HB.out.size)⟩
        rw [decide_eq_true hk0, eq_comm, List.any_eq_true]
        exact ⟨_, HMEM.out, HM.out⟩
    · have hge : ¬ (k : Int) < (l.length : Int) := by omega
      go_wp2
      go_ret
      refine ⟨_, rfl, ?_, HB.out⟩
      rw [eq_comm, show decide ((0 : Int) ≤ -1) = false from rfl, List.any_eq_false]
      intro a ha
      obtain ⟨i, hi, rfl⟩ := List.getElem_of_mem ha
      rw [HALL.out i l[i] (by omega) (List.getElem?_eq_getElem hi)]
      simp
set_option maxHeartbeats 1000000 in
theorem ContF (l : List (Nat × Nat)) (v : Value) (w : World) (hrow : GRow 2 faC w v l) (hl : l.length ≤ 1000000) :
    Calls Tryz.prog 38 #[v, .func (.func 39) #[] #[]] w fun e w' => e = .returned (.bool (l.any fun a => a.2 != 9)) ∧ Below w.heap.size w w' := by
  have HI := Lib.hid (IdxF l v w hrow hl)
  generalize (l.any fun a => a.2 != 9) = M at HI ⊢
  clear hrow
  go_enter Tryz.func38, Tryz.ntmps38
  go_wp2_with fail
  refine HI.out.mono ?_
  rintro e w2 ⟨i, rfl, hi, hb2⟩
  go_wp2
  go_ret
  subst hi
  exact ⟨rfl, hb2⟩
end Go.Proofs.YtkoncmmbdlnmfaaGreatDoor

/- A map from targets to numbers: its keys; what it says. -/
namespace Go.Proofs.YtkoncmmbdlnmfaaGreatDoor
open Go.RowKit Go.Lib
set_option linter.unusedSimpArgs false
set_option linter.unusedVariables false
set_option linter.unnecessarySimpa false
set_option maxRecDepth 100000

theorem Tryz.laid_out : laidOutB Tryz.prog = true := by kernel_rfl
theorem row28 : (28 : TypeId) < Tryz.prog.types.size := of_decide_eq_true (by kernel_rfl)
theorem wide28 : (match Tryz.prog.underlying 28 with | some (.array _ _) | some (.struct _) => true | _ => false) = true := by rw [Tryz.underlying28]
theorem law28 : Maps.Keyed Tryz.prog 28 := Maps.Keyed.of_law (deep_law_laid Tryz.laid_out (m := 3) (by omega) row28 (by kernel_rfl) wide28)
theorem keyType28 : Tryz.prog.keyType 28 = true := by kernel_rfl
theorem cells28 : Tryz.prog.cellsOf 28 = 4 := by kernel_rfl
theorem cells26 : Tryz.prog.cellsOf 26 = 2 := by kernel_rfl
theorem cells3' : Tryz.prog.cellsOf 3 = 1 := by kernel_rfl
theorem cells9 : Tryz.prog.cellsOf 9 = 1 := by kernel_rfl
/-- targets of short texts. -/
def ShortT (t : Tg) : Prop := t.1 ≤ 1000 ∧ t.2.1.1.length ≤ 1000000 ∧ t.2.1.2.length ≤ 1000000 ∧ t.2.2.length ≤ 1000000
theorem key_ok {t : Tg} (h : ShortT t) : ∃ l, keyOf Tryz.prog 28 (tgV t) = some l := by
  obtain ⟨k, ⟨a, b⟩, n⟩ := t
  obtain ⟨h0, h1, h2, h3⟩ := h
  simp only at h0 h1 h2 h3
  obtain ⟨d, hd⟩ : ∃ d, Tryz.prog.types.size + 1 = d + 3 := ⟨Tryz.prog.types.size - 2, by have : 28 < Tryz.prog.types.size := row28; omega⟩
  have hw : (Lit.int .i64 (k : Int)).wf = true := WalkArith.wf_i64 (by omega)
  have s1 : (⟨a.toArray⟩ : ByteArray).size ≤ maxLen := by show a.length ≤ _; unfold maxLen; omega
  have s2 : (⟨b.toArray⟩ : ByteArray).size ≤ maxLen := by show b.length ≤ _; unfold maxLen; omega
  have s3 : (⟨n.toArray⟩ : ByteArray).size ≤ maxLen := by show n.length ≤ _; unfold maxLen; omega
  unfold keyOf
  rw [Tryz.underlying28]
  simp only
  rw [if_pos (by rw [keyType28]; simp [tgV, Value.formed, Tryz.underlying28, cells28]), hd]
  simp [tgV, Value.cells, Program.keyLits, Tryz.underlying28, Tryz.underlying26, Tryz.underlying3, Tryz.underlying9, cells28, cells26, cells3', cells9, hw, s1, s2, s3]
  rw [if_pos (by intro i hi; match i, hi with | 0, _ => simp | 1, _ => simp)]
  exact ⟨_, rfl⟩
/-- how often each target is there, as a map tells it. -/
def CntD (D : DataW Unit) (ts : List Tg) : Prop := ∀ t l, keyOf Tryz.prog 28 (tgV t) = some l → D.atKey l (.lit (.int .i64 0)) = .lit (.int .i64 (ts.count t : Int))
theorem CntD.start : CntD (.map []) [] := fun t l _ => by simp [DataW.atKey]
theorem tgV_inj {a b : Tg} (h : tgV a = tgV b) : a = b := by
  obtain ⟨k, ⟨x, y⟩, n⟩ := a
  obtain ⟨k', ⟨x', y'⟩, n'⟩ := b
  simp only [tgV, Value.agg.injEq, Array.mk.injEq, List.cons.injEq, Value.int.injEq, Value.string.injEq, ByteArray.mk.injEq, true_and, and_true, Int.ofNat.injEq] at h
  obtain ⟨h1, h2, h3, h4⟩ := h
  have e1 : k = k' := by omega
  rw [e1, h2, h3, h4]
theorem CntD.put {D : DataW Unit} {ts : List Tg} (h : CntD D ts) (hD : Maps.IsMap D) {t : Tg} {kl : Lit} (hk : keyOf Tryz.prog 28 (tgV t) = some kl) : CntD (D.put kl (.lit (.int .i64 ((ts.count t : Int) + 1)))) (ts ++ [t]) := by
  intro t' l hl
  by_cases he : t' = t
  · subst he
    rw [hk] at hl
    injection hl with hl
    subst hl
    rw [Maps.atKey_put_same hD (law28.key hk), List.count_append, List.count_singleton_self]
    rfl
  · have hne : l ≠ kl := by
      rintro rfl
      exact he (tgV_inj (law28.inj hl hk))
    rw [Maps.atKey_put_other hne, h t' l hl, List.count_append]
    have : List.count t' [t] = 0 := by rw [List.count_eq_zero]; simp [he]
    rw [this]
    rfl
end Go.Proofs.YtkoncmmbdlnmfaaGreatDoor
