/- list's reader: its method word. -/
import Derived.Test.YtffngbjnbigipaaGreatDoorRRead
namespace Go.Proofs.YtffngbjnbigipaaGreatDoor
open Go.RowKit Go.Lib
set_option linter.unusedSimpArgs false
set_option linter.unusedVariables false
set_option linter.unnecessarySimpa false
set_option maxRecDepth 100000

/-- the next byte, 0 behind the end. -/
def nextB (l : List UInt8) (k : Nat) : Nat := match l[k]? with
  | some c => c.toNat
  | none => 0
theorem nextB_yes {l : List UInt8} {k : Nat} {c : UInt8} (h : l[k]? = some c) : nextB l k = c.toNat := by unfold nextB; rw [h]
theorem nextB_no {l : List UInt8} {k : Nat} {c : UInt8} (h : l[k]? ≠ some c) (hc : c ≠ 0) : nextB l k ≠ c.toNat := by
  unfold nextB
  split
  · rename_i d hd
    intro e
    exact h (by rw [hd, UInt8.toNat_inj.1 e])
  · intro e
    exact hc (UInt8.toNat_inj.1 e.symm)
theorem next_any (B : Nat) (s : ByteArray) (k : Nat) (v : Value) (long : Bool) (w : World) (h : RS B s k v false long w) (hk : k ≤ s.size) (hs : s.size ≤ 1000000000000) :
    Calls Tryz.prog 117 #[.pointer (some ⟨B, 0, none⟩)] w fun e w' => e = .returned (.int .u8 (nextB s.data.toList k : Int)) ∧ Below w.heap.size w w' := by
  by_cases hlt : k < s.size
  · rw [nextB_yes (get_list s k hlt)]
    exact next_in B s k v long w h hlt hs
  · have : nextB s.data.toList k = 0 := by unfold nextB; rw [get_none s k (by omega)]
    rw [this]
    exact next_end B s k v long w h (by omega) (by omega)
theorem int_eq {a b : Nat} (h : a = b) : ((a : Int) == (b : Int)) = true := by simp [h]
theorem int_ne {a b : Nat} (h : a ≠ b) : ((a : Int) == (b : Int)) = false := by rw [beq_eq_false_iff_ne]; omega
theorem quot_form : ∀ (l out : List UInt8) (k : Nat), ((quotGo l out k).2.2 ≠ 0 → (quotGo l out k).2.1 = 0) ∧ ((quotGo l out k).2.2 = 0 → k < (quotGo l out k).2.1)
  | [], _, _ => by simp [quotGo]
  | [c], out, k => by
    unfold quotGo
    split
    · simp
    · split
      · simp
      · split <;> simp
  | c :: d :: r, out, k => by
    have h1 := quot_form r (out ++ [d]) (k + 2)
    have h2 := quot_form (d :: r) (out ++ [c]) (k + 1)
    unfold quotGo
    split
    · simp
    · split
      · split
        · exact ⟨h1.1, fun h => by have := h1.2 h; omega⟩
        · simp
      · split
        · exact ⟨h2.1, fun h => by have := h2.2 h; omega⟩
        · simp
theorem quoted_form (l : List UInt8) : ((quoted l).2.2 ≠ 0 → (quoted l).2.1 = 0) ∧ ((quoted l).2.2 = 0 → 0 < (quoted l).2.1) := by
  unfold quoted
  split
  · simp
  · rename_i c r
    have h := quot_form r [] 1
    split
    · exact ⟨h.1, fun h0 => by have := h.2 h0; omega⟩
    · simp
set_option maxHeartbeats 1000000 in
theorem word_wrong (B : Nat) (s : ByteArray) (w : World) (h : RW B s w) :
    Calls Tryz.prog 118 #[.pointer (some ⟨B, 0, none⟩)] w fun e w' => e = .returned (.bool false) ∧ RW B s w' ∧ But B w w' := by
  have HH := Lib.hid h
  obtain ⟨k, v, long, hk, h⟩ := h
  obtain ⟨-, c0, c1, c2, c3, c4, -⟩ := h
  go_enter Tryz.func118, Tryz.ntmps118
  go_wp2
  go_ret
  exact ⟨rfl, HH.out, But.refl B w⟩
set_option maxHeartbeats 1000000 in
theorem word_some (B : Nat) (s : ByteArray) (k n : Nat) (v : Value) (long : Bool) (w : World) (h : RS B s k v false long w) (hk : k ≤ s.size) (hs : s.size ≤ 1000000000000) (hE : Env w) (hB : 8 ≤ B) (hn : wordE s.data.toList k = some n) :
    Calls Tryz.prog 118 #[.pointer (some ⟨B, 0, none⟩)] w fun e w' => e = .returned (.bool (decide (k < n))) ∧ RS B s n v false long w' ∧ But B w w' := by
  have HN := Lib.hid (next_any B s k v long w h hk hs)
  have HH := Lib.hid h
  have f1 := h.fr 1 (by decide)
  have hBlt := h.lt
  obtain ⟨-, c0, c1, c2, c3, c4, -⟩ := h
  unfold wordE at hn
  split at hn
  · rename_i h34
    rw [nextB_yes h34] at HN
    have hlt := at_lt h34
    rw [list_len] at hlt
    have hk0 : (0 : Int) ≤ (k : Int) := by omega
    have hk1 : (k : Int) ≤ (s.size : Int) := by omega
    have hQ := fun W => Quoted_any (s.extract k s.size) (by simp; omega) W
    have e1 : (s.extract k s.size).data.toList = s.data.toList.drop k := by rw [ext_drop]
    rw [e1] at hQ
    have hm := quoted_many (s.data.toList.drop k)
    rw [List.length_drop, list_len] at hm
    have hpos := (quoted_form (s.data.toList.drop k)).2
    have hq : (((34 : UInt8).toNat : Int) == 34) = true := rfl
    generalize quoted (s.data.toList.drop k) = R at hQ hm hpos hn
    obtain ⟨wd, m, er⟩ := R
    simp only [quotV] at hQ
    simp only at hm hpos hn
    split at hn
    · rename_i h0
      injection hn with hn
      subst hn
      subst h0
      have hp := hpos rfl
      have hd : decide (k < k + m) = true := by simpa using hp
      rw [hd]
      have hwr : IntKind.i64.wrap ((k : Int) + (m : Int)) = ((k + m : Nat) : Int) := by rw [IntKind.wrap_i64]; omega
      have HQ := Lib.hid hQ
      have HR := Lib.hid (fun W (hb : Below w.heap.size w W) => (HH.out.below hb).at_ (k + m))
      clear hpos hQ hE h34 hp hd hlt hm e1
      go_enter Tryz.func118, Tryz.ntmps118
      go_wp2_with fail
      refine HN.out.mono ?_
      rintro e w1 ⟨rfl, hb1⟩
      have hS : w1.drew.cell? ⟨B, 0, none⟩ = some (.string s) ∧ w1.drew.cell? ⟨B, 1, none⟩ = some (.int .i64 (k : Int)) := ⟨(hb1.cell (p := ⟨B, 0, none⟩) hBlt).trans c0, (hb1.cell (p := ⟨B, 1, none⟩) hBlt).trans c1⟩
      have hBlt1 : B < w1.heap.size := Nat.lt_of_lt_of_le hBlt hb1.size
      go_wp2_with fail
      go_region_held3 (fun W => W.cell? ⟨B, 0, none⟩ = some (.string s) ∧ W.cell? ⟨B, 1, none⟩ = some (.int .i64 (k : Int)))
        (first | go_keep | exact hS5)
        (first | ((with_reducible refine (HQ.out _).mono ?_); rintro e w5 ⟨rfl, hb5⟩; have hS5 : w5.cell? ⟨B, 0, none⟩ = some (.string s) ∧ w5.cell? ⟨B, 1, none⟩ = some (.int .i64 (k : Int)) := ⟨(hb5.cell (p := ⟨B, 0, none⟩) hBlt1).trans hS.1, (hb5.cell (p := ⟨B, 1, none⟩) hBlt1).trans hS.2⟩))
      have hbb := hb1.trans (((drew_below w1).trans (hb5.mono (drew_below w1).size)).mono hb1.size)
      have H5 := Lib.hid (HR.out _ hbb)
      obtain ⟨g0, g1⟩ := hS5
      have f5 : w5.frozen? ⟨B, 1, none⟩ = false := (hbb.frozen (p := ⟨B, 1, none⟩) hBlt).trans f1
      go_wp2
      go_ret
      exact ⟨rfl, H5.out, (But.of_below hbb).set 1 _⟩
    · cases hn
  · rename_i h34
    have hq : ((nextB s.data.toList k : Int) == 34) = false := int_ne (nextB_no h34 (by decide))
    injection hn with hn
    subst hn
    have HR := Lib.hid (fun W (hb : Below w.heap.size w W) => row_any 154 wordB B s k v false long W (HH.out.below hb) hk hs eg154 (fun c W' hb' => word_clo c W' ((hE.below hb).atx.but hb' hB)))
    generalize tw wordB (s.data.toList.drop k) = N at HR ⊢
    generalize nextB s.data.toList k = nb at HN hq
    clear h34 hE
    go_enter Tryz.func118, Tryz.ntmps118
    go_wp2_with fail
    refine HN.out.mono ?_
    rintro e w1 ⟨rfl, hb1⟩
    go_wp2_with fail
    refine (HR.out _ hb1).mono ?_
    rintro e w2 ⟨rfl, hr2, hb2⟩
    have H2 := Lib.hid hr2
    clear hr2
    go_wp2
    go_ret
    exact ⟨by simp, H2.out, (But.of_below hb1).trans hb2⟩
set_option maxHeartbeats 1000000 in
theorem word_none (B : Nat) (s : ByteArray) (k : Nat) (v : Value) (long : Bool) (w : World) (h : RS B s k v false long w) (hk : k ≤ s.size) (hs : s.size ≤ 1000000000000) (hn : wordE s.data.toList k = none) :
    Calls Tryz.prog 118 #[.pointer (some ⟨B, 0, none⟩)] w fun e w' => e = .returned (.bool false) ∧ RW B s w' ∧ But B w w' := by
  have HN := Lib.hid (next_any B s k v long w h hk hs)
  have HH := Lib.hid h
  have f1 := h.fr 1 (by decide)
  have hBlt := h.lt
  obtain ⟨-, c0, c1, c2, c3, c4, -⟩ := h
  unfold wordE at hn
  split at hn
  · rename_i h34
    rw [nextB_yes h34] at HN
    have hlt := at_lt h34
    rw [list_len] at hlt
    have hk0 : (0 : Int) ≤ (k : Int) := by omega
    have hk1 : (k : Int) ≤ (s.size : Int) := by omega
    have hQ := fun W => Quoted_any (s.extract k s.size) (by simp; omega) W
    have e1 : (s.extract k s.size).data.toList = s.data.toList.drop k := by rw [ext_drop]
    rw [e1] at hQ
    have hz := (quoted_form (s.data.toList.drop k)).1
    have hq : (((34 : UInt8).toNat : Int) == 34) = true := rfl
    generalize quoted (s.data.toList.drop k) = R at hQ hz hn
    obtain ⟨wd, m, er⟩ := R
    simp only [quotV] at hQ
    simp only at hz hn
    split at hn
    · cases hn
    · rename_i h0
      obtain rfl := hz h0
      have he0 : ((er : Int) != 0) = true := by rw [bne_iff_ne]; omega
      have he1 : ((er : Int) == 0) = false := by rw [beq_eq_false_iff_ne]; omega
      have hwr : IntKind.i64.wrap ((k : Int) + ((0 : Nat) : Int)) = ((k + 0 : Nat) : Int) := by rw [IntKind.wrap_i64]; omega
      have HQ := Lib.hid hQ
      have HR := Lib.hid (fun W (hb : Below w.heap.size w W) => (HH.out.below hb).at_ (k + 0))
      have HF := Lib.hid (fun W (h : RS B s (k + 0) v false long W) => fail_wrong B s (k + 0) v false long W h (by omega))
      clear hz hQ h34 hlt e1 hn h0
      go_enter Tryz.func118, Tryz.ntmps118
      go_wp2_with fail
      refine HN.out.mono ?_
      rintro e w1 ⟨rfl, hb1⟩
      have hS : w1.drew.cell? ⟨B, 0, none⟩ = some (.string s) ∧ w1.drew.cell? ⟨B, 1, none⟩ = some (.int .i64 (k : Int)) := ⟨(hb1.cell (p := ⟨B, 0, none⟩) hBlt).trans c0, (hb1.cell (p := ⟨B, 1, none⟩) hBlt).trans c1⟩
      have hBlt1 : B < w1.heap.size := Nat.lt_of_lt_of_le hBlt hb1.size
      go_wp2_with fail
      go_region_held3 (fun W => W.cell? ⟨B, 0, none⟩ = some (.string s) ∧ W.cell? ⟨B, 1, none⟩ = some (.int .i64 (k : Int)))
        (first | go_keep | exact hS5)
        (first | ((with_reducible refine (HQ.out _).mono ?_); rintro e w5 ⟨rfl, hb5⟩; have hS5 : w5.cell? ⟨B, 0, none⟩ = some (.string s) ∧ w5.cell? ⟨B, 1, none⟩ = some (.int .i64 (k : Int)) := ⟨(hb5.cell (p := ⟨B, 0, none⟩) hBlt1).trans hS.1, (hb5.cell (p := ⟨B, 1, none⟩) hBlt1).trans hS.2⟩))
      have hbb := hb1.trans (((drew_below w1).trans (hb5.mono (drew_below w1).size)).mono hb1.size)
      have H5 := Lib.hid (HR.out _ hbb)
      obtain ⟨g0, g1⟩ := hS5
      have f5 : w5.frozen? ⟨B, 1, none⟩ = false := (hbb.frozen (p := ⟨B, 1, none⟩) hBlt).trans f1
      go_wp2_with fail
      refine (HF.out _ H5.out).mono ?_
      rintro e w6 ⟨rfl, hr6, hb6⟩
      have H6 := Lib.hid hr6
      clear hr6
      go_wp2
      go_ret
      exact ⟨rfl, H6.out, ((But.of_below hbb).set 1 _).trans hb6⟩
  · cases hn
end Go.Proofs.YtffngbjnbigipaaGreatDoor
