/- addr's octet, label and domain: what they hand back for texts of at most 10^12 bytes, where the package-level variables read as their texts lay them. -/
import Derived.Test.YtkoncmmbdlnmfaaGreatDoorRefs
namespace Go.Proofs.YtkoncmmbdlnmfaaGreatDoor
open Go.RowKit Go.Lib
set_option linter.unusedSimpArgs false
set_option linter.unusedVariables false
set_option linter.unnecessarySimpa false
set_option maxRecDepth 100000

/-- what the package-level variables read as. -/
structure Env (w : World) : Prop where
  atx : AText w
  m : ∃ m : Int, w.cell? ⟨1, 0, none⟩ = some (.int .i64 m)
  pow : Lib.TabIs Tryz.prog w "internal/strconv.uint64pow10" .u64 Lib.pow10Tab
theorem pow_named : Tryz.prog.globalNamed "internal/strconv.uint64pow10" = some 6 := by kernel_rfl
theorem Env.below {w W : World} (h : Env w) (hb : Below w.heap.size w W) : Env W := by
  obtain ⟨m, hm⟩ := h.m
  refine ⟨h.atx.below hb, ⟨m, (hb.cell (p := ⟨1, 0, none⟩) (World.block_lt_of_cell? w _ hm)).trans hm⟩, ?_⟩
  have hp := h.pow
  have hc := Lib.TabIs.cell hp pow_named 0 (by decide)
  have hlt : 6 < w.heap.size := World.block_lt_of_cell? w ⟨6, 0, none⟩ hc
  unfold Lib.TabIs at hp ⊢
  rw [← hp]
  simp only [World.var?, pow_named, Option.bind_some]
  rw [hb.block 6 hlt]
theorem grow_below (w : World) (k : Nat) (os : Array Obj) : Below w.heap.size w (Go.Sort.grow (w.drewN k) os) := by
  refine ⟨rfl, rfl, rfl, ?_, fun i hi => ?_⟩
  · show w.heap.size ≤ (w.heap ++ os).size
    rw [Array.size_append]; omega
  · show (w.heap ++ os)[i]? = w.heap[i]?
    rw [Array.getElem?_append_left hi]

theorem same_text (X : ByteArray) (l : List UInt8) (s : ByteArray) (h : X = ⟨l.toArray⟩) : (X.toList == s.toList) = (l == s.data.toList) := by
  subst h
  rw [ByteArray.toList_eq, ByteArray.toList_eq]
set_option maxHeartbeats 4000000 in
theorem octet_any (s : ByteArray) (hs : s.size ≤ 1000000000000) (w : World) (hE : Env w) : Calls Tryz.prog 183 #[.string s] w fun e w' => e = .returned (.bool (octL s.data.toList)) ∧ Below w.heap.size w w' := by
  have HN := Lib.hid (Number_any s hs 3 w)
  cases hok : numOk s.data.toList 3 with
  | false =>
    rw [numR_bad _ _ hok] at HN
    have ho : octL s.data.toList = false := by simp [octL, hok]
    rw [ho]
    clear hok ho
    go_enter Tryz.func183, Tryz.ntmps183
    go_wp2_with fail
    refine HN.out.mono ?_
    rintro e w2 ⟨rfl, hb⟩
    go_wp2
    go_ret
    exact ⟨rfl, hb⟩
  | true =>
    rw [numR_ok _ _ hok] at HN
    obtain ⟨hlt, hlaw⟩ := octet_law _ hok
    have ho : octL s.data.toList = (decide (numV s.data.toList < 256) && (decDigits (numV s.data.toList) == s.data.toList)) := by simp only [octL, hok, hlaw, Bool.true_and]
    rw [ho]
    generalize hX : (⟨(Lib.itoa (numV s.data.toList : Int)).toArray⟩ : ByteArray) = X
    have hsx := same_text X (decDigits (numV s.data.toList)) s (by rw [← hX]; simp [Lib.itoa])
    generalize hB : (decDigits (numV s.data.toList) == s.data.toList) = B at hsx
    have HI := Lib.hid (fun W (hE : Env W) => Tryz.strconv_Itoa (numV s.data.toList : Int) (by omega) (by omega) W hE.pow)
    rw [hX] at HI
    generalize numV s.data.toList = n at *
    clear hB hX ho hlaw hok
    by_cases h256 : n < 256
    · have h2 : (n : Int) < 256 := by omega
      rw [decide_eq_true h256]
      go_enter Tryz.func183, Tryz.ntmps183
      go_wp2_with fail
      refine HN.out.mono ?_
      rintro e w2 ⟨rfl, hb⟩
      go_wp2_with fail
      refine (HI.out w2 (hE.below hb)).mono ?_
      rintro e w3 ⟨rfl, k, os, hw3⟩
      have hb3 : Below w2.heap.size w2 w3 := by rw [hw3]; exact grow_below w2 k os
      clear hw3
      go_wp2
      go_ret
      exact ⟨by simp [hsx], hb.trans (hb3.mono hb.size)⟩
    · have h2 : ¬ (n : Int) < 256 := by omega
      rw [decide_eq_false h256]
      go_enter Tryz.func183, Tryz.ntmps183
      go_wp2_with fail
      refine HN.out.mono ?_
      rintro e w2 ⟨rfl, hb⟩
      go_wp2
      go_ret
      exact ⟨rfl, hb⟩

theorem hosts_contains0 : ∀ n, n < 256 → ([97, 98, 99, 100, 101, 102, 103, 104, 105, 106, 107, 108, 109, 110, 111, 112, 113, 114, 115, 116, 117, 118, 119, 120, 121, 122, 65, 66, 67, 68, 69, 70, 71, 72, 73, 74, 75, 76, 77, 78, 79, 80, 81, 82, 83, 84, 85, 86, 87, 88, 89, 90, 48, 49, 50, 51, 52, 53, 54, 55, 56, 57, 45] : List UInt8).contains (UInt8.ofNat n) = hostB (UInt8.ofNat n) := by decide +kernel
theorem hosts_contains (b : UInt8) : ([97, 98, 99, 100, 101, 102, 103, 104, 105, 106, 107, 108, 109, 110, 111, 112, 113, 114, 115, 116, 117, 118, 119, 120, 121, 122, 65, 66, 67, 68, 69, 70, 71, 72, 73, 74, 75, 76, 77, 78, 79, 80, 81, 82, 83, 84, 85, 86, 87, 88, 89, 90, 48, 49, 50, 51, 52, 53, 54, 55, 56, 57, 45] : List UInt8).contains b = hostB b := by
  have := hosts_contains0 b.toNat b.toNat_lt
  simpa using this
theorem trim_hosts (s : ByteArray) (hs : s.size ≤ 1000000000000) (w : World) : ∃ X : ByteArray, X.toList.isEmpty = s.data.toList.all hostB ∧
    Calls Tryz.prog 144 #[.string s, .string ⟨#[97, 98, 99, 100, 101, 102, 103, 104, 105, 106, 107, 108, 109, 110, 111, 112, 113, 114, 115, 116, 117, 118, 119, 120, 121, 122, 65, 66, 67, 68, 69, 70, 71, 72, 73, 74, 75, 76, 77, 78, 79, 80, 81, 82, 83, 84, 85, 86, 87, 88, 89, 90, 48, 49, 50, 51, 52, 53, 54, 55, 56, 57, 45]⟩] w fun e w' => e = .returned (.string X) ∧ Below w.heap.size w w' := by
  refine ⟨_, ?_, Tryz.strings_Trim_set s _ w (by omega) (by decide) (ascii_of_all (by decide))⟩
  rw [ByteArray.toList_eq]
  rw [trimS_nil]
  congr 1
  funext b
  exact hosts_contains b
theorem head_eq (s : ByteArray) (h : 0 < s.size) : s.data.toList.head? = some s[0] := by
  have := drop_cons s 0 h
  rw [List.drop_zero] at this
  rw [this]; rfl
theorem last_eq (s : ByteArray) (h : s.size - 1 < s.size) : s.data.toList.getLast? = some s[s.size - 1] := by
  rw [List.getLast?_eq_getElem?, list_len]
  have h2 : s.size - 1 < s.data.toList.length := by rw [list_len]; exact h
  rw [List.getElem?_eq_getElem h2]
  rfl
theorem edge_eq (s : ByteArray) (h : 0 < s.size) : edgeB s.data.toList = (!(s[0] == 45) && !(s[s.size - 1]'(by omega) == 45)) := by
  unfold edgeB
  rw [head_eq s h, last_eq s (by omega)]
  have hne : s.data.toList.isEmpty = false := list_ne (by rintro rfl; exact absurd h (by decide))
  rw [hne]
  rfl
set_option maxHeartbeats 4000000 in
theorem label_any (s : ByteArray) (hs : s.size ≤ 1000000000000) (w : World) : Calls Tryz.prog 184 #[.string s] w fun e w' => e = .returned (.bool (labelL s.data.toList)) ∧ Below w.heap.size w w' := by
  by_cases hne : s = ⟨#[]⟩
  · subst hne
    go_enter Tryz.func184, Tryz.ntmps184
    go_wp2
    go_ret
    exact ⟨rfl, Below.refl _ _⟩
  · have hnb := text_some hne
    have hie := text_isE hne
    have hpos := text_len hne
    obtain ⟨X, hX, HT⟩ := trim_hosts s hs w
    have HT := Lib.hid HT
    have hed := edge_eq s hpos
    have hL : labelL s.data.toList = (edgeB s.data.toList && s.data.toList.all hostB) := rfl
    rw [hed] at hL
    cases hd : s.data.toList.all hostB with
    | false =>
      rw [hd] at hX hL
      rw [hL, Bool.and_false]
      have hX2 : ¬ X.toList = [] := fun e => by rw [e] at hX; cases hX
      clear hd hne hL hed
      go_enter Tryz.func184, Tryz.ntmps184
      go_wp2_with fail
      refine HT.out.mono ?_
      rintro e w2 ⟨rfl, hb⟩
      go_wp2
      go_ret
      exact ⟨by simp [hX, hie], hb⟩
    | true =>
      rw [hd] at hX hL
      rw [Bool.and_true] at hL
      have hX2 : X.toList = [] := List.isEmpty_iff.1 hX
      have hpos0 : (0 : Int) < (s.size : Int) := by omega
      have hwr : IntKind.i64.wrap ((s.size : Int) - 1) = ((s.size - 1 : Nat) : Int) := by rw [IntKind.wrap_i64]; omega
      have hm0 : (0 : Int) ≤ ((s.size - 1 : Nat) : Int) := by omega
      have hm1 : ((s.size - 1 : Nat) : Int) < (s.size : Int) := by omega
      have hlast : s.size - 1 < s.size := by omega
      have e0 : ((s[0].toNat : Int) != 45) = !(s[0] == 45) := by
        cases h : s[0] == 45 with
        | true => rw [beq_iff_eq.1 h]; rfl
        | false => rw [Bool.not_false, bne_iff_ne]; intro e; exact (beq_eq_false_iff_ne.1 h) (UInt8.toNat_inj.1 (by show s[0].toNat = 45; omega))
      have e1 : ((s[s.size - 1].toNat : Int) != 45) = !(s[s.size - 1] == 45) := by
        cases h : s[s.size - 1] == 45 with
        | true => rw [beq_iff_eq.1 h]; rfl
        | false => rw [Bool.not_false, bne_iff_ne]; intro e; exact (beq_eq_false_iff_ne.1 h) (UInt8.toNat_inj.1 (by show s[s.size - 1].toNat = 45; omega))
      rw [hL, ← e0, ← e1]
      clear hd hne hL hed e0 e1
      cases e0 : ((s[0].toNat : Int) != 45) with
      | false =>
        go_enter Tryz.func184, Tryz.ntmps184
        go_wp2_with fail
        refine HT.out.mono ?_
        rintro e w2 ⟨rfl, hb⟩
        go_wp2
        go_ret
        exact ⟨by simp [hX, hie], hb⟩
      | true =>
        cases e1 : ((s[s.size - 1].toNat : Int) != 45) with
        | false =>
          go_enter Tryz.func184, Tryz.ntmps184
          go_wp2_with fail
          refine HT.out.mono ?_
          rintro e w2 ⟨rfl, hb⟩
          go_wp2
          go_ret
          exact ⟨by simp [hX, hie], hb⟩
        | true =>
          go_enter Tryz.func184, Tryz.ntmps184
          go_wp2_with fail
          refine HT.out.mono ?_
          rintro e w2 ⟨rfl, hb⟩
          go_wp2
          go_ret
          exact ⟨by simp [hX, hie], hb⟩
end Go.Proofs.YtkoncmmbdlnmfaaGreatDoor
