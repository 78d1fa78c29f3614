/- Several texts joined into one (a claim has a limit of files). -/
import Derived.Test.YtkoncmmbdlnmfaaGreatDoorRefs
/- addr's octet, label and domain: what they hand back for texts of at most 10^12 bytes, where the package-level variables read as their texts lay them. -/
namespace Go.Proofs.YtkoncmmbdlnmfaaGreatDoor
open Go.RowKit Go.Lib
set_option linter.unusedSimpArgs false
set_option linter.unusedVariables false
set_option linter.unnecessarySimpa false
set_option maxRecDepth 100000

/-- what the package-level variables read as. -/
structure Env (w : World) : Prop where
  atx : AText w
  m : ∃ m : Int, w.cell? ⟨1, 0, none⟩ = some (.int .i64 m)
  pow : Lib.TabIs Tryz.prog w "internal/strconv.uint64pow10" .u64 Lib.pow10Tab
theorem pow_named : Tryz.prog.globalNamed "internal/strconv.uint64pow10" = some 6 := by kernel_rfl
theorem Env.below {w W : World} (h : Env w) (hb : Below w.heap.size w W) : Env W := by
  obtain ⟨m, hm⟩ := h.m
  refine ⟨h.atx.below hb, ⟨m, (hb.cell (p := ⟨1, 0, none⟩) (World.block_lt_of_cell? w _ hm)).trans hm⟩, ?_⟩
  have hp := h.pow
  have hc := Lib.TabIs.cell hp pow_named 0 (by decide)
  have hlt : 6 < w.heap.size := World.block_lt_of_cell? w ⟨6, 0, none⟩ hc
  unfold Lib.TabIs at hp ⊢
  rw [← hp]
  simp only [World.var?, pow_named, Option.bind_some]
  rw [hb.block 6 hlt]
theorem grow_below (w : World) (k : Nat) (os : Array Obj) : Below w.heap.size w (Go.Sort.grow (w.drewN k) os) := by
  refine ⟨rfl, rfl, rfl, ?_, fun i hi => ?_⟩
  · show w.heap.size ≤ (w.heap ++ os).size
    rw [Array.size_append]; omega
  · show (w.heap ++ os)[i]? = w.heap[i]?
    rw [Array.getElem?_append_left hi]

theorem same_text (X : ByteArray) (l : List UInt8) (s : ByteArray) (h : X = ⟨l.toArray⟩) : (X.toList == s.toList) = (l == s.data.toList) := by
  subst h
  rw [ByteArray.toList_eq, ByteArray.toList_eq]
set_option maxHeartbeats 4000000 in
theorem octet_any (s : ByteArray) (hs : s.size ≤ 1000000000000) (w : World) (hE : Env w) : Calls Tryz.prog 183 #[.string s] w fun e w' => e = .returned (.bool (octL s.data.toList)) ∧ Below w.heap.size w w' := by
  have HN := Lib.hid (Number_any s hs 3 w)
  cases hok : numOk s.data.toList 3 with
  | false =>
    rw [numR_bad _ _ hok] at HN
    have ho : octL s.data.toList = false := by simp [octL, hok]
    rw [ho]
    clear hok ho
    go_enter Tryz.func183, Tryz.ntmps183
    go_wp2_with fail
    refine HN.out.mono ?_
    rintro e w2 ⟨rfl, hb⟩
    go_wp2
    go_ret
    exact ⟨rfl, hb⟩
  | true =>
    rw [numR_ok _ _ hok] at HN
    obtain ⟨hlt, hlaw⟩ := octet_law _ hok
    have ho : octL s.data.toList = (decide (numV s.data.toList < 256) && (decDigits (numV s.data.toList) == s.data.toList)) := by simp only [octL, hok, hlaw, Bool.true_and]
    rw [ho]
    generalize hX : (⟨(Lib.itoa (numV s.data.toList : Int)).toArray⟩ : ByteArray) = X
    have hsx := same_text X (decDigits (numV s.data.toList)) s (by rw [← hX]; simp [Lib.itoa])
    generalize hB : (decDigits (numV s.data.toList) == s.data.toList) = B at hsx
    have HI := Lib.hid (fun W (hE : Env W) => Tryz.strconv_Itoa (numV s.data.toList : Int) (by omega) (by omega) W hE.pow)
    rw [hX] at HI
    generalize numV s.data.toList = n at *
    clear hB hX ho hlaw hok
    by_cases h256 : n < 256
    · have h2 : (n : Int) < 256 := by omega
      rw [decide_eq_true h256]
      go_enter Tryz.func183, Tryz.ntmps183
      go_wp2_with fail
      refine HN.out.mono ?_
      rintro e w2 ⟨rfl, hb⟩
      go_wp2_with fail
      refine (HI.out w2 (hE.below hb)).mono ?_
      rintro e w3 ⟨rfl, k, os, hw3⟩
      have hb3 : Below w2.heap.size w2 w3 := by rw [hw3]; exact grow_below w2 k os
      clear hw3
      go_wp2
      go_ret
      exact ⟨by simp [hsx], hb.trans (hb3.mono hb.size)⟩
    · have h2 : ¬ (n : Int) < 256 := by omega
      rw [decide_eq_false h256]
      go_enter Tryz.func183, Tryz.ntmps183
      go_wp2_with fail
      refine HN.out.mono ?_
      rintro e w2 ⟨rfl, hb⟩
      go_wp2
      go_ret
      exact ⟨rfl, hb⟩

theorem hosts_contains0 : ∀ n, n < 256 → ([97, 98, 99, 100, 101, 102, 103, 104, 105, 106, 107, 108, 109, 110, 111, 112, 113, 114, 115, 116, 117, 118, 119, 120, 121, 122, 65, 66, 67, 68, 69, 70, 71, 72, 73, 74, 75, 76, 77, 78, 79, 80, 81, 82, 83, 84, 85, 86, 87, 88, 89, 90, 48, 49, 50, 51, 52, 53, 54, 55, 56, 57, 45] : List UInt8).contains (UInt8.ofNat n) = hostB (UInt8.ofNat n) := by decide +kernel
theorem hosts_contains (b : UInt8) : ([97, 98, 99, 100, 101, 102, 103, 104, 105, 106, 107, 108, 109, 110, 111, 112, 113, 114, 115, 116, 117, 118, 119, 120, 121, 122, 65, 66, 67, 68, 69, 70, 71, 72, 73, 74, 75, 76, 77, 78, 79, 80, 81, 82, 83, 84, 85, 86, 87, 88, 89, 90, 48, 49, 50, 51, 52, 53, 54, 55, 56, 57, 45] : List UInt8).contains b = hostB b := by
  have := hosts_contains0 b.toNat b.toNat_lt
  simpa using this
theorem trim_hosts (s : ByteArray) (hs : s.size ≤ 1000000000000) (w : World) : ∃ X : ByteArray, X.toList.isEmpty = s.data.toList.all hostB ∧
    Calls Tryz.prog 144 #[.string s, .string ⟨#[97, 98, 99, 100, 101, 102, 103, 104, 105, 106, 107, 108, 109, 110, 111, 112, 113, 114, 115, 116, 117, 118, 119, 120, 121, 122, 65, 66, 67, 68, 69, 70, 71, 72, 73, 74, 75, 76, 77, 78, 79, 80, 81, 82, 83, 84, 85, 86, 87, 88, 89, 90, 48, 49, 50, 51, 52, 53, 54, 55, 56, 57, 45]⟩] w fun e w' => e = .returned (.string X) ∧ Below w.heap.size w w' := by
  refine ⟨_, ?_, Tryz.strings_Trim_set s _ w (by omega) (by decide) (ascii_of_all (by decide))⟩
  rw [ByteArray.toList_eq]
  rw [trimS_nil]
  congr 1
  funext b
  exact hosts_contains b
theorem head_eq (s : ByteArray) (h : 0 < s.size) : s.data.toList.head? = some s[0] := by
  have := drop_cons s 0 h
  rw [List.drop_zero] at this
  rw [this]; rfl
theorem last_eq (s : ByteArray) (h : s.size - 1 < s.size) : s.data.toList.getLast? = some s[s.size - 1] := by
  rw [List.getLast?_eq_getElem?, list_len]
  have h2 : s.size - 1 < s.data.toList.length := by rw [list_len]; exact h
  rw [List.getElem?_eq_getElem h2]
  rfl
theorem edge_eq (s : ByteArray) (h : 0 < s.size) : edgeB s.data.toList = (!(s[0] == 45) && !(s[s.size - 1]'(by omega) == 45)) := by
  unfold edgeB
  rw [head_eq s h, last_eq s (by omega)]
  have hne : s.data.toList.isEmpty = false := list_ne (by rintro rfl; exact absurd h (by decide))
  rw [hne]
  rfl
set_option maxHeartbeats 4000000 in
theorem label_any (s : ByteArray) (hs : s.size ≤ 1000000000000) (w : World) : Calls Tryz.prog 184 #[.string s] w fun e w' => e = .returned (.bool (labelL s.data.toList)) ∧ Below w.heap.size w w' := by
  by_cases hne : s = ⟨#[]⟩
  · subst hne
    go_enter Tryz.func184, Tryz.ntmps184
    go_wp2
    go_ret
    exact ⟨rfl, Below.refl _ _⟩
  · have hnb := text_some hne
    have hie := text_isE hne
    have hpos := text_len hne
    obtain ⟨X, hX, HT⟩ := trim_hosts s hs w
    have HT := Lib.hid HT
    have hed := edge_eq s hpos
    have hL : labelL s.data.toList = (edgeB s.data.toList && s.data.toList.all hostB) := rfl
    rw [hed] at hL
    cases hd : s.data.toList.all hostB with
    | false =>
      rw [hd] at hX hL
      rw [hL, Bool.and_false]
      have hX2 : ¬ X.toList = [] := fun e => by rw [e] at hX; cases hX
      clear hd hne hL hed
      go_enter Tryz.func184, Tryz.ntmps184
      go_wp2_with fail
      refine HT.out.mono ?_
      rintro e w2 ⟨rfl, hb⟩
      go_wp2
      go_ret
      exact ⟨by simp [hX, hie], hb⟩
    | true =>
      rw [hd] at hX hL
      rw [Bool.and_true] at hL
      have hX2 : X.toList = [] := List.isEmpty_iff.1 hX
      have hpos0 : (0 : Int) < (s.size : Int) := by omega
      have hwr : IntKind.i64.wrap ((s.size : Int) - 1) = ((s.size - 1 : Nat) : Int) := by rw [IntKind.wrap_i64]; omega
      have hm0 : (0 : Int) ≤ ((s.size - 1 : Nat) : Int) := by omega
      have hm1 : ((s.size - 1 : Nat) : Int) < (s.size : Int) := by omega
      have hlast : s.size - 1 < s.size := by omega
      have e0 : ((s[0].toNat : Int) != 45) = !(s[0] == 45) := by
        cases h : s[0] == 45 with
        | true => rw [beq_iff_eq.1 h]; rfl
        | false => rw [Bool.not_false, bne_iff_ne]; intro e; exact (beq_eq_false_iff_ne.1 h) (UInt8.toNat_inj.1 (by show s[0].toNat = 45; omega))
      have e1 : ((s[s.size - 1].toNat : Int) != 45) = !(s[s.size - 1] == 45) := by
        cases h : s[s.size - 1] == 45 with
        | true => rw [beq_iff_eq.1 h]; rfl
        | false => rw [Bool.not_false, bne_iff_ne]; intro e; exact (beq_eq_false_iff_ne.1 h) (UInt8.toNat_inj.1 (by show s[s.size - 1].toNat = 45; omega))
      rw [hL, ← e0, ← e1]
      clear hd hne hL hed e0 e1
      cases e0 : ((s[0].toNat : Int) != 45) with
      | false =>
        go_enter Tryz.func184, Tryz.ntmps184
        go_wp2_with fail
        refine HT.out.mono ?_
        rintro e w2 ⟨rfl, hb⟩
        go_wp2
        go_ret
        exact ⟨by simp [hX, hie], hb⟩
      | true =>
        cases e1 : ((s[s.size - 1].toNat : Int) != 45) with
        | false =>
          go_enter Tryz.func184, Tryz.ntmps184
          go_wp2_with fail
          refine HT.out.mono ?_
          rintro e w2 ⟨rfl, hb⟩
          go_wp2
          go_ret
          exact ⟨by simp [hX, hie], hb⟩
        | true =>
          go_enter Tryz.func184, Tryz.ntmps184
          go_wp2_with fail
          refine HT.out.mono ?_
          rintro e w2 ⟨rfl, hb⟩
          go_wp2
          go_ret
          exact ⟨by simp [hX, hie], hb⟩
end Go.Proofs.YtkoncmmbdlnmfaaGreatDoor

/- addr.domain and addr.MayDomain: what is wrong with a domain, for texts of at most 10^12 bytes, where the package-level variables read as their texts lay them. -/
namespace Go.Proofs.YtkoncmmbdlnmfaaGreatDoor
open Go.RowKit Go.Lib
set_option linter.unusedSimpArgs false
set_option linter.unusedVariables false
set_option linter.unnecessarySimpa false
set_option maxRecDepth 100000

theorem short_clo (p : ByteArray) (W : World) : Calls Tryz.prog 185 (#[.string p] ++ #[]) W fun e w' => e = .returned (.bool (decide (p.size ≤ 63))) ∧ Below W.heap.size W w' := by
  go_enter Tryz.func185, Tryz.ntmps185
  go_wp2
  go_ret
  exact ⟨by simp; omega, Below.refl _ _⟩
/-- the negation of a captured test. -/
theorem not_clo (B G : Nat) (Q : Bool) (p : ByteArray) (W : World) (hc : W.cell? ⟨B, 0, none⟩ = some (.func (.func G) #[] #[]))
    (eg : ∀ args w, (callFunc G args).run Tryz.prog w = .ok (.enter G args) w)
    (hq : Calls Tryz.prog G (#[.string p] ++ #[]) W fun e w' => e = .returned (.bool Q) ∧ Below W.heap.size W w') :
    Calls Tryz.prog 181 (#[.string p] ++ #[.pointer (some ⟨B, 0, none⟩)]) W fun e w' => e = .returned (.bool (!Q)) ∧ Below W.heap.size W w' := by
  have HQ := Lib.hid hq
  clear hq
  go_enter Tryz.func181, Tryz.ntmps181
  go_wp2_with fail
  refine HQ.out.mono ?_
  rintro e w2 ⟨rfl, hb⟩
  go_wp2
  go_ret
  exact ⟨rfl, hb⟩
set_option maxHeartbeats 4000000 in
theorem all_any (G : Nat) (q : List UInt8 → Bool) (s : ByteArray) (hs : s.size ≤ 1000000000) (w : World) (hE : Env w)
    (eg : ∀ args w, (callFunc G args).run Tryz.prog w = .ok (.enter G args) w)
    (hq : ∀ p ∈ pieces 46 s.data.toList, ∀ W, Below w.heap.size w W → Calls Tryz.prog G (#[.string ⟨p.toArray⟩] ++ #[]) W fun e w' => e = .returned (.bool (q p)) ∧ Below W.heap.size W w') :
    Calls Tryz.prog 180 #[.string s, .func (.func G) #[] #[]] w fun e w' => e = .returned (.bool ((pieces 46 s.data.toList).all q)) ∧ Below w.heap.size w w' := by
  obtain ⟨m, hm⟩ := hE.m
  have hb0 : Below w.heap.size w (w.alloc (.cells #[.func (.func G) #[] #[]] 72)) := alloc_below w _
  obtain ⟨m0, hm0⟩ := (hE.below hb0).m
  have HS := Lib.hid (Tryz.strings_Split s ⟨#[46]⟩ m0 (w.alloc (.cells #[.func (.func G) #[] #[]] 72)) (by omega) hm0 (by decide))
  have HR := Lib.hid (Row.of_split (w.alloc (.cells #[.func (.func G) #[] #[]] 72)) 46 s)
  have HL := Lib.hid (pieces_rowlen 46 s (by omega))
  have HA := Lib.hid (any_strs (pieces 46 s.data.toList) q)
  have HQ := Lib.hid hq
  generalize (pieces 46 s.data.toList).all q = Q at HA
  generalize pieces 46 s.data.toList = ps at *
  clear hq hm hm0
  go_enter Tryz.func180, Tryz.ntmps180
  go_wp2_with fail
  refine HS.out.mono ?_
  rintro e w2 ⟨rfl, hw2⟩
  have hb2 : Below (w.alloc (.cells #[.func (.func G) #[] #[]] 72)).heap.size (w.alloc (.cells #[.func (.func G) #[] #[]] 72)) w2 := by rw [hw2]; exact alloc_below _ _
  have hr2 := HR.out
  rw [← hw2] at hr2
  have hbw := hb0.trans (hb2.mono hb0.size)
  have hcl : w2.cell? ⟨w.heap.size, 0, none⟩ = some (.func (.func G) #[] #[]) := by
    rw [hb2.cell (p := ⟨w.heap.size, 0, none⟩) (by rw [World.size_alloc]; exact Nat.lt_succ_self _)]
    exact new_cell w _ 72
  clear hw2
  have HC := Lib.hid (contains_strs 181 #[.pointer (some ⟨w.heap.size, 0, none⟩)] (fun v => !q (vBytes v)) _ _ w2 hr2 HL.out (enters_of Tryz.func181 (by kernel_rfl) rfl) (by
      intro x hx W hbW
      obtain ⟨p, hp, rfl⟩ := List.mem_map.1 hx
      have hlt : w.heap.size < w2.heap.size := World.block_lt_of_cell? w2 ⟨w.heap.size, 0, none⟩ hcl
      exact not_clo w.heap.size G (q p) ⟨p.toArray⟩ W ((hbW.cell (p := ⟨w.heap.size, 0, none⟩) hlt).trans hcl) eg (HQ.out p hp W (hbw.trans (hbW.mono hbw.size)))))
  rw [HA.out, World.size_alloc] at HC
  go_wp2_with fail
  refine HC.out.mono ?_
  rintro e w3 ⟨rfl, hb3⟩
  go_wp2
  go_ret
  exact ⟨by simp, hbw.trans (hb3.mono hbw.size)⟩

theorem size_le (p : List UInt8) : (decide ((⟨p.toArray⟩ : ByteArray).size ≤ 63)) = !(decide (63 < p.length)) := by
  have e : (⟨p.toArray⟩ : ByteArray).size = p.length := rfl
  rw [e]
  by_cases h : p.length ≤ 63
  · rw [decide_eq_true h, decide_eq_false (by omega)]; rfl
  · rw [decide_eq_false h, decide_eq_true (by omega)]; rfl
theorem piece_len (c : UInt8) (s : ByteArray) (p : List UInt8) (hp : p ∈ pieces c s.data.toList) : (⟨p.toArray⟩ : ByteArray).size ≤ s.size := piece_size c s p hp
theorem all_octets (s : ByteArray) (hs : s.size ≤ 1000000000) (w : World) (hE : Env w) :
    Calls Tryz.prog 180 #[.string s, .func (.func 183) #[] #[]] w fun e w' => e = .returned (.bool ((pieces 46 s.data.toList).all octL)) ∧ Below w.heap.size w w' :=
  all_any 183 octL s hs w hE (enters_of Tryz.func183 (by kernel_rfl) rfl) fun p hp W hb => by
    simpa using octet_any ⟨p.toArray⟩ (Nat.le_trans (piece_size 46 s p hp) (by omega)) W (hE.below hb)
theorem all_labels (s : ByteArray) (hs : s.size ≤ 1000000000) (w : World) (hE : Env w) :
    Calls Tryz.prog 180 #[.string s, .func (.func 184) #[] #[]] w fun e w' => e = .returned (.bool ((pieces 46 s.data.toList).all labelL)) ∧ Below w.heap.size w w' :=
  all_any 184 labelL s hs w hE (enters_of Tryz.func184 (by kernel_rfl) rfl) fun p hp W hb => by
    simpa using label_any ⟨p.toArray⟩ (Nat.le_trans (piece_size 46 s p hp) (by omega)) W
theorem all_short (s : ByteArray) (hs : s.size ≤ 1000000000) (w : World) (hE : Env w) :
    Calls Tryz.prog 180 #[.string s, .func (.func 185) #[] #[]] w fun e w' => e = .returned (.bool ((pieces 46 s.data.toList).all fun p => !decide (63 < p.length))) ∧ Below w.heap.size w w' :=
  all_any 185 (fun p => !decide (63 < p.length)) s hs w hE (enters_of Tryz.func185 (by kernel_rfl) rfl) fun p hp W hb => by
    have := short_clo ⟨p.toArray⟩ W
    rw [size_le] at this
    exact this
end Go.Proofs.YtkoncmmbdlnmfaaGreatDoor

/- addr.domain and addr.MayDomain: what is wrong with a domain, for texts of at most 10^9 bytes, where the package-level variables read as their texts lay them. -/
namespace Go.Proofs.YtkoncmmbdlnmfaaGreatDoor
open Go.RowKit Go.Lib
set_option linter.unusedSimpArgs false
set_option linter.unusedVariables false
set_option linter.unnecessarySimpa false
set_option maxRecDepth 100000

theorem pre_one (l : List UInt8) (c : UInt8) : Lib.hasPrefix l [c] = (l.head? == some c) := by
  unfold Lib.hasPrefix
  cases l with
  | nil => rfl
  | cons a l =>
    simp only [List.isPrefixOf, List.head?_cons, Bool.and_true]
    cases h : c == a with
    | true => rw [beq_iff_eq.1 h]; simp
    | false => symm; rw [beq_eq_false_iff_ne]; intro e; simp only [Option.some.injEq] at e; exact (beq_eq_false_iff_ne.1 h) e.symm
theorem suf_one (l : List UInt8) (c : UInt8) : Lib.hasSuffix l [c] = (l.getLast? == some c) := by
  unfold Lib.hasSuffix List.isSuffixOf
  rw [← List.head?_reverse]
  exact pre_one l.reverse c
theorem cut_pre (s : ByteArray) (c : UInt8) (h : s.data.toList.head? = some c) (w : World) : Calls Tryz.prog 135 #[.string s, .string ⟨#[c]⟩] w fun e w' => e = .returned (.tuple #[.string ⟨(s.data.toList.drop 1).toArray⟩, .bool true]) ∧ w' = w := by
  have hp : Lib.hasPrefix s.data.toList (⟨#[c]⟩ : ByteArray).data.toList = true := by
    show Lib.hasPrefix s.data.toList [c] = true
    rw [pre_one, h]; simp
  have ht : Lib.trimPrefix s.data.toList (⟨#[c]⟩ : ByteArray).data.toList = s.data.toList.drop 1 := by unfold Lib.trimPrefix; rw [if_pos hp]; rfl
  have := Tryz.strings_CutPrefix s ⟨#[c]⟩ w
  rw [ht, hp] at this
  exact this
theorem cut_pre_no (s : ByteArray) (c : UInt8) (h : s.data.toList.head? ≠ some c) (w : World) : Calls Tryz.prog 135 #[.string s, .string ⟨#[c]⟩] w fun e w' => e = .returned (.tuple #[.string s, .bool false]) ∧ w' = w := by
  have hp : Lib.hasPrefix s.data.toList (⟨#[c]⟩ : ByteArray).data.toList = false := by
    show Lib.hasPrefix s.data.toList [c] = false
    rw [pre_one]; simpa using h
  have ht : Lib.trimPrefix s.data.toList (⟨#[c]⟩ : ByteArray).data.toList = s.data.toList := by unfold Lib.trimPrefix; rw [if_neg (by rw [hp]; simp)]
  have := Tryz.strings_CutPrefix s ⟨#[c]⟩ w
  rw [ht, hp] at this
  exact this
theorem cut_suf (s : ByteArray) (hs : s.size ≤ 1000000000000) (c : UInt8) (h : s.data.toList.getLast? = some c) (w : World) : Calls Tryz.prog 182 #[.string s, .string ⟨#[c]⟩] w fun e w' => e = .returned (.tuple #[.string ⟨(s.data.toList.take (s.data.toList.length - 1)).toArray⟩, .bool true]) ∧ w' = w := by
  have hp : Lib.hasSuffix s.data.toList (⟨#[c]⟩ : ByteArray).data.toList = true := by
    show Lib.hasSuffix s.data.toList [c] = true
    rw [suf_one, h]; simp
  have ht : Lib.trimSuffix s.data.toList (⟨#[c]⟩ : ByteArray).data.toList = s.data.toList.take (s.data.toList.length - 1) := by unfold Lib.trimSuffix; rw [if_pos hp]; rfl
  have := Tryz.strings_CutSuffix s ⟨#[c]⟩ w (by omega)
  rw [ht, hp] at this
  exact this
theorem cut_suf_no (s : ByteArray) (hs : s.size ≤ 1000000000000) (c : UInt8) (h : s.data.toList.getLast? ≠ some c) (w : World) : Calls Tryz.prog 182 #[.string s, .string ⟨#[c]⟩] w fun e w' => e = .returned (.tuple #[.string s, .bool false]) ∧ w' = w := by
  have hp : Lib.hasSuffix s.data.toList (⟨#[c]⟩ : ByteArray).data.toList = false := by
    show Lib.hasSuffix s.data.toList [c] = false
    rw [suf_one]; simpa using h
  have ht : Lib.trimSuffix s.data.toList (⟨#[c]⟩ : ByteArray).data.toList = s.data.toList := by unfold Lib.trimSuffix; rw [if_neg (by rw [hp]; simp)]
  have := Tryz.strings_CutSuffix s ⟨#[c]⟩ w (by omega)
  rw [ht, hp] at this
  exact this
/-! what a literal is -/
theorem lit_closed (m : List UInt8) (h : m.getLast? = some 93) : litL (91 :: m) = (decide (Lib.countByte (m.take (m.length - 1)) 46 = 3) && (pieces 46 (m.take (m.length - 1))).all octL) := by
  have hne : m ≠ [] := by rintro rfl; cases h
  have hl : 1 ≤ m.length := by cases m with | nil => exact absurd rfl hne | cons a b => simp
  unfold litL
  have e1 : decide (2 ≤ (91 :: m).length) = true := by rw [decide_eq_true_eq, List.length_cons]; omega
  have e2 : ((91 :: m).head? == some (91 : UInt8)) = true := by simp
  have e3 : ((91 :: m).getLast? == some (93 : UInt8)) = true := by
    rw [List.getLast?_cons, h]; rfl
  have e4 : ((91 :: m).drop 1).take ((91 :: m).length - 2) = m.take (m.length - 1) := by
    rw [List.drop_succ_cons, List.drop_zero, List.length_cons]
    congr 1
  rw [e1, e2, e3, e4, pieces_count]
  simp only [Bool.true_and]
  have e5 : decide (List.count 46 (m.take (m.length - 1)) + 1 = 4) = decide (Lib.countByte (m.take (m.length - 1)) 46 = 3) := by
    unfold Lib.countByte
    by_cases hq : List.count 46 (m.take (m.length - 1)) = 3
    · rw [decide_eq_true (by omega), decide_eq_true (by omega)]
    · rw [decide_eq_false (by omega), decide_eq_false (by omega)]
  rw [e5]
theorem lit_open (m : List UInt8) (h : m.getLast? ≠ some 93) : litL (91 :: m) = false := by
  unfold litL
  cases hm : m with
  | nil => rfl
  | cons a b =>
    have e3 : ((91 :: a :: b).getLast? == some (93 : UInt8)) = false := by
      rw [beq_eq_false_iff_ne, List.getLast?_cons_cons, ← hm]; exact h
    rw [e3]; simp
theorem head_form (l : List UInt8) (c : UInt8) (h : l.head? = some c) : l = c :: l.drop 1 := by
  cases l with
  | nil => cases h
  | cons a b => simp at h; subst h; rfl

set_option maxHeartbeats 8000000 in
theorem domain_any (s : ByteArray) (hs : s.size ≤ 1000000000) (w : World) (hE : Env w) : Calls Tryz.prog 137 #[.string s] w fun e w' => e = .returned (.int .i64 (domL s.data.toList : Int)) ∧ Below w.heap.size w w' := by
  by_cases hp : s.data.toList.head? = some 91
  · have hC := cut_pre s 91 hp w
    have hd : domL s.data.toList = if litL s.data.toList then 0 else 5 := by unfold domL; rw [if_pos hp]
    have hform := head_form _ _ hp
    have hml : (s.data.toList.drop 1).length ≤ s.size := by rw [List.length_drop, list_len]; omega
    generalize s.data.toList.drop 1 = m at hC hform hml
    rw [hform] at hd
    rw [hform, hd]
    clear hd hp hform
    have e1 : (⟨m.toArray⟩ : ByteArray).data.toList = m := rfl
    have e2 : (⟨m.toArray⟩ : ByteArray).size = m.length := rfl
    by_cases hl : m.getLast? = some 93
    · rw [lit_closed m hl]
      have hC2 := cut_suf ⟨m.toArray⟩ (by omega) 93 (by rw [e1]; exact hl) w
      rw [e1] at hC2
      have hml2 : (m.take (m.length - 1)).length ≤ s.size := by rw [List.length_take]; omega
      generalize m.take (m.length - 1) = r at hC2 hml2
      have hC3 := Tryz.strings_Count_one ⟨r.toArray⟩ 46 w
      have hC4 := all_octets ⟨r.toArray⟩ (by show r.length ≤ _; omega) w hE
      have e3 : (⟨r.toArray⟩ : ByteArray).data.toList = r := rfl
      rw [e3] at hC3 hC4
      generalize Lib.countByte r 46 = n at hC3
      generalize (pieces 46 r).all octL = Q at hC4
      clear hl e1 e2 e3 hml hml2
      have HC4 := Lib.hid hC4
      clear hC4
      by_cases hn : n = 3
      · subst hn
        go_enter Tryz.func137, Tryz.ntmps137
        go_wp2_with fail
        refine hC.mono ?_
        rintro e w2 ⟨rfl, hw2⟩
        rw [hw2]
        clear hw2 w2 hC
        go_wp2_with fail
        refine hC2.mono ?_
        rintro e w2 ⟨rfl, hw2⟩
        rw [hw2]
        clear hw2 w2 hC2
        go_wp2_with fail
        refine hC3.mono ?_
        rintro e w2 ⟨rfl, hw2⟩
        rw [hw2]
        clear hw2 w2 hC3
        go_wp2_with fail
        refine HC4.out.mono ?_
        rintro e w3 ⟨rfl, hb3⟩
        cases Q with
        | true =>
          go_wp2
          go_ret
          exact ⟨rfl, hb3⟩
        | false =>
          go_wp2
          go_ret
          exact ⟨rfl, hb3⟩
      · have hn2 : ((n : Int) != 3) = true := by rw [bne_iff_ne]; omega
        rw [decide_eq_false hn]
        go_enter Tryz.func137, Tryz.ntmps137
        go_wp2_with fail
        refine hC.mono ?_
        rintro e w2 ⟨rfl, hw2⟩
        rw [hw2]
        clear hw2 w2 hC
        go_wp2_with fail
        refine hC2.mono ?_
        rintro e w2 ⟨rfl, hw2⟩
        rw [hw2]
        clear hw2 w2 hC2
        go_wp2_with fail
        refine hC3.mono ?_
        rintro e w2 ⟨rfl, hw2⟩
        rw [hw2]
        clear hw2 w2 hC3
        go_wp2
        go_ret
        exact ⟨rfl, Below.refl _ _⟩
    · rw [lit_open m hl]
      have hC2 := cut_suf_no ⟨m.toArray⟩ (by omega) 93 (by rw [e1]; exact hl) w
      clear hl e1 e2
      go_enter Tryz.func137, Tryz.ntmps137
      go_wp2_with fail
      refine hC.mono ?_
      rintro e w2 ⟨rfl, hw2⟩
      rw [hw2]
      clear hw2 w2 hC
      go_wp2_with fail
      refine hC2.mono ?_
      rintro e w2 ⟨rfl, hw2⟩
      rw [hw2]
      clear hw2 w2 hC2
      go_wp2
      go_ret
      exact ⟨rfl, Below.refl _ _⟩
  · have hC := cut_pre_no s 91 hp w
    have hd : domL s.data.toList = domP s.data.toList := by unfold domL; rw [if_neg hp]
    rw [hd]
    unfold domP
    rw [list_len]
    have HA := Lib.hid (all_labels s hs w hE)
    have HB := Lib.hid (fun W hb => all_short s hs W (hE.below (W := W) hb))
    have hany : (pieces 46 s.data.toList).any (fun p => decide (63 < p.length)) = !((pieces 46 s.data.toList).all fun p => !decide (63 < p.length)) := by
      rw [List.all_eq_not_any_not]; simp
    rw [hany]
    generalize (pieces 46 s.data.toList).all labelL = Q at HA
    generalize ((pieces 46 s.data.toList).all fun p => !decide (63 < p.length)) = Q2 at HB
    clear hany hd hp
    cases Q with
    | false =>
      go_enter Tryz.func137, Tryz.ntmps137
      go_wp2_with fail
      refine hC.mono ?_
      rintro e w2 ⟨rfl, hw2⟩
      rw [hw2]
      clear hw2 w2 hC
      go_wp2_with fail
      refine HA.out.mono ?_
      rintro e w3 ⟨rfl, hb3⟩
      go_wp2
      go_ret
      exact ⟨rfl, hb3⟩
    | true =>
      by_cases h255 : 255 < s.size
      · have h0 : (255 : Int) < (s.size : Int) := by omega
        rw [decide_eq_true h255]
        go_enter Tryz.func137, Tryz.ntmps137
        go_wp2_with fail
        refine hC.mono ?_
        rintro e w2 ⟨rfl, hw2⟩
        rw [hw2]
        clear hw2 w2 hC
        go_wp2_with fail
        refine HA.out.mono ?_
        rintro e w3 ⟨rfl, hb3⟩
        go_wp2
        go_ret
        exact ⟨rfl, hb3⟩
      · have h0 : ¬ (255 : Int) < (s.size : Int) := by omega
        rw [decide_eq_false h255]
        go_enter Tryz.func137, Tryz.ntmps137
        go_wp2_with fail
        refine hC.mono ?_
        rintro e w2 ⟨rfl, hw2⟩
        rw [hw2]
        clear hw2 w2 hC
        go_wp2_with fail
        refine HA.out.mono ?_
        rintro e w3 ⟨rfl, hb3⟩
        go_wp2_with fail
        refine (HB.out w3 hb3).mono ?_
        rintro e w4 ⟨rfl, hb4⟩
        have hb5 := hb3.trans (hb4.mono hb3.size)
        cases Q2 with
        | true =>
          go_wp2
          go_ret
          exact ⟨rfl, hb5⟩
        | false =>
          go_wp2
          go_ret
          exact ⟨rfl, hb5⟩
end Go.Proofs.YtkoncmmbdlnmfaaGreatDoor
