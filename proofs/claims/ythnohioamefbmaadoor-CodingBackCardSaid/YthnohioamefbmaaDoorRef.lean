/- The law's own reference teller and reader as plain functions, with the parts of their walks. -/
import Derived.Test.YthnohioamefbmaaDoorKinds
namespace Go.Proofs.YthnohioamefbmaaDoor
open Go.RowKit Go.Lib
set_option linter.unusedSimpArgs false
set_option linter.unusedVariables false

def lettersOf (t : Nat) : ByteArray := if t = 5 then L32 else if t = 6 then L64 else L16
def IsKind (t : Nat) : Prop := t = 5 ∨ t = 6 ∨ t = 4
theorem letters_size (t : Nat) (h : IsKind t) : (lettersOf t).size = 2 ^ t := by
  rcases h with rfl | rfl | rfl <;> decide

set_option maxRecDepth 100000 in
theorem letters_any (t : Nat) (h : IsKind t) (w : World) :
    Calls Tryd.prog 24 #[.int .i64 (t : Int)] w fun e w' => e = .returned (.string (lettersOf t)) ∧ w = w' := by
  rcases h with rfl | rfl | rfl
  all_goals
    go_enter Tryd.func24, Tryd.ntmps24
    go_wp2
    go_ret
    exact ⟨rfl, rfl⟩

/-- the bit k, the highest one of the first byte first. -/
def bitN (l : List Nat) (k : Nat) : Nat := l.getD (k / 8) 0 / 2 ^ (7 - k % 8) % 2

def BitRel (c k : Nat) (v5 v6 : Value) : Prop := ∃ j : Nat, k % 8 ≤ j ∧ j ≤ 7 ∧ v6 = .int .i64 j ∧ v5 = .int .i64 ((c / 2 ^ (j - k % 8) : Nat) : Int)
set_option maxRecDepth 100000 in
set_option maxHeartbeats 400000 in
theorem bit_any (sv : Value) (l : List Nat) (k : Nat) (w : World) (hsv : Bytes w sv l) (hl : l.length ≤ 1000000) (hk : k ≤ 100000000) (hlf : ∀ x ∈ l, x < 256) :
    Calls Tryd.prog 23 #[sv, .int .i64 (k : Int)] w fun e w' => e = .returned (.int .i64 (bitN l k : Nat)) ∧ w = w' := by
  obtain ⟨p, cap, rfl, hs⟩ := hsv
  by_cases hlt : k / 8 < l.length
  · rcases hs with rfl | ⟨blk, off, rfl, hb, hc⟩
    · simp at hlt
    · have hcell := hc _ hlt
      have hxx : l.getD (k / 8) 0 < 256 := by
        rw [List.getD_eq_getElem?_getD, List.getElem?_eq_getElem hlt]
        exact hlf _ (List.getElem_mem _)
      have HV : Hid (bitN l k = l.getD (k / 8) 0 / 2 ^ (7 - k % 8) % 2) := rfl
      generalize bitN l k = r at *
      generalize l.getD (k / 8) 0 = c at *
      clear hc hlf
      have hx := Int.natCast_nonneg k
      have hq0 : (0 : Int) ≤ (k : Int) / 8 := by omega
      have hq1 : (k : Int) / 8 < (l.length : Int) := by omega
      go_enter Tryd.func23, Tryd.ntmps23
      go_wp2
      go_loop [5, 6] (fun v5 v6 => BitRel c k v5 v6) (fun _ i => 8 - (intOf i).toNat)
      case atStart => exact ⟨k % 8, Nat.le_refl _, by omega, by simp, by simp⟩
      case round =>
        obtain ⟨j, hj1, hj2, rfl, rfl⟩ := hrel
        by_cases hj : j < 7
        · have hq := Nat.div_le_self c (2 ^ (j - k % 8))
          have e2 : c / 2 ^ (j + 1 - k % 8) = c / 2 ^ (j - k % 8) / 2 := by
            rw [Nat.div_div_eq_div_mul, ← Nat.pow_succ, show (j - k % 8).succ = j + 1 - k % 8 from by omega]
          have E2 := Lib.hid e2
          clear e2
          generalize c / 2 ^ (j - k % 8) = n at *
          go_wp2
          go_round
          case rel => exact ⟨j + 1, by omega, by omega, by go_num, by rw [E2.out]; simp⟩
          case measure => simp [intOf]; omega
        · obtain rfl : j = 7 := by omega
          have hq := Nat.div_le_self c (2 ^ (7 - k % 8))
          generalize c / 2 ^ (7 - k % 8) = n at *
          go_wp2
          go_ret
          exact ⟨by rw [HV.out]; simp, rfl⟩
  · have hz : bitN l k = 0 := by
      unfold bitN
      rw [List.getD_eq_getElem?_getD, List.getElem?_eq_none (by omega)]
      simp
    rw [hz]
    clear hs hz
    have hq1 : ¬ (k : Int) / 8 < (l.length : Int) := by omega
    go_enter Tryd.func23, Tryd.ntmps23
    go_wp2
    go_ret
    exact ⟨rfl, rfl⟩

/-- a letter in its one case. -/
def caseF (t : Nat) (c : UInt8) : UInt8 := if t = 5 ∧ 97 ≤ c.toNat ∧ c.toNat ≤ 122 then c - 32 else if t = 4 ∧ 65 ≤ c.toNat ∧ c.toNat ≤ 90 then c + 32 else c
def placeN (t : Nat) (c : UInt8) : Int := idxL (lettersOf t) (caseF t c)

def PlaceRel (ls : ByteArray) (c : UInt8) (v5 : Value) (k : Nat) : Prop := ∃ j : Nat, j ≤ ls.size ∧ k = ls.size - j ∧ v5 = .int .i64 j ∧ ∀ i, i < j → ls.data.toList[i]? ≠ some c
theorem index_at (l : List UInt8) (c : UInt8) (j : Nat) (h : l[j]? = some c) (hb : ∀ i, i < j → l[i]? ≠ some c) : indexByte l c = j := by
  by_cases he : indexByte l c = -1
  · exact absurd h (indexByte_none he j)
  · have h0 := indexByte_ge l c
    obtain ⟨o, ho⟩ := Int.eq_ofNat_of_zero_le (show 0 ≤ indexByte l c by omega)
    obtain ⟨h1, h2⟩ := indexByte_some ho
    rw [ho]
    rcases Nat.lt_trichotomy o j with h3 | h3 | h3
    · exact absurd h1 (hb o h3)
    · rw [h3]
    · exact absurd h (h2 j h3)
theorem index_no (l : List UInt8) (c : UInt8) (hb : ∀ i, i < l.length → l[i]? ≠ some c) : indexByte l c = -1 := by
  by_cases he : indexByte l c = -1
  · exact he
  · have h0 := indexByte_ge l c
    obtain ⟨o, ho⟩ := Int.eq_ofNat_of_zero_le (show 0 ≤ indexByte l c by omega)
    obtain ⟨h1, h2⟩ := indexByte_some ho
    exact absurd h1 (hb o (by
      rcases Nat.lt_or_ge o l.length with h | h
      · exact h
      · rw [List.getElem?_eq_none h] at h1; cases h1))

set_option maxRecDepth 100000 in
set_option maxHeartbeats 1600000 in
theorem place_a5 (c d : UInt8) (ls : ByteArray) (w : World) (hsz : ls.size ≤ 64) (h1 : 97 ≤ c.toNat) (h2 : c.toNat ≤ 122) (he : (c.toNat : Int) - 32 = d.toNat)
    (hLet : Calls Tryd.prog 24 #[.int .i64 (5 : Int)] w fun e w' => e = .returned (.string ls) ∧ w = w') :
    Calls Tryd.prog 22 #[.int .u8 (c.toNat : Int), .int .i64 (5 : Int)] w fun e w' => e = .returned (.int .i64 (idxL ls d)) ∧ w = w' := by
    have hc := c.toNat_lt
    have HE := Lib.hid he
    clear he
    have hb2 : decide ((c.toNat : Int) ≤ 122) = true := by simp; omega
    go_enter Tryd.func22, Tryd.ntmps22
    go_wp2_with fail
    go_loopg [5] ls.size (fun k v5 W => PlaceRel ls d v5 k ∧ w = W)
    case atStart => exact ⟨⟨0, by omega, by omega, rfl, by intro i hi; omega⟩, rfl⟩
    case round =>
      obtain ⟨⟨j, hj, hg, rfl, hn⟩, rfl⟩ := hrel
      have HN := Lib.hid hn
      clear hn
      by_cases hlt : j < ls.size
      · by_cases heq : ls[j] = d
        · have hq : ((ls[j].toNat : Int) == ((c.toNat : Int) - 32)) = true := by rw [HE.out, heq]; simp
          have HQ := Lib.hid heq
          clear heq
          go_wp2_with (go_at_call 24; refine hLet.mono ?_; rintro e w' ⟨rfl, rfl⟩)
          go_ret
          have := index_at ls.data.toList d j (by rw [List.getElem?_eq_getElem (by simpa using hlt)]; exact congrArg some HQ.out) HN.out
          exact ⟨by unfold idxL; rw [this]; rfl, rfl⟩
        · have hq : ((ls[j].toNat : Int) == ((c.toNat : Int) - 32)) = false := by
            rw [HE.out, beq_eq_false_iff_ne]
            intro h
            exact heq (UInt8.toNat_inj.1 (by exact_mod_cast h))
          go_wp2_with (go_at_call 24; refine hLet.mono ?_; rintro e w' ⟨rfl, rfl⟩)
          go_roundg (ls.size - (j + 1))
          case rel =>
            refine ⟨⟨j + 1, by omega, rfl, by go_num, ?_⟩, rfl⟩
            intro i hi
            by_cases hij : i = j
            · subst hij
              rw [List.getElem?_eq_getElem (by simpa using hlt)]
              intro h
              exact heq (Option.some.inj h)
            · exact HN.out i (by omega)
          case measure => omega
      · go_wp2_with (go_at_call 24; refine hLet.mono ?_; rintro e w' ⟨rfl, rfl⟩)
        go_ret
        have := index_no ls.data.toList d (fun i hi => HN.out i (by have : ls.data.toList.length = ls.size := by simp
                                                                    omega))
        exact ⟨congrArg (fun n => Ending.returned (.int .i64 n)) (show (-1 : Int) = idxL ls d from this.symm), rfl⟩
set_option maxRecDepth 100000 in
set_option maxHeartbeats 1600000 in
theorem place_b5 (c d : UInt8) (ls : ByteArray) (w : World) (hsz : ls.size ≤ 64) (h1 : ¬ 97 ≤ c.toNat) (he : d = c)
    (hLet : Calls Tryd.prog 24 #[.int .i64 (5 : Int)] w fun e w' => e = .returned (.string ls) ∧ w = w') :
    Calls Tryd.prog 22 #[.int .u8 (c.toNat : Int), .int .i64 (5 : Int)] w fun e w' => e = .returned (.int .i64 (idxL ls d)) ∧ w = w' := by
    have hc := c.toNat_lt
    subst he
    go_enter Tryd.func22, Tryd.ntmps22
    go_wp2_with fail
    go_loopg [5] ls.size (fun k v5 W => PlaceRel ls d v5 k ∧ w = W)
    case atStart => exact ⟨⟨0, by omega, by omega, rfl, by intro i hi; omega⟩, rfl⟩
    case round =>
      obtain ⟨⟨j, hj, hg, rfl, hn⟩, rfl⟩ := hrel
      have HN := Lib.hid hn
      clear hn
      by_cases hlt : j < ls.size
      · by_cases heq : ls[j] = d
        · have hq : ((ls[j].toNat : Int) == (d.toNat : Int)) = true := by rw [heq]; simp
          have HQ := Lib.hid heq
          clear heq
          go_wp2_with (go_at_call 24; refine hLet.mono ?_; rintro e w' ⟨rfl, rfl⟩)
          go_ret
          have := index_at ls.data.toList d j (by rw [List.getElem?_eq_getElem (by simpa using hlt)]; exact congrArg some HQ.out) HN.out
          exact ⟨by unfold idxL; rw [this]; rfl, rfl⟩
        · have hq : ((ls[j].toNat : Int) == (d.toNat : Int)) = false := by
            rw [beq_eq_false_iff_ne]
            intro h
            exact heq (UInt8.toNat_inj.1 (by exact_mod_cast h))
          go_wp2_with (go_at_call 24; refine hLet.mono ?_; rintro e w' ⟨rfl, rfl⟩)
          go_roundg (ls.size - (j + 1))
          case rel =>
            refine ⟨⟨j + 1, by omega, rfl, by go_num, ?_⟩, rfl⟩
            intro i hi
            by_cases hij : i = j
            · subst hij
              rw [List.getElem?_eq_getElem (by simpa using hlt)]
              intro h
              exact heq (Option.some.inj h)
            · exact HN.out i (by omega)
          case measure => omega
      · go_wp2_with (go_at_call 24; refine hLet.mono ?_; rintro e w' ⟨rfl, rfl⟩)
        go_ret
        have := index_no ls.data.toList d (fun i hi => HN.out i (by have : ls.data.toList.length = ls.size := by simp
                                                                    omega))
        exact ⟨congrArg (fun n => Ending.returned (.int .i64 n)) (show (-1 : Int) = idxL ls d from this.symm), rfl⟩
set_option maxRecDepth 100000 in
set_option maxHeartbeats 1600000 in
theorem place_c5 (c d : UInt8) (ls : ByteArray) (w : World) (hsz : ls.size ≤ 64) (h1 : 97 ≤ c.toNat) (h2 : ¬ c.toNat ≤ 122) (he : d = c)
    (hLet : Calls Tryd.prog 24 #[.int .i64 (5 : Int)] w fun e w' => e = .returned (.string ls) ∧ w = w') :
    Calls Tryd.prog 22 #[.int .u8 (c.toNat : Int), .int .i64 (5 : Int)] w fun e w' => e = .returned (.int .i64 (idxL ls d)) ∧ w = w' := by
    have hc := c.toNat_lt
    subst he
    go_enter Tryd.func22, Tryd.ntmps22
    go_wp2_with fail
    go_loopg [5] ls.size (fun k v5 W => PlaceRel ls d v5 k ∧ w = W)
    case atStart => exact ⟨⟨0, by omega, by omega, rfl, by intro i hi; omega⟩, rfl⟩
    case round =>
      obtain ⟨⟨j, hj, hg, rfl, hn⟩, rfl⟩ := hrel
      have HN := Lib.hid hn
      clear hn
      by_cases hlt : j < ls.size
      · by_cases heq : ls[j] = d
        · have hq : ((ls[j].toNat : Int) == (d.toNat : Int)) = true := by rw [heq]; simp
          have HQ := Lib.hid heq
          clear heq
          go_wp2_with (go_at_call 24; refine hLet.mono ?_; rintro e w' ⟨rfl, rfl⟩)
          go_ret
          have := index_at ls.data.toList d j (by rw [List.getElem?_eq_getElem (by simpa using hlt)]; exact congrArg some HQ.out) HN.out
          exact ⟨by unfold idxL; rw [this]; rfl, rfl⟩
        · have hq : ((ls[j].toNat : Int) == (d.toNat : Int)) = false := by
            rw [beq_eq_false_iff_ne]
            intro h
            exact heq (UInt8.toNat_inj.1 (by exact_mod_cast h))
          go_wp2_with (go_at_call 24; refine hLet.mono ?_; rintro e w' ⟨rfl, rfl⟩)
          go_roundg (ls.size - (j + 1))
          case rel =>
            refine ⟨⟨j + 1, by omega, rfl, by go_num, ?_⟩, rfl⟩
            intro i hi
            by_cases hij : i = j
            · subst hij
              rw [List.getElem?_eq_getElem (by simpa using hlt)]
              intro h
              exact heq (Option.some.inj h)
            · exact HN.out i (by omega)
          case measure => omega
      · go_wp2_with (go_at_call 24; refine hLet.mono ?_; rintro e w' ⟨rfl, rfl⟩)
        go_ret
        have := index_no ls.data.toList d (fun i hi => HN.out i (by have : ls.data.toList.length = ls.size := by simp
                                                                    omega))
        exact ⟨congrArg (fun n => Ending.returned (.int .i64 n)) (show (-1 : Int) = idxL ls d from this.symm), rfl⟩
set_option maxRecDepth 100000 in
set_option maxHeartbeats 1600000 in
theorem place_d6 (c d : UInt8) (ls : ByteArray) (w : World) (hsz : ls.size ≤ 64) (he : d = c)
    (hLet : Calls Tryd.prog 24 #[.int .i64 (6 : Int)] w fun e w' => e = .returned (.string ls) ∧ w = w') :
    Calls Tryd.prog 22 #[.int .u8 (c.toNat : Int), .int .i64 (6 : Int)] w fun e w' => e = .returned (.int .i64 (idxL ls d)) ∧ w = w' := by
    have hc := c.toNat_lt
    subst he
    go_enter Tryd.func22, Tryd.ntmps22
    go_wp2_with fail
    go_loopg [5] ls.size (fun k v5 W => PlaceRel ls d v5 k ∧ w = W)
    case atStart => exact ⟨⟨0, by omega, by omega, rfl, by intro i hi; omega⟩, rfl⟩
    case round =>
      obtain ⟨⟨j, hj, hg, rfl, hn⟩, rfl⟩ := hrel
      have HN := Lib.hid hn
      clear hn
      by_cases hlt : j < ls.size
      · by_cases heq : ls[j] = d
        · have hq : ((ls[j].toNat : Int) == (d.toNat : Int)) = true := by rw [heq]; simp
          have HQ := Lib.hid heq
          clear heq
          go_wp2_with (go_at_call 24; refine hLet.mono ?_; rintro e w' ⟨rfl, rfl⟩)
          go_ret
          have := index_at ls.data.toList d j (by rw [List.getElem?_eq_getElem (by simpa using hlt)]; exact congrArg some HQ.out) HN.out
          exact ⟨by unfold idxL; rw [this]; rfl, rfl⟩
        · have hq : ((ls[j].toNat : Int) == (d.toNat : Int)) = false := by
            rw [beq_eq_false_iff_ne]
            intro h
            exact heq (UInt8.toNat_inj.1 (by exact_mod_cast h))
          go_wp2_with (go_at_call 24; refine hLet.mono ?_; rintro e w' ⟨rfl, rfl⟩)
          go_roundg (ls.size - (j + 1))
          case rel =>
            refine ⟨⟨j + 1, by omega, rfl, by go_num, ?_⟩, rfl⟩
            intro i hi
            by_cases hij : i = j
            · subst hij
              rw [List.getElem?_eq_getElem (by simpa using hlt)]
              intro h
              exact heq (Option.some.inj h)
            · exact HN.out i (by omega)
          case measure => omega
      · go_wp2_with (go_at_call 24; refine hLet.mono ?_; rintro e w' ⟨rfl, rfl⟩)
        go_ret
        have := index_no ls.data.toList d (fun i hi => HN.out i (by have : ls.data.toList.length = ls.size := by simp
                                                                    omega))
        exact ⟨congrArg (fun n => Ending.returned (.int .i64 n)) (show (-1 : Int) = idxL ls d from this.symm), rfl⟩
set_option maxRecDepth 100000 in
set_option maxHeartbeats 1600000 in
theorem place_a4 (c d : UInt8) (ls : ByteArray) (w : World) (hsz : ls.size ≤ 64) (h1 : 65 ≤ c.toNat) (h2 : c.toNat ≤ 90) (he : (c.toNat : Int) + 32 = d.toNat)
    (hLet : Calls Tryd.prog 24 #[.int .i64 (4 : Int)] w fun e w' => e = .returned (.string ls) ∧ w = w') :
    Calls Tryd.prog 22 #[.int .u8 (c.toNat : Int), .int .i64 (4 : Int)] w fun e w' => e = .returned (.int .i64 (idxL ls d)) ∧ w = w' := by
    have hc := c.toNat_lt
    have HE := Lib.hid he
    clear he
    have hb2 : decide ((c.toNat : Int) ≤ 90) = true := by simp; omega
    go_enter Tryd.func22, Tryd.ntmps22
    go_wp2_with fail
    go_loopg [5] ls.size (fun k v5 W => PlaceRel ls d v5 k ∧ w = W)
    case atStart => exact ⟨⟨0, by omega, by omega, rfl, by intro i hi; omega⟩, rfl⟩
    case round =>
      obtain ⟨⟨j, hj, hg, rfl, hn⟩, rfl⟩ := hrel
      have HN := Lib.hid hn
      clear hn
      by_cases hlt : j < ls.size
      · by_cases heq : ls[j] = d
        · have hq : ((ls[j].toNat : Int) == ((c.toNat : Int) + 32)) = true := by rw [HE.out, heq]; simp
          have HQ := Lib.hid heq
          clear heq
          go_wp2_with (go_at_call 24; refine hLet.mono ?_; rintro e w' ⟨rfl, rfl⟩)
          go_ret
          have := index_at ls.data.toList d j (by rw [List.getElem?_eq_getElem (by simpa using hlt)]; exact congrArg some HQ.out) HN.out
          exact ⟨by unfold idxL; rw [this]; rfl, rfl⟩
        · have hq : ((ls[j].toNat : Int) == ((c.toNat : Int) + 32)) = false := by
            rw [HE.out, beq_eq_false_iff_ne]
            intro h
            exact heq (UInt8.toNat_inj.1 (by exact_mod_cast h))
          go_wp2_with (go_at_call 24; refine hLet.mono ?_; rintro e w' ⟨rfl, rfl⟩)
          go_roundg (ls.size - (j + 1))
          case rel =>
            refine ⟨⟨j + 1, by omega, rfl, by go_num, ?_⟩, rfl⟩
            intro i hi
            by_cases hij : i = j
            · subst hij
              rw [List.getElem?_eq_getElem (by simpa using hlt)]
              intro h
              exact heq (Option.some.inj h)
            · exact HN.out i (by omega)
          case measure => omega
      · go_wp2_with (go_at_call 24; refine hLet.mono ?_; rintro e w' ⟨rfl, rfl⟩)
        go_ret
        have := index_no ls.data.toList d (fun i hi => HN.out i (by have : ls.data.toList.length = ls.size := by simp
                                                                    omega))
        exact ⟨congrArg (fun n => Ending.returned (.int .i64 n)) (show (-1 : Int) = idxL ls d from this.symm), rfl⟩
set_option maxRecDepth 100000 in
set_option maxHeartbeats 1600000 in
theorem place_b4 (c d : UInt8) (ls : ByteArray) (w : World) (hsz : ls.size ≤ 64) (h1 : ¬ 65 ≤ c.toNat) (he : d = c)
    (hLet : Calls Tryd.prog 24 #[.int .i64 (4 : Int)] w fun e w' => e = .returned (.string ls) ∧ w = w') :
    Calls Tryd.prog 22 #[.int .u8 (c.toNat : Int), .int .i64 (4 : Int)] w fun e w' => e = .returned (.int .i64 (idxL ls d)) ∧ w = w' := by
    have hc := c.toNat_lt
    subst he
    go_enter Tryd.func22, Tryd.ntmps22
    go_wp2_with fail
    go_loopg [5] ls.size (fun k v5 W => PlaceRel ls d v5 k ∧ w = W)
    case atStart => exact ⟨⟨0, by omega, by omega, rfl, by intro i hi; omega⟩, rfl⟩
    case round =>
      obtain ⟨⟨j, hj, hg, rfl, hn⟩, rfl⟩ := hrel
      have HN := Lib.hid hn
      clear hn
      by_cases hlt : j < ls.size
      · by_cases heq : ls[j] = d
        · have hq : ((ls[j].toNat : Int) == (d.toNat : Int)) = true := by rw [heq]; simp
          have HQ := Lib.hid heq
          clear heq
          go_wp2_with (go_at_call 24; refine hLet.mono ?_; rintro e w' ⟨rfl, rfl⟩)
          go_ret
          have := index_at ls.data.toList d j (by rw [List.getElem?_eq_getElem (by simpa using hlt)]; exact congrArg some HQ.out) HN.out
          exact ⟨by unfold idxL; rw [this]; rfl, rfl⟩
        · have hq : ((ls[j].toNat : Int) == (d.toNat : Int)) = false := by
            rw [beq_eq_false_iff_ne]
            intro h
            exact heq (UInt8.toNat_inj.1 (by exact_mod_cast h))
          go_wp2_with (go_at_call 24; refine hLet.mono ?_; rintro e w' ⟨rfl, rfl⟩)
          go_roundg (ls.size - (j + 1))
          case rel =>
            refine ⟨⟨j + 1, by omega, rfl, by go_num, ?_⟩, rfl⟩
            intro i hi
            by_cases hij : i = j
            · subst hij
              rw [List.getElem?_eq_getElem (by simpa using hlt)]
              intro h
              exact heq (Option.some.inj h)
            · exact HN.out i (by omega)
          case measure => omega
      · go_wp2_with (go_at_call 24; refine hLet.mono ?_; rintro e w' ⟨rfl, rfl⟩)
        go_ret
        have := index_no ls.data.toList d (fun i hi => HN.out i (by have : ls.data.toList.length = ls.size := by simp
                                                                    omega))
        exact ⟨congrArg (fun n => Ending.returned (.int .i64 n)) (show (-1 : Int) = idxL ls d from this.symm), rfl⟩
set_option maxRecDepth 100000 in
set_option maxHeartbeats 1600000 in
theorem place_c4 (c d : UInt8) (ls : ByteArray) (w : World) (hsz : ls.size ≤ 64) (h1 : 65 ≤ c.toNat) (h2 : ¬ c.toNat ≤ 90) (he : d = c)
    (hLet : Calls Tryd.prog 24 #[.int .i64 (4 : Int)] w fun e w' => e = .returned (.string ls) ∧ w = w') :
    Calls Tryd.prog 22 #[.int .u8 (c.toNat : Int), .int .i64 (4 : Int)] w fun e w' => e = .returned (.int .i64 (idxL ls d)) ∧ w = w' := by
    have hc := c.toNat_lt
    subst he
    go_enter Tryd.func22, Tryd.ntmps22
    go_wp2_with fail
    go_loopg [5] ls.size (fun k v5 W => PlaceRel ls d v5 k ∧ w = W)
    case atStart => exact ⟨⟨0, by omega, by omega, rfl, by intro i hi; omega⟩, rfl⟩
    case round =>
      obtain ⟨⟨j, hj, hg, rfl, hn⟩, rfl⟩ := hrel
      have HN := Lib.hid hn
      clear hn
      by_cases hlt : j < ls.size
      · by_cases heq : ls[j] = d
        · have hq : ((ls[j].toNat : Int) == (d.toNat : Int)) = true := by rw [heq]; simp
          have HQ := Lib.hid heq
          clear heq
          go_wp2_with (go_at_call 24; refine hLet.mono ?_; rintro e w' ⟨rfl, rfl⟩)
          go_ret
          have := index_at ls.data.toList d j (by rw [List.getElem?_eq_getElem (by simpa using hlt)]; exact congrArg some HQ.out) HN.out
          exact ⟨by unfold idxL; rw [this]; rfl, rfl⟩
        · have hq : ((ls[j].toNat : Int) == (d.toNat : Int)) = false := by
            rw [beq_eq_false_iff_ne]
            intro h
            exact heq (UInt8.toNat_inj.1 (by exact_mod_cast h))
          go_wp2_with (go_at_call 24; refine hLet.mono ?_; rintro e w' ⟨rfl, rfl⟩)
          go_roundg (ls.size - (j + 1))
          case rel =>
            refine ⟨⟨j + 1, by omega, rfl, by go_num, ?_⟩, rfl⟩
            intro i hi
            by_cases hij : i = j
            · subst hij
              rw [List.getElem?_eq_getElem (by simpa using hlt)]
              intro h
              exact heq (Option.some.inj h)
            · exact HN.out i (by omega)
          case measure => omega
      · go_wp2_with (go_at_call 24; refine hLet.mono ?_; rintro e w' ⟨rfl, rfl⟩)
        go_ret
        have := index_no ls.data.toList d (fun i hi => HN.out i (by have : ls.data.toList.length = ls.size := by simp
                                                                    omega))
        exact ⟨congrArg (fun n => Ending.returned (.int .i64 n)) (show (-1 : Int) = idxL ls d from this.symm), rfl⟩
theorem place_any (c : UInt8) (t : Nat) (ht : IsKind t) (w : World) :
    Calls Tryd.prog 22 #[.int .u8 (c.toNat : Int), .int .i64 (t : Int)] w fun e w' => e = .returned (.int .i64 (placeN t c)) ∧ w = w' := by
  have hLet := letters_any t ht w
  have hsz : (lettersOf t).size ≤ 64 := by rw [letters_size t ht]; rcases ht with rfl | rfl | rfl <;> decide
  unfold placeN caseF
  rcases ht with rfl | rfl | rfl
  · by_cases h1 : 97 ≤ c.toNat
    · by_cases h2 : c.toNat ≤ 122
      · rw [if_pos ⟨rfl, h1, h2⟩]
        refine place_a5 c _ _ w hsz h1 h2 ?_ hLet
        have : (32 : UInt8) ≤ c := by rw [UInt8.le_iff_toNat_le]; show 32 ≤ c.toNat; omega
        rw [UInt8.toNat_sub_of_le _ _ this]; show _ = ((c.toNat - 32 : Nat) : Int); omega
      · rw [if_neg (by omega), if_neg (by omega)]
        exact place_c5 c c _ w hsz h1 h2 rfl hLet
    · rw [if_neg (by omega), if_neg (by omega)]
      exact place_b5 c c _ w hsz h1 rfl hLet
  · rw [if_neg (by omega), if_neg (by omega)]
    exact place_d6 c c _ w hsz rfl hLet
  · rw [if_neg (by omega)]
    by_cases h1 : 65 ≤ c.toNat
    · by_cases h2 : c.toNat ≤ 90
      · rw [if_pos ⟨rfl, h1, h2⟩]
        refine place_a4 c _ _ w hsz h1 h2 ?_ hLet
        rw [UInt8.toNat_add]; show _ = (((c.toNat + 32) % 256 : Nat) : Int); omega
      · rw [if_neg (by omega)]
        exact place_c4 c c _ w hsz h1 h2 rfl hLet
    · rw [if_neg (by omega)]
      exact place_b4 c c _ w hsz h1 rfl hLet
end Go.Proofs.YthnohioamefbmaaDoor
