/- Several texts joined into one (a claim has a limit of files). -/
import Derived.Test.YtkoncmmbdlnmfaaGreatDoorLinA
import Derived.Test.YtkoncmmbdlnmfaaGreatDoorShelf
/- alias.MayName, lines.printable, forward.may: what they hand back. -/
namespace Go.Proofs.YtkoncmmbdlnmfaaGreatDoor
open Go.RowKit Go.Lib
set_option linter.unusedSimpArgs false
set_option linter.unusedVariables false
set_option linter.unnecessarySimpa false
set_option maxRecDepth 100000

def nameN (c : Nat) : Bool := letterB c || c == 45 || c == 95
theorem Name_clo (c : Nat) (w : World) : Calls Tryz.prog 138 #[.int .u8 (c : Int)] w fun e w' => e = .returned (.bool (!nameN c)) ∧ w' = w := by
  by_cases h1 : 97 ≤ c <;> by_cases h2 : c ≤ 122 <;> by_cases h3 : 65 ≤ c <;> by_cases h4 : c ≤ 90 <;> by_cases h5 : 48 ≤ c <;> by_cases h6 : c ≤ 57 <;> by_cases h7 : c = 45 <;> by_cases h8 : c = 95 <;> (try omega)
  all_goals
    first | (have n7 : ((c : Int) != 45) = true := by rw [bne_iff_ne]; omega) | (have n7 : ((c : Int) != 45) = false := by rw [bne_eq_false_iff_eq]; omega)
    first | (have n8 : ((c : Int) != 95) = true := by rw [bne_iff_ne]; omega) | (have n8 : ((c : Int) != 95) = false := by rw [bne_eq_false_iff_eq]; omega)
    have k1 : (decide ((97 : Int) ≤ (c : Int)) : Bool) = decide (97 ≤ c) := by congr 1; exact propext (by omega)
    go_enter Tryz.func138, Tryz.ntmps138
    go_wp2
    go_ret
    exact ⟨by first | (simp [nameN, letterB, h1, h2, h3, h4, h5, h6, h7, h8]; done) | (simp [nameN, letterB, h1, h2, h3, h4, h5, h6, h7, h8]; omega) | (
      have b7 : (c == 45) = false := by simp [h7]
      have b8 : (c == 95) = false := by simp [h8]
      have p1 : decide ((57 : Int) < (c : Int)) = true := by rw [decide_eq_true_eq]; omega
      have p2 : ((c : Int) ≤ 122) = (c ≤ 122) := propext (by omega)
      have p3 : ((c : Int) ≤ 90) = (c ≤ 90) := propext (by omega)
      simp only [nameN, letterB, p1, p2, p3, b7, b8, h1, h2, h3, h4, h5, h6, h7, h8]
      simp [p1, p2, p3, b7, b8, h2, h4]), rfl⟩
theorem name_eq (b : UInt8) : nameN b.toNat = nameB b := by
  have := byte_all (fun b => nameN b.toNat == nameB b) (by decide) b
  simpa using this
theorem Name_q (l : List UInt8) : (!(l.map byteV).any (fun v => match v with | .int .u8 c => !nameN c.toNat | _ => false)) = l.all nameB := by
  rw [List.any_map]
  induction l with
  | nil => rfl
  | cons a b ih =>
    simp only [List.any_cons, List.all_cons, Bool.not_or, Function.comp, byteV, Bool.not_not, Int.toNat_natCast, name_eq]
    rw [← ih]
theorem MayName_any (s : ByteArray) (hs : s.size ≤ 1000000000000) (w : World) : Calls Tryz.prog 86 #[.string s] w fun e w' => e = .returned (.bool (mayName s.data.toList)) ∧ Below w.heap.size w w' := by
  by_cases hne : s = ⟨#[]⟩
  · subst hne
    have hz : mayName (⟨#[]⟩ : ByteArray).data.toList = false := rfl
    rw [hz]
    go_enter Tryz.func86, Tryz.ntmps86
    go_wp2
    go_ret
    exact ⟨rfl, Below.refl _ _⟩
  · have hnb := text_some hne
    have hie : s.data.toList.isEmpty = false := by
      cases h : s.data.toList with
      | nil => exact absurd (by cases s; rename_i d; cases d; simp at h; subst h; rfl) hne
      | cons a b => rfl
    have hie2 : s.toList.isEmpty = false := by cases h : s.toList.isEmpty with
      | false => rfl
      | true => exact absurd (List.isEmpty_iff.1 h) hnb
    by_cases h32 : s.size ≤ 32
    · have h1 : decide ((s.size : Int) ≤ 32) = true := by rw [decide_eq_true_eq]; omega
      have hk := cnv_run w s
      have hl : (s.data.toList.map byteV).length ≤ 1099511627776 := by rw [List.length_map, Array.length_toList]; show s.size ≤ _; omega
      have HC := Lib.hid (contains_bytes 138 #[] (fun v => match v with | .int .u8 c => !nameN c.toNat | _ => false) (.slice (some ⟨w.heap.size, 0, none⟩) s.size (grownCap w s.size 0 5)) _ (cnv w s) (cnv_row w s _) hl (enters_of Tryz.func138 (by kernel_rfl) rfl) (by
        intro x hx W hb
        obtain ⟨b, _, rfl⟩ := List.mem_map.1 hx
        have := (Name_clo b.toNat W).mono fun e w' (h : e = .returned (.bool (!nameN b.toNat)) ∧ w' = W) => (⟨h.1, h.2 ▸ Below.refl _ _⟩ : e = .returned (.bool (!nameN b.toNat)) ∧ Below W.heap.size W w')
        simpa [byteV] using this))
      have hq := Name_q s.data.toList
      have hM : mayName s.data.toList = s.data.toList.all nameB := by
        unfold mayName
        rw [hie, show decide (s.data.toList.length ≤ 32) = true from decide_eq_true (by rw [Array.length_toList]; exact h32)]
        rfl
      rw [hM, ← hq]
      generalize (s.data.toList.map byteV).any (fun v => match v with | .int .u8 c => !nameN c.toNat | _ => false) = Q at HC ⊢
      clear hq hl hM hie
      go_enter Tryz.func86, Tryz.ntmps86
      go_wp2_with fail
      refine HC.out.mono ?_
      rintro e w2 ⟨rfl, hb⟩
      go_wp2
      go_ret
      exact ⟨by simp [hie2], (cnv_below w s).trans (hb.mono (cnv_below w s).size)⟩
    · have h1 : decide ((s.size : Int) ≤ 32) = false := by rw [decide_eq_false_iff_not]; omega
      have hM : mayName s.data.toList = false := by
        unfold mayName
        rw [show decide (s.data.toList.length ≤ 32) = false from decide_eq_false (by rw [Array.length_toList]; exact h32)]
        simp
      rw [hM]
      go_enter Tryz.func86, Tryz.ntmps86
      go_wp2
      go_ret
      exact ⟨rfl, Below.refl _ _⟩
def PrRel (s : ByteArray) (w : World) (g : Nat) (v6 : Value) (W : World) : Prop :=
  ∃ i : Nat, v6 = .int .i64 (i : Int) ∧ i ≤ s.size ∧ g = s.size - i ∧ W = w ∧ printL (s.data.toList.take i) = true
def printN (c : Nat) : Bool := c == 9 || plainB c
theorem print_eq (b : UInt8) : (b == 9 || plainB b.toNat) = printN b.toNat := by
  have := byte_all (fun b => (b == 9 || plainB b.toNat) == printN b.toNat) (by decide) b
  simpa using this
theorem print_not (s : ByteArray) (i : Nat) (h : i < s.size) (hp : printN s[i].toNat = false) : printL s.data.toList = false := by
  unfold printL
  rw [List.all_eq_false]
  exact ⟨_, list_at s i h, by rw [print_eq, hp]; simp⟩
theorem printable_any (s : ByteArray) (hs : s.size ≤ 1000000000000) (w : World) : Calls Tryz.prog 126 #[.string s] w fun e w' => e = .returned (.bool (printL s.data.toList)) ∧ Below w.heap.size w w' := by
  have HBAD := Lib.hid (print_not s)
  have HALL := Lib.hid (show printL (s.data.toList.take s.size) = true → printL s.data.toList = true by rw [take_all]; exact id)
  generalize printL s.data.toList = R at HBAD HALL
  go_enter Tryz.func126, Tryz.ntmps126
  go_wp2_with fail
  go_loopg [6] s.size (fun g v6 W => PrRel s w g v6 W)
  case atStart => exact ⟨0, rfl, by omega, by omega, rfl, by simp [printL]⟩
  case round =>
    obtain ⟨i, rfl, hi, hg, rfl, hall⟩ := hrel
    have HG := Lib.hid hg
    have HA := Lib.hid hall
    clear hg hall
    by_cases hlt : i < s.size
    · have hi0 : (0 : Int) ≤ (i : Int) := by omega
      have hi1 : (i : Int) < (s.size : Int) := by omega
      have hwk : IntKind.i64.wrap ((i : Int) + 1) = (i : Int) + 1 := by rw [IntKind.wrap_i64]; omega
      have hts := take_snoc s i hlt
      have HS := Lib.hid (show printN s[i].toNat = true → printL (s.data.toList.take (i + 1)) = true by
        intro h; unfold printL; rw [hts, List.all_append]; have := HA.out; unfold printL at this; rw [this]; simp [print_eq, h])
      have HB := Lib.hid (fun h => HBAD.out i hlt h)
      clear hts
      by_cases h9 : s[i].toNat = 9
      · have n9 : ((s[i].toNat : Int) != 9) = false := by rw [bne_eq_false_iff_eq]; omega
        have HS2 := Lib.hid (HS.out (by rw [h9]; rfl))
        go_wp2
        go_roundg (s.size - (i + 1))
        case rel => exact ⟨i + 1, by go_num, by omega, rfl, rfl, HS2.out⟩
        case measure => have := HG.out; omega
      · have n9 : ((s[i].toNat : Int) != 9) = true := by rw [bne_iff_ne]; omega
        by_cases h32 : s[i].toNat < 32
        · have n1 : decide ((s[i].toNat : Int) < 32) = true := by rw [decide_eq_true_eq]; omega
          have hR := HB.out (by unfold printN plainB; simp [h9]; omega)
          subst hR
          go_wp2
          go_ret
          exact ⟨rfl, Below.refl _ _⟩
        · have n1 : decide ((s[i].toNat : Int) < 32) = false := by rw [decide_eq_false_iff_not]; omega
          by_cases h126 : 126 < s[i].toNat
          · have n2 : decide ((126 : Int) < (s[i].toNat : Int)) = true := by rw [decide_eq_true_eq]; omega
            have hR := HB.out (by unfold printN plainB; simp [h9]; omega)
            subst hR
            go_wp2
            go_ret
            exact ⟨rfl, Below.refl _ _⟩
          · have n2 : decide ((126 : Int) < (s[i].toNat : Int)) = false := by rw [decide_eq_false_iff_not]; omega
            have HS2 := Lib.hid (HS.out (by unfold printN plainB; simp [h9]; omega))
            go_wp2
            go_roundg (s.size - (i + 1))
            case rel => exact ⟨i + 1, by go_num, by omega, rfl, rfl, HS2.out⟩
            case measure => have := HG.out; omega
    · obtain rfl : i = s.size := by omega
      have hge : ¬ ((s.size : Nat) : Int) < ((s.size : Nat) : Int) := by omega
      have hR := HALL.out HA.out
      subst hR
      go_wp2
      go_ret
      exact ⟨rfl, Below.refl _ _⟩
end Go.Proofs.YtkoncmmbdlnmfaaGreatDoor

/- forward.may; a target as a value. -/
namespace Go.Proofs.YtkoncmmbdlnmfaaGreatDoor
open Go.RowKit Go.Lib
set_option linter.unusedSimpArgs false
set_option linter.unusedVariables false
set_option linter.unnecessarySimpa false
set_option maxRecDepth 100000

/-- a target as a value: its kind, its address, its name. -/
def tgV (t : Tg) : Value := .agg #[.int .i64 (t.1 : Int), .string ⟨t.2.1.1.toArray⟩, .string ⟨t.2.1.2.toArray⟩, .string ⟨t.2.2.toArray⟩]
/-- a block of four cells. -/
structure Four (B : Nat) (x y z u : Value) (W : World) : Prop where
  lt : B < W.heap.size
  c0 : W.cell? ⟨B, 0, none⟩ = some x
  c1 : W.cell? ⟨B, 1, none⟩ = some y
  c2 : W.cell? ⟨B, 2, none⟩ = some z
  c3 : W.cell? ⟨B, 3, none⟩ = some u
theorem Four.made (w : World) (x y z u : Value) (t : TypeId) : Four w.heap.size x y z u (w.alloc (.cells #[x, y, z, u] t)) := by
  have h := heap_alloc_new w (.cells #[x, y, z, u] t (0, 0))
  refine ⟨(Array.getElem?_eq_some_iff.1 h).1, ?_, ?_, ?_, ?_⟩ <;> (rw [Lib.cell_of_heap h]; rfl)
theorem may_any (k : Int) (a b n : ByteArray) (w : World) : Calls Tryz.prog 49 #[.agg #[.int .i64 k, .string a, .string b, .string n]] w fun e w' => e = .returned (.bool (decide (1 ≤ k) && decide (k ≤ 4))) ∧ Below w.heap.size w w' := by
  have hf := Four.made w (.int .i64 k) (.string a) (.string b) (.string n) 28
  have hb := alloc_below w (.cells #[.int .i64 k, .string a, .string b, .string n] 28)
  generalize hw : w.alloc (.cells #[.int .i64 k, .string a, .string b, .string n] 28) = w1 at hf hb
  obtain ⟨-, c0, c1, c2, c3⟩ := hf
  by_cases h1 : 1 ≤ k
  · have d1 : decide ((1 : Int) ≤ k) = true := by rw [decide_eq_true_eq]; exact h1
    go_enter Tryz.func49, Tryz.ntmps49
    go_wp2
    go_ret
    exact ⟨by simp [d1], hb⟩
  · have d1 : decide ((1 : Int) ≤ k) = false := by rw [decide_eq_false_iff_not]; exact h1
    go_enter Tryz.func49, Tryz.ntmps49
    go_wp2
    go_ret
    exact ⟨by simp [d1], hb⟩
end Go.Proofs.YtkoncmmbdlnmfaaGreatDoor

/- alias.kind: a text's kind, and what stands behind its beginning. -/
namespace Go.Proofs.YtkoncmmbdlnmfaaGreatDoor
open Go.RowKit Go.Lib
set_option linter.unusedSimpArgs false
set_option linter.unusedVariables false
set_option linter.unnecessarySimpa false
set_option maxRecDepth 100000

/-- the variable 'begins', as its text lays it (the kinds from 3 on). -/
structure Begs (w : World) : Prop where
  b3 : w.cell? ⟨0, 3, none⟩ = some (.string ⟨#[92]⟩)
  b4 : w.cell? ⟨0, 4, none⟩ = some (.string ⟨#[47]⟩)
  b5 : w.cell? ⟨0, 5, none⟩ = some (.string ⟨#[58, 105, 110, 99, 108, 117, 100, 101, 58]⟩)
  b6 : w.cell? ⟨0, 6, none⟩ = some (.string ⟨#[58, 102, 97, 105, 108, 58]⟩)
  b7 : w.cell? ⟨0, 7, none⟩ = some (.string ⟨#[58, 100, 114, 111, 112, 58]⟩)
def begL (k : Nat) : List UInt8 := if k = 3 then [92] else if k = 4 then [47] else if k = 5 then inclL else if k = 6 then failL else dropB
def kF (s : List UInt8) : Nat → Nat → Nat × List UInt8
  | 0, _ => if s.contains 64 then (1, s) else (2, s)
  | f + 1, k => match cutPre (begL k) s with
    | some r => (k, r)
    | none => kF s f (k + 1)
theorem kind_F (s : List UInt8) : kindL s = kF s 5 3 := rfl
theorem begs_at {w : World} (h : Begs w) (k : Nat) (h3 : 3 ≤ k) (h7 : k ≤ 7) : w.cell? ⟨0, k, none⟩ = some (.string ⟨(begL k).toArray⟩) := by
  match k, h3, h7 with
  | 3, _, _ => exact h.b3
  | 4, _, _ => exact h.b4
  | 5, _, _ => exact h.b5
  | 6, _, _ => exact h.b6
  | 7, _, _ => exact h.b7
theorem Begs.below {w W : World} (h : Begs w) (hb : Below w.heap.size w W) : Begs W :=
  have hl := World.block_lt_of_cell? w _ h.b3
  ⟨(hb.cell (p := ⟨0, 3, none⟩) hl).trans h.b3, (hb.cell (p := ⟨0, 4, none⟩) hl).trans h.b4, (hb.cell (p := ⟨0, 5, none⟩) hl).trans h.b5, (hb.cell (p := ⟨0, 6, none⟩) hl).trans h.b6, (hb.cell (p := ⟨0, 7, none⟩) hl).trans h.b7⟩
theorem ba_same (s : ByteArray) : (⟨s.data.toList.toArray⟩ : ByteArray) = s := by cases s; simp
theorem cutPre_has (p s : List UInt8) : cutPre p s = if Lib.hasPrefix s p = true then some (Lib.trimPrefix s p) else none := by
  have h := Lib.hasPrefix_of_take s p
  unfold cutPre Lib.trimPrefix
  by_cases ht : s.take p.length = p
  · have hle : p.length ≤ s.length := by
      have := congrArg List.length ht
      rw [List.length_take] at this
      omega
    have hp : Lib.hasPrefix s p = true := by rw [← h, ht]; simp [hle]
    rw [if_pos ht, if_pos hp, if_pos hp]
  · have hp : Lib.hasPrefix s p = false := by
      rw [← h]
      simp [ht]
    rw [if_neg ht, if_neg (by rw [hp]; simp)]
theorem has_at (s : List UInt8) (c : UInt8) : decide (0 ≤ Lib.indexByte s c) = s.contains c := by
  rw [List.contains_eq_mem]
  rcases Int.lt_or_le (Lib.indexByte s c) 0 with h | h
  · have h1 : Lib.indexByte s c = -1 := by
      have := Lib.indexByte_ge s c
      omega
    have h2 := Lib.indexByte_none h1
    rw [decide_eq_false (by omega), eq_comm, decide_eq_false_iff_not]
    intro hm
    obtain ⟨k, hk⟩ := List.getElem?_of_mem hm
    exact h2 k hk
  · obtain ⟨o, ho⟩ := Int.eq_ofNat_of_zero_le h
    have := (Lib.indexByte_some ho).1
    rw [decide_eq_true h, eq_comm, decide_eq_true_eq]
    exact List.mem_of_getElem? this
def KiRel (s : List UInt8) (w : World) (g : Nat) (v4 : Value) (W : World) : Prop :=
  ∃ k : Nat, v4 = .int .i64 (k : Int) ∧ 3 ≤ k ∧ k ≤ 8 ∧ g = 8 - k ∧ W = w ∧ kindL s = kF s g k
set_option maxHeartbeats 2000000 in
theorem Kind_any (s : ByteArray) (w : World) (hB : Begs w) : Calls Tryz.prog 83 #[.string s] w fun e w' => e = .returned (.tuple #[.int .i64 ((kindL s.data.toList).1 : Int), .string ⟨(kindL s.data.toList).2.toArray⟩]) ∧ Below w.heap.size w w' := by
  have HK0 := kind_F s.data.toList
  obtain ⟨K, hK⟩ : ∃ K, K = kindL s.data.toList := ⟨_, rfl⟩
  have HK := Lib.hid hK
  rw [← hK]
  clear hK
  obtain ⟨kk, kr⟩ := K
  dsimp only
  go_enter Tryz.func83, Tryz.ntmps83
  go_wp2_with fail
  go_loopg [4] 5 (fun g v4 W => KiRel s.data.toList w g v4 W)
  case atStart => exact ⟨3, rfl, by omega, by omega, rfl, rfl, HK0⟩
  case round =>
    obtain ⟨k, rfl, h3, h8, hg, rfl, hkf⟩ := hrel
    have HG := Lib.hid hg
    have HKF := Lib.hid hkf
    clear hg hkf
    by_cases h7 : k ≤ 7
    · have h7i : (k : Int) ≤ 7 := by omega
      have i0 : (0 : Int) ≤ (k : Int) := by omega
      have i1 : (k : Int) < 8 := by omega
      have hwk : IntKind.i64.wrap ((k : Int) + 1) = (k : Int) + 1 := by rw [IntKind.wrap_i64]; omega
      have hc := begs_at hB k h3 h7
      have HCP := Lib.hid (Tryz.strings_CutPrefix s ⟨(begL k).toArray⟩ wr)
      rw [show (⟨(begL k).toArray⟩ : ByteArray).data.toList = begL k from rfl] at HCP
      have hch := cutPre_has (begL k) s.data.toList
      have hg5 : 8 - k = (7 - k) + 1 := by omega
      have hkf := HKF.out
      rw [HG.out, hg5, kF, hch] at hkf
      have HKF2 := Lib.hid hkf
      clear hkf hch HKF
      generalize hbg : (⟨(begL k).toArray⟩ : ByteArray) = BG at hc HCP
      cases hp : Lib.hasPrefix s.data.toList (begL k) with
      | true =>
        rw [hp] at HCP HKF2
        have hK := HK.out
        have hk2 := HKF2.out
        simp only [if_true] at hk2
        rw [hk2] at hK
        injection hK with q1 q2
        subst q1
        subst q2
        generalize hT : (⟨(Lib.trimPrefix s.data.toList (begL kk)).toArray⟩ : ByteArray) = TP at HCP
        have HT := Lib.hid hT
        clear hk2 hp hbg hT
        go_wp2_with fail
        refine HCP.out.mono ?_
        rintro e w1 ⟨rfl, hw⟩
        rw [hw]
        clear hw
        go_wp2
        go_ret2
        exact ⟨by rw [HT.out]; rfl, Below.refl _ _⟩
      | false =>
        rw [hp] at HCP HKF2
        have hk2 := HKF2.out
        simp only [Bool.false_eq_true, if_false] at hk2
        have HKF3 := Lib.hid hk2
        generalize (⟨(Lib.trimPrefix s.data.toList (begL k)).toArray⟩ : ByteArray) = TP at HCP
        clear hk2 hp hbg HKF2
        go_wp2_with fail
        refine HCP.out.mono ?_
        rintro e w1 ⟨rfl, hw⟩
        rw [hw]
        clear hw
        go_wp2_with fail
        go_roundg (7 - k)
        case rel => exact ⟨k + 1, by go_num, by omega, by omega, by omega, rfl, HKF3.out⟩
        case measure => have := HG.out; omega
    · obtain rfl : k = 8 := by omega
      have hkf := HKF.out
      rw [HG.out] at hkf
      have HC := Lib.hid (Tryz.strings_Contains_one s 64 wr)
      rw [has_at] at HC
      have hK := HK.out
      rw [hkf] at hK
      simp only [Nat.sub_self, kF] at hK
      have HK2 := Lib.hid hK
      clear hkf hK HKF HK
      generalize s.data.toList.contains 64 = C at HC HK2
      go_wp2_with fail
      refine HC.out.mono ?_
      rintro e w1 ⟨rfl, hw⟩
      rw [hw]
      clear hw
      have hK := HK2.out
      cases C with
      | true =>
        simp only [if_true] at hK
        injection hK with q1 q2
        subst q1
        subst q2
        go_wp2
        go_ret2
        first | exact ⟨rfl, Below.refl _ _⟩ | exact ⟨by simp [ba_same], Below.refl _ _⟩
      | false =>
        simp only [Bool.false_eq_true, if_false] at hK
        injection hK with q1 q2
        subst q1
        subst q2
        go_wp2
        go_ret2
        first | exact ⟨rfl, Below.refl _ _⟩ | exact ⟨by simp [ba_same], Below.refl _ _⟩
end Go.Proofs.YtkoncmmbdlnmfaaGreatDoor
