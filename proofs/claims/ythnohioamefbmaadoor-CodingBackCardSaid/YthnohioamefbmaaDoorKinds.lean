/- What the package's six functions over its table hand back, where the table reads as its text lays it. -/
import Derived.Test.YthnohioamefbmaaDoorRead
import Derived.Deep.RegionHeld3
namespace Go.Proofs.YthnohioamefbmaaDoor
open Go.RowKit Go.Lib
set_option linter.unusedSimpArgs false
set_option linter.unusedVariables false

def L32 : ByteArray := ⟨#[65, 66, 67, 68, 69, 70, 71, 72, 73, 74, 75, 76, 77, 78, 79, 80, 81, 82, 83, 84, 85, 86, 87, 88, 89, 90, 50, 51, 52, 53, 54, 55]⟩
def L64 : ByteArray := ⟨#[65, 66, 67, 68, 69, 70, 71, 72, 73, 74, 75, 76, 77, 78, 79, 80, 81, 82, 83, 84, 85, 86, 87, 88, 89, 90, 97, 98, 99, 100, 101, 102, 103, 104, 105, 106, 107, 108, 109, 110, 111, 112, 113, 114, 115, 116, 117, 118, 119, 120, 121, 122, 48, 49, 50, 51, 52, 53, 54, 55, 56, 57, 43, 47]⟩
def L16 : ByteArray := ⟨#[48, 49, 50, 51, 52, 53, 54, 55, 56, 57, 97, 98, 99, 100, 101, 102]⟩
theorem L32_size : 2 ^ 5 = L32.size := by decide
theorem L64_size : 2 ^ 6 = L64.size := by decide
theorem L16_size : 2 ^ 4 = L16.size := by decide

/-- what the package's table reads as, and utf8's. -/
structure Tabs (w : World) : Prop where
  pos : 4 ≤ w.heap.size
  a0 : w.cell? ⟨0, 0, none⟩ = some (.string L32)
  a1 : w.cell? ⟨0, 1, none⟩ = some (.int .i64 5)
  a2 : w.cell? ⟨0, 2, none⟩ = some (.int .i64 1)
  b0 : w.cell? ⟨0, 3, none⟩ = some (.string L64)
  b1 : w.cell? ⟨0, 4, none⟩ = some (.int .i64 6)
  b2 : w.cell? ⟨0, 5, none⟩ = some (.int .i64 4)
  c0 : w.cell? ⟨0, 6, none⟩ = some (.string L16)
  c1 : w.cell? ⟨0, 7, none⟩ = some (.int .i64 4)
  c2 : w.cell? ⟨0, 8, none⟩ = some (.int .i64 1)
  utf8 : Lib.Utf8Tabs 2 3 w
theorem Tabs.below {w W : World} (h : Tabs w) (hb : Below w.heap.size w W) : Tabs W := by
  have hc : ∀ o, W.cell? ⟨0, o, none⟩ = w.cell? ⟨0, o, none⟩ := fun o => hb.cell (p := ⟨0, o, none⟩) (by have := h.pos; show 0 < w.heap.size; omega)
  exact ⟨Nat.le_trans h.pos hb.size, (hc _).trans h.a0, (hc _).trans h.a1, (hc _).trans h.a2, (hc _).trans h.b0, (hc _).trans h.b1, (hc _).trans h.b2, (hc _).trans h.c0, (hc _).trans h.c1, (hc _).trans h.c2, Utf8Tabs_below h.utf8 hb⟩

theorem three32 {w W : World} (h : Tabs w) (hb : Below w.heap.size w W) : W.cell? ⟨0, 0, none⟩ = some (.string L32) ∧ W.cell? ⟨0, 1, none⟩ = some (.int .i64 5) ∧ W.cell? ⟨0, 2, none⟩ = some (.int .i64 1) :=
  ⟨(h.below hb).a0, (h.below hb).a1, (h.below hb).a2⟩
theorem three16 {w W : World} (h : Tabs w) (hb : Below w.heap.size w W) : W.cell? ⟨0, 6, none⟩ = some (.string L16) ∧ W.cell? ⟨0, 7, none⟩ = some (.int .i64 4) ∧ W.cell? ⟨0, 8, none⟩ = some (.int .i64 1) :=
  ⟨(h.below hb).c0, (h.below hb).c1, (h.below hb).c2⟩
def TellPost (w : World) (l : List UInt8) (e : Ending) (w' : World) : Prop := e = .returned (.string ⟨l.toArray⟩) ∧ Below w.heap.size w w'

set_option maxHeartbeats 400000 in
theorem base32_any (sv : Value) (l : List Nat) (hlen : l.length ≤ 100000) (w : World) (hT : Tabs w) (hlf : ∀ x ∈ l, x < 256) (hsv : Bytes w sv l) :
    Calls Tryd.prog 12 #[sv] w (TellPost w (tellL L32 5 1 l)) := by
  have hC := tell_any L32 5 1 (by omega) (by omega) (by rw [L32_size]; exact Nat.le_refl _) (by omega) (by omega) sv _ l rfl hlen w hlf hsv
  have h0 := hT.a0; have h1 := hT.a1; have h2 := hT.a2
  go_enter Tryd.func12, Tryd.ntmps12
  go_wp2_with fail
  refine hC.mono ?_
  rintro e w1 ⟨rfl, hb⟩
  go_wp2
  go_ret
  exact ⟨rfl, hb⟩
set_option maxHeartbeats 400000 in
theorem base64_any (sv : Value) (l : List Nat) (hlen : l.length ≤ 100000) (w : World) (hT : Tabs w) (hlf : ∀ x ∈ l, x < 256) (hsv : Bytes w sv l) :
    Calls Tryd.prog 13 #[sv] w (TellPost w (tellL L64 6 4 l)) := by
  have hC := tell_any L64 6 4 (by omega) (by omega) (by rw [L64_size]; exact Nat.le_refl _) (by omega) (by omega) sv _ l rfl hlen w hlf hsv
  have h0 := hT.b0; have h1 := hT.b1; have h2 := hT.b2
  go_enter Tryd.func13, Tryd.ntmps13
  go_wp2_with fail
  refine hC.mono ?_
  rintro e w1 ⟨rfl, hb⟩
  go_wp2
  go_ret
  exact ⟨rfl, hb⟩
set_option maxHeartbeats 400000 in
theorem hex_any (sv : Value) (l : List Nat) (hlen : l.length ≤ 100000) (w : World) (hT : Tabs w) (hlf : ∀ x ∈ l, x < 256) (hsv : Bytes w sv l) :
    Calls Tryd.prog 17 #[sv] w (TellPost w (tellL L16 4 1 l)) := by
  have hC := tell_any L16 4 1 (by omega) (by omega) (by rw [L16_size]; exact Nat.le_refl _) (by omega) (by omega) sv _ l rfl hlen w hlf hsv
  have h0 := hT.c0; have h1 := hT.c1; have h2 := hT.c2
  go_enter Tryd.func17, Tryd.ntmps17
  go_wp2_with fail
  refine hC.mono ?_
  rintro e w1 ⟨rfl, hb⟩
  go_wp2
  go_ret
  exact ⟨rfl, hb⟩

def greatF (c : Int) : Int := if 97 ≤ c ∧ c ≤ 122 then c - 32 else c
def smallF (c : Int) : Int := if 65 ≤ c ∧ c ≤ 90 then c + 32 else c
theorem great_any (w : World) : MapAtRunes Tryd.prog 28 #[] greatF w := by
  intro W x hx _
  unfold FnGives encR greatF
  by_cases h2 : 97 ≤ x <;> by_cases h3 : x ≤ 122
  all_goals
    have z2 : (97 : Int) ≤ (x : Int) ↔ 97 ≤ x := by omega
    have z3 : (x : Int) ≤ 122 ↔ x ≤ 122 := by omega
    go_enter Tryd.func28, Tryd.ntmps28
    go_wp2
    all_goals first | (exfalso; omega) | (go_ret; exact ⟨by simp [h2, h3], 0, rfl⟩)
theorem small_any (w : World) : MapAtRunes Tryd.prog 29 #[] smallF w := by
  intro W x hx _
  unfold FnGives encR smallF
  by_cases h2 : 65 ≤ x <;> by_cases h3 : x ≤ 90
  all_goals
    have z2 : (65 : Int) ≤ (x : Int) ↔ 65 ≤ x := by omega
    have z3 : (x : Int) ≤ 90 ↔ x ≤ 90 := by omega
    go_enter Tryd.func29, Tryd.ntmps29
    go_wp2
    all_goals first | (exfalso; omega) | (go_ret; exact ⟨by simp [h2, h3], 0, rfl⟩)
def strB (l : List UInt8) : ByteArray := ⟨l.toArray⟩
theorem strB_size (l : List UInt8) : (strB l).size = l.length := size_of_list l
theorem Tabs.drew {w : World} (h : Tabs w) : Tabs w.drew := h.below ⟨rfl, rfl, rfl, Nat.le_refl _, fun _ _ => rfl⟩
theorem up_any (s : ByteArray) (w : World) (hs : s.size ≤ 10000) (hT : Tabs w) :
    Calls Tryd.prog 27 #[.func (.func 28) #[] #[], .string s] w fun e w' => e = .returned (.string (strB (Lib.mapD greatF s.data.toList))) ∧ Below w.heap.size w w' :=
  Tryd.strings_Map_runes 28 #[] (enters_of Tryd.func28 (by kernel_rfl) rfl) greatF s w (by omega) (great_any w) (fun x hx => by unfold greatF; split <;> omega) hT.utf8
theorem down_any (s : ByteArray) (w : World) (hs : s.size ≤ 10000) (hT : Tabs w) :
    Calls Tryd.prog 27 #[.func (.func 29) #[] #[], .string s] w fun e w' => e = .returned (.string (strB (Lib.mapD smallF s.data.toList))) ∧ Below w.heap.size w w' :=
  Tryd.strings_Map_runes 29 #[] (enters_of Tryd.func29 (by kernel_rfl) rfl) smallF s w (by omega) (small_any w) (fun x hx => by unfold smallF; split <;> omega) hT.utf8

set_option maxRecDepth 100000 in
set_option maxHeartbeats 800000 in
theorem from64_any (s : ByteArray) (hs : s.size ≤ 10000) (w : World) (hT : Tabs w) :
    Calls Tryd.prog 15 #[.string s] w (ReadPost w (readL L64 6 4 s.data.toList)) := by
  have hC := read_any L64 6 4 (by omega) (by omega) L64_size (by omega) (by omega) s (by omega) w
  have h0 := hT.b0; have h1 := hT.b1; have h2 := hT.b2
  go_enter Tryd.func15, Tryd.ntmps15
  go_wp2_with fail
  refine hC.mono ?_
  rintro e w1 ⟨v, out, c, rfl, hv, hcase, hb⟩
  go_wp2
  go_ret2
  exact ⟨v, out, c, rfl, hv, hcase, hb⟩
set_option maxRecDepth 100000 in
set_option maxHeartbeats 1600000 in
theorem from32_any (s : ByteArray) (hs : s.size ≤ 10000) (w : World) (hT : Tabs w) (hm : (Lib.mapD greatF s.data.toList).length ≤ 30000) :
    Calls Tryd.prog 14 #[.string s] w (ReadPost w (readL L32 5 1 (Lib.mapD greatF s.data.toList))) := by
  have hC := fun W => read_any L32 5 1 (by omega) (by omega) L32_size (by omega) (by omega) (strB (Lib.mapD greatF s.data.toList)) (by rw [strB_size]; exact hm) W
  have HM := Lib.hid (rfl : (strB (Lib.mapD greatF s.data.toList)).data.toList = (strB (Lib.mapD greatF s.data.toList)).data.toList)
  have HC := Lib.hid hC
  clear hC hm
  have h0 := hT.a0; have h1 := hT.a1; have h2 := hT.a2
  go_enter Tryd.func14, Tryd.ntmps14
  go_wp2_with fail
  go_region_held3 (fun w' => w'.cell? ⟨0, 0, none⟩ = some (.string L32) ∧ w'.cell? ⟨0, 1, none⟩ = some (.int .i64 5) ∧ w'.cell? ⟨0, 2, none⟩ = some (.int .i64 1))
    (first | go_keep | exact three32 hT.drew hb1 | exact three32 hT.drew (hb1.trans (hb2.mono hb1.size)))
    (first
      | (go_at_call 27; refine (up_any s _ hs hT.drew).mono ?_; rintro e w1 ⟨rfl, hb1⟩)
      | (go_at_call 26; refine (HC.out _).mono ?_; rintro e w2 ⟨v, out, c, rfl, hv, hcase, hb2⟩))
  go_wp2
  go_ret2
  exact ⟨v, out, c, rfl, hv, hcase, (Below.drew (Below.refl _ w)).trans (hb1.trans (hb2.mono hb1.size))⟩
set_option maxRecDepth 100000 in
set_option maxHeartbeats 1600000 in
theorem fromHex_any (s : ByteArray) (hs : s.size ≤ 10000) (w : World) (hT : Tabs w) (hm : (Lib.mapD smallF s.data.toList).length ≤ 30000) :
    Calls Tryd.prog 16 #[.string s] w (ReadPost w (readL L16 4 1 (Lib.mapD smallF s.data.toList))) := by
  have hC := fun W => read_any L16 4 1 (by omega) (by omega) L16_size (by omega) (by omega) (strB (Lib.mapD smallF s.data.toList)) (by rw [strB_size]; exact hm) W
  have HM := Lib.hid (rfl : (strB (Lib.mapD smallF s.data.toList)).data.toList = (strB (Lib.mapD smallF s.data.toList)).data.toList)
  have HC := Lib.hid hC
  clear hC hm
  have h0 := hT.c0; have h1 := hT.c1; have h2 := hT.c2
  go_enter Tryd.func16, Tryd.ntmps16
  go_wp2_with fail
  go_region_held3 (fun w' => w'.cell? ⟨0, 6, none⟩ = some (.string L16) ∧ w'.cell? ⟨0, 7, none⟩ = some (.int .i64 4) ∧ w'.cell? ⟨0, 8, none⟩ = some (.int .i64 1))
    (first | go_keep | exact three16 hT.drew hb1 | exact three16 hT.drew (hb1.trans (hb2.mono hb1.size)))
    (first
      | (go_at_call 27; refine (down_any s _ hs hT.drew).mono ?_; rintro e w1 ⟨rfl, hb1⟩)
      | (go_at_call 26; refine (HC.out _).mono ?_; rintro e w2 ⟨v, out, c, rfl, hv, hcase, hb2⟩))
  go_wp2
  go_ret2
  exact ⟨v, out, c, rfl, hv, hcase, (Below.drew (Below.refl _ w)).trans (hb1.trans (hb2.mono hb1.size))⟩
end Go.Proofs.YthnohioamefbmaaDoor
