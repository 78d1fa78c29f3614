/- What the walk of CodingBack asks of the functions that it calls: readers at letters told, and 'same'; the package's table and unicode/utf8's two tables read as their texts lay them. -/
import Derived.Test.YthnohioamefbmaaDoorMapsA
import Derived.Test.YthnohioamefbmaaDoorPureG
namespace Go.Proofs.YthnohioamefbmaaDoor
open Go.RowKit Go.Lib
set_option linter.unusedSimpArgs false
set_option linter.unusedVariables false
set_option maxRecDepth 100000

theorem read_good {r : Option (List Nat)} {l : List Nat} {w : World} {e : Ending} {w' : World} (hr : r = some l) (h : ReadPost w r e w') : ∃ v, e = .returned (.tuple #[v, .int .i64 0]) ∧ Bytes w' v l ∧ Below w.heap.size w w' := by
  obtain ⟨v, out, c, rfl, hb, hc, hbel⟩ := h
  rw [hr] at hc
  rcases hc with ⟨hc, _⟩ | ⟨hc, rfl⟩
  · cases hc
  · cases hc; exact ⟨v, rfl, hb, hbel⟩
theorem small_len (t : Nat) (ht : IsKind t) (l : List Nat) (hl : ∀ x ∈ l, x < 256) (h : l.length ≤ 300) : (tellL (lettersOf t) t (fillOf t) l).length ≤ 4000 := by
  rw [tell_len t ht l hl]
  rcases ht with rfl | rfl | rfl
  · show _ + (1 - _ % 1) % 1 ≤ _; omega
  · show _ + (4 - _ % 4) % 4 ≤ _; omega
  · show _ + (1 - _ % 1) % 1 ≤ _; omega
def ReadsAs (w : World) (l : List Nat) (e : Ending) (w' : World) : Prop := ∃ v, e = .returned (.tuple #[v, .int .i64 0]) ∧ Bytes w' v l ∧ Below w.heap.size w w'
theorem back32 (l : List Nat) (hl : ∀ x ∈ l, x < 256) (hll : l.length ≤ 300) (f : UInt8 → UInt8) (hf : f = id ∨ f = lowerB ∨ f = upperB) (W : World) (hT : Tabs W) :
    Calls Tryd.prog 14 #[.string ⟨((tellL L32 5 1 l).map f).toArray⟩] W (ReadsAs W l) := by
  have hs := small_len 5 (.inl rfl) l hl hll
  have e0 : (⟨((tellL L32 5 1 l).map f).toArray⟩ : ByteArray).data.toList = (tellL L32 5 1 l).map f := by simp
  have e1 : (⟨((tellL L32 5 1 l).map f).toArray⟩ : ByteArray).size = (tellL L32 5 1 l).length := by show ((tellL L32 5 1 l).map f).toArray.size = _; simp
  have hs' : (tellL L32 5 1 l).length ≤ 4000 := hs
  refine (from32_any _ (by rw [e1]; omega) W hT (by
    have := mapD_len greatF _ ((tellL L32 5 1 l).map f) (Nat.le_refl _)
    rw [List.length_map] at this
    rw [e0]; omega)).mono ?_
  intro e w' h
  rw [e0] at h
  exact read_good (read_cased 5 (.inl rfl) greatF great_case f hf l hl) h
theorem back16 (l : List Nat) (hl : ∀ x ∈ l, x < 256) (hll : l.length ≤ 300) (f : UInt8 → UInt8) (hf : f = id ∨ f = lowerB ∨ f = upperB) (W : World) (hT : Tabs W) :
    Calls Tryd.prog 16 #[.string ⟨((tellL L16 4 1 l).map f).toArray⟩] W (ReadsAs W l) := by
  have hs := small_len 4 (.inr (.inr rfl)) l hl hll
  have e0 : (⟨((tellL L16 4 1 l).map f).toArray⟩ : ByteArray).data.toList = (tellL L16 4 1 l).map f := by simp
  have e1 : (⟨((tellL L16 4 1 l).map f).toArray⟩ : ByteArray).size = (tellL L16 4 1 l).length := by show ((tellL L16 4 1 l).map f).toArray.size = _; simp
  have hs' : (tellL L16 4 1 l).length ≤ 4000 := hs
  refine (fromHex_any _ (by rw [e1]; omega) W hT (by
    have := mapD_len smallF _ ((tellL L16 4 1 l).map f) (Nat.le_refl _)
    rw [List.length_map] at this
    rw [e0]; omega)).mono ?_
  intro e w' h
  rw [e0] at h
  exact read_good (read_cased 4 (.inr rfl) smallF small_case f hf l hl) h
theorem back64 (l : List Nat) (hl : ∀ x ∈ l, x < 256) (hll : l.length ≤ 300) (W : World) (hT : Tabs W) :
    Calls Tryd.prog 15 #[.string ⟨(tellL L64 6 4 l).toArray⟩] W (ReadsAs W l) := by
  have hs' : (tellL L64 6 4 l).length ≤ 4000 := small_len 6 (.inr (.inl rfl)) l hl hll
  have e0 : (⟨(tellL L64 6 4 l).toArray⟩ : ByteArray).data.toList = tellL L64 6 4 l := by simp
  have e1 : (⟨(tellL L64 6 4 l).toArray⟩ : ByteArray).size = (tellL L64 6 4 l).length := rfl
  refine (from64_any _ (by rw [e1]; omega) W hT).mono ?_
  intro e w' h
  rw [e0] at h
  exact read_good (read_tell 6 (.inr (.inl rfl)) l hl) h
theorem back32_id (l : List Nat) (hl : ∀ x ∈ l, x < 256) (hll : l.length ≤ 300) (W : World) (hT : Tabs W) : Calls Tryd.prog 14 #[.string ⟨(tellL L32 5 1 l).toArray⟩] W (ReadsAs W l) := by
  have := back32 l hl hll id (.inl rfl) W hT
  rwa [List.map_id] at this
theorem back16_id (l : List Nat) (hl : ∀ x ∈ l, x < 256) (hll : l.length ≤ 300) (W : World) (hT : Tabs W) : Calls Tryd.prog 16 #[.string ⟨(tellL L16 4 1 l).toArray⟩] W (ReadsAs W l) := by
  have := back16 l hl hll id (.inl rfl) W hT
  rwa [List.map_id] at this

set_option maxHeartbeats 1000000 in
theorem same_six (s : ByteArray) (w : World) : Calls Tryd.prog 21 #[.string s, .string s, .int .i64 6] w fun e w' => e = .returned (.bool true) ∧ w' = w := by
  go_enter Tryd.func21, Tryd.ntmps21
  go_wp2
  go_ret
  exact ⟨by simp, rfl⟩
set_option maxHeartbeats 1000000 in
theorem same_five (s : ByteArray) (hs : s.size ≤ 300) (ha : ∀ b ∈ s.data.toList, b.toNat < 128) (w : World) : Calls Tryd.prog 21 #[.string ⟨(toUpperA s.data.toList).toArray⟩, .string s, .int .i64 5] w fun e w' => e = .returned (.bool true) ∧ Below w.heap.size w w' := by
  have HC := Tryd.strings_ToUpper_ascii s w (by omega) (fun j b hj => ha b (List.mem_of_getElem? hj))
  generalize toUpperA s.data.toList = U at HC ⊢
  go_enter Tryd.func21, Tryd.ntmps21
  go_wp2_with fail
  refine HC.mono ?_
  rintro e w1 ⟨rfl, hb⟩
  go_wp2
  go_ret
  exact ⟨by simp, hb⟩
set_option maxHeartbeats 1000000 in
theorem same_four (s : ByteArray) (hs : s.size ≤ 300) (ha : ∀ b ∈ s.data.toList, b.toNat < 128) (w : World) : Calls Tryd.prog 21 #[.string ⟨(toLowerA s.data.toList).toArray⟩, .string s, .int .i64 4] w fun e w' => e = .returned (.bool true) ∧ Below w.heap.size w w' := by
  have HC := Tryd.strings_ToLower_ascii s w (by omega) (fun j b hj => ha b (List.mem_of_getElem? hj))
  generalize toLowerA s.data.toList = U at HC ⊢
  go_enter Tryd.func21, Tryd.ntmps21
  go_wp2_with fail
  refine HC.mono ?_
  rintro e w1 ⟨rfl, hb⟩
  go_wp2
  go_ret
  exact ⟨by simp, hb⟩
end Go.Proofs.YthnohioamefbmaaDoor
